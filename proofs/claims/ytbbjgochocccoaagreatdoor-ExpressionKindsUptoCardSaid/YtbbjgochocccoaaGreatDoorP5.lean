/- The rules of the operators. -/
import Derived.Test.YtbbjgochocccoaaGreatDoorP4
import Derived.Test.YtbbjgochocccoaaGreatDoorP3

set_option linter.unusedVariables false
set_option linter.unusedSimpArgs false
set_option maxRecDepth 100000
namespace Go.Proofs.Sx
open Go Go.Proofs Go.Proofs.Am 
variable {gs : List Nat}

/-- What an operator asks of its operands, which must be alike, and what it gives. -/
structure Ru where
  wants : List (Option (List Int))
  alike : Option (List Int)
  res : Int
def encR (r : Ru) : DV := .agg [.sim (r.wants.map encIs), encIs r.alike, .int .i64 r.res]
def opTab : List (ByteArray × Int × Ru × ByteArray) := [(⟨#[110, 111, 116]⟩, 1, ⟨[some [1]], none, 1⟩, ⟨#[98]⟩), (⟨#[97, 110, 100]⟩, 2, ⟨[some [1], some [1]], none, 1⟩, ⟨#[98, 98]⟩), (⟨#[111, 114]⟩, 2, ⟨[some [1], some [1]], none, 1⟩, ⟨#[98, 98]⟩), (⟨#[120, 111, 114]⟩, 2, ⟨[some [1], some [1]], none, 1⟩, ⟨#[98, 98]⟩), (⟨#[110, 111, 116, 52, 98]⟩, 1, ⟨[some [4, 5]], none, -1⟩, ⟨#[52]⟩), (⟨#[97, 110, 100, 52, 98]⟩, 2, ⟨[some [4, 5], some [4, 5]], some [0, 1], -1⟩, ⟨#[52, 52]⟩), (⟨#[111, 114, 52, 98]⟩, 2, ⟨[some [4, 5], some [4, 5]], some [0, 1], -1⟩, ⟨#[52, 52]⟩), (⟨#[120, 111, 114, 52, 98]⟩, 2, ⟨[some [4, 5], some [4, 5]], some [0, 1], -1⟩, ⟨#[52, 52]⟩), (⟨#[61, 61]⟩, 2, ⟨[none, none], some [0, 1], 1⟩, ⟨#[63, 63]⟩), (⟨#[33, 61]⟩, 2, ⟨[none, none], some [0, 1], 1⟩, ⟨#[63, 63]⟩), (⟨#[60]⟩, 2, ⟨[some [2], some [2]], none, 1⟩, ⟨#[105, 105]⟩), (⟨#[62]⟩, 2, ⟨[some [2], some [2]], none, 1⟩, ⟨#[105, 105]⟩), (⟨#[60, 61]⟩, 2, ⟨[some [2], some [2]], none, 1⟩, ⟨#[105, 105]⟩), (⟨#[62, 61]⟩, 2, ⟨[some [2], some [2]], none, 1⟩, ⟨#[105, 105]⟩), (⟨#[38]⟩, 2, ⟨[some [4, 5, 6, 10], some [4, 5, 6, 10]], some [0, 1], -1⟩, ⟨#[115, 115]⟩), (⟨#[60, 60]⟩, 2, ⟨[some [4, 5], some [2]], none, -1⟩, ⟨#[52, 105]⟩), (⟨#[62, 62]⟩, 2, ⟨[some [4, 5], some [2]], none, -1⟩, ⟨#[52, 105]⟩), (⟨#[60, 64]⟩, 2, ⟨[some [4, 5, 6, 10], some [2]], none, -1⟩, ⟨#[115, 105]⟩), (⟨#[64, 62]⟩, 2, ⟨[some [4, 5, 6, 10], some [2]], none, -1⟩, ⟨#[115, 105]⟩), (⟨#[115, 117, 98, 115, 116, 114]⟩, 3, ⟨[some [4, 5, 6, 10], some [2], some [2]], none, -1⟩, ⟨#[115, 105, 105]⟩), (⟨#[114, 101, 112, 108, 97, 99, 101]⟩, 4, ⟨[some [4, 5, 6, 10], some [2], some [2], some [4, 5, 6, 10]], some [0, 3], -1⟩, ⟨#[115, 105, 105, 115]⟩), (⟨#[108, 101, 110, 103, 116, 104, 111, 102]⟩, 1, ⟨[some [4, 5, 6, 10, 11]], none, 2⟩, ⟨#[108]⟩), (⟨#[115, 105, 122, 101, 111, 102]⟩, 1, ⟨[some [9]], none, 2⟩, ⟨#[114]⟩), (⟨#[99, 104, 97, 114, 50, 105, 110, 116]⟩, 1, ⟨[some [6]], none, 2⟩, ⟨#[99]⟩), (⟨#[115, 116, 114, 50, 105, 110, 116]⟩, 1, ⟨[some [6]], none, 2⟩, ⟨#[99]⟩), (⟨#[98, 105, 116, 50, 105, 110, 116]⟩, 1, ⟨[some [4]], none, 2⟩, ⟨#[120]⟩), (⟨#[111, 99, 116, 50, 105, 110, 116]⟩, 1, ⟨[some [5]], none, 2⟩, ⟨#[111]⟩), (⟨#[105, 110, 116, 50, 99, 104, 97, 114]⟩, 1, ⟨[some [2]], none, 6⟩, ⟨#[105]⟩), (⟨#[105, 110, 116, 50, 115, 116, 114]⟩, 1, ⟨[some [2]], none, 6⟩, ⟨#[105]⟩), (⟨#[111, 99, 116, 50, 99, 104, 97, 114]⟩, 1, ⟨[some [5]], none, 6⟩, ⟨#[111]⟩), (⟨#[98, 105, 116, 50, 111, 99, 116]⟩, 1, ⟨[some [4]], none, 5⟩, ⟨#[120]⟩), (⟨#[99, 104, 97, 114, 50, 111, 99, 116]⟩, 1, ⟨[some [6]], none, 5⟩, ⟨#[99]⟩), (⟨#[111, 99, 116, 50, 98, 105, 116]⟩, 1, ⟨[some [5]], none, 4⟩, ⟨#[111]⟩), (⟨#[105, 110, 116, 50, 98, 105, 116]⟩, 2, ⟨[some [2], some [2]], none, 4⟩, ⟨#[105, 105]⟩), (⟨#[105, 110, 116, 50, 111, 99, 116]⟩, 2, ⟨[some [2], some [2]], none, 5⟩, ⟨#[105, 105]⟩), (⟨#[45]⟩, 1, ⟨[some [2], some [2]], none, 2⟩, ⟨#[105]⟩), (⟨#[45]⟩, 2, ⟨[some [2], some [2]], none, 2⟩, ⟨#[105, 105]⟩), (⟨#[43]⟩, 2, ⟨[some [2], some [2]], none, 2⟩, ⟨#[105, 105]⟩), (⟨#[42]⟩, 2, ⟨[some [2], some [2]], none, 2⟩, ⟨#[105, 105]⟩), (⟨#[47]⟩, 2, ⟨[some [2], some [2]], none, 2⟩, ⟨#[105, 105]⟩), (⟨#[114, 101, 109]⟩, 2, ⟨[some [2], some [2]], none, 2⟩, ⟨#[105, 105]⟩), (⟨#[109, 111, 100]⟩, 2, ⟨[some [2], some [2]], none, 2⟩, ⟨#[105, 105]⟩)]
def askTab : List (ByteArray × Ru) := [(⟨#[105, 115, 112, 114, 101, 115, 101, 110, 116]⟩, ⟨[some [9]], none, 1⟩), (⟨#[105, 115, 99, 104, 111, 115, 101, 110]⟩, ⟨[some [12]], none, 1⟩)]
theorem run1050 : (opTab.map fun p => (runs Tryz.prog prims 100 100).pure 50 [.str p.1]) = opTab.map fun p => some (dRet (encR p.2.2.1)) := by kernel_rfl
theorem run1050a : (askTab.map fun p => (runs Tryz.prog prims 100 100).pure 50 [.str p.1]) = askTab.map fun p => some (dRet (encR p.2)) := by kernel_rfl
theorem run1092 : (opTab.map fun p => (runs Tryz.prog prims 100 100).pure 92 [.str p.1, .int .i64 p.2.1]) = opTab.map fun p => some (dRet (.str p.2.2.2)) := by kernel_rfl
def alE : List ByteArray := [⟨#[61, 61]⟩, ⟨#[33, 61]⟩, ⟨#[97, 110, 100, 52, 98]⟩, ⟨#[111, 114, 52, 98]⟩, ⟨#[120, 111, 114, 52, 98]⟩, ⟨#[38]⟩]
def inB (l : List ByteArray) (s : ByteArray) : Bool := l.any fun x => decide (s = x)
def alikeS (s : ByteArray) : Option (List Int) := if inB alE s = true then some [0, 1] else if s = ⟨#[114, 101, 112, 108, 97, 99, 101]⟩ then some [0, 3] else none
theorem pc1093 (s : ByteArray) : PureCall Tryz.prog [0] 93 [.str s] (dRet (encIs (alikeS s))) := by
  generalize hr : encIs (alikeS s) = r
  refine zD2 mixed fn1093 (Nat.le_of_ble_eq_true rfl) (Nat.lt_of_succ_le (Nat.le_of_ble_eq_true rfl)) (sfOk .nil) TbOk (lv := lv0) fun I F hI hF => ?_
  refine zD7 fun C hC => ?_
  generalize hgen0 : DV.str s = gen0
  generalize hgen1 : r = gen1
  cbv
  subst hgen0
  subst hgen1
  subst hC
  refine ⟨?_⟩
  simp (maxSteps := 3000000) only [hI, hF, std]
  simp only [smp, lookOk, lookRes, sfOf, sgOf, hOk, hRes, hOut, ↓reduceIte, Nat.reduceEqDiff, reduceCtorEq, zC2, zA2, zB6, zA5, zB4, zB5, zA4, zB3, zA3, zB2, zC1, zA1, zB1, zA0, zB0, zA9, zC6, zA6, zC5, zC0, zC4, zB8, zA7, zB7, zA8, zC9, zD1, zC8, zD0, zB9, zC3, zC7]
  simp
  subst hr
  repeat' (refine And.intro (fun h => ?_) (fun h => ?_))
  all_goals first
    | (rw [h]; rfl)
    | (simp [alikeS, inB, alE, *]; done)
    | (simp [alikeS, inB, alE, *]; rfl)
noncomputable def e1093 : Ent := ⟨93, fun | [.str _] => true | _ => false, fun | [.str s] => encIs (alikeS s) | _ => .inil⟩
open Classical in
theorem ok1093 : EntOk Tryz.prog [0] e1093 := fun ds h => by
  unfold e1093 at h ⊢
  simp only at h ⊢
  split at h
  · exact pc1093 _
  · cases h
def rg0 : List ByteArray := [⟨#[110, 111, 116, 52, 98]⟩, ⟨#[115, 117, 98, 115, 116, 114]⟩, ⟨#[60, 60]⟩, ⟨#[62, 62]⟩, ⟨#[60, 64]⟩, ⟨#[64, 62]⟩]
def rgA : List ByteArray := [⟨#[97, 110, 100, 52, 98]⟩, ⟨#[111, 114, 52, 98]⟩, ⟨#[120, 111, 114, 52, 98]⟩, ⟨#[38]⟩, ⟨#[114, 101, 112, 108, 97, 99, 101]⟩]
def rgB : List ByteArray := [⟨#[110, 111, 116]⟩, ⟨#[97, 110, 100]⟩, ⟨#[111, 114]⟩, ⟨#[120, 111, 114]⟩, ⟨#[61, 61]⟩, ⟨#[33, 61]⟩, ⟨#[60]⟩, ⟨#[62]⟩, ⟨#[60, 61]⟩, ⟨#[62, 61]⟩]
def rg6 : List ByteArray := [⟨#[105, 110, 116, 50, 99, 104, 97, 114]⟩, ⟨#[105, 110, 116, 50, 115, 116, 114]⟩, ⟨#[111, 99, 116, 50, 99, 104, 97, 114]⟩]
def rg4 : List ByteArray := [⟨#[105, 110, 116, 50, 98, 105, 116]⟩, ⟨#[111, 99, 116, 50, 98, 105, 116]⟩]
def rg5 : List ByteArray := [⟨#[105, 110, 116, 50, 111, 99, 116]⟩, ⟨#[98, 105, 116, 50, 111, 99, 116]⟩, ⟨#[99, 104, 97, 114, 50, 111, 99, 116]⟩]
/-- The kind that an operator gives. -/
def resK (s : ByteArray) (ks : List Int) : Int :=
  if inB rg0 s = true then ks.getD 0 0 else if inB rgA s = true then (if ks.getD 0 0 = -1 then ks.getD (ks.length - 1) 0 else ks.getD 0 0) else if inB rgB s = true then 1
  else if inB rg6 s = true then 6 else if inB rg4 s = true then 4 else if inB rg5 s = true then 5 else 2
theorem resA (s : ByteArray) (l : List Int) (h : (inB rgA s && !inB rg0 s) = true) : resK s l = if l.getD 0 0 = -1 then l.getD (l.length - 1) 0 else l.getD 0 0 := by
  simp only [Bool.and_eq_true, Bool.not_eq_true'] at h
  unfold resK; rw [if_neg (by rw [h.2]; exact fun h => nomatch h), if_pos h.1]
set_option maxHeartbeats 2000000 in
theorem pc1094 (s : ByteArray) (o : Option (List Int)) (ho : okIs o) (h0 : 0 < (o.getD []).length) : PureCall Tryz.prog [0] 94 [.str s, encIs o] (dRet (.int .i64 (resK s (o.getD [])))) := by
  have hl : (o.getD []).length ≤ 1048576 := ho
  generalize hr : resK s (o.getD []) = r
  have g0 := zE9 _ _ h0
  have hlt : (o.getD []).length - 1 < (o.getD []).length := by omega
  have gl := zE9 _ _ hlt
  have w1 : IntKind.i64.wrap (((o.getD []).length : Int) - 1) = (((o.getD []).length - 1 : Nat) : Int) := wrap_pred h0 (by omega)
  refine zD2 mixed fn1094 (Nat.le_of_ble_eq_true rfl) (Nat.lt_of_succ_le (Nat.le_of_ble_eq_true rfl)) (sfOk .nil) TbOk (lv := lv0) fun I F hI hF => ?_
  refine zD7 fun C hC => ?_
  generalize hgen0 : DV.str s = gen0
  generalize hgen1 : encIs o = gen1
  generalize hgen2 : DV.int .i64 r = gen2
  cbv
  subst hgen0
  subst hgen1
  subst hgen2
  subst hC
  refine ⟨?_⟩
  simp (maxSteps := 3000000) only [hI, hF, std]
  simp only [smp, lookOk, lookRes, sfOf, sgOf, hOk, hRes, hOut, ↓reduceIte, Nat.reduceEqDiff, reduceCtorEq, zC2, zA2, zB6, zA5, zB4, zB5, zA4, zB3, zA3, zB2, zC1, zA1, zB1, zA0, zB0, zA9, zC6, zA6, zC5, zC0, zC4, zB8, zA7, zB7, zA8, zC9, zD1, zC8, zD0, zB9, zC3, zC7, g0]
  simp [h0, hlt, gl, g0, w1, - List.getD_eq_getElem?_getD, cells_int, List.getD_cons_zero]
  subst hr
  repeat' (refine And.intro (fun h => ?_) (fun h => ?_))
  all_goals first
    | (rw [h]; rfl)
    | (simp [resK, inB, rg0, rgA, rgB, rg4, rg5, rg6, *]; done)
    | (rename_i h2; rw [h2, resA _ _ rfl, if_pos h]; done)
    | (rename_i h2; rw [h2, resA _ _ rfl, if_neg h]; done)
open Classical in
noncomputable def e1094 : Ent := ⟨94, fun | [.str s, d_o] => decide (isIs d_o ∧ 0 < ((toIs d_o).getD []).length) | _ => false, fun | [.str s, d_o] => .int .i64 (resK s ((toIs d_o).getD [])) | _ => .inil⟩
open Classical in
theorem ok1094 : EntOk Tryz.prog [0] e1094 := fun ds h => by
  unfold e1094 at h ⊢
  simp only at h ⊢
  split at h
  · rw [decide_eq_true_iff] at h
    obtain ⟨⟨v0, rfl, k0⟩, kx⟩ := h
    simp only [zB2, zA1, zA0, zB9, zC9, zC8] at kx ⊢
    exact pc1094 _ _ k0 kx
  · cases h
end Go.Proofs.Sx

set_option linter.unusedVariables false
set_option linter.unusedSimpArgs false
set_option maxRecDepth 100000
namespace Go.Proofs.Sx
open Go Go.Proofs Go.Proofs.Am 
variable {gs : List Nat}

def charL (c : Int) : Option (List Int) :=
  if c = 105 then some [2] else if c = 98 then some [1] else if c = 120 then some [4] else if c = 111 then some [5] else if c = 99 then some [6] else if c = 52 then some [4, 5]
  else if c = 115 then some [4, 5, 6, 10] else if c = 108 then some [4, 5, 6, 10, 11] else if c = 114 then some [9] else none
def isOfL (k : Int) (o : Option (List Int)) : Bool := match o with | none => true | some l => decide (k ∈ l)
def isOfK (k c : Int) : Bool := isOfL k (charL c)
theorem pc1091 (k c : Int) : PureCall Tryz.prog [0] 91 [.int .i64 k, .int .u8 c] (dRet (.bool (isOfK k c))) := by
  generalize hr : isOfK k c = r
  refine zD2 mixed fn1091 (Nat.le_of_ble_eq_true rfl) (Nat.lt_of_succ_le (Nat.le_of_ble_eq_true rfl)) (sfOk (.cons ok41 .nil)) TbOk (lv := lv0) fun I F hI hF => ?_
  refine zD7 fun C hC => ?_
  generalize hgen0 : DV.int .i64 k = gen0
  generalize hgen1 : DV.int .u8 c = gen1
  generalize hgen2 : DV.bool r = gen2
  cbv
  subst hgen0
  subst hgen1
  subst hgen2
  subst hC
  refine ⟨?_⟩
  simp (maxSteps := 3000000) only [hI, hF, std]
  simp only [smp, lookOk, lookRes, sfOf, sgOf, hOk, hRes, hOut, ↓reduceIte, Nat.reduceEqDiff, reduceCtorEq, zC2, zA2, zB6, zA5, zB4, zB5, zA4, zB3, zA3, zB2, zC1, zA1, zB1, zA0, zB0, e41]
  simp
  subst hr
  repeat' (refine And.intro (fun h => ?_) (fun h => ?_))
  all_goals first
    | (rw [h]; simp [isOfK, charL, isOfL]; done)
    | (simp [isOfK, charL, isOfL, *]; done)
    | (rw [h]; simp [isOfK, charL, isOfL]; rw [Bool.eq_iff_iff]; simp; omega)
noncomputable def e1091 : Ent := ⟨91, fun | [.int .i64 _, .int .u8 _] => true | _ => false, fun | [.int .i64 k, .int .u8 c] => .bool (isOfK k c) | _ => .inil⟩
open Classical in
theorem ok1091 : EntOk Tryz.prog [0] e1091 := fun ds h => by
  unfold e1091 at h ⊢
  simp only at h ⊢
  split at h
  · exact pc1091 _ _
  · cases h
theorem pc1063 (k c : Int) : PureCall Tryz.prog [0] 63 [.int .i64 k, .int .u8 c] (dRet (.bool (decide (k = -1) || isOfK k c))) := by
  refine zD2 mixed fn1063 (Nat.le_of_ble_eq_true rfl) (Nat.lt_of_succ_le (Nat.le_of_ble_eq_true rfl)) (sfOk (.cons ok1091 .nil)) TbOk (lv := lv0) fun I F hI hF => ?_
  refine zD7 fun C hC => ?_
  generalize hgen0 : DV.int .i64 k = gen0
  generalize hgen1 : DV.int .u8 c = gen1
  cbv
  subst hgen0
  subst hgen1
  subst hC
  refine ⟨?_⟩
  simp (maxSteps := 3000000) only [hI, hF, std]
  simp only [smp, lookOk, lookRes, sfOf, sgOf, hOk, hRes, hOut, ↓reduceIte, Nat.reduceEqDiff, reduceCtorEq, zC2, zA2, zB6, zA5, zB4, zB5, zA4, zB3, zA3, zB2, zC1, zA1, zB1, zA0, zB0, e1091]
  simp
noncomputable def e1063 : Ent := ⟨63, fun | [.int .i64 _, .int .u8 _] => true | _ => false, fun | [.int .i64 k, .int .u8 c] => .bool (decide (k = -1) || isOfK k c) | _ => .inil⟩
open Classical in
theorem ok1063 : EntOk Tryz.prog [0] e1063 := fun ds h => by
  unfold e1063 at h ⊢
  simp only at h ⊢
  split at h
  · exact pc1063 _ _
  · cases h
def lv145 : Nat → List Nat × List Nat
  | 2 => ([0, 1, 7, 8], [])
  | _ => ([], [])
theorem pc145 (o : Option (List Int)) (a : Int) (ho : okIs o) : PureCall Tryz.prog [0] 83 [encIs o, .int .i64 a] (dRet (.int .i64 (idxG (fun k => decide (k = a)) (o.getD [])))) := by
  have hl : (o.getD []).length ≤ 1048576 := ho
  refine zD2 mixed fn145 (Nat.le_of_ble_eq_true rfl) (Nat.lt_of_succ_le (Nat.le_of_ble_eq_true rfl)) (sfOk .nil) TbOk (lv := lv145) fun I F hI hF => ?_
  refine zD7 fun C hC => ?_
  generalize hgen0 : encIs o = gen0
  generalize hgen1 : DV.int .i64 a = gen1
  cbv
  subst hgen0
  subst hgen1
  subst hC
  refine ⟨?_⟩
  simp (maxSteps := 3000000) only [hI, hF, std]
  simp only [smp, lookOk, lookRes, sfOf, sgOf, hOk, hRes, hOut, ↓reduceIte, Nat.reduceEqDiff, reduceCtorEq, zC2, zA2, zB6, zA5, zB4, zB5, zA4, zB3, zA3, zB2, zC1, zA1, zB1, zA0, zB0, zA9, zC6, zA6, zC5, zC0, zC4, zB8, zA7, zB7, zA8, zC9, zD1, zC8, zD0, zB9, zC3, zC7]
  refine zD8 (kend := fun I => kEndF I Tb [.tmp 4]) hI hF (sfOk .nil) TbOk (by exact fun Bk e s h => endF TbOk Bk e s h) (lv := lv145) 0 (fun i : {i : Nat // i ≤ (o.getD []).length ∧ ∀ j, j < i → decide ((o.getD []).getD j default = a) = false} => [.d (encIs o), .d (.int .i64 a), .d (.int .i64 ((o.getD []).length : Int)), .d (.int .i64 (i.1 : Int))]) (fun i : {i : Nat // i ≤ (o.getD []).length ∧ ∀ j, j < i → decide ((o.getD []).getD j default = a) = false} => []) (fun i : {i : Nat // i ≤ (o.getD []).length ∧ ∀ j, j < i → decide ((o.getD []).getD j default = a) = false} => (o.getD []).length - i.1) [] (⟨0, by omega, fun j h => by omega⟩ : {i : Nat // i ≤ (o.getD []).length ∧ ∀ j, j < i → decide ((o.getD []).getD j default = a) = false}) (by rfl) (by rfl) ?_ ?_ fun i => ?_
  · simp
  · rfl
  obtain ⟨i, hi1, hi2⟩ := i
  refine zD7 fun C hC => ?_
  generalize hgen0 : encIs o = gen0
  generalize hgen1 : DV.int .i64 a = gen1
  generalize hgen2 : DV.int .i64 ((o.getD []).length : Int) = gen2
  generalize hgen3 : DV.int .i64 (i : Int) = gen3
  cbv
  subst hgen0
  subst hgen1
  subst hgen2
  subst hgen3
  subst hC
  refine ⟨?_⟩
  simp (maxSteps := 3000000) only [hI, hF, std]
  have w3 := zE0 (n := i) (by omega)
  by_cases hlt : i < (o.getD []).length
  · have g1 := zE9 _ _ hlt
    simp only [smp, lookOk, lookRes, sfOf, sgOf, hOk, hRes, hOut, ↓reduceIte, Nat.reduceEqDiff, reduceCtorEq, zC2, zA2, zB6, zA5, zB4, zB5, zA4, zB3, zA3, zB2, zC1, zA1, zB1, zA0, zB0, zA9, zC6, zA6, zC5, zC0, zC4, zB8, zA7, zB7, zA8, zC9, zD1, zC8, zD0, zB9, zC3, zC7, g1]
    simp [hlt, w3, - List.getD_eq_getElem?_getD, zA9, zC6, zA6, zC5, zC0, zC4, zB8, zA7, zB7, zA8, zC9, zD1, zC8, zD0, zB9, zC3, zC7]
    refine ⟨fun h => (idxG_some hlt (decide_eq_true h.symm) hi2).symm, fun h => ⟨i + 1, by omega, ⟨by omega, fun j hj => ?_⟩, by omega⟩⟩
    by_cases hji : j = i
    · subst hji; exact fun h' => h h'.symm
    · have := hi2 j (by omega); exact of_decide_eq_false this
  · simp only [smp, lookOk, lookRes, sfOf, sgOf, hOk, hRes, hOut, ↓reduceIte, Nat.reduceEqDiff, reduceCtorEq, zC2, zA2, zB6, zA5, zB4, zB5, zA4, zB3, zA3, zB2, zC1, zA1, zB1, zA0, zB0, zA9, zC6, zA6, zC5, zC0, zC4, zB8, zA7, zB7, zA8, zC9, zD1, zC8, zD0, zB9, zC3, zC7]
    simp [hlt, - List.getD_eq_getElem?_getD]
    exact (idxG_none fun j hj => hi2 j (by omega)).symm
open Classical in
noncomputable def e145 : Ent := ⟨83, fun | [d_o, .int .i64 a] => decide (isIs d_o) | _ => false, fun | [d_o, .int .i64 a] => .int .i64 (idxG (fun k => decide (k = a)) ((toIs d_o).getD [])) | _ => .inil⟩
open Classical in
theorem ok145 : EntOk Tryz.prog [0] e145 := fun ds h => by
  unfold e145 at h ⊢
  simp only at h ⊢
  split at h
  · rw [decide_eq_true_iff] at h
    obtain ⟨v0, rfl, k0⟩ := h
    simp only [zB2, zA1, zA0, zB9, zC9, zC8]
    exact pc145 _ _ k0
  · cases h
theorem pc135 (o : Option (List Int)) (a : Int) (ho : okIs o) : PureCall Tryz.prog [0] 49 [encIs o, .int .i64 a] (dRet (.bool (decide (a ∈ o.getD [])))) := by
  have e : decide (a ∈ o.getD []) = decide (0 ≤ idxG (fun k => decide (k = a)) (o.getD [])) := by
    rw [decide_eq_decide, idxG_iff]; simp
  rw [e]
  refine zD2 mixed fn135 (Nat.le_of_ble_eq_true rfl) (Nat.lt_of_succ_le (Nat.le_of_ble_eq_true rfl)) (sfOk (.cons ok145 .nil)) TbOk (lv := lv0) fun I F hI hF => ?_
  refine zD7 fun C hC => ?_
  generalize hgen0 : encIs o = gen0
  generalize hgen1 : DV.int .i64 a = gen1
  cbv
  subst hgen0
  subst hgen1
  subst hC
  refine ⟨?_⟩
  simp (maxSteps := 3000000) only [hI, hF, std]
  simp only [smp, lookOk, lookRes, sfOf, sgOf, hOk, hRes, hOut, ↓reduceIte, Nat.reduceEqDiff, reduceCtorEq, zC2, zA2, zB6, zA5, zB4, zB5, zA4, zB3, zA3, zB2, zC1, zA1, zB1, zA0, zB0, zA9, zC6, zA6, zC5, zC0, zC4, zB8, zA7, zB7, zA8, zC9, zD1, zC8, zD0, zB9, zC3, zC7, e145]
  simp [ho, zA9, zC6, zA6, zC5, zC0, zC4, zB8, zA7, zB7, zA8, zC9, zD1, zC8, zD0, zB9, zC3, zC7]
open Classical in
noncomputable def e135 : Ent := ⟨49, fun | [d_o, .int .i64 a] => decide (isIs d_o) | _ => false, fun | [d_o, .int .i64 a] => .bool (decide (a ∈ (toIs d_o).getD [])) | _ => .inil⟩
open Classical in
theorem ok135 : EntOk Tryz.prog [0] e135 := fun ds h => by
  unfold e135 at h ⊢
  simp only at h ⊢
  split at h
  · rw [decide_eq_true_iff] at h
    obtain ⟨v0, rfl, k0⟩ := h
    simp only [zB2, zA1, zA0, zB9, zC9, zC8]
    exact pc135 _ _ k0
  · cases h
/-- May an operand have this kind? -/
def mayL (k : Int) (l : List Int) : Bool := decide (k = -1) || decide (k ∈ l)
theorem pc1048 (k : Int) (o : Option (List Int)) (ho : okIs o) : PureCall Tryz.prog [0] 48 [.int .i64 k, encIs o] (dRet (.bool (mayL k (o.getD [])))) := by
  refine zD2 mixed fn1048 (Nat.le_of_ble_eq_true rfl) (Nat.lt_of_succ_le (Nat.le_of_ble_eq_true rfl)) (sfOk (.cons ok135 .nil)) TbOk (lv := lv0) fun I F hI hF => ?_
  refine zD7 fun C hC => ?_
  generalize hgen0 : DV.int .i64 k = gen0
  generalize hgen1 : encIs o = gen1
  cbv
  subst hgen0
  subst hgen1
  subst hC
  refine ⟨?_⟩
  simp (maxSteps := 3000000) only [hI, hF, std]
  simp only [smp, lookOk, lookRes, sfOf, sgOf, hOk, hRes, hOut, ↓reduceIte, Nat.reduceEqDiff, reduceCtorEq, zC2, zA2, zB6, zA5, zB4, zB5, zA4, zB3, zA3, zB2, zC1, zA1, zB1, zA0, zB0, zA9, zC6, zA6, zC5, zC0, zC4, zB8, zA7, zB7, zA8, zC9, zD1, zC8, zD0, zB9, zC3, zC7, e135]
  simp [ho, zA9, zC6, zA6, zC5, zC0, zC4, zB8, zA7, zB7, zA8, zC9, zD1, zC8, zD0, zB9, zC3, zC7, mayL]
open Classical in
noncomputable def e1048 : Ent := ⟨48, fun | [.int .i64 k, d_o] => decide (isIs d_o) | _ => false, fun | [.int .i64 k, d_o] => .bool (mayL k ((toIs d_o).getD [])) | _ => .inil⟩
open Classical in
theorem ok1048 : EntOk Tryz.prog [0] e1048 := fun ds h => by
  unfold e1048 at h ⊢
  simp only at h ⊢
  split at h
  · rw [decide_eq_true_iff] at h
    obtain ⟨v0, rfl, k0⟩ := h
    simp only [zB2, zA1, zA0, zB9, zC9, zC8]
    exact pc1048 _ _ k0
  · cases h
end Go.Proofs.Sx

set_option linter.unusedVariables false
set_option linter.unusedSimpArgs false
set_option maxRecDepth 100000
namespace Go.Proofs.Sx
open Go Go.Proofs Go.Proofs.Am 
variable {gs : List Nat}

/-- Where parts begin, and their roots. -/
inductive Ch (bg : List Int) : Int → List Int → Prop where
  | nil : Ch bg 0 []
  | cons {next : Int} {rs : List Int} (h0 : 0 < next) (h1 : next ≤ bg.length) (h2 : 0 ≤ bg.getD (next - 1).toNat 0) (h3 : bg.getD (next - 1).toNat 0 < next) (h : Ch bg (bg.getD (next - 1).toNat 0) rs) : Ch bg next (rs ++ [next - 1])
theorem Ch.zero {bg : List Int} {rs : List Int} (h : Ch bg 0 rs) : rs = [] := by
  generalize hz : (0 : Int) = z at h
  cases h with
  | nil => rfl
  | cons h0 => omega
theorem Ch.pos {bg : List Int} {n : Int} {rs : List Int} (h : Ch bg n rs) (hn : n ≠ 0) : ∃ r', rs = r' ++ [n - 1] ∧ 0 < n ∧ n ≤ bg.length ∧ 0 ≤ bg.getD (n - 1).toNat 0 ∧ bg.getD (n - 1).toNat 0 < n ∧ Ch bg (bg.getD (n - 1).toNat 0) r' := by
  cases h with
  | nil => exact absurd rfl hn
  | cons h0 h1 h2 h3 h => exact ⟨_, rfl, h0, h1, h2, h3, h⟩
theorem Ch.mono {bg : List Int} {x : Int} : ∀ {n : Int} {rs : List Int}, Ch bg n rs → Ch (bg ++ [x]) n rs
  | _, _, .nil => .nil
  | _, _, .cons (next := next) h0 h1 h2 h3 h => by
    have e : (bg ++ [x]).getD (next - 1).toNat 0 = bg.getD (next - 1).toNat 0 := by
      have hn : (next - 1).toNat < bg.length := by omega
      rw [List.getD, List.getD, List.getElem?_append_left hn]
    exact .cons h0 (by simp; omega) (by rw [e]; exact h2) (by rw [e]; exact h3) (by rw [e]; exact h.mono)
theorem Ch.push {bg : List Int} {n : Int} {rs : List Int} (h : Ch bg n rs) (h0 : 0 ≤ n) (h1 : n ≤ bg.length) : Ch (bg ++ [n]) (bg.length + 1) (rs ++ [(bg.length : Int)]) := by
  have e : (bg ++ [n]).getD ((bg.length : Int) + 1 - 1).toNat 0 = n := by simp [List.getD]
  have := Ch.cons (bg := bg ++ [n]) (next := bg.length + 1) (rs := rs) (by omega) (by simp) (by rw [e]; exact h0) (by rw [e]; omega) (by rw [e]; exact h.mono)
  simpa using this
theorem Ch.one {bg : List Int} {n : Int} {rs : List Int} (h : Ch bg n rs) (hn : n ≠ 0) : (rs.length = 1) ↔ bg.getD (n - 1).toNat 0 = 0 := by
  obtain ⟨r', rfl, h0, h1, h2, h3, h4⟩ := h.pos hn
  constructor
  · intro hl
    have : r' = [] := by simpa using hl
    subst this
    generalize hz : bg.getD (n - 1).toNat 0 = z at h4
    generalize he : ([] : List Int) = q at h4
    cases h4 with
    | nil => rfl
    | cons => simp at he
  · intro he
    rw [he] at h4
    rw [h4.zero]; rfl
theorem zH8 {l : List Int} {j : Nat} (h : j < l.length) : dgetA (accL l) j = .int .i64 (l.getD j 0) := by
  unfold dgetA accL
  simp [List.getD, h]
theorem zG2 {l : List Int} {j : Nat} (h : j < l.length) : isDatA ((accL l).getD j .undef) = true := by
  unfold accL
  simp [List.getD, h, isDatA, avOne]
theorem zF4 (l : List Int) : (accL l).length = l.length := by simp [accL]
/-- Operands that end a list of roots, from a place on. -/
structure Part (bg roots args : List Int) (k : Nat) (next : Int) : Prop where
  kl : k ≤ args.length
  ml : args.length - k ≤ roots.length
  ch : Ch bg next (roots.take (roots.length - (args.length - k)))
  eq : args.drop k = roots.drop (roots.length - (args.length - k))
theorem Part.begin {bg roots args : List Int} {n : Int} (h : Ch bg n roots) : Part bg roots args args.length n :=
  ⟨Nat.le_refl _, by omega, by rw [Nat.sub_self, Nat.sub_zero, List.take_length]; exact h, by rw [Nat.sub_self, Nat.sub_zero, List.drop_length, List.drop_length]⟩
theorem Part.zero {bg roots args : List Int} {k : Nat} {i : Int} (h : Part bg roots args (k + 1) 0) : stepR roots args i = none := by
  have := h.ch.zero
  have hl := congrArg List.length this
  simp at hl
  have h2 := h.kl
  have h3 := h.ml
  unfold stepR
  rw [if_neg]
  rintro ⟨a, _⟩
  omega
theorem Part.last {bg roots args : List Int} {k : Nat} {next : Int} (h : Part bg roots args (k + 1) next) (hn : next ≠ 0) :
    0 < next ∧ next ≤ bg.length ∧ 0 ≤ bg.getD (next - 1).toNat 0 ∧ bg.getD (next - 1).toNat 0 < next ∧ args.length - k ≤ roots.length ∧ roots.getD (roots.length - (args.length - k)) 0 = next - 1 ∧ Ch bg (bg.getD (next - 1).toNat 0) (roots.take (roots.length - (args.length - k))) := by
  have h2 := h.kl
  have h3 := h.ml
  obtain ⟨r', he, h0, h1, h4, h5, h6⟩ := h.ch.pos hn
  have hl := congrArg List.length he
  simp at hl
  have hk : roots.length - (args.length - (k + 1)) = roots.length - (args.length - k) + 1 := by omega
  rw [hk] at he
  have hlt : roots.length - (args.length - k) < roots.length := by omega
  rw [List.take_add_one, List.getElem?_eq_getElem hlt] at he
  have he' : roots.take (roots.length - (args.length - k)) ++ [roots[roots.length - (args.length - k)]] = r' ++ [next - 1] := he
  obtain ⟨e1, e2⟩ := List.append_inj' he' rfl
  refine ⟨h0, h1, h4, h5, by omega, ?_, by rw [e1]; exact h6⟩
  simp only [List.cons.injEq, and_true] at e2
  simp [List.getD, hlt, e2]
theorem Part.miss {bg roots args : List Int} {k : Nat} {next i : Int} (h : Part bg roots args (k + 1) next) (hn : next ≠ 0) (hne : args.getD k 0 ≠ next - 1) : stepR roots args i = none := by
  obtain ⟨_, _, _, _, h5, h6, _⟩ := h.last hn
  have h2 := h.kl
  unfold stepR
  rw [if_neg]
  rintro ⟨a, b⟩
  apply hne
  have hk : k < args.length := by omega
  have e1 : args.getD k 0 = (roots.drop (roots.length - args.length)).getD k 0 := by rw [← b]
  rw [e1, ← h6]
  simp only [List.getD, List.getElem?_drop]
  congr 2
  omega
theorem Part.step {bg roots args : List Int} {k : Nat} {next : Int} (h : Part bg roots args (k + 1) next) (hn : next ≠ 0) (he : args.getD k 0 = next - 1) : Part bg roots args k (bg.getD (next - 1).toNat 0) := by
  obtain ⟨_, _, _, _, h5, h6, h7⟩ := h.last hn
  have h2 := h.kl
  have h3 := h.eq
  refine ⟨by omega, h5, h7, ?_⟩
  have hk : k < args.length := by omega
  have hlt : roots.length - (args.length - k) < roots.length := by omega
  rw [List.drop_eq_getElem_cons hk, List.drop_eq_getElem_cons hlt]
  have hs : roots.length - (args.length - (k + 1)) = roots.length - (args.length - k) + 1 := by omega
  rw [hs] at h3
  rw [h3]
  congr 1
  simp [List.getD, hk] at he
  simp [List.getD, hlt] at h6
  rw [he, h6]
theorem Part.done {bg roots args : List Int} {next i : Int} (h : Part bg roots args 0 next) : stepR roots args i = some (roots.take (roots.length - args.length) ++ [i]) ∧ Ch bg next (roots.take (roots.length - args.length)) := by
  have h1 := h.ml
  have h2 := h.eq
  have h3 := h.ch
  simp only [List.drop_zero, Nat.sub_zero] at h1 h2 h3
  exact ⟨by unfold stepR; rw [if_pos ⟨h1, h2⟩], h3⟩
def lv1033 : Nat → List Nat × List Nat
  | 5 => ([0, 5, 6], [10005])
  | 9 => ([0, 5, 6, 7, 8], [10005])
  | _ => ([], [])
structure IsT (l : List Nd) (r : Bool) (i : Nat) (bg : List Int) (rs : List Int) : Prop where
  il : i ≤ l.length
  bl : bg.length = i
  ch : Ch bg i rs
  ok : okRoots l r i rs
theorem Ch.rng {bg : List Int} {n : Int} {rs : List Int} (h : Ch bg n rs) : 0 ≤ n ∧ n ≤ bg.length := by
  cases h with
  | nil => exact ⟨Int.le_refl _, by omega⟩
  | cons h0 h1 h2 h3 h => exact ⟨by omega, h1⟩
theorem IsT.push {l : List Nd} {r : Bool} {p : Nat} {bg rs : List Int} {next : Int} (h : IsT l r p bg rs) (hp : p < l.length) (hP : Part bg rs (l.getD p default).args 0 next) : ∃ rs', IsT l r (p + 1) (bg ++ [next]) rs' := by
  obtain ⟨e1, e2⟩ := hP.done (i := (p : Int))
  have hr := e2.rng
  have hb := h.bl
  have hpu := e2.push hr.1 hr.2
  rw [hb] at hpu
  have hro := h.ok.2
  rw [rootsF_step rs hp, e1] at hro
  refine ⟨_, ⟨by omega, by rw [List.length_append, hb]; rfl, by rw [show ((p + 1 : Nat) : Int) = (p : Int) + 1 from by omega]; exact hpu, ⟨?_, hro⟩⟩⟩
  have := h.ok.1
  rw [List.length_append, List.length_take, List.length_singleton]; omega
theorem IsT.fail {l : List Nd} {r : Bool} {p : Nat} {bg rs : List Int} (h : IsT l r p bg rs) (hp : p < l.length) (hs : stepR rs (l.getD p default).args p = none) : r = false := by
  have hro := h.ok.2
  rw [rootsF_step rs hp, hs] at hro
  exact hro
theorem IsT.done {l : List Nd} {r : Bool} {p : Nat} {bg rs : List Int} (h : IsT l r p bg rs) (hp : p = l.length) (h0 : p ≠ 0) : r = decide (bg.getD (p - 1) 0 = 0) := by
  have hro := h.ok.2
  rw [List.drop_eq_nil_of_le (by omega), rootsF] at hro
  have h1 := h.ch.one (by omega)
  rw [show ((p : Int) - 1).toNat = p - 1 from by omega] at h1
  rw [hro]
  exact decide_eq_decide.2 h1
set_option maxHeartbeats 2000000 in
theorem pc1033 (o : Option (List Nd)) (ho : okT o) : PureCall Tryz.prog [0] 33 [encT o, .int .i64 200] (dRet (.bool (isTermS (o.getD [])))) := by
  have hl := ho.1
  generalize hr : isTermS (o.getD []) = r
  refine zD2 mixed fn1033 (Nat.le_of_ble_eq_true rfl) (Nat.lt_of_succ_le (Nat.le_of_ble_eq_true rfl)) (sfOk (.cons ok41 .nil)) TbROk (lv := lv1033) fun I F hI hF => ?_
  refine zD7 fun C hC => ?_
  generalize hgen0 : encT o = gen0
  generalize hgen1 : DV.bool r = gen1
  cbv
  subst hgen0
  subst hgen1
  subst hC
  refine ⟨?_⟩
  simp (maxSteps := 3000000) only [hI, hF, std]
  unfold isTermS at hr
  simp only [smp, lookOk, lookRes, sfOf, sgOf, hOk, hRes, hOut, ↓reduceIte, Nat.reduceEqDiff, reduceCtorEq, zC2, zA2, zB6, zA5, zB4, zB5, zA4, zB3, zA3, zB2, zC1, zA1, zB1, zA0, zB0, zA9, zC6, zA6, zC5, zC0, zC4, zB8, zA7, zB7, zA8, zC9, zD1, zC8, zD0, zB9, zC3, zC7, e41]
  simp
  refine ⟨fun h => ?_, fun h1 h2 => ?_⟩
  · rw [← hr, decide_eq_false (by omega)]; rfl
  rw [decide_eq_true (by omega), Bool.true_and] at hr
  refine zD8 (kend := fun I => kEndF I TbR [.tmp 4]) hI hF (sfOk (.cons ok41 .nil)) TbROk (by exact fun Bk e s h => endF TbROk Bk e s h) (lv := lv1033) 0 (fun i : {i : Bool × Nat × List Int × List Int // (i.1 = false → i.2.1 = 0) ∧ IsT (o.getD []) r i.2.1 i.2.2.1 i.2.2.2} => [.d (encT o), accA 1 i.1.1 i.1.2.2.1.length, .d (.int .i64 (i.1.2.1 : Int))]) (fun i : {i : Bool × Nat × List Int × List Int // (i.1 = false → i.2.1 = 0) ∧ IsT (o.getD []) r i.2.1 i.2.2.1 i.2.2.2} => [(0, accB 1 3 (accL i.1.2.2.1) i.1.1)]) (fun i : {i : Bool × Nat × List Int × List Int // (i.1 = false → i.2.1 = 0) ∧ IsT (o.getD []) r i.2.1 i.2.2.1 i.2.2.2} => (o.getD []).length - i.1.2.1) [10005] (⟨(false, 0, [], []), by simp, ⟨by show 0 ≤ _; omega, rfl, .nil, ⟨by simp, by simpa using hr.symm⟩⟩⟩ : {i : Bool × Nat × List Int × List Int // (i.1 = false → i.2.1 = 0) ∧ IsT (o.getD []) r i.2.1 i.2.2.1 i.2.2.2}) (by rfl) (by rfl) ?_ ?_ fun i => ?_
  · simp; rfl
  · rfl
  obtain ⟨⟨b, p, bg, rs⟩, hi1, hi2⟩ := i
  have hi1 : b = false → p = 0 := hi1
  have hi2 : IsT (o.getD []) r p bg rs := hi2
  have hi3 := hi2.il
  have hi4 := hi2.bl
  have w3 := zE0 (n := p) (by omega)
  cases b with
  | false =>
    have hi2 : IsT (o.getD []) r p bg rs := hi2
    have hi0 : p = 0 := hi1 rfl
    have hb0 : bg = [] := List.eq_nil_of_length_eq_zero (by omega)
    subst hb0
    rw [show accA 1 false ([] : List Int).length = .d .snil from rfl, show accB 1 3 (accL []) false = none from rfl]
    refine zD7 fun C hC => ?_
    generalize hgen0 : encT o = gen0
    generalize hgen1 : DV.bool r = gen1
    generalize hgen2 : DV.int .i64 (p : Int) = gen2
    cbv
    subst hgen0
    subst hgen1
    subst hgen2
    subst hC
    refine ⟨?_⟩
    simp (maxSteps := 3000000) only [hI, hF, std]
    have hlt : p < (o.getD []).length := by
      have h5 : 1 ≤ (o.getD []).length := Int.ofNat_le.1 h1
      rw [hi0]; exact h5
    have g1 := zF7 _ _ hlt
    have e : ((o.getD []).getD p default).ar.getD [] = ((o.getD []).getD p default).args := rfl
    have k1 := zH5 ho hlt
    simp only [smp, lookOk, lookRes, sfOf, sgOf, hOk, hRes, hOut, ↓reduceIte, Nat.reduceEqDiff, reduceCtorEq, zC2, zA2, zB6, zA5, zB4, zB5, zA4, zB3, zA3, zB2, zC1, zA1, zB1, zA0, zB0, zA9, zC6, zA6, zC5, zC0, zC4, zB8, zA7, zB7, zA8, zC9, zD1, zC8, zD0, zB9, zC3, zC7, e41, g1, e]
    simp [hlt, - List.getD_eq_getElem?_getD, zA9, zC6, zA6, zC5, zC0, zC4, zB8, zA7, zB7, zA8, zC9, zD1, zC8, zD0, zB9, zC3, zC7]
    have hst := rootsF_step (i := p) rs hlt
    have hch := hi2.ch
    have hok := hi2.ok
    have hrs : rs = [] := by
      have h := hch
      rw [show ((p : Nat) : Int) = 0 from by rw [hi0]; rfl] at h
      exact h.zero
    have hA : ((o.getD []).getD p default).args.length ≤ 1048576 := k1.2.2
    have hro := hok.2
    rw [hst, hrs] at hro
    refine zD8 (kend := fun I => kEndF I TbR [.tmp 4]) hI hF (sfOk (.cons ok41 .nil)) TbROk (by exact fun Bk e s h => endF TbROk Bk e s h) (lv := lv1033) 1 (fun i : {i : Unit // True} => [.d (encT o), .d .snil, .d (.int .i64 (p : Int)), .d (.int .i64 (p : Int)), .d (.int .i64 (IntKind.i64.wrap ((((o.getD []).getD p default).args.length : Int) - 1)))]) (fun i : {i : Unit // True} => [(1, none)]) (fun i : {i : Unit // True} => 0) [10005] (⟨(), trivial⟩ : {i : Unit // True}) (by rfl) (by rfl) ?_ ?_ fun i => ?_
    · rfl
    · rfl
    refine zD7 fun C hC => ?_
    generalize hgen0 : encT o = gen0
    generalize hgen1 : DV.int .i64 (p : Int) = gen1
    generalize hgen2 : DV.int .i64 (IntKind.i64.wrap ((((o.getD []).getD p default).args.length : Int) - 1)) = gen2
    generalize hgen3 : DV.bool r = gen3
    cbv
    subst hgen0
    subst hgen1
    subst hgen2
    subst hgen3
    subst hC
    refine ⟨?_⟩
    simp (maxSteps := 3000000) only [hI, hF, std]
    by_cases ha : ((o.getD []).getD p default).args.length = 0
    · simp only [smp, lookOk, lookRes, sfOf, sgOf, hOk, hRes, hOut, ↓reduceIte, Nat.reduceEqDiff, reduceCtorEq, zC2, zA2, zB6, zA5, zB4, zB5, zA4, zB3, zA3, zB2, zC1, zA1, zB1, zA0, zB0, zA9, zC6, zA6, zC5, zC0, zC4, zB8, zA7, zB7, zA8, zC9, zD1, zC8, zD0, zB9, zC3, zC7, e41, g1, e]
      have wm1 : IntKind.i64.wrap (-1) = -1 := rfl
      simp [hlt, - List.getD_eq_getElem?_getD, zA9, zC6, zA6, zC5, zC0, zC4, zB8, zA7, zB7, zA8, zC9, zD1, zC8, zD0, zB9, zC3, zC7, ha, wm1]
      rw [into_bk_ne (by decide), into_bk]
      have hb := hi2.bl
      have hnil : ((o.getD []).getD p default).args = [] := List.eq_nil_of_length_eq_zero ha
      have hP : Part [] rs ((o.getD []).getD p default).args 0 ((p : Nat) : Int) := by
        have := Part.begin (args := ((o.getD []).getD p default).args) hch
        rw [ha] at this; exact this
      obtain ⟨rs', hn'⟩ := hi2.push hlt hP
      refine ⟨⟨(true, p + 1, [((p : Nat) : Int)], rs'), ⟨fun h => (by cases h), hn'⟩⟩, ?_, ?_, rfl⟩
      · show (o.getD []).length - (p + 1) < (o.getD []).length - p; omega
      · rw [show IntKind.i64.wrap (((p : Nat) : Int) + 1) = ((p + 1 : Nat) : Int) from w3]; rfl
    · have w4 : IntKind.i64.wrap ((((o.getD []).getD p default).args.length : Int) - 1) = ((((o.getD []).getD p default).args.length - 1 : Nat) : Int) := wrap_pred (by omega) (by omega)
      simp only [smp, lookOk, lookRes, sfOf, sgOf, hOk, hRes, hOut, ↓reduceIte, Nat.reduceEqDiff, reduceCtorEq, zC2, zA2, zB6, zA5, zB4, zB5, zA4, zB3, zA3, zB2, zC1, zA1, zB1, zA0, zB0, zA9, zC6, zA6, zC5, zC0, zC4, zB8, zA7, zB7, zA8, zC9, zD1, zC8, zD0, zB9, zC3, zC7, e41, g1, e, w4]
      simp [hlt, - List.getD_eq_getElem?_getD, zA9, zC6, zA6, zC5, zC0, zC4, zB8, zA7, zB7, zA8, zC9, zD1, zC8, zD0, zB9, zC3, zC7, ha, hi0]
      refine hi2.fail hlt ?_
      rw [hrs]
      unfold stepR
      rw [if_neg]
      rintro ⟨a, _⟩
      exact ha (by simpa using a)
  | true =>
    have hi2 : IsT (o.getD []) r p bg rs := hi2
    have hi4 : bg.length = p := hi2.bl
    obtain ⟨n, hn⟩ : ∃ n, n = bg.length := ⟨_, rfl⟩
    rw [show accA 1 true bg.length = .slc 0 1 0 n from by rw [hn]; rfl, show accB 1 3 (accL bg) true = some ⟨accL bg, 1, 3, true, true⟩ from rfl]
    refine zD7 fun C hC => ?_
    generalize hgen0 : encT o = gen0
    generalize hgen1 : DV.bool r = gen1
    generalize hgen2 : DV.int .i64 (p : Int) = gen2
    generalize hgen3 : accL bg = gen3
    cbv
    subst hgen0
    subst hgen1
    subst hgen2
    subst hgen3
    subst hC
    refine ⟨?_⟩
    simp (maxSteps := 3000000) only [hI, hF, std]
    by_cases hlt : p < (o.getD []).length
    · have g1 := zF7 _ _ hlt
      have e : ((o.getD []).getD p default).ar.getD [] = ((o.getD []).getD p default).args := rfl
      have k1 := zH5 ho hlt
      simp only [smp, lookOk, lookRes, sfOf, sgOf, hOk, hRes, hOut, ↓reduceIte, Nat.reduceEqDiff, reduceCtorEq, zC2, zA2, zB6, zA5, zB4, zB5, zA4, zB3, zA3, zB2, zC1, zA1, zB1, zA0, zB0, zA9, zC6, zA6, zC5, zC0, zC4, zB8, zA7, zB7, zA8, zC9, zD1, zC8, zD0, zB9, zC3, zC7, e41, g1, e]
      simp [hlt, - List.getD_eq_getElem?_getD, zA9, zC6, zA6, zC5, zC0, zC4, zB8, zA7, zB7, zA8, zC9, zD1, zC8, zD0, zB9, zC3, zC7]
      refine ⟨fun x hx => ?_, ?_⟩
      · obtain ⟨y, hy, rfl⟩ := List.mem_map.1 hx
        obtain ⟨z, hz, rfl⟩ := List.mem_map.1 hy
        rfl
      have hA : ((o.getD []).getD p default).args.length ≤ 1048576 := k1.2.2
      have w5 : IntKind.i64.wrap ((((o.getD []).getD p default).args.length : Int) - 1) = (((o.getD []).getD p default).args.length : Int) - 1 := by rw [wrap64 (by omega) (by omega)]
      rw [w5]
      refine zD8 (kend := fun I => kEndF I TbR [.tmp 4]) hI hF (sfOk (.cons ok41 .nil)) TbROk (by exact fun Bk e s h => endF TbROk Bk e s h) (lv := lv1033) 1 (fun i : {i : Nat × Int // Part bg rs ((o.getD []).getD p default).args i.1 i.2} => [.d (encT o), .slc 1 1 0 n, .d (.int .i64 (p : Int)), .d (.int .i64 i.1.2), .d (.int .i64 ((i.1.1 : Int) - 1))]) (fun i : {i : Nat × Int // Part bg rs ((o.getD []).getD p default).args i.1 i.2} => [(1, some ⟨accL bg, 1, 3, true, true⟩)]) (fun i : {i : Nat × Int // Part bg rs ((o.getD []).getD p default).args i.1 i.2} => i.1.1) [10005] (⟨(((o.getD []).getD p default).args.length, (p : Int)), Part.begin hi2.ch⟩ : {i : Nat × Int // Part bg rs ((o.getD []).getD p default).args i.1 i.2}) (by rfl) (by rfl) ?_ ?_ fun i => ?_
      · rfl
      · rfl
      obtain ⟨⟨k, next⟩, hP⟩ := i
      have hP : Part bg rs ((o.getD []).getD p default).args k next := hP
      refine zD7 fun C hC => ?_
      generalize hgen0 : encT o = gen0
      generalize hgen1 : DV.int .i64 (p : Int) = gen1
      generalize hgen2 : DV.int .i64 next = gen2
      generalize hgen3 : DV.int .i64 ((k : Int) - 1) = gen3
      generalize hgen4 : DV.bool r = gen4
      generalize hgen5 : accL bg = gen5
      cbv
      subst hgen0
      subst hgen1
      subst hgen2
      subst hgen3
      subst hgen4
      subst hgen5
      subst hC
      refine ⟨?_⟩
      simp (maxSteps := 3000000) only [hI, hF, std]
      cases k with
      | zero =>
        simp only [smp, lookOk, lookRes, sfOf, sgOf, hOk, hRes, hOut, ↓reduceIte, Nat.reduceEqDiff, reduceCtorEq, zC2, zA2, zB6, zA5, zB4, zB5, zA4, zB3, zA3, zB2, zC1, zA1, zB1, zA0, zB0, zA9, zC6, zA6, zC5, zC0, zC4, zB8, zA7, zB7, zA8, zC9, zD1, zC8, zD0, zB9, zC3, zC7, e41, g1, e]
        simp [hlt, - List.getD_eq_getElem?_getD, zA9, zC6, zA6, zC5, zC0, zC4, zB8, zA7, zB7, zA8, zC9, zD1, zC8, zD0, zB9, zC3, zC7]
        have hlen : (accL bg).length = n := by rw [zF4, hn]
        have htk : List.take n (accL bg) = accL bg := List.take_of_length_le (by omega)
        refine ⟨⟨?_, by omega⟩, ⟨fun x hx => ?_, rfl⟩, ?_⟩
        · revert hlen; generalize accL bg = L; intro hlen; cases L <;> simp at hlen ⊢ <;> omega
        · obtain ⟨y, hy, rfl⟩ := List.mem_map.1 (List.mem_of_mem_take hx)
          obtain ⟨z, hz, rfl⟩ := List.mem_map.1 hy
          rfl
        rw [into_bk_ne (by decide), into_bk]
        obtain ⟨rs', hn'⟩ := hi2.push hlt hP
        refine ⟨⟨(true, p + 1, bg ++ [next], rs'), ⟨fun h => (by cases h), hn'⟩⟩, ?_, ?_, ?_⟩
        · show (o.getD []).length - (p + 1) < (o.getD []).length - p; omega
        · rw [show IntKind.i64.wrap (((p : Nat) : Int) + 1) = ((p + 1 : Nat) : Int) from w3]
          show [_, AV.slc 0 1 0 (n + 1), _] = [_, AV.slc 0 1 0 (bg ++ [next]).length, _]
          rw [List.length_append, ← hn]; rfl
        · rw [htk]
          show [(0, some (LB.mk _ 1 3 true true))] = [(0, some (LB.mk _ 1 3 true true))]
          simp [accL]
      | succ k =>
        simp only [smp, lookOk, lookRes, sfOf, sgOf, hOk, hRes, hOut, ↓reduceIte, Nat.reduceEqDiff, reduceCtorEq, zC2, zA2, zB6, zA5, zB4, zB5, zA4, zB3, zA3, zB2, zC1, zA1, zB1, zA0, zB0, zA9, zC6, zA6, zC5, zC0, zC4, zB8, zA7, zB7, zA8, zC9, zD1, zC8, zD0, zB9, zC3, zC7, e41, g1, e]
        simp [hlt, - List.getD_eq_getElem?_getD, zA9, zC6, zA6, zC5, zC0, zC4, zB8, zA7, zB7, zA8, zC9, zD1, zC8, zD0, zB9, zC3, zC7]
        have hka : k < ((o.getD []).getD p default).args.length := by have := hP.kl; omega
        have hga := zE9 _ _ hka
        have w7 : IntKind.i64.wrap ((k : Int) - 1) = (k : Int) - 1 := by rw [wrap64 (by omega) (by omega)]
        rw [hga, w7]
        by_cases hz : next = 0
        · have hf := hi2.fail hlt (Part.zero (hz ▸ hP))
          exact ⟨.inl hz, .inl hz, .inl hz, fun _ => hf, fun h => absurd hz h⟩
        · obtain ⟨q1, q2, q3, q4, q5, q6, q7⟩ := hP.last hz
          have w8 : IntKind.i64.wrap (next - 1) = next - 1 := by rw [wrap64 (by omega) (by omega)]
          have hlb : (next - 1).toNat < bg.length := by omega
          simp only [w8, zH8 hlb, zG2 hlb, zF4]
          refine ⟨.inr ⟨hka, rfl⟩, .inr (by simp [DV.cells]), .inr rfl, fun h => ?_, fun _ h => ⟨⟨by first | omega | exact dec_true (by omega), by first | omega | exact dec_true (by omega)⟩, ⟨hlb, trivial⟩, fun x hx => ?_, k, by omega, _, rfl, hP.step hz h, rfl⟩⟩
          · exact hi2.fail hlt (hP.miss hz (h.resolve_left hz))
          · obtain ⟨y, hy, rfl⟩ := List.mem_map.1 hx
            obtain ⟨z, hz, rfl⟩ := List.mem_map.1 hy
            rfl
    · simp only [smp, lookOk, lookRes, sfOf, sgOf, hOk, hRes, hOut, ↓reduceIte, Nat.reduceEqDiff, reduceCtorEq, zC2, zA2, zB6, zA5, zB4, zB5, zA4, zB3, zA3, zB2, zC1, zA1, zB1, zA0, zB0, zA9, zC6, zA6, zC5, zC0, zC4, zB8, zA7, zB7, zA8, zC9, zD1, zC8, zD0, zB9, zC3, zC7, e41]
      simp [hlt, - List.getD_eq_getElem?_getD, zA9, zC6, zA6, zC5, zC0, zC4, zB8, zA7, zB7, zA8, zC9, zD1, zC8, zD0, zB9, zC3, zC7]
      have hpl : p = (o.getD []).length := by omega
      have h5 : 1 ≤ (o.getD []).length := Int.ofNat_le.1 h1
      have w6 : IntKind.i64.wrap (((o.getD []).length : Int) - 1) = (((o.getD []).length - 1 : Nat) : Int) := wrap_pred h5 (by omega)
      have hdn := hi2.done hpl (by omega)
      rw [w6]
      have hlb : (o.getD []).length - 1 < bg.length := by rw [hi4]; omega
      simp only [Int.toNat_natCast, zF4, zG2 hlb, zH8 hlb]
      refine ⟨⟨by omega, by omega⟩, ⟨hlb, trivial⟩, rfl, ?_⟩
      rw [hdn, hpl]; rfl
open Classical in
noncomputable def e1033 : Ent := ⟨33, fun | [d_o, .int .i64 200] => decide (isT d_o) | _ => false, fun | [d_o, .int .i64 200] => .bool (isTermS ((toT d_o).getD [])) | _ => .inil⟩
open Classical in
theorem ok1033 : EntOk Tryz.prog [0] e1033 := fun ds h => by
  unfold e1033 at h ⊢
  simp only at h ⊢
  split at h
  · rw [decide_eq_true_iff] at h
    obtain ⟨v0, rfl, k0⟩ := h
    simp only [zB2, zA1, zA0, zB9, zC9, zC8]
    exact pc1033 _ k0
  · cases h
end Go.Proofs.Sx

set_option linter.unusedVariables false
set_option linter.unusedSimpArgs false
set_option maxRecDepth 100000
namespace Go.Proofs.Sx
open Go Go.Proofs Go.Proofs.Am 
variable {gs : List Nat}

def lv1058 : Nat → List Nat × List Nat
  | 9 => ([0, 1, 5, 6, 10], [0])
  | _ => ([], [])
/-- A node has what its kind allows. -/
def Frm1 (x : Nd) : Prop := (¬ (x.k = 0 ∨ x.k = 1 ∨ x.k = 6) ∧ x.n ≠ 0) ∨
    (¬ (x.k = 2 ∨ x.k = 3 ∨ x.k = 4 ∨ x.k = 5 ∨ x.k = 7 ∨ x.k = 12 ∨ x.k = 8) ∧ x.tx ≠ ⟨#[]⟩) ∨
    (¬ (x.k = 9 ∨ x.k = 11) ∧ x.names ≠ [])
theorem frmE_cases (l : List Nd) (i : Nat) : (Frm1 (l.getD i default) → frmE l i = 5) ∧ (¬ Frm1 (l.getD i default) → ((l.getD i default).k ≠ 9 ∧ (∃ a ∈ (l.getD i default).args, kAt l a = 14) → frmE l i = 5) ∧ (¬ ((l.getD i default).k ≠ 9 ∧ (∃ a ∈ (l.getD i default).args, kAt l a = 14)) → (i + 1 = l.length ∧ (l.getD i default).k = 14 → frmE l i = 5) ∧ (¬ (i + 1 = l.length ∧ (l.getD i default).k = 14) → (asksS (l.getD i default) = true ∧ kAt l ((l.getD i default).args.getD 0 0) ≠ 12 → frmE l i = 5) ∧ (¬ (asksS (l.getD i default) = true ∧ kAt l ((l.getD i default).args.getD 0 0) ≠ 12) → frmE l i = 0)))) := by
  unfold frmE Frm1
  refine ⟨fun h => if_pos h, fun h => ?_⟩
  rw [if_neg h]
  refine ⟨fun h => if_pos h, fun h => ?_⟩
  rw [if_neg h]
  refine ⟨fun h => if_pos h, fun h => ?_⟩
  rw [if_neg h]
  exact ⟨fun h => if_pos h, fun h => if_neg h⟩
theorem memI {l : List Int} {i : Nat} (h : i < l.length) : l.getD i 0 ∈ l := by simp [List.getD, h]
theorem getI_mem {l : List Int} {a : Int} (h : a ∈ l) : ∃ j, j < l.length ∧ l.getD j 0 = a := by
  obtain ⟨j, hj, he⟩ := List.getElem_of_mem h
  exact ⟨j, hj, by simp [List.getD, hj, he]⟩
set_option maxHeartbeats 2000000 in
theorem pc1058 (o : Option (List Nd)) (p : Nat) (ho : okT o) (h : FrmP (o.getD []) (p : Int)) : PureCall Tryz.prog [0] 58 [encT o, .int .i64 (p : Int)] (dRet (.bool (decide (frmE (o.getD []) p = 0)))) := by
  obtain ⟨⟨_, hp⟩, hin, hask⟩ := h
  rw [Int.toNat_natCast] at hin hask
  have hi : p < (o.getD []).length := by omega
  generalize hr : decide (frmE (o.getD []) p = 0) = r
  obtain ⟨f1, f2⟩ := frmE_cases (o.getD []) p
  have hl := ho.1
  have hx := zH5 ho hi
  have hg := zF7 _ _ hi
  have e : ((o.getD []).getD p default).ar.getD [] = ((o.getD []).getD p default).args := rfl
  have e2 : ((o.getD []).getD p default).nm.getD [] = ((o.getD []).getD p default).names := rfl
  have eb : (⟨⟨[]⟩⟩ : ByteArray) = ⟨#[]⟩ := rfl
  have ln : 0 < ((o.getD []).getD p default).names.length ↔ ((o.getD []).getD p default).names ≠ [] := List.length_pos_iff
  refine zD2 mixed fn1058 (Nat.le_of_ble_eq_true rfl) (Nat.lt_of_succ_le (Nat.le_of_ble_eq_true rfl)) (sfOk (.cons ok41 .nil)) TbOk (lv := lv1058) fun I F hI hF => ?_
  refine zD7 fun C hC => ?_
  generalize hgen0 : encT o = gen0
  generalize hgen1 : DV.int .i64 (p : Int) = gen1
  generalize hgen2 : DV.bool r = gen2
  cbv
  subst hgen0
  subst hgen1
  subst hgen2
  subst hC
  refine ⟨?_⟩
  simp (maxSteps := 3000000) only [hI, hF, std]
  simp only [smp, lookOk, lookRes, sfOf, sgOf, hOk, hRes, hOut, ↓reduceIte, Nat.reduceEqDiff, reduceCtorEq, zC2, zA2, zB6, zA5, zB4, zB5, zA4, zB3, zA3, zB2, zC1, zA1, zB1, zA0, zB0, zA9, zC6, zA6, zC5, zC0, zC4, zB8, zA7, zB7, zA8, zC9, zD1, zC8, zD0, zB9, zC3, zC7, hg, e41, e, e2]
  simp [- List.getD_eq_getElem?_getD, hi, zA9, zC6, zA6, zC5, zC0, zC4, zB8, zA7, zB7, zA8, zC9, zD1, zC8, zD0, zB9, zC3, zC7, e, e2]
  refine ⟨fun h => ?_, fun a1 a2 a3 => ?_⟩
  · have hF1 : Frm1 ((o.getD []).getD p default) := by
      unfold Frm1
      rw [ln] at h
      rcases h with (⟨h, h'⟩ | ⟨h, h'⟩) | ⟨h, h'⟩
      · exact .inl ⟨by omega, h'⟩
      · exact .inr (.inl ⟨by omega, h'⟩)
      · exact .inr (.inr ⟨by omega, h'⟩)
    rw [← hr, f1 hF1]; rfl
  have hF1 : ¬ Frm1 ((o.getD []).getD p default) := by
    unfold Frm1
    rintro (⟨h, h'⟩ | ⟨h, h'⟩ | ⟨h, h'⟩)
    · exact h' (a1 (by omega) (by omega) (by omega))
    · exact h' (a2 (by omega) (by omega) (by omega) (by omega))
    · exact h' (a3 (by omega) (by omega))
  obtain ⟨f3, f4⟩ := f2 hF1
  have hA : ((o.getD []).getD p default).args.length ≤ 1048576 := hx.2.2
  refine zD8 (kend := fun I => kEndF I Tb [.tmp 4]) hI hF (sfOk (.cons ok41 .nil)) TbOk (by exact fun Bk e s h => endF TbOk Bk e s h) (lv := lv1058) 0 (fun i : {i : Nat // i ≤ ((o.getD []).getD p default).args.length ∧ ∀ m, m < i → ¬ (((o.getD []).getD p default).k ≠ 9 ∧ kAt (o.getD []) (((o.getD []).getD p default).args.getD m 0) = 14)} => [.d (encT o), .d (.int .i64 (p : Int)), .loc 0 5 0 0, .d (.int .i64 ((o.getD []).getD p default).k), .d (.int .i64 (i.1 : Int))]) (fun i : {i : Nat // i ≤ ((o.getD []).getD p default).args.length ∧ ∀ m, m < i → ¬ (((o.getD []).getD p default).k ≠ 9 ∧ kAt (o.getD []) (((o.getD []).getD p default).args.getD m 0) = 14)} => [(0, some ⟨[.d (encN ((o.getD []).getD p default))], 5, 67, true, true⟩)]) (fun i : {i : Nat // i ≤ ((o.getD []).getD p default).args.length ∧ ∀ m, m < i → ¬ (((o.getD []).getD p default).k ≠ 9 ∧ kAt (o.getD []) (((o.getD []).getD p default).args.getD m 0) = 14)} => ((o.getD []).getD p default).args.length - i.1) [0] (⟨0, by omega, fun m h => by omega⟩ : {i : Nat // i ≤ ((o.getD []).getD p default).args.length ∧ ∀ m, m < i → ¬ (((o.getD []).getD p default).k ≠ 9 ∧ kAt (o.getD []) (((o.getD []).getD p default).args.getD m 0) = 14)}) (by rfl) (by rfl) ?_ ?_ fun i => ?_
  · rfl
  · rfl
  obtain ⟨i, hi1, hi2⟩ := i
  refine zD7 fun C hC => ?_
  generalize hgen0 : encT o = gen0
  generalize hgen1 : DV.int .i64 (p : Int) = gen1
  generalize hgen2 : encN ((o.getD []).getD p default) = gen2
  generalize hgen3 : DV.int .i64 ((o.getD []).getD p default).k = gen3
  generalize hgen4 : DV.int .i64 (i : Int) = gen4
  generalize hgen5 : DV.bool r = gen5
  cbv
  subst hgen0
  subst hgen1
  subst hgen2
  subst hgen3
  subst hgen4
  subst hgen5
  subst hC
  refine ⟨?_⟩
  simp (maxSteps := 3000000) only [hI, hF, std]
  have w3 := zE0 (n := i) (by omega)
  have ek : ∀ a : Int, ((o.getD []).getD a.toNat default).k = kAt (o.getD []) a := fun a => rfl
  by_cases hlt : i < ((o.getD []).getD p default).args.length
  · have g1 := zE9 _ _ hlt
    have k1 := hin.get hlt
    have hlt1 : (((o.getD []).getD p default).args.getD i 0).toNat < (o.getD []).length := (Int.toNat_lt k1.1).2 k1.2
    have g2 := zF7 _ _ hlt1
    simp only [smp, lookOk, lookRes, sfOf, sgOf, hOk, hRes, hOut, ↓reduceIte, Nat.reduceEqDiff, reduceCtorEq, zC2, zA2, zB6, zA5, zB4, zB5, zA4, zB3, zA3, zB2, zC1, zA1, zB1, zA0, zB0, zA9, zC6, zA6, zC5, zC0, zC4, zB8, zA7, zB7, zA8, zC9, zD1, zC8, zD0, zB9, zC3, zC7, e41, e, e2, g1, g2]
    simp [hlt, - List.getD_eq_getElem?_getD, w3, k1, ek]
    refine ⟨fun h h9 => ?_, fun h => ⟨i + 1, by omega, ⟨by omega, fun m hm h9 => ?_⟩, by omega⟩⟩
    · have hE := f3 ⟨h9, ((o.getD []).getD p default).args.getD i 0, memI hlt, h⟩
      rw [← hr, hE]; rfl
    · by_cases hmi : m = i
      · subst hmi; exact fun h' => h9 (h h')
      · exact fun h' => hi2 m (by omega) ⟨h9, h'⟩
  · have w9 : IntKind.i64.wrap (((o.getD []).length : Int) - 1) = ((o.getD []).length : Int) - 1 := wrap64 (by omega) (by omega)
    have hno : ¬ (((o.getD []).getD p default).k ≠ 9 ∧ ∃ a ∈ ((o.getD []).getD p default).args, kAt (o.getD []) a = 14) := by
      rintro ⟨h9, a, ha, hk⟩
      obtain ⟨j, hj, he⟩ := getI_mem ha
      exact hi2 j (by omega) ⟨h9, by rw [he]; exact hk⟩
    obtain ⟨f5, f6⟩ := f4 hno
    have hpl : ((p : Int) = ((o.getD []).length : Int) - 1) ↔ p + 1 = (o.getD []).length := by omega
    have hends : (((o.getD []).getD p default).k = 14 → (p : Int) = ((o.getD []).length : Int) - 1 → r = false) := fun h1 h2 => by
      rw [← hr, f5 ⟨hpl.1 h2, h1⟩]; rfl
    by_cases hasks : asksS ((o.getD []).getD p default) = true
    · have hpos : 0 < ((o.getD []).getD p default).args.length := List.length_pos_iff.2 (hask hasks)
      have g0 := zE9 _ _ hpos
      have k0 := hin.get hpos
      have hlt0 : (((o.getD []).getD p default).args.getD 0 0).toNat < (o.getD []).length := (Int.toNat_lt k0.1).2 k0.2
      have g1 := zF7 _ _ hlt0
      have hasks2 := hasks
      simp only [asksS, Bool.and_eq_true, Bool.or_eq_true, decide_eq_true_eq, wIsp, wIsc] at hasks2
      obtain ⟨h8, ht⟩ := hasks2
      have fin : (p : Int) ≠ ((o.getD []).length : Int) - 1 ∨ ((o.getD []).getD p default).k ≠ 14 → decide (kAt (o.getD []) (((o.getD []).getD p default).args.getD 0 0) = 12) = r := fun hh => by
        have f7 := f6 (fun hc => by rcases hh with hh | hh; exact hh (hpl.2 hc.1); exact hh hc.2)
        rw [← hr]
        by_cases h12 : kAt (o.getD []) (((o.getD []).getD p default).args.getD 0 0) = 12
        · rw [f7.2 (fun hc => hc.2 h12), h12]; rfl
        · rw [f7.1 ⟨hasks, h12⟩, decide_eq_false h12]; rfl
      have g14 : ¬ (8 : Int) = 14 := by omega
      rcases ht with ht | ht
      all_goals have hcs : (⟨⟨[105, 115, 112, 114, 101, 115, 101, 110, 116]⟩⟩ : ByteArray) ≠ ⟨⟨[105, 115, 99, 104, 111, 115, 101, 110]⟩⟩ := by decide
      · simp only [smp, lookOk, lookRes, sfOf, sgOf, hOk, hRes, hOut, ↓reduceIte, Nat.reduceEqDiff, reduceCtorEq, zC2, zA2, zB6, zA5, zB4, zB5, zA4, zB3, zA3, zB2, zC1, zA1, zB1, zA0, zB0, zA9, zC6, zA6, zC5, zC0, zC4, zB8, zA7, zB7, zA8, zC9, zD1, zC8, zD0, zB9, zC3, zC7, e41, e, e2, g0, g1]
        have ht : ((o.getD []).getD p default).tx = ⟨⟨[105, 115, 112, 114, 101, 115, 101, 110, 116]⟩⟩ := of_decide_eq_true ht
        simp [hlt, - List.getD_eq_getElem?_getD, h8, ht, hcs, w9, g0, g1, k0, hpos, hlt0, ek]
        exact fin (.inr (by rw [h8]; exact g14))
      · simp only [smp, lookOk, lookRes, sfOf, sgOf, hOk, hRes, hOut, ↓reduceIte, Nat.reduceEqDiff, reduceCtorEq, zC2, zA2, zB6, zA5, zB4, zB5, zA4, zB3, zA3, zB2, zC1, zA1, zB1, zA0, zB0, zA9, zC6, zA6, zC5, zC0, zC4, zB8, zA7, zB7, zA8, zC9, zD1, zC8, zD0, zB9, zC3, zC7, e41, e, e2, g0, g1]
        have ht : ((o.getD []).getD p default).tx = ⟨⟨[105, 115, 99, 104, 111, 115, 101, 110]⟩⟩ := of_decide_eq_true ht
        simp [hlt, - List.getD_eq_getElem?_getD, h8, ht, hcs.symm, w9, g0, g1, k0, hpos, hlt0, ek]
        exact fin (.inr (by rw [h8]; exact g14))
    · simp only [smp, lookOk, lookRes, sfOf, sgOf, hOk, hRes, hOut, ↓reduceIte, Nat.reduceEqDiff, reduceCtorEq, zC2, zA2, zB6, zA5, zB4, zB5, zA4, zB3, zA3, zB2, zC1, zA1, zB1, zA0, zB0, zA9, zC6, zA6, zC5, zC0, zC4, zB8, zA7, zB7, zA8, zC9, zD1, zC8, zD0, zB9, zC3, zC7, e41, e, e2]
      have fin : (p : Int) ≠ ((o.getD []).length : Int) - 1 ∨ ((o.getD []).getD p default).k ≠ 14 → r = true := fun hh => by
        have f7 := f6 (fun hc => by rcases hh with hh | hh; exact hh (hpl.2 hc.1); exact hh hc.2)
        rw [← hr, f7.2 (fun hc => hasks hc.1)]; rfl
      simp only [asksS, Bool.and_eq_true, Bool.or_eq_true, decide_eq_true_eq, wIsp, wIsc, not_and, not_or] at hasks
      by_cases h8 : ((o.getD []).getD p default).k = 8
      · have ht := hasks h8
        have ht1 : ¬ ((o.getD []).getD p default).tx = ⟨⟨[105, 115, 112, 114, 101, 115, 101, 110, 116]⟩⟩ := fun h => ht.1 (decide_eq_true h)
        have ht2 : ¬ ((o.getD []).getD p default).tx = ⟨⟨[105, 115, 99, 104, 111, 115, 101, 110]⟩⟩ := fun h => ht.2 (decide_eq_true h)
        simp [hlt, - List.getD_eq_getElem?_getD, h8, w9, ht1, ht2]
        exact fin (.inr (by rw [h8]; omega))
      · simp [hlt, - List.getD_eq_getElem?_getD, h8, w9]
        refine ⟨fun h1 h2 => hends h1 h2, fun h => fin ?_⟩
        by_cases h14 : ((o.getD []).getD p default).k = 14
        · exact .inl (h h14)
        · exact .inr h14
theorem pc1058' (o : Option (List Nd)) (i : Int) (ho : okT o) (h : FrmP (o.getD []) i) : PureCall Tryz.prog [0] 58 [encT o, .int .i64 i] (dRet (.bool (decide (frmE (o.getD []) i.toNat = 0)))) := by
  obtain ⟨n, rfl⟩ := Int.eq_ofNat_of_zero_le h.1.1
  have := pc1058 o n ho h
  simpa using this
open Classical in
noncomputable def e1058' : Ent := ⟨58, fun | [d_o, .int .i64 i] => decide (isT d_o ∧ FrmP ((toT d_o).getD []) i) | _ => false, fun | [d_o, .int .i64 i] => .bool (decide (frmE ((toT d_o).getD []) i.toNat = 0)) | _ => .inil⟩
open Classical in
theorem ok1058' : EntOk Tryz.prog [0] e1058' := fun ds h => by
  unfold e1058' at h ⊢
  simp only at h ⊢
  split at h
  · rw [decide_eq_true_iff] at h
    obtain ⟨⟨v0, rfl, k0⟩, kx⟩ := h
    simp only [zB2, zA1, zA0, zB9, zC9, zC8] at kx ⊢
    exact pc1058' _ _ k0 kx
  · cases h
theorem frmE_05 (l : List Nd) (i : Nat) : frmE l i ≠ 0 → frmE l i = 5 := by
  unfold frmE
  intro h
  split at h <;> rename_i h1
  · rw [if_pos h1]
  rw [if_neg h1]
  split at h <;> rename_i h2
  · rw [if_pos h2]
  rw [if_neg h2]
  split at h <;> rename_i h3
  · rw [if_pos h3]
  rw [if_neg h3]
  split at h <;> rename_i h4
  · rw [if_pos h4]
  exact absurd rfl h
theorem nmE_cases (x : Nd) : (¬ NamesP x.names → nmE x = 7) ∧ (((x.k = 7 ∨ x.k = 12) ∧ nameOk x.tx = false) ∨ (x.k = 8 ∧ opsOf x.tx = []) → nmE x = 7) ∧ (NamesP x.names → ¬ (((x.k = 7 ∨ x.k = 12) ∧ nameOk x.tx = false) ∨ (x.k = 8 ∧ opsOf x.tx = [])) → nmE x = 0) := by
  unfold nmE
  refine ⟨fun h => if_pos h, fun h => ?_, fun h h2 => ?_⟩
  · split
    · rfl
    split
    · rfl
    rename_i h3
    rw [if_pos (h.resolve_left h3)]
  · rw [if_neg (fun h' => h' h), if_neg (fun h' => h2 (.inl h')), if_neg (fun h' => h2 (.inr h'))]
def lv1034 : Nat → List Nat × List Nat
  | 8 => ([0, 1, 5, 6, 7], [0])
  | 15 => ([0, 1, 5, 6, 8], [0])
  | _ => ([], [])
set_option maxHeartbeats 4000000 in
theorem pc1034 (o : Option (List Nd)) (p : Nat) (ho : okT o) (hi : p < (o.getD []).length) (hin : InT (o.getD []).length ((o.getD []).getD p default).args) :
    PureCall Tryz.prog [0] 34 [encT o, .int .i64 (p : Int)] (dRet (.int .i64 (nodeE (o.getD []) p))) := by
  generalize hr : nodeE (o.getD []) p = r
  have hl := ho.1
  have hx := zH5 ho hi
  have hg := zF7 _ _ hi
  have e : ((o.getD []).getD p default).ar.getD [] = ((o.getD []).getD p default).args := rfl
  have e2 : ((o.getD []).getD p default).nm.getD [] = ((o.getD []).getD p default).names := rfl
  obtain ⟨n1, n2, n3⟩ := nmE_cases ((o.getD []).getD p default)
  refine zD2 mixed fn1034 (Nat.le_of_ble_eq_true rfl) (Nat.lt_of_succ_le (Nat.le_of_ble_eq_true rfl)) (sfOk (.cons ok41 (.cons ok25 (.cons ok1055 (.cons ok1056 (.cons ok90 (.cons ok1058' (.cons ok1060 (.cons ok12 .nil))))))))) TbOk (lv := lv1034) fun I F hI hF => ?_
  refine zD7 fun C hC => ?_
  generalize hgen0 : encT o = gen0
  generalize hgen1 : DV.int .i64 (p : Int) = gen1
  generalize hgen2 : DV.int .i64 r = gen2
  cbv
  subst hgen0
  subst hgen1
  subst hgen2
  subst hC
  refine ⟨?_⟩
  simp (maxSteps := 3000000) only [hI, hF, std]
  simp only [smp, lookOk, lookRes, sfOf, sgOf, hOk, hRes, hOut, ↓reduceIte, Nat.reduceEqDiff, reduceCtorEq, zC2, zA2, zB6, zA5, zB4, zB5, zA4, zB3, zA3, zB2, zC1, zA1, zB1, zA0, zB0, zA9, zC6, zA6, zC5, zC0, zC4, zB8, zA7, zB7, zA8, zC9, zD1, zC8, zD0, zB9, zC3, zC7, hg, e41, e25, e1055]
  simp [- List.getD_eq_getElem?_getD, hi, hx, zA9, zC6, zA6, zC5, zC0, zC4, zB8, zA7, zB7, zA8, zC9, zD1, zC8, zD0, zB9, zC3, zC7, e, e2]
  generalize hL : Sat Tryz.prog [0] _ (Tree.loop _ _ _ _ _ _ _) = L
  unfold nodeE at hr
  refine ⟨fun h => ?_, fun k1 k2 => ⟨fun h => ?_, fun h1 h2 => ?_⟩⟩
  · rw [← hr, if_pos (by omega)]
  · rw [opsO_get] at h
    have hn := n2 h
    rw [← hr, if_neg (fun h => h ⟨k1, k2⟩), if_pos (by rw [hn]; omega), hn]
  rw [opsO_get] at h2
  rw [if_neg (fun h => h ⟨k1, k2⟩)] at hr
  have n4 : ¬ (((((o.getD []).getD p default).k = 7 ∨ ((o.getD []).getD p default).k = 12) ∧ nameOk ((o.getD []).getD p default).tx = false) ∨ (((o.getD []).getD p default).k = 8 ∧ opsOf ((o.getD []).getD p default).tx = [])) := by
    rintro (⟨a, b⟩ | ⟨a, b⟩)
    · rw [h1 a] at b; cases b
    · exact h2 a b
  have nl : ((o.getD []).getD p default).names.length ≤ 1048576 := hx.2.1.1
  have hok : okS0 ((o.getD []).getD p default).nm := hx.2.1
  rw [← hL]
  clear hL
  refine zD8 (kend := fun I => kEndF I Tb [.tmp 4]) hI hF (sfOk (.cons ok41 (.cons ok25 (.cons ok1055 (.cons ok1056 (.cons ok90 (.cons ok1058' (.cons ok1060 (.cons ok12 .nil))))))))) TbOk (by exact fun Bk e s h => endF TbOk Bk e s h) (lv := lv1034) 0 (fun i : {i : Nat // i ≤ ((o.getD []).getD p default).names.length ∧ ∀ j, j < i → nameOk (((o.getD []).getD p default).names.getD j ⟨#[]⟩) = true} => [.d (encT o), .d (.int .i64 (p : Int)), .loc 0 5 0 0, .d (.int .i64 ((o.getD []).getD p default).k), .d (.int .i64 (i.1 : Int))]) (fun i : {i : Nat // i ≤ ((o.getD []).getD p default).names.length ∧ ∀ j, j < i → nameOk (((o.getD []).getD p default).names.getD j ⟨#[]⟩) = true} => [(0, some ⟨[.d (encN ((o.getD []).getD p default))], 5, 67, true, true⟩)]) (fun i : {i : Nat // i ≤ ((o.getD []).getD p default).names.length ∧ ∀ j, j < i → nameOk (((o.getD []).getD p default).names.getD j ⟨#[]⟩) = true} => ((o.getD []).getD p default).names.length - i.1) [0] (⟨0, by omega, fun j h => by omega⟩ : {i : Nat // i ≤ ((o.getD []).getD p default).names.length ∧ ∀ j, j < i → nameOk (((o.getD []).getD p default).names.getD j ⟨#[]⟩) = true}) (by rfl) (by rfl) ?_ ?_ fun i => ?_
  · rfl
  · rfl
  obtain ⟨i, hi1, hi2⟩ := i
  refine zD7 fun C hC => ?_
  generalize hgen0 : encT o = gen0
  generalize hgen1 : DV.int .i64 (p : Int) = gen1
  generalize hgen2 : encN ((o.getD []).getD p default) = gen2
  generalize hgen3 : DV.int .i64 ((o.getD []).getD p default).k = gen3
  generalize hgen4 : DV.int .i64 (i : Int) = gen4
  generalize hgen5 : DV.int .i64 r = gen5
  cbv
  subst hgen0
  subst hgen1
  subst hgen2
  subst hgen3
  subst hgen4
  subst hgen5
  subst hC
  refine ⟨?_⟩
  simp (maxSteps := 3000000) only [hI, hF, std]
  have w3 := zE0 (n := i) (by omega)
  by_cases hlt : i < ((o.getD []).getD p default).names.length
  · have g1 := zH6 _ _ hlt
    simp only [smp, lookOk, lookRes, sfOf, sgOf, hOk, hRes, hOut, ↓reduceIte, Nat.reduceEqDiff, reduceCtorEq, zC2, zA2, zB6, zA5, zB4, zB5, zA4, zB3, zA3, zB2, zC1, zA1, zB1, zA0, zB0, zA9, zC6, zA6, zC5, zC0, zC4, zB8, zA7, zB7, zA8, zC9, zD1, zC8, zD0, zB9, zC3, zC7, e41, e25, e1055, e1056, e90, e1058', e1060, e12, e2, g1]
    simp [hlt, w3, - List.getD_eq_getElem?_getD]
    refine ⟨fun h => ?_, fun h => ⟨i + 1, by omega, ⟨by omega, fun j hj => ?_⟩, by omega⟩⟩
    · have hn := n1 (fun hn => by have := hn i hlt; rw [h] at this; cases this)
      rw [← hr, if_pos (by rw [hn]; omega), hn]
    · by_cases hji : j = i
      · subst hji; exact h
      · exact hi2 j (by omega)
  have hnames : NamesP ((o.getD []).getD p default).names := fun j hj => hi2 j (by omega)
  have hz := n3 hnames n4
  rw [if_neg (fun h => h hz)] at hr
  simp only [smp, lookOk, lookRes, sfOf, sgOf, hOk, hRes, hOut, ↓reduceIte, Nat.reduceEqDiff, reduceCtorEq, zC2, zA2, zB6, zA5, zB4, zB5, zA4, zB3, zA3, zB2, zC1, zA1, zB1, zA0, zB0, zA9, zC6, zA6, zC5, zC0, zC4, zB8, zA7, zB7, zA8, zC9, zD1, zC8, zD0, zB9, zC3, zC7, e41, e25, e1055, e1056, e90, e1058', e1060, e12, e2]
  have hn : ¬ (i : Int) < ((o.getD []).getD p default).names.length := by omega
  simp [hlt, hn, - List.getD_eq_getElem?_getD, zA9, zC6, zA6, zC5, zC0, zC4, zB8, zA7, zB7, zA8, zC9, zD1, zC8, zD0, zB9, zC3, zC7, hx, k1, k2]
  refine ⟨fun h => ?_, fun har => ?_⟩
  · rw [← hr, if_pos h]
  rw [if_neg (by rw [har]; exact fun h => nomatch h)] at hr
  unfold nodeE2 at hr
  have hfrm : FrmP (o.getD []) (p : Int) := ⟨⟨by omega, by omega⟩, by rw [Int.toNat_natCast]; exact hin, by
    rw [Int.toNat_natCast]
    intro ha hn
    have := asks_args ha har
    rw [hn] at this; simp at this⟩
  refine zD8 (kend := fun I => kEndF I Tb [.tmp 4]) hI hF (sfOk (.cons ok41 (.cons ok25 (.cons ok1055 (.cons ok1056 (.cons ok90 (.cons ok1058' (.cons ok1060 (.cons ok12 .nil))))))))) TbOk (by exact fun Bk e s h => endF TbOk Bk e s h) (lv := lv1034) 1 (fun i : {i : Nat // i ≤ ((o.getD []).getD p default).names.length ∧ ∀ a b, a < i → b < a → ((o.getD []).getD p default).names.getD b ⟨#[]⟩ ≠ ((o.getD []).getD p default).names.getD a ⟨#[]⟩} => [.d (encT o), .d (.int .i64 (p : Int)), .loc 0 5 0 0, .d (.int .i64 ((o.getD []).getD p default).k), .d (.int .i64 (i.1 : Int))]) (fun i : {i : Nat // i ≤ ((o.getD []).getD p default).names.length ∧ ∀ a b, a < i → b < a → ((o.getD []).getD p default).names.getD b ⟨#[]⟩ ≠ ((o.getD []).getD p default).names.getD a ⟨#[]⟩} => [(0, some ⟨[.d (encN ((o.getD []).getD p default))], 5, 67, true, true⟩)]) (fun i : {i : Nat // i ≤ ((o.getD []).getD p default).names.length ∧ ∀ a b, a < i → b < a → ((o.getD []).getD p default).names.getD b ⟨#[]⟩ ≠ ((o.getD []).getD p default).names.getD a ⟨#[]⟩} => ((o.getD []).getD p default).names.length - i.1) [0] (⟨0, by omega, fun a b h => by omega⟩ : {i : Nat // i ≤ ((o.getD []).getD p default).names.length ∧ ∀ a b, a < i → b < a → ((o.getD []).getD p default).names.getD b ⟨#[]⟩ ≠ ((o.getD []).getD p default).names.getD a ⟨#[]⟩}) (by rfl) (by rfl) ?_ ?_ fun i => ?_
  · rfl
  · rfl
  clear hlt w3 hn
  obtain ⟨m, hm1, hm2⟩ := i
  refine zD7 fun C hC => ?_
  generalize hgen0 : encT o = gen0
  generalize hgen1 : DV.int .i64 (p : Int) = gen1
  generalize hgen2 : encN ((o.getD []).getD p default) = gen2
  generalize hgen3 : DV.int .i64 ((o.getD []).getD p default).k = gen3
  generalize hgen4 : DV.int .i64 (m : Int) = gen4
  generalize hgen5 : DV.int .i64 r = gen5
  cbv
  subst hgen0
  subst hgen1
  subst hgen2
  subst hgen3
  subst hgen4
  subst hgen5
  subst hC
  refine ⟨?_⟩
  simp (maxSteps := 3000000) only [hI, hF, std]
  have w3 := zE0 (n := m) (by omega)
  by_cases hlt : m < ((o.getD []).getD p default).names.length
  · have g1 := zH6 _ _ hlt
    simp only [smp, lookOk, lookRes, sfOf, sgOf, hOk, hRes, hOut, ↓reduceIte, Nat.reduceEqDiff, reduceCtorEq, zC2, zA2, zB6, zA5, zB4, zB5, zA4, zB3, zA3, zB2, zC1, zA1, zB1, zA0, zB0, zA9, zC6, zA6, zC5, zC0, zC4, zB8, zA7, zB7, zA8, zC9, zD1, zC8, zD0, zB9, zC3, zC7, e41, e25, e1055, e1056, e90, e1058', e1060, e12, e2, g1]
    simp [hlt, w3, - List.getD_eq_getElem?_getD, hok, zC2, zA2, zB6, zA5, zB4, zB5, zA4, zB3, zA3, zB2, zC1, zA1, zB1, zA0, zB0]
    have hself := idxS_self hlt
    refine ⟨fun h => ?_, fun h => ⟨m + 1, by omega, ⟨by omega, fun a b ha hb => ?_⟩, by omega⟩⟩
    · have hd : DoubleP ((o.getD []).getD p default).names := by
        by_cases hd : ∃ j, j < m ∧ ((o.getD []).getD p default).names.getD j ⟨#[]⟩ = ((o.getD []).getD p default).names.getD m ⟨#[]⟩
        · obtain ⟨j, h1, h2⟩ := hd; exact ⟨m, j, h1, hlt, h2⟩
        · exact absurd (hself.2 fun j hj he => hd ⟨j, hj, he⟩) h
      rw [← hr, if_pos hd]
    · by_cases ham : a = m
      · subst ham; exact hself.1 h b hb
      · exact hm2 a b (by omega) hb
  have hdbl : ¬ DoubleP ((o.getD []).getD p default).names := fun ⟨a, b, h1, h2, h3⟩ => hm2 a b (by omega) h1 h3
  rw [if_neg hdbl] at hr
  simp only [smp, lookOk, lookRes, sfOf, sgOf, hOk, hRes, hOut, ↓reduceIte, Nat.reduceEqDiff, reduceCtorEq, zC2, zA2, zB6, zA5, zB4, zB5, zA4, zB3, zA3, zB2, zC1, zA1, zB1, zA0, zB0, zA9, zC6, zA6, zC5, zC0, zC4, zB8, zA7, zB7, zA8, zC9, zD1, zC8, zD0, zB9, zC3, zC7, e41, e25, e1055, e1056, e90, e1058', e1060, e12, e, e2]
  have hn : ¬ (m : Int) < ((o.getD []).getD p default).names.length := by omega
  simp [hlt, hn, - List.getD_eq_getElem?_getD, zC2, zA2, zB6, zA5, zB4, zB5, zA4, zB3, zA3, zB2, zC1, zA1, zB1, zA0, zB0, zA9, zC6, zA6, zC5, zC0, zC4, zB8, zA7, zB7, zA8, zC9, zD1, zC8, zD0, zB9, zC3, zC7, ho, hfrm, hx, litV_ok hx, e, e2]
  refine ⟨fun h => ?_, fun h => ⟨fun _ k6 => ⟨⟨k1, k6⟩, fun hv => ?_, fun hv => ⟨fun h4 => ?_, fun h4 h5 => ?_⟩⟩, fun k6 => ⟨fun h4 => ?_, fun h4 h5 => ?_⟩⟩⟩
  · rw [← hr, if_pos h, frmE_05 _ _ h]
  · rw [← hr, if_neg (fun h' => h' h), if_pos k6]
  · exfalso; omega
  · rw [← hr, if_neg (fun h' => h' h), if_pos k6, hv]
  · have k6 := k6 k1
    rw [← hr, if_neg (fun h' => h' h), if_neg (by omega), if_pos (by omega)]
  · have k6 := k6 k1
    rw [← hr, if_neg (fun h' => h' h), if_neg (by omega), if_neg (by omega)]
theorem pc1034' (o : Option (List Nd)) (i : Int) (ho : okT o) (h : (0 ≤ i ∧ i < (o.getD []).length) ∧ InT (o.getD []).length ((o.getD []).getD i.toNat default).args) : PureCall Tryz.prog [0] 34 [encT o, .int .i64 i] (dRet (.int .i64 (nodeE (o.getD []) i.toNat))) := by
  obtain ⟨⟨h1, h2⟩, h3⟩ := h
  obtain ⟨n, rfl⟩ := Int.eq_ofNat_of_zero_le h1
  have := pc1034 o n ho (by omega) h3
  simpa using this
open Classical in
noncomputable def e1034' : Ent := ⟨34, fun | [d_o, .int .i64 i] => decide (isT d_o ∧ (0 ≤ i ∧ i < ((toT d_o).getD []).length) ∧ InT ((toT d_o).getD []).length (((toT d_o).getD []).getD i.toNat default).args) | _ => false, fun | [d_o, .int .i64 i] => .int .i64 (nodeE ((toT d_o).getD []) i.toNat) | _ => .inil⟩
open Classical in
theorem ok1034' : EntOk Tryz.prog [0] e1034' := fun ds h => by
  unfold e1034' at h ⊢
  simp only at h ⊢
  split at h
  · rw [decide_eq_true_iff] at h
    obtain ⟨⟨v0, rfl, k0⟩, kx⟩ := h
    simp only [zB2, zA1, zA0, zB9, zC9, zC8] at kx ⊢
    exact pc1034' _ _ k0 kx
  · cases h
def lv1009 : Nat → List Nat × List Nat
  | 4 => ([0, 4], [])
  | _ => ([], [])
set_option maxHeartbeats 2000000 in
theorem pc1009 (o : Option (List Nd)) (ho : okT o) : PureCall Tryz.prog [0] 9 [encT o] (dRet (.tup [.int .i64 (checkE (o.getD [])).1, .int .i64 (checkE (o.getD [])).2])) := by
  have hl := ho.1
  generalize hr : checkE (o.getD []) = r
  refine zD2 mixed fn1009 (Nat.le_of_ble_eq_true rfl) (Nat.lt_of_succ_le (Nat.le_of_ble_eq_true rfl)) (sfOk (.cons ok1033 (.cons ok1034' .nil))) TbOk (lv := lv1009) fun I F hI hF => ?_
  refine zD7 fun C hC => ?_
  generalize hgen0 : encT o = gen0
  generalize hgen1 : DV.int .i64 r.1 = gen1
  generalize hgen2 : DV.int .i64 r.2 = gen2
  cbv
  subst hgen0
  subst hgen1
  subst hgen2
  subst hC
  refine ⟨?_⟩
  simp (maxSteps := 3000000) only [hI, hF, std]
  unfold checkE at hr
  simp only [smp, lookOk, lookRes, sfOf, sgOf, hOk, hRes, hOut, ↓reduceIte, Nat.reduceEqDiff, reduceCtorEq, zC2, zA2, zB6, zA5, zB4, zB5, zA4, zB3, zA3, zB2, zC1, zA1, zB1, zA0, zB0, zA9, zC6, zA6, zC5, zC0, zC4, zB8, zA7, zB7, zA8, zC9, zD1, zC8, zD0, zB9, zC3, zC7, e1033]
  simp [ho, zA9, zC6, zA6, zC5, zC0, zC4, zB8, zA7, zB7, zA8, zC9, zD1, zC8, zD0, zB9, zC3, zC7]
  refine ⟨fun h => ?_, fun h => ?_⟩
  · rw [← hr, if_neg (by rw [h]; simp)]; exact ⟨rfl, rfl⟩
  rw [if_pos h] at hr
  refine zD8 (kend := fun I => kEndF I Tb [.tmp 2, .tmp 3]) hI hF (sfOk (.cons ok1033 (.cons ok1034' .nil))) TbOk (by exact fun Bk e s h => endF TbOk Bk e s h) (lv := lv1009) 0 (fun i : {i : Nat // i ≤ (o.getD []).length ∧ chkF (o.getD []) ((o.getD []).length - i) i = r} => [.d (encT o), .d (.int .i64 (i.1 : Int))]) (fun i : {i : Nat // i ≤ (o.getD []).length ∧ chkF (o.getD []) ((o.getD []).length - i) i = r} => []) (fun i : {i : Nat // i ≤ (o.getD []).length ∧ chkF (o.getD []) ((o.getD []).length - i) i = r} => (o.getD []).length - i.1) [] (⟨0, by omega, hr⟩ : {i : Nat // i ≤ (o.getD []).length ∧ chkF (o.getD []) ((o.getD []).length - i) i = r}) (by rfl) (by rfl) ?_ ?_ fun i => ?_
  · simp
  · rfl
  obtain ⟨i, hi1, hi2⟩ := i
  refine zD7 fun C hC => ?_
  generalize hgen0 : encT o = gen0
  generalize hgen1 : DV.int .i64 (i : Int) = gen1
  generalize hgen2 : DV.int .i64 r.1 = gen2
  generalize hgen3 : DV.int .i64 r.2 = gen3
  cbv
  subst hgen0
  subst hgen1
  subst hgen2
  subst hgen3
  subst hC
  refine ⟨?_⟩
  simp (maxSteps := 3000000) only [hI, hF, std]
  have w3 := zE0 (n := i) (by omega)
  by_cases hlt : i < (o.getD []).length
  · have hlow := isTerm_low h i hlt
    simp only [smp, lookOk, lookRes, sfOf, sgOf, hOk, hRes, hOut, ↓reduceIte, Nat.reduceEqDiff, reduceCtorEq, zC2, zA2, zB6, zA5, zB4, zB5, zA4, zB3, zA3, zB2, zC1, zA1, zB1, zA0, zB0, zA9, zC6, zA6, zC5, zC0, zC4, zB8, zA7, zB7, zA8, zC9, zD1, zC8, zD0, zB9, zC3, zC7, e1033, e1034']
    simp [hlt, w3, - List.getD_eq_getElem?_getD, zA9, zC6, zA6, zC5, zC0, zC4, zB8, zA7, zB7, zA8, zC9, zD1, zC8, zD0, zB9, zC3, zC7, ho, hlow]
    rw [show (o.getD []).length - i = ((o.getD []).length - (i + 1)) + 1 from by omega, chkF] at hi2
    refine ⟨fun h => ?_, fun h => ⟨i + 1, by omega, ⟨by omega, ?_⟩, by omega⟩⟩
    · rw [if_pos h] at hi2; rw [← hi2]; exact ⟨rfl, rfl⟩
    · rw [if_neg (fun hh => hh h)] at hi2; exact hi2
  · simp only [smp, lookOk, lookRes, sfOf, sgOf, hOk, hRes, hOut, ↓reduceIte, Nat.reduceEqDiff, reduceCtorEq, zC2, zA2, zB6, zA5, zB4, zB5, zA4, zB3, zA3, zB2, zC1, zA1, zB1, zA0, zB0, zA9, zC6, zA6, zC5, zC0, zC4, zB8, zA7, zB7, zA8, zC9, zD1, zC8, zD0, zB9, zC3, zC7, e1033, e1034']
    simp [hlt, - List.getD_eq_getElem?_getD]
    rw [show (o.getD []).length - i = 0 from by omega, chkF] at hi2
    rw [← hi2]; exact ⟨rfl, rfl⟩
open Classical in
noncomputable def e1009 : Ent := ⟨9, fun | [d_o] => decide (isT d_o) | _ => false, fun | [d_o] => .tup [.int .i64 (checkE ((toT d_o).getD [])).1, .int .i64 (checkE ((toT d_o).getD [])).2] | _ => .inil⟩
open Classical in
theorem ok1009 : EntOk Tryz.prog [0] e1009 := fun ds h => by
  unfold e1009 at h ⊢
  simp only at h ⊢
  split at h
  · rw [decide_eq_true_iff] at h
    obtain ⟨v0, rfl, k0⟩ := h
    simp only [zB2, zA1, zA0, zB9, zC9, zC8]
    exact pc1009 _ k0
  · cases h
end Go.Proofs.Sx

set_option linter.unusedVariables false
set_option linter.unusedSimpArgs false
set_option maxRecDepth 100000
namespace Go.Proofs.Sx
open Go Go.Proofs Go.Proofs.Am 
variable {gs : List Nat}

def lookT (s : ByteArray) (n : Int) : Option (ByteArray × Int × Ru × ByteArray) := opTab.find? fun p => decide (p.1 = s) && decide (p.2.1 = n)
theorem lookT_mem {s : ByteArray} {n : Int} {p : ByteArray × Int × Ru × ByteArray} (h : lookT s n = some p) : p ∈ opTab ∧ p.1 = s ∧ p.2.1 = n := by
  have h1 := List.mem_of_find?_eq_some h
  have h2 := List.find?_some h
  simp only [Bool.and_eq_true, decide_eq_true_eq] at h2
  exact ⟨h1, h2.1, h2.2⟩
def wantW (s : ByteArray) (n : Int) : ByteArray := match lookT s n with | some p => p.2.2.2 | none => ⟨#[]⟩
theorem pc1092 (s : ByteArray) (n : Int) (h : (lookT s n).isSome = true) : PureCall Tryz.prog [0] 92 [.str s, .int .i64 n] (dRet (.str (wantW s n))) := by
  obtain ⟨p, hp⟩ := Option.isSome_iff_exists.1 h
  obtain ⟨h1, h2, h3⟩ := lookT_mem hp
  have := List.map_inj_left.1 run1092 p h1
  simp only [h2, h3] at this
  unfold wantW
  rw [hp]
  exact pure_of_run mixed primsOk 100 100 this
open Classical in
noncomputable def e1092 : Ent := ⟨92, fun | [.str s, .int .i64 n] => decide ((lookT s n).isSome = true) | _ => false, fun | [.str s, .int .i64 n] => .str (wantW s n) | _ => .inil⟩
open Classical in
theorem ok1092 : EntOk Tryz.prog [0] e1092 := fun ds h => by
  unfold e1092 at h ⊢
  simp only at h ⊢
  split at h
  · exact pc1092 _ _ (of_decide_eq_true h)
  · cases h
/-- The table is in order: so many wants as operands, the same by letters, the same alike. -/
theorem tab_ok : (opTab.all fun p => decide (p.2.2.2.size = p.2.1) && decide (p.2.2.1.wants.take p.2.1.toNat = p.2.2.2.data.toList.map fun c => charL (c.toNat : Int)) && decide (p.2.2.1.alike = alikeS p.1)) = true := by kernel_rfl
def encS81 (o : Option (List Int)) : DV := .agg [encIs o]
theorem cells_81 (o : Option (List Int)) : (encS81 o).cells = [encIs o] := rfl
theorem isAgg_81 (o : Option (List Int)) : dIsAgg (encS81 o) = true := rfl
theorem dlV_81 (o : Option (List Int)) : dlV 1 false (encS81 o) 0 = encIs o := rfl
theorem agg_81 (o : Option (List Int)) : DV.agg [encIs o] = encS81 o := rfl
theorem encS81_inj {a b : Option (List Int)} (h : encS81 a = encS81 b) : a = b := by
  simp only [encS81, DV.agg.injEq, List.cons.injEq, and_true] at h
  exact encIs_inj h
def isS81 (d : DV) : Prop := ∃ o, d = encS81 o ∧ okIs o
open Classical in
noncomputable def toS81 (d : DV) : Option (List Int) := if h : ∃ v, d = encS81 v then Classical.choose h else none
theorem toS81_enc (v : Option (List Int)) : toS81 (encS81 v) = v := by
  have h : ∃ w, encS81 v = encS81 w := ⟨v, rfl⟩
  unfold toS81
  rw [dif_pos h]
  exact encS81_inj (Classical.choose_spec h).symm
theorem isS81_enc (v : Option (List Int)) : isS81 (encS81 v) = okIs v := by
  apply propext
  constructor
  · rintro ⟨w, h1, h2⟩; rw [encS81_inj h1]; exact h2
  · intro h; exact ⟨v, rfl, h⟩
theorem find_size {s : ByteArray} {n : Nat} (h : (lookT s n).isSome = true) : (wantW s n).size = n := by
  obtain ⟨p, hp⟩ := Option.isSome_iff_exists.1 h
  obtain ⟨h1, h2, h3⟩ := lookT_mem hp
  have := List.all_eq_true.1 tab_ok p h1
  simp only [Bool.and_eq_true, decide_eq_true_eq] at this
  have h4 := this.1.1
  unfold wantW; rw [hp]
  simp only
  omega
def mayB (k c : Int) : Bool := decide (k = -1) || isOfK k c
/-- Do all operands have kinds that they may have? -/
def okW (wk : List Int) (w : ByteArray) : Prop := ∀ j, j < wk.length → mayB (wk.getD j 0) (byt w j) = true
/-- Are operands that must be alike alike? -/
def okA (wk : List Int) (o : Option (List Int)) : Prop := match o with
  | none => True
  | some l => wk.getD (l.getD 0 0).toNat 0 = -1 ∨ wk.getD (l.getD 1 0).toNat 0 = -1 ∨ wk.getD (l.getD 0 0).toNat 0 = wk.getD (l.getD 1 0).toNat 0
open Classical in
/-- The kind of an operator's value. -/
noncomputable def appS (t : List Nd) (x : Nd) (ks wk : List Int) : Int × Int :=
  if asksS x = true then
    (if ks.getD ((t.getD (x.args.getD 0 0).toNat default).args.getD 0 0).toNat 0 ≠ -1 ∧ ks.getD ((t.getD (x.args.getD 0 0).toNat default).args.getD 0 0).toNat 0 ≠ (if x.tx = wIsc then 12 else 9) then (0, 17) else (1, 0))
  else if ¬ okW wk (wantW x.tx wk.length) then (0, 17) else if ¬ okA wk (alikeS x.tx) then (0, 17) else (resK x.tx wk, 0)
/-- What is known when an operator's value is asked for. -/
structure AppP (t : List Nd) (wk ks : List Int) : Prop where
  ib : ks.length < t.length
  k8 : (t.getD ks.length default).k = 8
  av : asksS (t.getD ks.length default) = true → 0 < (t.getD ks.length default).args.length ∧ 0 ≤ (t.getD ks.length default).args.getD 0 0 ∧ (t.getD ks.length default).args.getD 0 0 < t.length ∧
    0 < (t.getD ((t.getD ks.length default).args.getD 0 0).toNat default).args.length ∧ 0 ≤ (t.getD ((t.getD ks.length default).args.getD 0 0).toNat default).args.getD 0 0 ∧ (t.getD ((t.getD ks.length default).args.getD 0 0).toNat default).args.getD 0 0 < ks.length
  na : asksS (t.getD ks.length default) = false → (lookT (t.getD ks.length default).tx wk.length).isSome = true ∧ 0 < wk.length ∧ (∀ l, alikeS (t.getD ks.length default).tx = some l → l.length = 2 ∧ 0 ≤ l.getD 0 0 ∧ l.getD 0 0 < wk.length ∧ 0 ≤ l.getD 1 0 ∧ l.getD 1 0 < wk.length)
def lv1064 : Nat → List Nat × List Nat
  | 12 => ([1, 8, 11, 12], [1])
  | _ => ([], [])
set_option maxHeartbeats 4000000 in
theorem pc1064 (o : Option (List Nd)) (wo ko : Option (List Int)) (ho : okT o) (hw : okIs wo) (hk : okIs ko) (hP : AppP (o.getD []) (wo.getD []) (ko.getD [])) :
    PureCall Tryz.prog [0] 64 [encT o, encIs wo, encS81 ko] (dRet (.tup [.int .i64 (appS (o.getD []) ((o.getD []).getD (ko.getD []).length default) (ko.getD []) (wo.getD [])).1, .int .i64 (appS (o.getD []) ((o.getD []).getD (ko.getD []).length default) (ko.getD []) (wo.getD [])).2])) := by
  generalize hr : appS (o.getD []) ((o.getD []).getD (ko.getD []).length default) (ko.getD []) (wo.getD []) = r
  have hl := ho.1
  have hi := hP.ib
  have hx := zH5 ho hi
  have hg := zF7 _ _ hi
  have e : ((o.getD []).getD (ko.getD []).length default).ar.getD [] = ((o.getD []).getD (ko.getD []).length default).args := rfl
  refine zD2 mixed fn1064 (Nat.le_of_ble_eq_true rfl) (Nat.lt_of_succ_le (Nat.le_of_ble_eq_true rfl)) (sfOk (.cons ok1092 (.cons ok1063 (.cons ok1093 (.cons ok1094 .nil))))) TbOk (lv := lv1064) fun I F hI hF => ?_
  refine zD7 fun C hC => ?_
  generalize hgen0 : encT o = gen0
  generalize hgen1 : encIs wo = gen1
  generalize hgen2 : encS81 ko = gen2
  generalize hgen3 : DV.int .i64 r.1 = gen3
  generalize hgen4 : DV.int .i64 r.2 = gen4
  cbv
  subst hgen0
  subst hgen1
  subst hgen2
  subst hgen3
  subst hgen4
  subst hC
  refine ⟨?_⟩
  simp (maxSteps := 3000000) only [hI, hF, std]
  have ht0 : ((((ko.getD []).length : Nat) : Int)).toNat = (ko.getD []).length := Int.toNat_natCast _
  simp only [smp, lookOk, lookRes, sfOf, sgOf, hOk, hRes, hOut, ↓reduceIte, Nat.reduceEqDiff, reduceCtorEq, zC2, zA2, zB6, zA5, zB4, zB5, zA4, zB3, zA3, zB2, zC1, zA1, zB1, zA0, zB0, zA9, zC6, zA6, zC5, zC0, zC4, zB8, zA7, zB7, zA8, zC9, zD1, zC8, zD0, zB9, zC3, zC7, cells_81, isAgg_81, agg_81, dlV_81, e1092]
  simp [- List.getD_eq_getElem?_getD, hi, hg, e, zA9, zC6, zA6, zC5, zC0, zC4, zB8, zA7, zB7, zA8, zC9, zD1, zC8, zD0, zB9, zC3, zC7]
  rcases Bool.eq_false_or_eq_true (asksS ((o.getD []).getD (ko.getD []).length default)) with hA | hA
  · obtain ⟨a1, a2, a3, a4, a5, a6⟩ := hP.av hA
    have g0 := zE9 _ _ a1
    have hlt0 : (((o.getD []).getD (ko.getD []).length default).args.getD 0 0).toNat < (o.getD []).length := (Int.toNat_lt a2).2 a3
    have g1 := zF7 _ _ hlt0
    have e1 : ((o.getD []).getD (((o.getD []).getD (ko.getD []).length default).args.getD 0 0).toNat default).ar.getD [] = ((o.getD []).getD (((o.getD []).getD (ko.getD []).length default).args.getD 0 0).toNat default).args := rfl
    have g2 := zE9 _ _ a4
    have hlt1 : (((o.getD []).getD (((o.getD []).getD (ko.getD []).length default).args.getD 0 0).toNat default).args.getD 0 0).toNat < (ko.getD []).length := (Int.toNat_lt a5).2 a6
    have g3 := zE9 _ _ hlt1
    simp only [smp, lookOk, lookRes, sfOf, sgOf, hOk, hRes, hOut, ↓reduceIte, Nat.reduceEqDiff, reduceCtorEq, zC2, zA2, zB6, zA5, zB4, zB5, zA4, zB3, zA3, zB2, zC1, zA1, zB1, zA0, zB0, zA9, zC6, zA6, zC5, zC0, zC4, zB8, zA7, zB7, zA8, zC9, zD1, zC8, zD0, zB9, zC3, zC7, hg, e, g0, g1, e1, g2, g3]
    simp [- List.getD_eq_getElem?_getD, hi, hg, e, zA9, zC6, zA6, zC5, zC0, zC4, zB8, zA7, zB7, zA8, zC9, zD1, zC8, zD0, zB9, zC3, zC7, g0, g1, e1, g2, g3, a1, a2, a3, a4, a5, a6]
    try simp only [smp, lookOk, lookRes, sfOf, sgOf, hOk, hRes, hOut, ↓reduceIte, Nat.reduceEqDiff, reduceCtorEq, zC2, zA2, zB6, zA5, zB4, zB5, zA4, zB3, zA3, zB2, zC1, zA1, zB1, zA0, zB0, zA9, zC6, zA6, zC5, zC0, zC4, zB8, zA7, zB7, zA8, zC9, zD1, zC8, zD0, zB9, zC3, zC7, hg, e, g0, g1, e1, g2, g3]
    try simp [- List.getD_eq_getElem?_getD, hi, hg, e, zA9, zC6, zA6, zC5, zC0, zC4, zB8, zA7, zB7, zA8, zC9, zD1, zC8, zD0, zB9, zC3, zC7, g0, g1, e1, g2, g3, a1, a2, a3, a4, a5, a6]
    unfold appS at hr
    rw [if_pos hA] at hr
    refine ⟨fun ht => ⟨fun hc => ⟨fun c1 c2 => ?_, fun c => ?_⟩, fun hc => ⟨fun c1 c2 => ?_, fun c => ?_⟩⟩, fun n1 n2 => ?_⟩
    · have hc : ((o.getD []).getD (ko.getD []).length default).tx = wIsc := hc
      rw [if_pos hc, if_pos ⟨c1, c2⟩] at hr; rw [← hr]; exact ⟨rfl, rfl⟩
    · have hc : ((o.getD []).getD (ko.getD []).length default).tx = wIsc := hc
      rw [if_pos hc, if_neg (fun h => h.2 (c h.1))] at hr; rw [← hr]; exact ⟨rfl, rfl⟩
    · have hc : ¬ ((o.getD []).getD (ko.getD []).length default).tx = wIsc := hc
      rw [if_neg hc, if_pos ⟨c1, c2⟩] at hr; rw [← hr]; exact ⟨rfl, rfl⟩
    · have hc : ¬ ((o.getD []).getD (ko.getD []).length default).tx = wIsc := hc
      rw [if_neg hc, if_neg (fun h => h.2 (c h.1))] at hr; rw [← hr]; exact ⟨rfl, rfl⟩
    · exfalso
      simp only [asksS, Bool.and_eq_true, Bool.or_eq_true] at hA
      rcases hA.2 with h | h
      · exact n1 (of_decide_eq_true h)
      · exact n2 (of_decide_eq_true h)
  · obtain ⟨b1, b2, b3⟩ := hP.na hA
    have hA2 : ¬ ((o.getD []).getD (ko.getD []).length default).tx = wIsp ∧ ¬ ((o.getD []).getD (ko.getD []).length default).tx = wIsc := by
      constructor
      · intro h; unfold asksS at hA; rw [hP.k8, h] at hA; simp at hA
      · intro h; unfold asksS at hA; rw [hP.k8, h] at hA; simp at hA
    have n1 : ¬ ((o.getD []).getD (ko.getD []).length default).tx = ⟨⟨[105, 115, 112, 114, 101, 115, 101, 110, 116]⟩⟩ := hA2.1
    have n2 : ¬ ((o.getD []).getD (ko.getD []).length default).tx = ⟨⟨[105, 115, 99, 104, 111, 115, 101, 110]⟩⟩ := hA2.2
    simp only [smp, lookOk, lookRes, sfOf, sgOf, hOk, hRes, hOut, ↓reduceIte, Nat.reduceEqDiff, reduceCtorEq, zC2, zA2, zB6, zA5, zB4, zB5, zA4, zB3, zA3, zB2, zC1, zA1, zB1, zA0, zB0, zA9, zC6, zA6, zC5, zC0, zC4, zB8, zA7, zB7, zA8, zC9, zD1, zC8, zD0, zB9, zC3, zC7, hg, e]
    simp [- List.getD_eq_getElem?_getD, hi, hg, e, zA9, zC6, zA6, zC5, zC0, zC4, zB8, zA7, zB7, zA8, zC9, zD1, zC8, zD0, zB9, zC3, zC7, n1, n2, b1]
    have hwl : (wo.getD []).length ≤ 1048576 := hw
    have hsz := find_size b1
    unfold appS at hr
    rw [if_neg (by rw [hA]; exact fun h => nomatch h)] at hr
    generalize hW : wantW ((o.getD []).getD (ko.getD []).length default).tx ((wo.getD []).length : Int) = W at hr hsz ⊢
    refine zD8 (kend := fun I => kEndF I Tb [.tmp 6, .tmp 7]) hI hF (sfOk (.cons ok1092 (.cons ok1063 (.cons ok1093 (.cons ok1094 .nil))))) TbOk (by exact fun Bk e s h => endF TbOk Bk e s h) (lv := lv1064) 0 (fun i : {i : Nat // i ≤ (wo.getD []).length ∧ ∀ j, j < i → mayB ((wo.getD []).getD j 0) (byt W j) = true} => [.d (encIs wo), .loc 1 5 0 0, .d (.str W), .d (.int .i64 (i.1 : Int))]) (fun i : {i : Nat // i ≤ (wo.getD []).length ∧ ∀ j, j < i → mayB ((wo.getD []).getD j 0) (byt W j) = true} => [(1, some ⟨[.d (encN ((o.getD []).getD (ko.getD []).length default))], 5, 67, true, true⟩)]) (fun i : {i : Nat // i ≤ (wo.getD []).length ∧ ∀ j, j < i → mayB ((wo.getD []).getD j 0) (byt W j) = true} => (wo.getD []).length - i.1) [1] (⟨0, by omega, fun j h => by omega⟩ : {i : Nat // i ≤ (wo.getD []).length ∧ ∀ j, j < i → mayB ((wo.getD []).getD j 0) (byt W j) = true}) (by rfl) (by rfl) ?_ ?_ fun i => ?_
    · rfl
    · rfl
    obtain ⟨i, hi1, hi2⟩ := i
    refine zD7 fun C hC => ?_
    generalize hgen0 : encIs wo = gen0
    generalize hgen1 : encN ((o.getD []).getD (ko.getD []).length default) = gen1
    generalize hgen2 : DV.str W = gen2
    generalize hgen3 : DV.int .i64 (i : Int) = gen3
    generalize hgen4 : DV.int .i64 r.1 = gen4
    generalize hgen5 : DV.int .i64 r.2 = gen5
    cbv
    subst hgen0
    subst hgen1
    subst hgen2
    subst hgen3
    subst hgen4
    subst hgen5
    subst hC
    refine ⟨?_⟩
    simp (maxSteps := 3000000) only [hI, hF, std]
    have w3 := zE0 (n := i) (by omega)
    by_cases hlt : i < (wo.getD []).length
    · have g1 := zE9 _ _ hlt
      have hlw : i < W.size := by omega
      simp only [smp, lookOk, lookRes, sfOf, sgOf, hOk, hRes, hOut, ↓reduceIte, Nat.reduceEqDiff, reduceCtorEq, zC2, zA2, zB6, zA5, zB4, zB5, zA4, zB3, zA3, zB2, zC1, zA1, zB1, zA0, zB0, zA9, zC6, zA6, zC5, zC0, zC4, zB8, zA7, zB7, zA8, zC9, zD1, zC8, zD0, zB9, zC3, zC7, e1092, e1063, g1]
      simp [hlt, hlw, - List.getD_eq_getElem?_getD, w3]
      refine ⟨fun h1 h2 => ?_, fun h => ⟨i + 1, by omega, ⟨by omega, fun j hj => ?_⟩, by omega⟩⟩
      · have hno : ¬ okW (wo.getD []) W := fun hok => by
          have := hok i hlt
          unfold mayB at this
          rw [h2, decide_eq_false h1] at this
          cases this
        rw [if_pos hno] at hr; rw [← hr]; exact ⟨rfl, rfl⟩
      · by_cases hji : j = i
        · subst hji
          unfold mayB
          by_cases hk1 : (wo.getD []).getD j 0 = -1
          · rw [decide_eq_true hk1]; rfl
          · rw [h hk1, Bool.or_true]
        · exact hi2 j (by omega)
    · have hok : okW (wo.getD []) W := fun j hj => hi2 j (by omega)
      rw [if_neg (fun h => h hok)] at hr
      cases hal : alikeS ((o.getD []).getD (ko.getD []).length default).tx with
      | none =>
        rw [hal] at hr
        rw [if_neg (fun h => h trivial)] at hr
        simp only [smp, lookOk, lookRes, sfOf, sgOf, hOk, hRes, hOut, ↓reduceIte, Nat.reduceEqDiff, reduceCtorEq, zC2, zA2, zB6, zA5, zB4, zB5, zA4, zB3, zA3, zB2, zC1, zA1, zB1, zA0, zB0, zA9, zC6, zA6, zC5, zC0, zC4, zB8, zA7, zB7, zA8, zC9, zD1, zC8, zD0, zB9, zC3, zC7, e1092, e1063, e1093, e1094]
        simp [hlt, - List.getD_eq_getElem?_getD, zA9, zC6, zA6, zC5, zC0, zC4, zB8, zA7, zB7, zA8, zC9, zD1, zC8, zD0, zB9, zC3, zC7, hal]
        rw [← hr]; exact ⟨⟨hw, b2⟩, rfl, rfl⟩
      | some l =>
        obtain ⟨c1, c2, c3, c4, c5⟩ := b3 l hal
        match l, c1 with
        | [a, b], _ =>
        have c2 : 0 ≤ a := c2
        have c3 : a < ((wo.getD []).length : Int) := c3
        have c4 : 0 ≤ b := c4
        have c5 : b < ((wo.getD []).length : Int) := c5
        have ga := zE9 (wo.getD []) a.toNat ((Int.toNat_lt c2).2 c3)
        have gb := zE9 (wo.getD []) b.toNat ((Int.toNat_lt c4).2 c5)
        rw [hal] at hr
        simp only [smp, lookOk, lookRes, sfOf, sgOf, hOk, hRes, hOut, ↓reduceIte, Nat.reduceEqDiff, reduceCtorEq, zC2, zA2, zB6, zA5, zB4, zB5, zA4, zB3, zA3, zB2, zC1, zA1, zB1, zA0, zB0, zA9, zC6, zA6, zC5, zC0, zC4, zB8, zA7, zB7, zA8, zC9, zD1, zC8, zD0, zB9, zC3, zC7, e1092, e1063, e1093, e1094]
        simp [hlt, - List.getD_eq_getElem?_getD, zA9, zC6, zA6, zC5, zC0, zC4, zB8, zA7, zB7, zA8, zC9, zD1, zC8, zD0, zB9, zC3, zC7, hal, c2, c3, c4, c5, ga, gb]
        simp only [smp, lookOk, lookRes, sfOf, sgOf, hOk, hRes, hOut, ↓reduceIte, Nat.reduceEqDiff, reduceCtorEq, zC2, zA2, zB6, zA5, zB4, zB5, zA4, zB3, zA3, zB2, zC1, zA1, zB1, zA0, zB0, zA9, zC6, zA6, zC5, zC0, zC4, zB8, zA7, zB7, zA8, zC9, zD1, zC8, zD0, zB9, zC3, zC7, ga, gb]
        simp [hlt, - List.getD_eq_getElem?_getD, zA9, zC6, zA6, zC5, zC0, zC4, zB8, zA7, zB7, zA8, zC9, zD1, zC8, zD0, zB9, zC3, zC7, hal, c2, c3, c4, c5, ga, gb]
        have yes : ((wo.getD []).getD a.toNat 0 = -1 ∨ (wo.getD []).getD b.toNat 0 = -1 ∨ (wo.getD []).getD a.toNat 0 = (wo.getD []).getD b.toNat 0) → (okIs wo ∧ 0 < (wo.getD []).length) ∧ resK ((o.getD []).getD (ko.getD []).length default).tx (wo.getD []) = r.fst ∧ 0 = r.snd := fun h => by
          rw [if_neg (fun hn => hn h)] at hr
          rw [← hr]; exact ⟨⟨hw, b2⟩, rfl, rfl⟩
        refine ⟨fun h1 => ⟨fun h2 => ⟨fun h3 => ?_, fun h3 => yes (.inr (.inr h3))⟩, fun h2 => yes (.inr (.inl h2))⟩, fun h1 => yes (.inl h1)⟩
        rw [if_pos (fun hn => by
          have hn : (wo.getD []).getD a.toNat 0 = -1 ∨ (wo.getD []).getD b.toNat 0 = -1 ∨ (wo.getD []).getD a.toNat 0 = (wo.getD []).getD b.toNat 0 := hn
          rcases hn with hn | hn | hn
          · exact h1 hn
          · exact h2 hn
          · exact h3 hn)] at hr
        rw [← hr]; exact ⟨rfl, rfl⟩
open Classical in
noncomputable def e1064 : Ent := ⟨64, fun | [d_o, d_wo, d_ko] => decide (isT d_o ∧ isIs d_wo ∧ isS81 d_ko ∧ AppP ((toT d_o).getD []) ((toIs d_wo).getD []) ((toS81 d_ko).getD [])) | _ => false, fun | [d_o, d_wo, d_ko] => .tup [.int .i64 (appS ((toT d_o).getD []) (((toT d_o).getD []).getD ((toS81 d_ko).getD []).length default) ((toS81 d_ko).getD []) ((toIs d_wo).getD [])).1, .int .i64 (appS ((toT d_o).getD []) (((toT d_o).getD []).getD ((toS81 d_ko).getD []).length default) ((toS81 d_ko).getD []) ((toIs d_wo).getD [])).2] | _ => .inil⟩
open Classical in
theorem ok1064 : EntOk Tryz.prog [0] e1064 := fun ds h => by
  unfold e1064 at h ⊢
  simp only at h ⊢
  split at h
  · rw [decide_eq_true_iff] at h
    obtain ⟨⟨v0, rfl, k0⟩, ⟨v1, rfl, k1⟩, ⟨v2, rfl, k2⟩, kx⟩ := h
    simp only [zB2, zA1, zA0, zB9, zC9, zC8, toS81_enc] at kx ⊢
    exact pc1064 _ _ _ k0 k1 k2 kx
  · cases h
end Go.Proofs.Sx

set_option linter.unusedVariables false
set_option linter.unusedSimpArgs false
set_option maxRecDepth 100000
namespace Go.Proofs.Sx
open Go Go.Proofs Go.Proofs.Am 
variable {gs : List Nat}

def TbKT : BT := (.node 1000000 ⟨none, .other, [], none⟩ .nil (.node 2000064 ⟨none, .other, [], none⟩ .nil .nil))
def TbK : Nat → Option TRow := orT TbKT.get Tb
theorem TbKOk : TabOk Tryz.prog TbK := tabOk_or (tabOk_tree (by kernel_rfl)) TbOk
/-- The kind of a name. -/
def nameK (ns : List Kn) (s : ByteArray) : Int := if idxG (fun k => decide (k.nm = s)) ns < 0 then -1 else (ns.getD (idxG (fun k => decide (k.nm = s)) ns).toNat default).kd
open Classical in
/-- The kind of a node whose operands have these kinds. -/
noncomputable def kindS (ns : List Kn) (t : List Nd) (ks wk : List Int) (x : Nd) : Int × Int :=
  if x.k = 7 then (nameK ns x.tx, 0) else if x.k = 9 then (9, 0) else if x.k = 10 then (10, 0) else if x.k = 11 then (12, 0) else if x.k = 14 then (-1, 0)
  else if x.k = 12 then (if wk.getD 0 0 ≠ -1 ∧ wk.getD 0 0 ≠ 9 ∧ wk.getD 0 0 ≠ 12 then (0, 17) else (-1, 0))
  else if x.k = 13 then (if mayB (wk.getD 0 0) 108 = false ∨ mayB (wk.getD 1 0) 105 = false then (0, 17) else if 4 ≤ wk.getD 0 0 ∧ wk.getD 0 0 ≤ 6 then (wk.getD 0 0, 0) else (-1, 0))
  else if x.k = 8 then appS t x ks wk else ((litV x).k, 0)
def opK (ks : List Int) (x : Nd) : List Int := x.args.map fun a => ks.getD a.toNat 0
/-- What is known when the kind of a node is asked for. -/
structure KinP (t : List Nd) (ks : List Int) : Prop where
  ib : ks.length < t.length
  kk : 0 ≤ (t.getD ks.length default).k ∧ (t.getD ks.length default).k ≤ 14
  ar : InT ks.length (t.getD ks.length default).args
  a12 : (t.getD ks.length default).k = 12 → 0 < (t.getD ks.length default).args.length
  a13 : (t.getD ks.length default).k = 13 → 1 < (t.getD ks.length default).args.length
  a8 : (t.getD ks.length default).k = 8 → AppP t (opK ks (t.getD ks.length default)) ks
  n8 : (t.getD ks.length default).k = 8 → 0 < (t.getD ks.length default).args.length
theorem rowF_acc (l : List Int) {n : Nat} (h : l.length = n) : rowF (accL l) 0 n = encIs (some l) := by
  unfold accL
  rw [rowF_map, List.drop_zero, List.take_of_length_le (by simp; omega)]; rfl
theorem rowOkF_acc (l : List Int) {n : Nat} (h : l.length = n) (hn : n ≤ 1048576) : rowOkF (accL l) 0 n = true := by
  unfold accL
  rw [rowOkF_map]
  exact dec_true ⟨by simp; omega, by unfold big; omega⟩
def accAt (b es : Nat) : Bool → Nat → AV
  | false, _ => .d .snil
  | true, n => .slc b es 0 n
def lv1036 : Nat → List Nat × List Nat
  | 4 => ([0, 1, 5, 8, 9, 10], [0, 1, 10009])
  | 10 => ([0, 8, 11], [1])
  | 999999 => ([7], [])
  | _ => ([], [])
def lv1036b : Nat → List Nat × List Nat
  | 10 => ([0, 8, 11], [1])
  | 999999 => ([24, 28, 34], [])
  | _ => ([], [])
def lv1036c : Nat → List Nat × List Nat
  | 10 => ([0, 8, 11], [1])
  | _ => ([], [])
def wkI (ks args : List Int) (i : Nat) : List Int := (args.take i).map fun a => ks.getD a.toNat 0
theorem wkI_len {ks args : List Int} {i : Nat} (h : i ≤ args.length) : (wkI ks args i).length = i := by simp [wkI]; omega
theorem wkI_succ {ks args : List Int} {i : Nat} (h : i < args.length) : wkI ks args (i + 1) = wkI ks args i ++ [ks.getD (args.getD i 0).toNat 0] := by
  unfold wkI
  rw [List.take_add_one, List.map_append]
  simp [List.getD, h]
theorem accL_app (l : List Int) (a : Int) : accL (l ++ [a]) = accL l ++ [.d (.int .i64 a)] := by simp [accL]
set_option maxHeartbeats 16000000 in
theorem pc1036 (no : Option (List Kn)) (o : Option (List Nd)) (ko : Option (List Int)) (hn : okKs no) (ho : okT o) (hk : okIs ko) (hP : KinP (o.getD []) (ko.getD [])) :
    PureCall Tryz.prog [0] 36 [encKs no, encT o, encS81 ko] (dRet (.tup [.int .i64 (kindS (no.getD []) (o.getD []) (ko.getD []) (opK (ko.getD []) ((o.getD []).getD (ko.getD []).length default)) ((o.getD []).getD (ko.getD []).length default)).1, .int .i64 (kindS (no.getD []) (o.getD []) (ko.getD []) (opK (ko.getD []) ((o.getD []).getD (ko.getD []).length default)) ((o.getD []).getD (ko.getD []).length default)).2])) := by
  generalize hr : kindS (no.getD []) (o.getD []) (ko.getD []) (opK (ko.getD []) ((o.getD []).getD (ko.getD []).length default)) ((o.getD []).getD (ko.getD []).length default) = r
  have hl := ho.1
  have hkl : (ko.getD []).length ≤ 1048576 := hk
  have hi := hP.ib
  have hx := zH5 ho hi
  have hg := zF7 _ _ hi
  have e : ((o.getD []).getD (ko.getD []).length default).ar.getD [] = ((o.getD []).getD (ko.getD []).length default).args := rfl
  have ht0 : ((((ko.getD []).length : Nat) : Int)).toNat = (ko.getD []).length := Int.toNat_natCast _
  refine zD2 mixed fn1036 (Nat.le_of_ble_eq_true rfl) (Nat.lt_of_succ_le (Nat.le_of_ble_eq_true rfl)) (sfOk (.cons ok1063 (.cons ok41 (.cons ok1064 (.cons ok1060 .nil))))) TbKOk (lv := lv1036) fun I F hI hF => ?_
  refine zD7 fun C hC => ?_
  generalize hgen0 : encKs no = gen0
  generalize hgen1 : encT o = gen1
  generalize hgen2 : encS81 ko = gen2
  generalize hgen3 : DV.int .i64 r.1 = gen3
  generalize hgen4 : DV.int .i64 r.2 = gen4
  cbv
  subst hgen0
  subst hgen1
  subst hgen2
  subst hgen3
  subst hgen4
  subst hC
  refine ⟨?_⟩
  simp (maxSteps := 3000000) only [hI, hF, std]
  simp only [smp, lookOk, lookRes, sfOf, sgOf, hOk, hRes, hOut, ↓reduceIte, Nat.reduceEqDiff, reduceCtorEq, zC2, zA2, zB6, zA5, zB4, zB5, zA4, zB3, zA3, zB2, zC1, zA1, zB1, zA0, zB0, zA9, zC6, zA6, zC5, zC0, zC4, zB8, zA7, zB7, zA8, zC9, zD1, zC8, zD0, zB9, zC3, zC7, cells_81, isAgg_81, agg_81, dlV_81]
  simp [- List.getD_eq_getElem?_getD, hi, hg, e, zA9, zC6, zA6, zC5, zC0, zC4, zB8, zA7, zB7, zA8, zC9, zD1, zC8, zD0, zB9, zC3, zC7]
  refine ⟨⟨rfl, rfl, rfl, zB3 _, zB7 _⟩, ?_⟩
  have hA : ((o.getD []).getD (ko.getD []).length default).args.length ≤ 1048576 := hx.2.2
  refine zD8 (kend := fun I => kEndF I TbK [.tmp 6, .tmp 7]) hI hF (sfOk (.cons ok1063 (.cons ok41 (.cons ok1064 (.cons ok1060 .nil))))) TbKOk (by exact fun Bk e s h => endF TbKOk Bk e s h) (lv := lv1036) 0 (fun i : {i : Bool × Nat // i.2 ≤ ((o.getD []).getD (ko.getD []).length default).args.length ∧ (i.1 = true ↔ 0 < i.2)} => [.d (encKs no), .d (encT o), .loc 0 1 0 0, .loc 1 5 0 0, accAt 2 1 i.1.1 i.1.2, .d (.int .i64 (i.1.2 : Int))]) (fun i : {i : Bool × Nat // i.2 ≤ ((o.getD []).getD (ko.getD []).length default).args.length ∧ (i.1 = true ↔ 0 < i.2)} => [(0, some ⟨[.d (encS81 ko)], 1, 81, true, true⟩), (1, some ⟨[.d (encN ((o.getD []).getD (ko.getD []).length default))], 5, 67, true, true⟩), (2, accB 1 3 (accL (wkI (ko.getD []) ((o.getD []).getD (ko.getD []).length default).args i.1.2)) i.1.1)]) (fun i : {i : Bool × Nat // i.2 ≤ ((o.getD []).getD (ko.getD []).length default).args.length ∧ (i.1 = true ↔ 0 < i.2)} => ((o.getD []).getD (ko.getD []).length default).args.length - i.1.2) [0, 1, 10009] (⟨(false, 0), by simp, by simp⟩ : {i : Bool × Nat // i.2 ≤ ((o.getD []).getD (ko.getD []).length default).args.length ∧ (i.1 = true ↔ 0 < i.2)}) (by rfl) (by rfl) ?_ ?_ fun i => ?_
  · rfl
  · rfl
  obtain ⟨⟨b, i⟩, hi1, hi2⟩ := i
  have hi1 : i ≤ ((o.getD []).getD (ko.getD []).length default).args.length := hi1
  have hi2 : b = true ↔ 0 < i := hi2
  have w3 := zE0 (n := i) (by omega)
  have hwl := wkI_len (ks := ko.getD []) hi1
  cases b with
  | false =>
    have h0 : i = 0 := by have := mt hi2.2; simp at this; omega
    rw [show accAt 2 1 false i = .d .snil from rfl, show accB 1 3 (accL (wkI (ko.getD []) ((o.getD []).getD (ko.getD []).length default).args i)) false = none from rfl]
    refine zD7 fun C hC => ?_
    generalize hgen0 : encKs no = gen0
    generalize hgen1 : encT o = gen1
    generalize hgen2 : encS81 ko = gen2
    generalize hgen3 : encN ((o.getD []).getD (ko.getD []).length default) = gen3
    generalize hgen4 : DV.int .i64 (i : Int) = gen4
    generalize hgen5 : DV.int .i64 r.1 = gen5
    generalize hgen6 : DV.int .i64 r.2 = gen6
    cbv
    subst hgen0
    subst hgen1
    subst hgen2
    subst hgen3
    subst hgen4
    subst hgen5
    subst hgen6
    subst hC
    refine ⟨?_⟩
    simp (maxSteps := 3000000) only [hI, hF, std]
    by_cases hlt : i < ((o.getD []).getD (ko.getD []).length default).args.length
    · have g1 := zE9 _ _ hlt
      have k1 := hP.ar.get hlt
      have hlk : (((o.getD []).getD (ko.getD []).length default).args.getD i 0).toNat < (ko.getD []).length := (Int.toNat_lt k1.1).2 k1.2
      have g2 := zE9 _ _ hlk
      simp only [smp, lookOk, lookRes, sfOf, sgOf, hOk, hRes, hOut, ↓reduceIte, Nat.reduceEqDiff, reduceCtorEq, zC2, zA2, zB6, zA5, zB4, zB5, zA4, zB3, zA3, zB2, zC1, zA1, zB1, zA0, zB0, zA9, zC6, zA6, zC5, zC0, zC4, zB8, zA7, zB7, zA8, zC9, zD1, zC8, zD0, zB9, zC3, zC7, cells_81, isAgg_81, agg_81, dlV_81, g1, e]
      simp [- List.getD_eq_getElem?_getD, hlt, k1, g1, g2, w3, e]
      refine ⟨rfl, by simp [DV.cells], rfl, .inr ⟨i + 1, by omega, ⟨?_, by omega⟩, ⟨by omega, by omega⟩, ?_⟩⟩
      · rw [h0]; rfl
      · rw [wkI_succ hlt, accL_app]
        have : wkI (ko.getD []) ((o.getD []).getD (ko.getD []).length default).args i = [] := by rw [h0]; rfl
        rw [this]; rfl
    · have hz : ((o.getD []).getD (ko.getD []).length default).args.length = 0 := by omega
      simp only [smp, lookOk, lookRes, sfOf, sgOf, hOk, hRes, hOut, ↓reduceIte, Nat.reduceEqDiff, reduceCtorEq, zC2, zA2, zB6, zA5, zB4, zB5, zA4, zB3, zA3, zB2, zC1, zA1, zB1, zA0, zB0, zA9, zC6, zA6, zC5, zC0, zC4, zB8, zA7, zB7, zA8, zC9, zD1, zC8, zD0, zB9, zC3, zC7, cells_81, isAgg_81, agg_81, dlV_81, e]
      simp [- List.getD_eq_getElem?_getD, hlt, e]
      refine cut_rule (kend := fun I => kEndF I TbK [.tmp 6, .tmp 7]) hI hF (sfOk (.cons ok1063 (.cons ok41 (.cons ok1064 (.cons ok1060 .nil))))) TbKOk (by exact fun Bk e s h => endF TbKOk Bk e s h) (lv := lv1036b) ?_
      refine zD7 fun C hC => ?_
      generalize hgen0 : encKs no = gen0
      generalize hgen1 : encT o = gen1
      generalize hgen2 : encS81 ko = gen2
      generalize hgen3 : encN ((o.getD []).getD (ko.getD []).length default) = gen3
      generalize hgen4 : DV.int .i64 (i : Int) = gen4
      generalize hgen5 : DV.int .i64 r.1 = gen5
      generalize hgen6 : DV.int .i64 r.2 = gen6
      cbv
      subst hgen0
      subst hgen1
      subst hgen2
      subst hgen3
      subst hgen4
      subst hgen5
      subst hgen6
      subst hC
      refine ⟨?_⟩
      simp (maxSteps := 3000000) only [hI, hF, std]
      have c12 : ¬ ((o.getD []).getD (ko.getD []).length default).k = 12 := fun h => by have := hP.a12 h; omega
      have c13 : ¬ ((o.getD []).getD (ko.getD []).length default).k = 13 := fun h => by have := hP.a13 h; omega
      have c8 : ¬ ((o.getD []).getD (ko.getD []).length default).k = 8 := fun h => by have := hP.n8 h; omega
      unfold kindS at hr
      rw [if_neg c12, if_neg c13, if_neg c8] at hr
      simp only [smp, lookOk, lookRes, sfOf, sgOf, hOk, hRes, hOut, ↓reduceIte, Nat.reduceEqDiff, reduceCtorEq, zC2, zA2, zB6, zA5, zB4, zB5, zA4, zB3, zA3, zB2, zC1, zA1, zB1, zA0, zB0, zA9, zC6, zA6, zC5, zC0, zC4, zB8, zA7, zB7, zA8, zC9, zD1, zC8, zD0, zB9, zC3, zC7, cells_81, isAgg_81, agg_81, dlV_81, e, e1063, e41, e1064, e1060]
      simp [- List.getD_eq_getElem?_getD, e, c12, c13, c8, zA9, zC6, zA6, zC5, zC0, zC4, zB8, zA7, zB7, zA8, zC9, zD1, zC8, zD0, zB9, zC3, zC7, hx, zA2, zA3]
      refine ⟨fun c7 => ?_, fun c7 => ⟨fun c9 => ?_, fun c9 => ⟨fun c10 => ?_, fun c10 => ⟨fun c11 => ?_, fun c11 => ⟨fun c14 => ?_, fun c14 => ⟨?_, ?_⟩⟩⟩⟩⟩⟩
      · skip
        rw [if_pos c7] at hr
        have hnl := hn.1
        refine zD8 (kend := fun I => kEndF I TbK [.tmp 6, .tmp 7]) hI hF (sfOk (.cons ok1063 (.cons ok41 (.cons ok1064 (.cons ok1060 .nil))))) TbKOk (by exact fun Bk e s h => endF TbKOk Bk e s h) (lv := lv1036c) 1 (fun i : {i : Nat // i ≤ (no.getD []).length ∧ ∀ j, j < i → decide (((no.getD []).getD j default).nm = ((o.getD []).getD (ko.getD []).length default).tx) = false} => [.d (encKs no), .loc 1 5 0 0, .d (.int .i64 (i.1 : Int))]) (fun i : {i : Nat // i ≤ (no.getD []).length ∧ ∀ j, j < i → decide (((no.getD []).getD j default).nm = ((o.getD []).getD (ko.getD []).length default).tx) = false} => [(1, some ⟨[.d (encN ((o.getD []).getD (ko.getD []).length default))], 5, 67, true, true⟩)]) (fun i : {i : Nat // i ≤ (no.getD []).length ∧ ∀ j, j < i → decide (((no.getD []).getD j default).nm = ((o.getD []).getD (ko.getD []).length default).tx) = false} => (no.getD []).length - i.1) [1] (⟨0, by omega, fun j h => by omega⟩ : {i : Nat // i ≤ (no.getD []).length ∧ ∀ j, j < i → decide (((no.getD []).getD j default).nm = ((o.getD []).getD (ko.getD []).length default).tx) = false}) (by rfl) (by rfl) ?_ ?_ fun i => ?_
        · rfl
        · rfl
        obtain ⟨m, hm1, hm2⟩ := i
        refine zD7 fun C hC => ?_
        generalize hgen0 : encKs no = gen0
        generalize hgen1 : encN ((o.getD []).getD (ko.getD []).length default) = gen1
        generalize hgen2 : DV.int .i64 (m : Int) = gen2
        generalize hgen3 : DV.int .i64 r.1 = gen3
        generalize hgen4 : DV.int .i64 r.2 = gen4
        cbv
        subst hgen0
        subst hgen1
        subst hgen2
        subst hgen3
        subst hgen4
        subst hC
        refine ⟨?_⟩
        simp (maxSteps := 3000000) only [hI, hF, std]
        have w4 := zE0 (n := m) (by omega)
        by_cases hml : m < (no.getD []).length
        · have g5 := get_encK _ _ hml
          simp only [smp, lookOk, lookRes, sfOf, sgOf, hOk, hRes, hOut, ↓reduceIte, Nat.reduceEqDiff, reduceCtorEq, zC2, zA2, zB6, zA5, zB4, zB5, zA4, zB3, zA3, zB2, zC1, zA1, zB1, zA0, zB0, zA9, zC6, zA6, zC5, zC0, zC4, zB8, zA7, zB7, zA8, zC9, zD1, zC8, zD0, zB9, zC3, zC7, zE5, zD4, zE2, zD5, zE1, zD6, zE7, zE8, zD9, zE3, zE6, zD3, g5]
          simp [hml, - List.getD_eq_getElem?_getD, w4]
          refine ⟨fun h => ?_, fun h => ⟨m + 1, by omega, ⟨by omega, fun j hj => ?_⟩, by omega⟩⟩
          · have hix := idxG_some (p := fun k : Kn => decide (k.nm = ((o.getD []).getD (ko.getD []).length default).tx)) hml (decide_eq_true h) hm2
            rw [← hr]
            unfold nameK
            rw [hix, if_neg (by omega), Int.toNat_natCast]
            exact ⟨rfl, rfl⟩
          · by_cases hjm : j = m
            · subst hjm; exact h
            · exact of_decide_eq_false (hm2 j (by omega))
        · simp only [smp, lookOk, lookRes, sfOf, sgOf, hOk, hRes, hOut, ↓reduceIte, Nat.reduceEqDiff, reduceCtorEq, zC2, zA2, zB6, zA5, zB4, zB5, zA4, zB3, zA3, zB2, zC1, zA1, zB1, zA0, zB0, zA9, zC6, zA6, zC5, zC0, zC4, zB8, zA7, zB7, zA8, zC9, zD1, zC8, zD0, zB9, zC3, zC7, zE5, zD4, zE2, zD5, zE1, zD6, zE7, zE8, zD9, zE3, zE6, zD3]
          simp [hml, - List.getD_eq_getElem?_getD]
          have hix := idxG_none (p := fun k : Kn => decide (k.nm = ((o.getD []).getD (ko.getD []).length default).tx)) (l := no.getD []) fun j hj => hm2 j (by omega)
          rw [← hr]
          unfold nameK
          rw [hix, if_pos (by omega)]
          exact ⟨rfl, rfl⟩
      · rw [if_neg c7, if_pos c9] at hr; rw [← hr]; exact ⟨rfl, rfl⟩
      · rw [if_neg c7, if_neg c9, if_pos c10] at hr; rw [← hr]; exact ⟨rfl, rfl⟩
      · rw [if_neg c7, if_neg c9, if_neg c10, if_pos c11] at hr; rw [← hr]; exact ⟨rfl, rfl⟩
      · rw [if_neg c7, if_neg c9, if_neg c10, if_neg c11, if_pos c14] at hr; rw [← hr]; exact ⟨rfl, rfl⟩
      · have := hP.kk; omega
      · rw [if_neg c7, if_neg c9, if_neg c10, if_neg c11, if_neg c14] at hr; rw [← hr]; exact ⟨rfl, rfl⟩
  | true =>
    rw [show accAt 2 1 true i = .slc 2 1 0 i from rfl, show accB 1 3 (accL (wkI (ko.getD []) ((o.getD []).getD (ko.getD []).length default).args i)) true = some ⟨accL (wkI (ko.getD []) ((o.getD []).getD (ko.getD []).length default).args i), 1, 3, true, true⟩ from rfl]
    refine zD7 fun C hC => ?_
    generalize hgen0 : encKs no = gen0
    generalize hgen1 : encT o = gen1
    generalize hgen2 : encS81 ko = gen2
    generalize hgen3 : encN ((o.getD []).getD (ko.getD []).length default) = gen3
    generalize hgen4 : DV.int .i64 (i : Int) = gen4
    generalize hgen5 : DV.int .i64 r.1 = gen5
    generalize hgen6 : DV.int .i64 r.2 = gen6
    generalize hgen7 : accL (wkI (ko.getD []) ((o.getD []).getD (ko.getD []).length default).args i) = gen7
    cbv
    subst hgen0
    subst hgen1
    subst hgen2
    subst hgen3
    subst hgen4
    subst hgen5
    subst hgen6
    subst hgen7
    subst hC
    refine ⟨?_⟩
    simp (maxSteps := 3000000) only [hI, hF, std]
    by_cases hlt : i < ((o.getD []).getD (ko.getD []).length default).args.length
    · have g1 := zE9 _ _ hlt
      have k1 := hP.ar.get hlt
      have hlk : (((o.getD []).getD (ko.getD []).length default).args.getD i 0).toNat < (ko.getD []).length := (Int.toNat_lt k1.1).2 k1.2
      have g2 := zE9 _ _ hlk
      simp only [smp, lookOk, lookRes, sfOf, sgOf, hOk, hRes, hOut, ↓reduceIte, Nat.reduceEqDiff, reduceCtorEq, zC2, zA2, zB6, zA5, zB4, zB5, zA4, zB3, zA3, zB2, zC1, zA1, zB1, zA0, zB0, zA9, zC6, zA6, zC5, zC0, zC4, zB8, zA7, zB7, zA8, zC9, zD1, zC8, zD0, zB9, zC3, zC7, cells_81, isAgg_81, agg_81, dlV_81, g1, e]
      simp [- List.getD_eq_getElem?_getD, hlt, k1, g1, g2, w3, e]
      refine ⟨rfl, by simp [DV.cells], rfl, ⟨by rw [← List.length.eq_def]; rw [zF4]; exact Nat.le_of_eq hwl.symm, by omega⟩, ⟨fun x hx => ?_, rfl⟩, .inr ⟨i + 1, by omega, ⟨rfl, by omega⟩, ⟨by omega, by omega⟩, ?_⟩⟩
      · obtain ⟨y, hy, rfl⟩ := List.mem_map.1 (List.mem_of_mem_take hx)
        obtain ⟨z, hz, rfl⟩ := List.mem_map.1 hy
        rfl
      · rw [wkI_succ hlt, accL_app, List.take_of_length_le (by rw [zF4]; exact Nat.le_of_eq hwl)]; rfl
    · have hie : i = ((o.getD []).getD (ko.getD []).length default).args.length := by omega
      have hwk : wkI (ko.getD []) ((o.getD []).getD (ko.getD []).length default).args i = opK (ko.getD []) ((o.getD []).getD (ko.getD []).length default) := by rw [hie]; simp [opK, wkI]
      have hwn : (opK (ko.getD []) ((o.getD []).getD (ko.getD []).length default)).length = i := by rw [← hwk]; exact hwl
      simp only [smp, lookOk, lookRes, sfOf, sgOf, hOk, hRes, hOut, ↓reduceIte, Nat.reduceEqDiff, reduceCtorEq, zC2, zA2, zB6, zA5, zB4, zB5, zA4, zB3, zA3, zB2, zC1, zA1, zB1, zA0, zB0, zA9, zC6, zA6, zC5, zC0, zC4, zB8, zA7, zB7, zA8, zC9, zD1, zC8, zD0, zB9, zC3, zC7, cells_81, isAgg_81, agg_81, dlV_81, e]
      simp [- List.getD_eq_getElem?_getD, hlt, e]
      refine cut_rule (kend := fun I => kEndF I TbK [.tmp 6, .tmp 7]) hI hF (sfOk (.cons ok1063 (.cons ok41 (.cons ok1064 (.cons ok1060 .nil))))) TbKOk (by exact fun Bk e s h => endF TbKOk Bk e s h) (lv := lv1036b) ?_
      refine zD7 fun C hC => ?_
      generalize hgen0 : encKs no = gen0
      generalize hgen1 : encT o = gen1
      generalize hgen2 : encS81 ko = gen2
      generalize hgen3 : encN ((o.getD []).getD (ko.getD []).length default) = gen3
      generalize hgen4 : DV.int .i64 (i : Int) = gen4
      generalize hgen5 : DV.int .i64 r.1 = gen5
      generalize hgen6 : DV.int .i64 r.2 = gen6
      generalize hgen7 : accL (wkI (ko.getD []) ((o.getD []).getD (ko.getD []).length default).args i) = gen7
      cbv
      subst hgen0
      subst hgen1
      subst hgen2
      subst hgen3
      subst hgen4
      subst hgen5
      subst hgen6
      subst hgen7
      subst hC
      refine ⟨?_⟩
      simp (maxSteps := 3000000) only [hI, hF, std]
      rw [hwk]
      unfold kindS at hr
      simp only [smp, lookOk, lookRes, sfOf, sgOf, hOk, hRes, hOut, ↓reduceIte, Nat.reduceEqDiff, reduceCtorEq, zC2, zA2, zB6, zA5, zB4, zB5, zA4, zB3, zA3, zB2, zC1, zA1, zB1, zA0, zB0, zA9, zC6, zA6, zC5, zC0, zC4, zB8, zA7, zB7, zA8, zC9, zD1, zC8, zD0, zB9, zC3, zC7, cells_81, isAgg_81, agg_81, dlV_81, e, e1063, e41, e1064, e1060]
      simp [- List.getD_eq_getElem?_getD, e, zA9, zC6, zA6, zC5, zC0, zC4, zB8, zA7, zB7, zA8, zC9, zD1, zC8, zD0, zB9, zC3, zC7, hx]
      refine ⟨fun c7 => ?_, fun c7 => ⟨fun c9 => ?_, fun c9 => ⟨fun c10 => ?_, fun c10 => ⟨fun c11 => ?_, fun c11 => ⟨fun c14 => ?_, fun c14 => ⟨fun c12 => ?_, fun c12 => ⟨fun c13 => ?_, fun c13 => ⟨fun c8 => ?_, fun c8 => ⟨?_, ?_⟩⟩⟩⟩⟩⟩⟩⟩⟩
      · skip
        rw [if_pos c7] at hr
        have hnl := hn.1
        refine zD8 (kend := fun I => kEndF I TbK [.tmp 6, .tmp 7]) hI hF (sfOk (.cons ok1063 (.cons ok41 (.cons ok1064 (.cons ok1060 .nil))))) TbKOk (by exact fun Bk e s h => endF TbKOk Bk e s h) (lv := lv1036c) 1 (fun i : {i : Nat // i ≤ (no.getD []).length ∧ ∀ j, j < i → decide (((no.getD []).getD j default).nm = ((o.getD []).getD (ko.getD []).length default).tx) = false} => [.d (encKs no), .loc 1 5 0 0, .d (.int .i64 (i.1 : Int))]) (fun i : {i : Nat // i ≤ (no.getD []).length ∧ ∀ j, j < i → decide (((no.getD []).getD j default).nm = ((o.getD []).getD (ko.getD []).length default).tx) = false} => [(1, some ⟨[.d (encN ((o.getD []).getD (ko.getD []).length default))], 5, 67, true, true⟩)]) (fun i : {i : Nat // i ≤ (no.getD []).length ∧ ∀ j, j < i → decide (((no.getD []).getD j default).nm = ((o.getD []).getD (ko.getD []).length default).tx) = false} => (no.getD []).length - i.1) [1] (⟨0, by omega, fun j h => by omega⟩ : {i : Nat // i ≤ (no.getD []).length ∧ ∀ j, j < i → decide (((no.getD []).getD j default).nm = ((o.getD []).getD (ko.getD []).length default).tx) = false}) (by rfl) (by rfl) ?_ ?_ fun i => ?_
        · rfl
        · rfl
        obtain ⟨m, hm1, hm2⟩ := i
        refine zD7 fun C hC => ?_
        generalize hgen0 : encKs no = gen0
        generalize hgen1 : encN ((o.getD []).getD (ko.getD []).length default) = gen1
        generalize hgen2 : DV.int .i64 (m : Int) = gen2
        generalize hgen3 : DV.int .i64 r.1 = gen3
        generalize hgen4 : DV.int .i64 r.2 = gen4
        cbv
        subst hgen0
        subst hgen1
        subst hgen2
        subst hgen3
        subst hgen4
        subst hC
        refine ⟨?_⟩
        simp (maxSteps := 3000000) only [hI, hF, std]
        have w4 := zE0 (n := m) (by omega)
        by_cases hml : m < (no.getD []).length
        · have g5 := get_encK _ _ hml
          simp only [smp, lookOk, lookRes, sfOf, sgOf, hOk, hRes, hOut, ↓reduceIte, Nat.reduceEqDiff, reduceCtorEq, zC2, zA2, zB6, zA5, zB4, zB5, zA4, zB3, zA3, zB2, zC1, zA1, zB1, zA0, zB0, zA9, zC6, zA6, zC5, zC0, zC4, zB8, zA7, zB7, zA8, zC9, zD1, zC8, zD0, zB9, zC3, zC7, zE5, zD4, zE2, zD5, zE1, zD6, zE7, zE8, zD9, zE3, zE6, zD3, g5]
          simp [hml, - List.getD_eq_getElem?_getD, w4]
          refine ⟨fun h => ?_, fun h => ⟨m + 1, by omega, ⟨by omega, fun j hj => ?_⟩, by omega⟩⟩
          · have hix := idxG_some (p := fun k : Kn => decide (k.nm = ((o.getD []).getD (ko.getD []).length default).tx)) hml (decide_eq_true h) hm2
            rw [← hr]
            unfold nameK
            rw [hix, if_neg (by omega), Int.toNat_natCast]
            exact ⟨rfl, rfl⟩
          · by_cases hjm : j = m
            · subst hjm; exact h
            · exact of_decide_eq_false (hm2 j (by omega))
        · simp only [smp, lookOk, lookRes, sfOf, sgOf, hOk, hRes, hOut, ↓reduceIte, Nat.reduceEqDiff, reduceCtorEq, zC2, zA2, zB6, zA5, zB4, zB5, zA4, zB3, zA3, zB2, zC1, zA1, zB1, zA0, zB0, zA9, zC6, zA6, zC5, zC0, zC4, zB8, zA7, zB7, zA8, zC9, zD1, zC8, zD0, zB9, zC3, zC7, zE5, zD4, zE2, zD5, zE1, zD6, zE7, zE8, zD9, zE3, zE6, zD3]
          simp [hml, - List.getD_eq_getElem?_getD]
          have hix := idxG_none (p := fun k : Kn => decide (k.nm = ((o.getD []).getD (ko.getD []).length default).tx)) (l := no.getD []) fun j hj => hm2 j (by omega)
          rw [← hr]
          unfold nameK
          rw [hix, if_pos (by omega)]
          exact ⟨rfl, rfl⟩
      · rw [if_neg c7, if_pos c9] at hr; rw [← hr]; exact ⟨rfl, rfl⟩
      · rw [if_neg c7, if_neg c9, if_pos c10] at hr; rw [← hr]; exact ⟨rfl, rfl⟩
      · rw [if_neg c7, if_neg c9, if_neg c10, if_pos c11] at hr; rw [← hr]; exact ⟨rfl, rfl⟩
      · rw [if_neg c7, if_neg c9, if_neg c10, if_neg c11, if_pos c14] at hr; rw [← hr]; exact ⟨rfl, rfl⟩
      · have hp := hP.a12 c12
        rw [if_neg c7, if_neg c9, if_neg c10, if_neg c11, if_neg c14, if_pos c12] at hr
        refine cut_rule (kend := fun I => kEndF I TbK [.tmp 6, .tmp 7]) hI hF (sfOk (.cons ok1063 (.cons ok41 (.cons ok1064 (.cons ok1060 .nil))))) TbKOk (by exact fun Bk e s h => endF TbKOk Bk e s h) (lv := lv1036c) ?_
        refine zD7 fun C hC => ?_
        generalize hgen0 : encKs no = gen0
        generalize hgen1 : encT o = gen1
        generalize hgen2 : encS81 ko = gen2
        generalize hgen3 : encN ((o.getD []).getD (ko.getD []).length default) = gen3
        generalize hgen4 : DV.int .i64 (i : Int) = gen4
        generalize hgen5 : DV.int .i64 r.1 = gen5
        generalize hgen6 : DV.int .i64 r.2 = gen6
        generalize hgen7 : accL (opK (ko.getD []) ((o.getD []).getD (ko.getD []).length default)) = gen7
        generalize hgen8 : ((o.getD []).getD (ko.getD []).length default) = gen8
        cbv
        subst hgen0
        subst hgen1
        subst hgen2
        subst hgen3
        subst hgen4
        subst hgen5
        subst hgen6
        subst hgen7
        subst hgen8
        subst hC
        refine ⟨?_⟩
        simp (maxSteps := 3000000) only [hI, hF, std]
        have hlb : 0 < (opK (ko.getD []) ((o.getD []).getD (ko.getD []).length default)).length := by omega
        simp only [smp, lookOk, lookRes, sfOf, sgOf, hOk, hRes, hOut, ↓reduceIte, Nat.reduceEqDiff, reduceCtorEq, zC2, zA2, zB6, zA5, zB4, zB5, zA4, zB3, zA3, zB2, zC1, zA1, zB1, zA0, zB0, zA9, zC6, zA6, zC5, zC0, zC4, zB8, zA7, zB7, zA8, zC9, zD1, zC8, zD0, zB9, zC3, zC7, zF4, zG2 hlb, zH8 hlb]
        simp [- List.getD_eq_getElem?_getD, hwn, hp]
        have hi0 : 0 < i := by omega
        refine ⟨hi0, .inr hi0, .inr hi0, fun b1 b2 b3 => ?_, fun b => ?_⟩
        · rw [if_pos ⟨b1, b2, b3⟩] at hr; rw [← hr]; exact ⟨rfl, rfl⟩
        · rw [if_neg (fun h => h.2.2 (b h.1 h.2.1))] at hr; rw [← hr]; exact ⟨rfl, rfl⟩
      · have hp := hP.a13 c13
        rw [if_neg c7, if_neg c9, if_neg c10, if_neg c11, if_neg c14, if_neg c12, if_pos c13] at hr
        refine cut_rule (kend := fun I => kEndF I TbK [.tmp 6, .tmp 7]) hI hF (sfOk (.cons ok1063 (.cons ok41 (.cons ok1064 (.cons ok1060 .nil))))) TbKOk (by exact fun Bk e s h => endF TbKOk Bk e s h) (lv := lv1036c) ?_
        refine zD7 fun C hC => ?_
        generalize hgen0 : encKs no = gen0
        generalize hgen1 : encT o = gen1
        generalize hgen2 : encS81 ko = gen2
        generalize hgen3 : encN ((o.getD []).getD (ko.getD []).length default) = gen3
        generalize hgen4 : DV.int .i64 (i : Int) = gen4
        generalize hgen5 : DV.int .i64 r.1 = gen5
        generalize hgen6 : DV.int .i64 r.2 = gen6
        generalize hgen7 : accL (opK (ko.getD []) ((o.getD []).getD (ko.getD []).length default)) = gen7
        generalize hgen8 : ((o.getD []).getD (ko.getD []).length default) = gen8
        cbv
        subst hgen0
        subst hgen1
        subst hgen2
        subst hgen3
        subst hgen4
        subst hgen5
        subst hgen6
        subst hgen7
        subst hgen8
        subst hC
        refine ⟨?_⟩
        simp (maxSteps := 3000000) only [hI, hF, std]
        have hlb : 0 < (opK (ko.getD []) ((o.getD []).getD (ko.getD []).length default)).length := by omega
        have hlb1 : 1 < (opK (ko.getD []) ((o.getD []).getD (ko.getD []).length default)).length := by omega
        simp only [smp, lookOk, lookRes, sfOf, sgOf, hOk, hRes, hOut, ↓reduceIte, Nat.reduceEqDiff, reduceCtorEq, zC2, zA2, zB6, zA5, zB4, zB5, zA4, zB3, zA3, zB2, zC1, zA1, zB1, zA0, zB0, zA9, zC6, zA6, zC5, zC0, zC4, zB8, zA7, zB7, zA8, zC9, zD1, zC8, zD0, zB9, zC3, zC7, zF4, zG2 hlb, zH8 hlb, zG2 hlb1, zH8 hlb1, e1063, e41]
        simp [- List.getD_eq_getElem?_getD, hwn, hp]
        simp only [zG2 hlb1, zH8 hlb1, mayB] at hr ⊢
        have q1 : decide (1 < (i : Int)) = true := dec_true (by omega)
        have hi0 : 0 < i := by omega
        have hi1 : 1 < i := by omega
        simp [- List.getD_eq_getElem?_getD, hi0, hi1, q1]
        simp only [isBoolD_bool, zF1]
        clear hwl hwk hwn hlb hlb1 w3 hie hx hg hi hkl hl
        rcases Bool.eq_false_or_eq_true (decide ((opK (ko.getD []) ((o.getD []).getD (ko.getD []).length default)).getD 1 0 = -1) || isOfK ((opK (ko.getD []) ((o.getD []).getD (ko.getD []).length default)).getD 1 0) 105) with hm | hm <;> simp only [hm] at hr ⊢
        all_goals generalize (opK (ko.getD []) ((o.getD []).getD (ko.getD []).length default)).getD 0 0 = a0 at hr ⊢
        all_goals rcases Bool.eq_false_or_eq_true (isOfK a0 108) with h1 | h1 <;> by_cases h0 : a0 = -1 <;> simp [h0, h1, q1] at hr ⊢
        all_goals try refine And.intro (dec_true (by omega)) ?_
        all_goals try refine And.intro (show (1 : Int) < (i : Int) by omega) ?_
        all_goals first
          | (rw [← hr]; exact ⟨rfl, rfl⟩)
          | (split at hr
             · rename_i hc; rw [← hr]; exact ⟨fun _ _ => ⟨rfl, rfl⟩, fun h => by have := h hc.1; omega⟩
             · rename_i hc; rw [← hr]; exact ⟨fun h1 h2 => absurd ⟨h1, h2⟩ hc, fun _ => ⟨rfl, rfl⟩⟩)
      · have hp := hP.a8 c8
        rw [if_neg c7, if_neg c9, if_neg c10, if_neg c11, if_neg c14, if_neg c12, if_neg c13, if_pos c8] at hr
        refine cut_rule (kend := fun I => kEndF I TbK [.tmp 6, .tmp 7]) hI hF (sfOk (.cons ok1063 (.cons ok41 (.cons ok1064 (.cons ok1060 .nil))))) TbKOk (by exact fun Bk e s h => endF TbKOk Bk e s h) (lv := lv1036c) ?_
        refine zD7 fun C hC => ?_
        generalize hgen0 : encKs no = gen0
        generalize hgen1 : encT o = gen1
        generalize hgen2 : encS81 ko = gen2
        generalize hgen3 : encN ((o.getD []).getD (ko.getD []).length default) = gen3
        generalize hgen4 : DV.int .i64 (i : Int) = gen4
        generalize hgen5 : DV.int .i64 r.1 = gen5
        generalize hgen6 : DV.int .i64 r.2 = gen6
        generalize hgen7 : accL (opK (ko.getD []) ((o.getD []).getD (ko.getD []).length default)) = gen7
        generalize hgen8 : ((o.getD []).getD (ko.getD []).length default) = gen8
        cbv
        subst hgen0
        subst hgen1
        subst hgen2
        subst hgen3
        subst hgen4
        subst hgen5
        subst hgen6
        subst hgen7
        subst hgen8
        subst hC
        refine ⟨?_⟩
        simp (maxSteps := 3000000) only [hI, hF, std]
        have rf := rowF_acc _ hwn
        have ro := rowOkF_acc _ hwn (by omega)
        simp only [smp, lookOk, lookRes, sfOf, sgOf, hOk, hRes, hOut, ↓reduceIte, Nat.reduceEqDiff, reduceCtorEq, zC2, zA2, zB6, zA5, zB4, zB5, zA4, zB3, zA3, zB2, zC1, zA1, zB1, zA0, zB0, zA9, zC6, zA6, zC5, zC0, zC4, zB8, zA7, zB7, zA8, zC9, zD1, zC8, zD0, zB9, zC3, zC7, zF4, e1063, e41, e1064, rf, ro]
        simp [- List.getD_eq_getElem?_getD, hwn, rf, ro, zA9, zC6, zA6, zC5, zC0, zC4, zB8, zA7, zB7, zA8, zC9, zD1, zC8, zD0, zB9, zC3, zC7, toS81_enc, isS81_enc, ho, hk, hp, isAgg_81, cells_81]
        have hok : okIs (some (opK (ko.getD []) ((o.getD []).getD (ko.getD []).length default))) := by
          show (opK (ko.getD []) ((o.getD []).getD (ko.getD []).length default)).length ≤ 1048576
          omega
        simp only [hr]
        refine ⟨hok, rfl, by simp [zF5], by simp [zF5], ?_⟩
        simp [zF5, List.getD_cons_zero, List.getD_cons_succ]
      · have := hP.kk; omega
      · rw [if_neg c7, if_neg c9, if_neg c10, if_neg c11, if_neg c14, if_neg c12, if_neg c13, if_neg c8] at hr; rw [← hr]; exact ⟨rfl, rfl⟩
end Go.Proofs.Sx

set_option linter.unusedVariables false
set_option linter.unusedSimpArgs false
set_option maxRecDepth 100000
namespace Go.Proofs.Sx
open Go Go.Proofs Go.Proofs.Am 
variable {gs : List Nat}

open Classical in
/-- Does the first of the nodes from here on that has this operand ask? -/
noncomputable def askF (l : List Nd) (a : Int) : Nat → Nat → Bool
  | 0, _ => false
  | m + 1, j => if a ∈ (l.getD j default).args then asksS (l.getD j default) else askF l a m (j + 1)
def lv1035 : Nat → List Nat × List Nat
  | 2 => ([0, 1, 5], [])
  | _ => ([], [])
theorem pc1035 (o : Option (List Nd)) (p : Nat) (ho : okT o) (hp : p < (o.getD []).length) : PureCall Tryz.prog [0] 35 [encT o, .int .i64 (p : Int)] (dRet (.bool (askF (o.getD []) (p : Int) ((o.getD []).length - (p + 1)) (p + 1)))) := by
  have hl := ho.1
  generalize hr : askF (o.getD []) (p : Int) ((o.getD []).length - (p + 1)) (p + 1) = r
  have w1 := zE0 (n := p) (by omega)
  refine zD2 mixed fn1035 (Nat.le_of_ble_eq_true rfl) (Nat.lt_of_succ_le (Nat.le_of_ble_eq_true rfl)) (sfOk (.cons ok1061 (.cons ok1062 .nil))) TbOk (lv := lv1035) fun I F hI hF => ?_
  refine zD7 fun C hC => ?_
  generalize hgen0 : encT o = gen0
  generalize hgen1 : DV.int .i64 (p : Int) = gen1
  generalize hgen2 : DV.bool r = gen2
  cbv
  subst hgen0
  subst hgen1
  subst hgen2
  subst hC
  refine ⟨?_⟩
  simp (maxSteps := 3000000) only [hI, hF, std]
  simp only [smp, lookOk, lookRes, sfOf, sgOf, hOk, hRes, hOut, ↓reduceIte, Nat.reduceEqDiff, reduceCtorEq, zC2, zA2, zB6, zA5, zB4, zB5, zA4, zB3, zA3, zB2, zC1, zA1, zB1, zA0, zB0, zA9, zC6, zA6, zC5, zC0, zC4, zB8, zA7, zB7, zA8, zC9, zD1, zC8, zD0, zB9, zC3, zC7, w1]
  refine zD8 (kend := fun I => kEndF I Tb [.tmp 4]) hI hF (sfOk (.cons ok1061 (.cons ok1062 .nil))) TbOk (by exact fun Bk e s h => endF TbOk Bk e s h) (lv := lv1035) 0 (fun i : {i : Nat // i ≤ (o.getD []).length ∧ askF (o.getD []) (p : Int) ((o.getD []).length - i) i = r} => [.d (encT o), .d (.int .i64 (p : Int)), .d (.int .i64 (i.1 : Int))]) (fun i : {i : Nat // i ≤ (o.getD []).length ∧ askF (o.getD []) (p : Int) ((o.getD []).length - i) i = r} => []) (fun i : {i : Nat // i ≤ (o.getD []).length ∧ askF (o.getD []) (p : Int) ((o.getD []).length - i) i = r} => (o.getD []).length - i.1) [] (⟨p + 1, by omega, hr⟩ : {i : Nat // i ≤ (o.getD []).length ∧ askF (o.getD []) (p : Int) ((o.getD []).length - i) i = r}) (by rfl) (by rfl) ?_ ?_ fun i => ?_
  · rfl
  · rfl
  obtain ⟨m, hm1, hm2⟩ := i
  refine zD7 fun C hC => ?_
  generalize hgen0 : encT o = gen0
  generalize hgen1 : DV.int .i64 (p : Int) = gen1
  generalize hgen2 : DV.int .i64 (m : Int) = gen2
  generalize hgen3 : DV.bool r = gen3
  cbv
  subst hgen0
  subst hgen1
  subst hgen2
  subst hgen3
  subst hC
  refine ⟨?_⟩
  simp (maxSteps := 3000000) only [hI, hF, std]
  have w3 := zE0 (n := m) (by omega)
  by_cases hlt : m < (o.getD []).length
  · have g1 := zF7 _ _ hlt
    have hx := zH5 ho hlt
    have e : ((o.getD []).getD m default).ar.getD [] = ((o.getD []).getD m default).args := rfl
    rw [show (o.getD []).length - m = ((o.getD []).length - (m + 1)) + 1 from by omega, askF] at hm2
    simp only [smp, lookOk, lookRes, sfOf, sgOf, hOk, hRes, hOut, ↓reduceIte, Nat.reduceEqDiff, reduceCtorEq, zC2, zA2, zB6, zA5, zB4, zB5, zA4, zB3, zA3, zB2, zC1, zA1, zB1, zA0, zB0, zA9, zC6, zA6, zC5, zC0, zC4, zB8, zA7, zB7, zA8, zC9, zD1, zC8, zD0, zB9, zC3, zC7, e1061, e1062, g1, e]
    simp [hlt, - List.getD_eq_getElem?_getD, w3, zA9, zC6, zA6, zC5, zC0, zC4, zB8, zA7, zB7, zA8, zC9, zD1, zC8, zD0, zB9, zC3, zC7, hx, hx.2.2, e]
    refine ⟨fun h => ?_, fun h => ⟨m + 1, by omega, ⟨by omega, ?_⟩, by omega⟩⟩
    · rw [if_pos h] at hm2; exact hm2
    · rw [if_neg h] at hm2; exact hm2
  · simp only [smp, lookOk, lookRes, sfOf, sgOf, hOk, hRes, hOut, ↓reduceIte, Nat.reduceEqDiff, reduceCtorEq, zC2, zA2, zB6, zA5, zB4, zB5, zA4, zB3, zA3, zB2, zC1, zA1, zB1, zA0, zB0, zA9, zC6, zA6, zC5, zC0, zC4, zB8, zA7, zB7, zA8, zC9, zD1, zC8, zD0, zB9, zC3, zC7, e1061, e1062]
    simp [hlt, - List.getD_eq_getElem?_getD]
    rw [show (o.getD []).length - m = 0 from by omega, askF] at hm2
    exact hm2.symm
theorem pc1035' (o : Option (List Nd)) (a : Int) (ho : okT o) (h : 0 ≤ a ∧ a < (o.getD []).length) : PureCall Tryz.prog [0] 35 [encT o, .int .i64 a] (dRet (.bool (askF (o.getD []) a ((o.getD []).length - (a.toNat + 1)) (a.toNat + 1)))) := by
  obtain ⟨n, rfl⟩ := Int.eq_ofNat_of_zero_le h.1
  have := pc1035 o n ho (by omega)
  simpa using this
open Classical in
noncomputable def e1035' : Ent := ⟨35, fun | [d_o, .int .i64 a] => decide (isT d_o ∧ 0 ≤ a ∧ a < ((toT d_o).getD []).length) | _ => false, fun | [d_o, .int .i64 a] => .bool (askF ((toT d_o).getD []) a (((toT d_o).getD []).length - (a.toNat + 1)) (a.toNat + 1)) | _ => .inil⟩
open Classical in
theorem ok1035' : EntOk Tryz.prog [0] e1035' := fun ds h => by
  unfold e1035' at h ⊢
  simp only at h ⊢
  split at h
  · rw [decide_eq_true_iff] at h
    obtain ⟨⟨v0, rfl, k0⟩, kx⟩ := h
    simp only [zB2, zA1, zA0, zB9, zC9, zC8] at kx ⊢
    exact pc1035' _ _ k0 kx
  · cases h
end Go.Proofs.Sx

set_option linter.unusedVariables false
set_option linter.unusedSimpArgs false
set_option maxRecDepth 100000
namespace Go.Proofs.Sx
open Go Go.Proofs Go.Proofs.Am 
variable {gs : List Nat}

def lookR (s : ByteArray) : Option Ru := match opTab.find? fun p => decide (p.1 = s) with
  | some p => some p.2.2.1
  | none => match askTab.find? fun p => decide (p.1 = s) with
    | some p => some p.2
    | none => none
def ruleS (s : ByteArray) : Ru := (lookR s).getD ⟨[], none, 0⟩
theorem pc1050 (s : ByteArray) (h : (lookR s).isSome = true) : PureCall Tryz.prog [0] 50 [.str s] (dRet (encR (ruleS s))) := by
  unfold ruleS
  unfold lookR at h ⊢
  split at h
  · rename_i p hp
    have h1 := List.mem_of_find?_eq_some hp
    have h2 : p.1 = s := by
      have := List.find?_some hp
      simpa using this
    have := List.map_inj_left.1 run1050 p h1
    simp only [h2] at this
    exact pure_of_run mixed primsOk 100 100 this
  · split at h
    · rename_i p hp
      have h1 := List.mem_of_find?_eq_some hp
      have h2 : p.1 = s := by
        have := List.find?_some hp
        simpa using this
      have := List.map_inj_left.1 run1050a p h1
      simp only [h2] at this
      exact pure_of_run mixed primsOk 100 100 this
    · cases h
open Classical in
noncomputable def e1050 : Ent := ⟨50, fun | [.str s] => decide ((lookR s).isSome = true) | _ => false, fun | [.str s] => encR (ruleS s) | _ => .inil⟩
open Classical in
theorem ok1050 : EntOk Tryz.prog [0] e1050 := fun ds h => by
  unfold e1050 at h ⊢
  simp only at h ⊢
  split at h
  · exact pc1050 _ (of_decide_eq_true h)
  · cases h
end Go.Proofs.Sx

set_option linter.unusedVariables false
set_option linter.unusedSimpArgs false
set_option maxRecDepth 100000
namespace Go.Proofs.Sx
open Go Go.Proofs Go.Proofs.Am 
variable {gs : List Nat}

theorem chkF_zero {l : List Nd} : ∀ (m i : Nat), (chkF l m i).2 = 0 → ∀ j, i ≤ j → j < i + m → nodeE l j = 0
  | 0, i, h, j, h1, h2 => by omega
  | m + 1, i, h, j, h1, h2 => by
    unfold chkF at h
    by_cases he : nodeE l i = 0
    · rw [if_neg (fun hh => hh he)] at h
      by_cases hj : j = i
      · rw [hj]; exact he
      · exact chkF_zero m (i + 1) h j (by omega) (by omega)
    · rw [if_pos he] at h; exact absurd h he
/-- A right expression. -/
structure RightT (t : List Nd) : Prop where
  tm : isTermS t = true
  nl : 0 < t.length
  ll : t.length ≤ 200
  low : ∀ j, j < t.length → Low (t.getD j default).args j
  kk : ∀ j, j < t.length → 0 ≤ (t.getD j default).k ∧ (t.getD j default).k ≤ 14
  nm : ∀ j, j < t.length → nmE (t.getD j default) = 0
  ar : ∀ j, j < t.length → arOk (t.getD j default) = true
  db : ∀ j, j < t.length → ¬ DoubleP (t.getD j default).names
  fm : ∀ j, j < t.length → frmE t j = 0
  lt : ∀ j, j < t.length → (t.getD j default).k ≤ 6 → valE (litV (t.getD j default)) = 0
  lg : ∀ j, j < t.length → ¬ (((t.getD j default).k = 9 ∧ 16 < (t.getD j default).names.length) ∨ ((t.getD j default).k = 10 ∧ 40 < (t.getD j default).args.length))
theorem nodeE_zero {l : List Nd} {i : Nat} (h : nodeE l i = 0) : (0 ≤ (l.getD i default).k ∧ (l.getD i default).k ≤ 14) ∧ nmE (l.getD i default) = 0 ∧ arOk (l.getD i default) = true ∧ ¬ DoubleP (l.getD i default).names ∧ frmE l i = 0 ∧
    ((l.getD i default).k ≤ 6 → valE (litV (l.getD i default)) = 0) ∧ ¬ (((l.getD i default).k = 9 ∧ 16 < (l.getD i default).names.length) ∨ ((l.getD i default).k = 10 ∧ 40 < (l.getD i default).args.length)) := by
  unfold nodeE at h
  split at h
  · cases h
  rename_i h1
  split at h
  · rename_i h2; exact absurd h h2
  rename_i h2
  split at h
  · cases h
  rename_i h3
  unfold nodeE2 at h
  split at h
  · cases h
  rename_i h4
  split at h
  · rename_i h5; exact absurd h h5
  rename_i h5
  refine ⟨Decidable.not_not.1 h1, Decidable.not_not.1 h2, by simpa using h3, h4, Decidable.not_not.1 h5, fun hk => ?_, fun hc => ?_⟩
  · rw [if_pos hk] at h; exact h
  · rw [if_neg (by omega), if_pos hc] at h; cases h
theorem rightT {t : List Nd} (h : (checkE t).2 = 0) : RightT t := by
  unfold checkE at h
  split at h
  · rename_i ht
    have hz := chkF_zero _ _ h
    have hl : 1 ≤ t.length ∧ t.length ≤ 200 := by
      unfold isTermS at ht
      rw [Bool.and_eq_true] at ht
      exact of_decide_eq_true ht.1
    have low : ∀ j, j < t.length → Low (t.getD j default).args j := by
      intro j hj
      unfold isTermS at ht
      rw [Bool.and_eq_true] at ht
      have h2 := ht.2
      split at h2
      · rename_i q hq
        have := rootsF_low t 0 [] q (fun x hx => by cases hx) hq j hj
        rwa [Nat.zero_add] at this
      · cases h2
    have n := fun j (hj : j < t.length) => nodeE_zero (hz j (by omega) (by omega))
    exact ⟨ht, by omega, by omega, low, fun j hj => (n j hj).1, fun j hj => (n j hj).2.1, fun j hj => (n j hj).2.2.1, fun j hj => (n j hj).2.2.2.1, fun j hj => (n j hj).2.2.2.2.1, fun j hj => (n j hj).2.2.2.2.2.1, fun j hj => (n j hj).2.2.2.2.2.2⟩
  · cases h
/-! ## A node is an operand once -/
theorem rootsF_not {x : Int} : ∀ (l : List Nd) (i : Nat) (r q : List Int), x ∉ r → x < i → rootsF l i r = some q → ∀ j, j < l.length → x ∉ (l.getD j default).args
  | [], i, r, q, h, hx, hq, j, hj => by simp at hj
  | y :: l, i, r, q, h, hx, hq, j, hj => by
    simp only [rootsF] at hq
    split at hq
    · rename_i r' hr'
      unfold stepR at hr'
      split at hr'
      · rename_i hc
        cases hr'
        cases j with
        | zero =>
          intro hm
          have hm : x ∈ y.args := by simpa using hm
          rw [hc.2] at hm
          exact h (List.mem_of_mem_drop hm)
        | succ j =>
          have := rootsF_not l (i + 1) _ q (fun hm => by
            rcases List.mem_append.1 hm with hm | hm
            · exact h (List.mem_of_mem_take hm)
            · rw [List.mem_singleton] at hm; omega) (by omega) hq j (by simpa using hj)
          simpa using this
      · cases hr'
    · cases hq
theorem nodup_take_drop {x : Int} {r : List Int} {n : Nat} (h : r.Nodup) (h1 : x ∈ r.drop n) (h2 : x ∈ r.take n) : False := by
  rw [← List.take_append_drop n r, List.nodup_append] at h
  exact h.2.2 x h2 x h1 rfl
theorem rootsF_one {x : Int} : ∀ (l : List Nd) (i : Nat) (r q : List Int), r.Nodup → Low r i → rootsF l i r = some q → ∀ j k, j < k → k < l.length → x ∈ (l.getD j default).args → x ∉ (l.getD k default).args
  | [], i, r, q, h, hlow, hq, j, k, hj, hk => by simp at hk
  | y :: l, i, r, q, h, hlow, hq, j, k, hj, hk => by
    simp only [rootsF] at hq
    split at hq
    · rename_i r' hr'
      unfold stepR at hr'
      split at hr'
      · rename_i hc
        cases hr'
        cases k with
        | zero => omega
        | succ k =>
          have hk : k < l.length := by simpa using hk
          cases j with
          | zero =>
            intro hm
            have hm : x ∈ y.args := by simpa using hm
            rw [hc.2] at hm
            have hxi := hlow x (List.mem_of_mem_drop hm)
            have := rootsF_not l (i + 1) _ q (x := x) (fun hm2 => by
              rcases List.mem_append.1 hm2 with hm2 | hm2
              · exact nodup_take_drop h hm hm2
              · rw [List.mem_singleton] at hm2; omega) (by omega) hq k hk
            simpa using this
          | succ j =>
            have hlow' : Low (r.take (r.length - y.args.length) ++ [(i : Int)]) (i + 1) := by
              intro z hz
              rcases List.mem_append.1 hz with hz | hz
              · have := hlow z (List.mem_of_mem_take hz); omega
              · rw [List.mem_singleton] at hz; omega
            have hnd : (r.take (r.length - y.args.length) ++ [(i : Int)]).Nodup := by
              rw [List.nodup_append]
              refine ⟨h.sublist (List.take_sublist _ _), by simp, fun a ha b hb => ?_⟩
              rw [List.mem_singleton] at hb
              have := hlow a (List.mem_of_mem_take ha)
              omega
            have := rootsF_one (x := x) l (i + 1) _ q hnd hlow' hq j k (by omega) hk
            simpa using this
      · cases hr'
    · cases hq
theorem RightT.one {t : List Nd} (h : RightT t) {j k : Nat} {x : Int} (hj : j < t.length) (hk : k < t.length) (h1 : x ∈ (t.getD j default).args) (h2 : x ∈ (t.getD k default).args) : j = k := by
  have ht := h.tm
  unfold isTermS at ht
  rw [Bool.and_eq_true] at ht
  have ht := ht.2
  split at ht
  · rename_i q hq
    rcases Nat.lt_trichotomy j k with hlt | heq | hlt
    · exact absurd h2 (rootsF_one t 0 [] q List.nodup_nil (fun x hx => by cases hx) hq j k hlt hk h1)
    · exact heq
    · exact absurd h1 (rootsF_one t 0 [] q List.nodup_nil (fun x hx => by cases hx) hq k j hlt hj h2)
  · cases ht
/-! ## What the parts of the reference ask for -/
theorem tabU : (opsU.all fun s => decide (s = wIsp) || decide (s = wIsc) || (lookT s 1).isSome) = true := by kernel_rfl
theorem tabM : ((lookT ⟨#[45]⟩ 1).isSome && (lookT ⟨#[45]⟩ 2).isSome) = true := by kernel_rfl
theorem tabB : (opsB.all fun s => (lookT s 2).isSome) = true := by kernel_rfl
theorem tabW : ((lookT opsW3 3).isSome && (lookT opsW4 4).isSome) = true := by kernel_rfl
theorem look_opsOf {s : ByteArray} {n : Int} (h : n ∈ opsOf s) (h1 : s ≠ wIsp) (h2 : s ≠ wIsc) : (lookT s n).isSome = true := by
  have hM := tabM
  have hW := tabW
  rw [Bool.and_eq_true] at hM hW
  unfold opsOf at h
  split at h
  · rename_i hs
    have := List.all_eq_true.1 tabU s hs
    simp only [Bool.or_eq_true, decide_eq_true_eq] at this
    rw [List.mem_singleton] at h
    subst h
    rcases this with (this | this) | this
    · exact absurd this h1
    · exact absurd this h2
    · exact this
  split at h
  · rename_i hs
    subst hs
    simp only [List.mem_cons, List.not_mem_nil, or_false] at h
    rcases h with rfl | rfl
    · exact hM.1
    · exact hM.2
  split at h
  · rename_i hs
    rw [List.mem_singleton] at h
    subst h
    exact List.all_eq_true.1 tabB s hs
  split at h
  · rename_i hs
    rw [List.mem_singleton] at h
    subst h hs
    exact hW.1
  split at h
  · rename_i hs
    rw [List.mem_singleton] at h
    subst h hs
    exact hW.2
  · cases h
theorem tabA : (opTab.all fun p => match alikeS p.1 with | none => true | some l => decide (l.length = 2) && decide (0 ≤ l.getD 0 0) && decide (l.getD 0 0 < p.2.1) && decide (0 ≤ l.getD 1 0) && decide (l.getD 1 0 < p.2.1)) = true := by kernel_rfl
theorem opsOf_pos {s : ByteArray} {n : Int} (h : n ∈ opsOf s) : 1 ≤ n := by
  unfold opsOf at h
  repeat (first | (split at h) | (simp at h; omega) | (cases h; done))
theorem RightT.arO {t : List Nd} (h : RightT t) {i : Nat} (hi : i < t.length) : if (t.getD i default).k = 8 then ((t.getD i default).args.length : Int) ∈ opsOf (t.getD i default).tx else if (t.getD i default).k = 9 then (t.getD i default).args.length = (t.getD i default).names.length else if (t.getD i default).k = 10 then True else if (t.getD i default).k = 11 then (t.getD i default).args.length = 1 ∧ (t.getD i default).names.length = 1 else if (t.getD i default).k = 12 then (t.getD i default).args.length = 1 else if (t.getD i default).k = 13 then (t.getD i default).args.length = 2 else (t.getD i default).args.length = 0 := by
  have := h.ar i hi
  unfold arOk at this
  exact of_decide_eq_true this
theorem RightT.a12 {t : List Nd} (h : RightT t) {i : Nat} (hi : i < t.length) (hk : (t.getD i default).k = 12) : (t.getD i default).args.length = 1 := by
  have := h.arO hi
  rw [hk] at this
  simpa using this
theorem RightT.a13 {t : List Nd} (h : RightT t) {i : Nat} (hi : i < t.length) (hk : (t.getD i default).k = 13) : (t.getD i default).args.length = 2 := by
  have := h.arO hi
  rw [hk] at this
  simpa using this
theorem RightT.a8 {t : List Nd} (h : RightT t) {i : Nat} (hi : i < t.length) (hk : (t.getD i default).k = 8) : ((t.getD i default).args.length : Int) ∈ opsOf (t.getD i default).tx := by
  have := h.arO hi
  rw [if_pos hk] at this
  exact this
theorem asks_k {x : Nd} (h : asksS x = true) : x.k = 8 ∧ (x.tx = wIsp ∨ x.tx = wIsc) := by
  simp only [asksS, Bool.and_eq_true, Bool.or_eq_true, decide_eq_true_eq] at h
  exact h
theorem asks_no {x : Nd} (h : asksS x = false) (hk : x.k = 8) : x.tx ≠ wIsp ∧ x.tx ≠ wIsc := by
  constructor
  · intro he; unfold asksS at h; rw [hk, he] at h; simp at h
  · intro he; unfold asksS at h; rw [hk, he] at h; simp at h
theorem RightT.asks {t : List Nd} (h : RightT t) {i : Nat} (hi : i < t.length) (ha : asksS (t.getD i default) = true) : (t.getD i default).args.length = 1 ∧ kAt t ((t.getD i default).args.getD 0 0) = 12 := by
  refine ⟨asks_args ha (h.ar i hi), ?_⟩
  have hf := h.fm i hi
  unfold frmE at hf
  split at hf
  · cases hf
  split at hf
  · cases hf
  split at hf
  · cases hf
  split at hf
  · cases hf
  · rename_i h4
    by_cases hk : kAt t ((t.getD i default).args.getD 0 0) = 12
    · exact hk
    · exact absurd ⟨ha, hk⟩ h4
theorem Low.get {rs : List Int} {i : Nat} (h : Low rs i) {j : Nat} (hj : j < rs.length) : 0 ≤ rs.getD j 0 ∧ rs.getD j 0 < i := by
  refine h _ ?_
  simp [List.getD, hj]
theorem RightT.app {t : List Nd} (h : RightT t) {wk ks : List Int} (hi : ks.length < t.length) (hk : (t.getD ks.length default).k = 8) (hw : wk.length = (t.getD ks.length default).args.length) : AppP t wk ks := {
  ib := hi
  k8 := hk
  av ha := by
    obtain ⟨h1, h2⟩ := h.asks hi ha
    have h3 := (h.low _ hi).get (j := 0) (by omega)
    have hlt : ((t.getD ks.length default).args.getD 0 0).toNat < t.length := by omega
    have h4 := h.a12 hlt h2
    have h5 := (h.low _ hlt).get (j := 0) (by omega)
    refine ⟨by omega, h3.1, by omega, by omega, h5.1, by omega⟩
  na ha := by
    have h1 := h.a8 hi hk
    obtain ⟨h2, h3⟩ := asks_no ha hk
    have h4 := look_opsOf h1 h2 h3
    have h5 := opsOf_pos h1
    refine ⟨by rw [hw]; exact h4, by omega, fun l hl => ?_⟩
    obtain ⟨p, hp⟩ := Option.isSome_iff_exists.1 h4
    obtain ⟨q1, q2, q3⟩ := lookT_mem hp
    have := List.all_eq_true.1 tabA p q1
    rw [q2, hl, q3] at this
    simp only [Bool.and_eq_true, decide_eq_true_eq] at this
    obtain ⟨⟨⟨⟨b1, b2⟩, b3⟩, b4⟩, b5⟩ := this
    refine ⟨b1, b2, by omega, b4, by omega⟩ }
theorem RightT.kin {t : List Nd} (h : RightT t) {ks : List Int} (hi : ks.length < t.length) : KinP t ks := {
  ib := hi
  kk := h.kk _ hi
  ar := h.low _ hi
  a12 hk := by have := h.a12 hi hk; omega
  a13 hk := by have := h.a13 hi hk; omega
  a8 hk := h.app hi hk (by simp [opK])
  n8 hk := by have := opsOf_pos (h.a8 hi hk); omega }
theorem RightT.askArg {t : List Nd} (h : RightT t) : ∀ x ∈ t, askArg x := by
  intro x hx ha
  obtain ⟨i, hi, rfl⟩ := List.getElem_of_mem hx
  have := h.asks hi (by simpa [List.getD, hi] using ha)
  simp [List.getD, hi] at this
  omega
/-- Whether a field is asked for, by both. -/
theorem askF_iff {l : List Nd} {a : Int} : ∀ (m j : Nat), (∀ p q, p < l.length → q < l.length → a ∈ (l.getD p default).args → a ∈ (l.getD q default).args → p = q) → j + m = l.length →
    (askF l a m j = true ↔ ∃ k, j ≤ k ∧ k < l.length ∧ a ∈ (l.getD k default).args ∧ asksS (l.getD k default) = true)
  | 0, j, h, hm => by
    simp only [askF]
    constructor
    · intro h; cases h
    · rintro ⟨k, h1, h2, _⟩; omega
  | m + 1, j, h, hm => by
    simp only [askF]
    split
    · rename_i hin
      constructor
      · intro ha; exact ⟨j, by omega, by omega, hin, ha⟩
      · rintro ⟨k, h1, h2, h3, h4⟩
        have := h j k (by omega) h2 hin h3
        subst this
        exact h4
    · rename_i hin
      rw [askF_iff m (j + 1) h (by omega)]
      constructor
      · rintro ⟨k, h1, h2⟩; exact ⟨k, by omega, h2⟩
      · rintro ⟨k, h1, h2, h3, h4⟩
        refine ⟨k, ?_, h2, h3, h4⟩
        by_cases hkj : k = j
        · subst hkj; exact absurd h3 hin
        · omega
theorem RightT.ask_same {t : List Nd} (h : RightT t) {p : Nat} (hp : p < t.length) : askF t (p : Int) (t.length - (p + 1)) (p + 1) = decide (0 ≤ idxG (askOf (p : Int)) t) := by
  rw [Bool.eq_iff_iff, decide_eq_true_iff, idxG_iff, askF_iff _ _ (fun a b ha hb h1 h2 => h.one ha hb h1 h2) (by omega)]
  constructor
  · rintro ⟨k, h1, h2, h3, h4⟩
    refine ⟨t.getD k default, by simp [List.getD, h2], ?_⟩
    have h5 := (h.asks h2 h4).1
    unfold askOf
    rw [h4, Bool.true_and, decide_eq_true_iff]
    match hargs : (t.getD k default).args, h5 with
    | [b], _ => rw [hargs] at h3; rw [List.mem_singleton] at h3; rw [h3]; rfl
  · rintro ⟨x, hx, ha⟩
    obtain ⟨i, hi, rfl⟩ := List.getElem_of_mem hx
    unfold askOf at ha
    rw [Bool.and_eq_true, decide_eq_true_iff] at ha
    have e : t.getD i default = t[i] := by simp [List.getD, hi]
    rw [← e] at ha
    have h5 := (h.asks hi ha.1).1
    have hm : (p : Int) ∈ (t.getD i default).args := by
      match hargs : (t.getD i default).args, h5 with
      | [b], _ => rw [hargs] at ha; rw [List.mem_singleton]; exact ha.2.symm
    have := (h.low i hi) _ hm
    exact ⟨i, by omega, hi, hm, ha.1⟩
end Go.Proofs.Sx

set_option linter.unusedVariables false
set_option linter.unusedSimpArgs false
set_option maxRecDepth 100000
namespace Go.Proofs.Sx
open Go Go.Proofs Go.Proofs.Am 
variable {gs : List Nat}

/-- Do all operands have kinds that the rule permits? -/
def wantsOk (r : Ru) (wk : List Int) : Prop := ∀ i, i < wk.length → i < r.wants.length → ∀ l, r.wants.getD i none = some l → mayL (wk.getD i 0) l = true
def alA (r : Ru) (wk : List Int) : Int := wk.getD ((r.alike.getD []).getD 0 0).toNat 0
def alB (r : Ru) (wk : List Int) : Int := wk.getD ((r.alike.getD []).getD 1 0).toNat 0
def res0 (r : Ru) (wk : List Int) : Int := if r.res = -1 then wk.getD 0 0 else r.res
open Classical in
/-- The kind by a rule. -/
noncomputable def ruleP (r : Ru) (wk : List Int) : Int × Bool :=
  if ¬ wantsOk r wk then (-1, false)
  else if (r.alike.getD []).length = 2 then (if alA r wk ≠ -1 ∧ alB r wk ≠ -1 ∧ alA r wk ≠ alB r wk then (-1, false) else (if res0 r wk = -1 then alB r wk else res0 r wk, true))
  else (res0 r wk, true)
/-- The kind of a node that has operands. -/
noncomputable def kindP (x : Nd) (wk : List Int) : Int × Bool :=
  if x.k = 9 then (9, true) else if x.k = 10 then (10, true) else if x.k = 11 then (12, true)
  else if x.k = 12 then (-1, mayL (wk.getD 0 0) [9, 12])
  else if x.k = 13 then (if wk.getD 0 0 = 10 ∨ wk.getD 0 0 = 11 then -1 else wk.getD 0 0, mayL (wk.getD 0 0) [10, 11, 4, 5, 6] && mayL (wk.getD 1 0) [2])
  else ruleP (ruleS x.tx) wk
theorem tabL : (opTab.map fun p => lookR p.1) = opTab.map fun p => some p.2.2.1 := by kernel_rfl
def clsR (s : ByteArray) : Int := if inB rg0 s = true then -1 else if inB rgA s = true then -1 else if inB rgB s = true then 1 else if inB rg6 s = true then 6 else if inB rg4 s = true then 4 else if inB rg5 s = true then 5 else 2
theorem tabC : (opTab.all fun p => decide (clsR p.1 = p.2.2.1.res) && (!inB rg0 p.1 || p.2.2.1.alike.isNone) && (!inB rgA p.1 || decide ((p.2.2.1.alike.getD []).length = 2)) && (!p.2.2.1.alike.isSome || (decide ((p.2.2.1.alike.getD []).length = 2) && decide (0 ≤ (p.2.2.1.alike.getD []).getD 1 0) && decide ((p.2.2.1.alike.getD []).getD 1 0 = p.2.1 - 1))) && decide (p.2.1 ≤ p.2.2.1.wants.length)) = true := by kernel_rfl
theorem mayL_iff (k : Int) (l : List Int) : mayL k l = true ↔ k = -1 ∨ k ∈ l := by simp [mayL]
theorem byt_charL {w : ByteArray} {j : Nat} (h : j < w.size) : (w.data.toList.map fun c => charL (c.toNat : Int)).getD j none = charL (byt w j) := by
  have hl : j < w.data.toList.length := by simpa using h
  unfold byt
  simp only [List.getD, List.getElem?_map]
  rw [List.getElem?_eq_getElem hl]
  simp
open Classical in
/-- THE SAME KIND of an operator that asks for no field. -/
theorem app_rule {s : ByteArray} {wk : List Int} (h : (lookT s wk.length).isSome = true) (hn : 0 < wk.length) :
    (if ¬ okW wk (wantW s wk.length) then ((0 : Int), (17 : Int)) else if ¬ okA wk (alikeS s) then (0, 17) else (resK s wk, 0)) = if (ruleP (ruleS s) wk).2 = true then ((ruleP (ruleS s) wk).1, 0) else (0, 17) := by
  obtain ⟨p, hp⟩ := Option.isSome_iff_exists.1 h
  obtain ⟨q1, q2, q3⟩ := lookT_mem hp
  have hw : wantW s wk.length = p.2.2.2 := by unfold wantW; rw [hp]
  have hr : ruleS s = p.2.2.1 := by
    have := List.map_inj_left.1 tabL p q1
    unfold ruleS
    rw [← q2, this]; rfl
  have t1 := List.all_eq_true.1 tab_ok p q1
  simp only [Bool.and_eq_true, decide_eq_true_eq] at t1
  obtain ⟨⟨t1, t2⟩, t3⟩ := t1
  have t4 := List.all_eq_true.1 tabC p q1
  simp only [Bool.and_eq_true, decide_eq_true_eq] at t4
  obtain ⟨⟨⟨⟨c1, c2⟩, c3⟩, c4⟩, c5⟩ := t4
  rw [q2] at c1 c2 c3 t3
  rw [hw, hr, ← t3]
  generalize hR : p.2.2.1 = R at *
  generalize hW : p.2.2.2 = W at *
  have hsz : W.size = wk.length := by omega
  have hwk : okW wk W ↔ wantsOk R wk := by
    have key : ∀ j, j < wk.length → R.wants.getD j none = charL (byt W j) := by
      intro j hj
      have := byt_charL (w := W) (j := j) (by omega)
      rw [← t2] at this
      rw [← this]
      have h2 : j < p.2.1.toNat := by omega
      simp [List.getD, List.getElem?_take, h2]
    unfold okW wantsOk
    constructor
    · intro h j hj _ l hl
      have := h j hj
      rw [key j hj] at hl
      unfold mayB isOfK at this
      rw [hl] at this
      exact this
    · intro h j hj
      unfold mayB isOfK
      cases hc : charL (byt W j) with
      | none => simp [isOfL]
      | some l => exact h j hj (by omega) l (by rw [key j hj]; exact hc)
  by_cases hWk : wantsOk R wk
  · have hrp : ruleP R wk = if (R.alike.getD []).length = 2 then (if alA R wk ≠ -1 ∧ alB R wk ≠ -1 ∧ alA R wk ≠ alB R wk then (-1, false) else (if res0 R wk = -1 then alB R wk else res0 R wk, true)) else (res0 R wk, true) := by
      unfold ruleP
      rw [if_neg (not_not_intro hWk)]
    rw [hrp, if_neg (not_not_intro (hwk.2 hWk))]
    cases hal : R.alike with
    | none =>
      have ok0 : okA wk none := trivial
      rw [if_neg (not_not_intro ok0)]
      rw [hal] at c3
      have hA : inB rgA s = false := by
        rcases Bool.eq_false_or_eq_true (inB rgA s) with h | h
        · rw [h] at c3; simp at c3
        · exact h
      simp only [Option.getD_none, List.length_nil]
      rw [if_neg (show ¬ (0 : Nat) = 2 by omega), if_pos rfl]
      have : resK s wk = res0 R wk := by
        unfold res0 resK
        unfold clsR at c1
        rw [hA] at c1 ⊢
        simp only [Bool.false_eq_true, if_false] at c1 ⊢
        split
        · rename_i h0; rw [if_pos h0] at c1; rw [← c1, if_pos rfl]
        · rename_i h0; rw [if_neg h0] at c1
          have : R.res ≠ -1 := by rw [← c1]; repeat (first | split | decide)
          rw [if_neg this]; exact c1
      rw [this]
    | some l =>
      rw [hal] at c2 c4
      have h0 : inB rg0 s = false := by
        rcases Bool.eq_false_or_eq_true (inB rg0 s) with h | h
        · rw [h] at c2; simp at c2
        · exact h
      simp only [Option.isSome_some, Bool.not_true, Bool.false_or, Bool.and_eq_true, decide_eq_true_eq, Option.getD_some] at c4
      obtain ⟨⟨d1, d2⟩, d3⟩ := c4
      have e1 : alA R wk = wk.getD (l.getD 0 0).toNat 0 := by unfold alA; rw [hal]; rfl
      have e2 : alB R wk = wk.getD (l.getD 1 0).toNat 0 := by unfold alB; rw [hal]; rfl
      have e3 : (l.getD 1 0).toNat = wk.length - 1 := by omega
      simp only [Option.getD_some]
      rw [if_pos d1]
      by_cases hok : okA wk (some l)
      · have hok' : ¬ (alA R wk ≠ -1 ∧ alB R wk ≠ -1 ∧ alA R wk ≠ alB R wk) := by
          rintro ⟨a1, a2, a3⟩
          rw [e1] at a1 a3; rw [e2] at a2 a3
          rcases hok with h | h | h
          · exact a1 h
          · exact a2 h
          · exact a3 h
        rw [if_neg (not_not_intro hok), if_neg hok', if_pos rfl]
        have : resK s wk = if res0 R wk = -1 then alB R wk else res0 R wk := by
          rw [e2, e3]
          unfold res0 resK
          unfold clsR at c1
          rw [h0] at c1 ⊢
          simp only [Bool.false_eq_true, if_false] at c1 ⊢
          split
          · rename_i hA; rw [if_pos hA] at c1; rw [← c1, if_pos rfl]
          · rename_i hA; rw [if_neg hA] at c1
            have : R.res ≠ -1 := by rw [← c1]; repeat (first | split | decide)
            rw [if_neg this, if_neg this]; exact c1
        rw [this]
      · have hok' : alA R wk ≠ -1 ∧ alB R wk ≠ -1 ∧ alA R wk ≠ alB R wk := by
          rw [e1, e2]
          refine ⟨fun h => hok (.inl h), fun h => hok (.inr (.inl h)), fun h => hok (.inr (.inr h))⟩
        rw [if_pos hok, if_pos hok', if_neg (fun h => nomatch h)]
  · have hrp : ruleP R wk = (-1, false) := by unfold ruleP; rw [if_pos hWk]
    rw [hrp, if_pos (fun hn => hWk (hwk.1 hn)), if_neg (fun h => nomatch h)]
/-- The operands' kinds, as the program asks for them. -/
noncomputable def wkP (t : List Nd) (ks : List Int) (x : Nd) : List Int := if asksS x = true then x.args.map (fun a => ks.getD ((t.getD a.toNat default).args.getD 0 0).toNat 0) else opK ks x
theorem tabK : ((ruleS wIsp).wants = [some [9]] ∧ (ruleS wIsp).alike = none ∧ (ruleS wIsp).res = 1) ∧ ((ruleS wIsc).wants = [some [12]] ∧ (ruleS wIsc).alike = none ∧ (ruleS wIsc).res = 1) := by
  refine ⟨⟨?_, ?_, ?_⟩, ⟨?_, ?_, ?_⟩⟩ <;> kernel_rfl
theorem one_wants {r : Ru} {l : List Int} {k : Int} (h : r.wants = [some l]) : wantsOk r [k] ↔ mayL k l = true := by
  unfold wantsOk
  rw [h]
  constructor
  · intro hh; exact hh 0 (by simp) (by simp) l rfl
  · intro hh i hi _ l' hl
    have : i = 0 := by simp at hi; omega
    subst this
    simp only [List.getD_cons_zero, Option.some.injEq] at hl
    subst hl
    exact hh
/-- THE SAME KIND of every node with operands. -/
theorem kind_same {t : List Nd} (h : RightT t) {ns : List Kn} {ks : List Int} (hi : ks.length < t.length) (hk : 8 ≤ (t.getD ks.length default).k) (h14 : (t.getD ks.length default).k ≠ 14) :
    kindS ns t ks (opK ks (t.getD ks.length default)) (t.getD ks.length default) = if (kindP (t.getD ks.length default) (wkP t ks (t.getD ks.length default))).2 = true then ((kindP (t.getD ks.length default) (wkP t ks (t.getD ks.length default))).1, 0) else (0, 17) := by
  have hkk := (h.kk _ hi).2
  have hNa : (t.getD ks.length default).k = 8 → asksS (t.getD ks.length default) = false → (lookT (t.getD ks.length default).tx (opK ks (t.getD ks.length default)).length).isSome = true ∧ 0 < (opK ks (t.getD ks.length default)).length := fun h8 ha => by
    have := (h.app (wk := opK ks (t.getD ks.length default)) hi h8 (by simp [opK])).na ha
    exact ⟨this.1, this.2.1⟩
  have hAsk := h.asks hi
  generalize t.getD ks.length default = x at *
  unfold kindS kindP
  rw [if_neg (by omega)]
  by_cases h9 : x.k = 9
  · rw [if_pos h9, if_pos h9]; rfl
  rw [if_neg h9, if_neg h9]
  by_cases h10 : x.k = 10
  · rw [if_pos h10, if_pos h10]; rfl
  rw [if_neg h10, if_neg h10]
  by_cases h11 : x.k = 11
  · rw [if_pos h11, if_pos h11]; rfl
  rw [if_neg h11, if_neg h11, if_neg h14]
  have hno : x.k ≠ 8 → wkP t ks x = opK ks x := fun h8 => by
    unfold wkP
    rw [if_neg (fun ha => h8 (asks_k ha).1)]
  by_cases h12 : x.k = 12
  · rw [if_pos h12, if_pos h12, hno (by omega)]
    generalize opK ks x = wk
    have hm := mayL_iff (wk.getD 0 0) [9, 12]
    simp only [List.mem_cons, List.not_mem_nil, or_false] at hm
    by_cases hc : wk.getD 0 0 ≠ -1 ∧ wk.getD 0 0 ≠ 9 ∧ wk.getD 0 0 ≠ 12
    · rw [if_pos hc, if_neg (by rw [hm]; omega)]
    · rw [if_neg hc, if_pos (by rw [hm]; omega)]
  rw [if_neg h12, if_neg h12]
  by_cases h13 : x.k = 13
  · rw [if_pos h13, if_pos h13, hno (by omega)]
    generalize opK ks x = wk
    have m1 : mayL (wk.getD 0 0) [10, 11, 4, 5, 6] = mayB (wk.getD 0 0) 108 := by
      rw [Bool.eq_iff_iff]; simp [mayL, mayB, isOfK, isOfL, charL]; omega
    have m2 : mayL (wk.getD 1 0) [2] = mayB (wk.getD 1 0) 105 := by
      rw [Bool.eq_iff_iff]; simp [mayL, mayB, isOfK, isOfL, charL]
    simp only [m1, m2, Bool.and_eq_true]
    by_cases hc : mayB (wk.getD 0 0) 108 = false ∨ mayB (wk.getD 1 0) 105 = false
    · rw [if_pos hc, if_neg (fun hh => by rcases hc with hc | hc <;> rw [hc] at hh <;> simp at hh)]
    · have hc' : mayB (wk.getD 0 0) 108 = true ∧ mayB (wk.getD 1 0) 105 = true := by simpa using hc
      rw [if_neg hc, if_pos hc']
      have := hc'.1
      rw [← m1, mayL_iff] at this
      simp only [List.mem_cons, List.not_mem_nil, or_false] at this
      by_cases h46 : 4 ≤ wk.getD 0 0 ∧ wk.getD 0 0 ≤ 6
      · rw [if_pos h46, if_neg (by omega)]
      · rw [if_neg h46]
        split
        · rfl
        · have : wk.getD 0 0 = -1 := by omega
          rw [this]
  rw [if_neg h13, if_neg h13]
  have h8 : x.k = 8 := by omega
  rw [if_pos h8]
  unfold appS
  rcases Bool.eq_false_or_eq_true (asksS x) with ha | ha
  · rw [if_pos ha]
    obtain ⟨a1, a2⟩ := hAsk ha
    have hw : wkP t ks x = [ks.getD ((t.getD (x.args.getD 0 0).toNat default).args.getD 0 0).toNat 0] := by
      unfold wkP
      rw [if_pos ha]
      generalize x.args = ag at a1 ⊢
      match ag, a1 with
      | [b], _ => rfl
    rw [hw]
    generalize ks.getD ((t.getD (x.args.getD 0 0).toNat default).args.getD 0 0).toNat 0 = k
    obtain ⟨⟨b1, b2, b3⟩, ⟨c1, c2, c3⟩⟩ := tabK
    have ne : wIsp ≠ wIsc := by decide
    rcases (asks_k ha).2 with ht | ht
    · rw [ht, if_neg ne]
      unfold ruleP
      rw [one_wants b1]
      have hml := mayL_iff k [9]
      simp only [List.mem_cons, List.not_mem_nil, or_false] at hml
      by_cases hm : mayL k [9] = true
      · have hk := hml.1 hm
        rw [if_neg (show ¬ (k ≠ -1 ∧ _) by omega)]
        rw [if_neg (not_not_intro hm), b2]
        simp only [Option.getD_none, List.length_nil]
        rw [if_neg (show ¬ (0 : Nat) = 2 by omega), if_pos rfl]
        simp only [res0, b3]
        rw [if_neg (by omega)]
      · have hk := mt hml.2 hm
        rw [if_pos (by omega), if_pos hm, if_neg (fun h => nomatch h)]
    · rw [ht, if_pos rfl]
      unfold ruleP
      rw [one_wants c1]
      have hml := mayL_iff k [12]
      simp only [List.mem_cons, List.not_mem_nil, or_false] at hml
      by_cases hm : mayL k [12] = true
      · have hk := hml.1 hm
        rw [if_neg (show ¬ (k ≠ -1 ∧ _) by omega)]
        rw [if_neg (not_not_intro hm), c2]
        simp only [Option.getD_none, List.length_nil]
        rw [if_neg (show ¬ (0 : Nat) = 2 by omega), if_pos rfl]
        simp only [res0, c3]
        rw [if_neg (by omega)]
      · have hk := mt hml.2 hm
        rw [if_pos (by omega), if_pos hm, if_neg (fun h => nomatch h)]
  · rw [if_neg (by rw [ha]; exact fun h => nomatch h)]
    have hw : wkP t ks x = opK ks x := by unfold wkP; rw [if_neg (by rw [ha]; exact fun h => nomatch h)]
    rw [hw]
    obtain ⟨n1, n2⟩ := hNa h8 ha
    exact app_rule n1 n2
end Go.Proofs.Sx

set_option linter.unusedVariables false
set_option linter.unusedSimpArgs false
set_option maxRecDepth 100000
namespace Go.Proofs.Sx
open Go Go.Proofs Go.Proofs.Am 
variable {gs : List Nat}

noncomputable def kinE (ns : List Kn) (t : List Nd) (ks : List Int) : Int × Int := kindS ns t ks (opK ks (t.getD ks.length default)) (t.getD ks.length default)
theorem pc1036e (no : Option (List Kn)) (o : Option (List Nd)) (ko : Option (List Int)) (hn : okKs no) (ho : okT o) (hk : okIs ko) (hP : KinP (o.getD []) (ko.getD [])) :
    PureCall Tryz.prog [0] 36 [encKs no, encT o, encS81 ko] (dRet (.tup [.int .i64 (kinE (no.getD []) (o.getD []) (ko.getD [])).1, .int .i64 (kinE (no.getD []) (o.getD []) (ko.getD [])).2])) := pc1036 no o ko hn ho hk hP
open Classical in
noncomputable def e1036e : Ent := ⟨36, fun | [d_no, d_o, d_ko] => decide (isKs d_no ∧ isT d_o ∧ isS81 d_ko ∧ KinP ((toT d_o).getD []) ((toS81 d_ko).getD [])) | _ => false, fun | [d_no, d_o, d_ko] => .tup [.int .i64 (kinE ((toKs d_no).getD []) ((toT d_o).getD []) ((toS81 d_ko).getD [])).1, .int .i64 (kinE ((toKs d_no).getD []) ((toT d_o).getD []) ((toS81 d_ko).getD [])).2] | _ => .inil⟩
open Classical in
theorem ok1036e : EntOk Tryz.prog [0] e1036e := fun ds h => by
  unfold e1036e at h ⊢
  simp only at h ⊢
  split at h
  · rw [decide_eq_true_iff] at h
    obtain ⟨⟨v0, rfl, k0⟩, ⟨v1, rfl, k1⟩, ⟨v2, rfl, k2⟩, kx⟩ := h
    simp only [zB2, zA1, zA0, zB9, zC9, zC8, zE7, zD9, toS81_enc] at kx ⊢
    exact pc1036e _ _ _ k0 k1 k2 kx
  · cases h
open Classical in
/-- The kind of the next node, or an error. -/
noncomputable def stepK (ns : List Kn) (t : List Nd) (ks : List Int) : Int × Int :=
  if (t.getD ks.length default).k = 12 ∧ askF t (ks.length : Int) (t.length - (ks.length + 1)) (ks.length + 1) = true then (-1, 0) else kinE ns t ks
/-- The kind of an expression, or a node and the error. -/
noncomputable def kindF (ns : List Kn) (t : List Nd) : Nat → List Int → Int × Int × Int
  | 0, ks => (ks.getD (t.length - 1) 0, 0, 0)
  | m + 1, ks => if (stepK ns t ks).2 ≠ 0 then (0, (ks.length : Int), (stepK ns t ks).2) else kindF ns t m (ks ++ [(stepK ns t ks).1])
theorem kindF_step {ns : List Kn} {t : List Nd} {ks : List Int} {r : Int × Int × Int} (h : ks.length < t.length) (hr : kindF ns t (t.length - ks.length) ks = r) :
    ((stepK ns t ks).2 ≠ 0 → r = (0, (ks.length : Int), (stepK ns t ks).2)) ∧ ((stepK ns t ks).2 = 0 → kindF ns t (t.length - (ks ++ [(stepK ns t ks).1]).length) (ks ++ [(stepK ns t ks).1]) = r) := by
  rw [show t.length - ks.length = (t.length - (ks ++ [(stepK ns t ks).1]).length) + 1 from by simp; omega, kindF] at hr
  constructor
  · intro h; rw [if_pos h] at hr; exact hr.symm
  · intro h; rw [if_neg (not_not_intro h)] at hr; exact hr
theorem stepK_asked {ns : List Kn} {t : List Nd} {ks : List Int} (h1 : (t.getD ks.length default).k = 12) (h2 : askF t (ks.length : Int) (t.length - (ks.length + 1)) (ks.length + 1) = true) : stepK ns t ks = (-1, 0) := by
  unfold stepK; rw [if_pos ⟨h1, h2⟩]
theorem stepK_else {ns : List Kn} {t : List Nd} {ks : List Int} (h : (t.getD ks.length default).k = 12 → askF t (ks.length : Int) (t.length - (ks.length + 1)) (ks.length + 1) = false) : stepK ns t ks = kinE ns t ks := by
  unfold stepK; rw [if_neg (fun hh => by have := h hh.1; rw [hh.2] at this; cases this)]
theorem agg_81n : DV.agg [DV.snil] = encS81 none := rfl
def TbK39T : BT := (.node 1000000 ⟨none, .other, [], none⟩ .nil (.node 2000036 ⟨none, .other, [], none⟩ .nil .nil))
def TbK39 : Nat → Option TRow := orT TbK39T.get Tb
theorem TbK39Ok : TabOk Tryz.prog TbK39 := tabOk_or (tabOk_tree (by kernel_rfl)) TbOk
def lv1010 : Nat → List Nat × List Nat
  | 3 => ([0, 1, 7, 8], [10007])
  | _ => ([], [])
set_option maxHeartbeats 4000000 in
theorem pc1010 (no : Option (List Kn)) (o : Option (List Nd)) (hn : okKs no) (ho : okT o) (hR : RightT (o.getD [])) :
    PureCall Tryz.prog [0] 10 [encKs no, encT o] (dRet (.tup [.int .i64 (kindF (no.getD []) (o.getD []) (o.getD []).length []).1, .int .i64 (kindF (no.getD []) (o.getD []) (o.getD []).length []).2.1, .int .i64 (kindF (no.getD []) (o.getD []) (o.getD []).length []).2.2])) := by
  generalize hr : kindF (no.getD []) (o.getD []) (o.getD []).length [] = r
  have hl := ho.1
  refine zD2 mixed fn1010 (Nat.le_of_ble_eq_true rfl) (Nat.lt_of_succ_le (Nat.le_of_ble_eq_true rfl)) (sfOk (.cons ok1035' (.cons ok1036e .nil))) TbK39Ok (lv := lv1010) fun I F hI hF => ?_
  refine zD7 fun C hC => ?_
  generalize hgen0 : encKs no = gen0
  generalize hgen1 : encT o = gen1
  generalize hgen2 : DV.int .i64 r.1 = gen2
  generalize hgen3 : DV.int .i64 r.2.1 = gen3
  generalize hgen4 : DV.int .i64 r.2.2 = gen4
  cbv
  subst hgen0
  subst hgen1
  subst hgen2
  subst hgen3
  subst hgen4
  subst hC
  refine ⟨?_⟩
  simp (maxSteps := 3000000) only [hI, hF, std]
  simp only [smp, lookOk, lookRes, sfOf, sgOf, hOk, hRes, hOut, ↓reduceIte, Nat.reduceEqDiff, reduceCtorEq, zC2, zA2, zB6, zA5, zB4, zB5, zA4, zB3, zA3, zB2, zC1, zA1, zB1, zA0, zB0, zA9, zC6, zA6, zC5, zC0, zC4, zB8, zA7, zB7, zA8, zC9, zD1, zC8, zD0, zB9, zC3, zC7]
  refine zD8 (kend := fun I => kEndF I TbK39 [.tmp 4, .tmp 5, .tmp 6]) hI hF (sfOk (.cons ok1035' (.cons ok1036e .nil))) TbK39Ok (by exact fun Bk e s h => endF TbK39Ok Bk e s h) (lv := lv1010) 0 (fun i : {i : Bool × List Int // i.2.length ≤ (o.getD []).length ∧ (i.1 = true ↔ 0 < i.2.length) ∧ kindF (no.getD []) (o.getD []) ((o.getD []).length - i.2.length) i.2 = r} => [.d (encKs no), .d (encT o), accAt 0 1 i.1.1 i.1.2.length, .d (.int .i64 (i.1.2.length : Int))]) (fun i : {i : Bool × List Int // i.2.length ≤ (o.getD []).length ∧ (i.1 = true ↔ 0 < i.2.length) ∧ kindF (no.getD []) (o.getD []) ((o.getD []).length - i.2.length) i.2 = r} => [(0, accB 1 3 (accL i.1.2) i.1.1)]) (fun i : {i : Bool × List Int // i.2.length ≤ (o.getD []).length ∧ (i.1 = true ↔ 0 < i.2.length) ∧ kindF (no.getD []) (o.getD []) ((o.getD []).length - i.2.length) i.2 = r} => (o.getD []).length - i.1.2.length) [10007] (⟨(false, []), by simp, by simp, hr⟩ : {i : Bool × List Int // i.2.length ≤ (o.getD []).length ∧ (i.1 = true ↔ 0 < i.2.length) ∧ kindF (no.getD []) (o.getD []) ((o.getD []).length - i.2.length) i.2 = r}) (by rfl) (by rfl) ?_ ?_ fun i => ?_
  · rfl
  · rfl
  obtain ⟨⟨b, ks⟩, hi1, hi2, hi3⟩ := i
  have hi1 : ks.length ≤ (o.getD []).length := hi1
  have hi2 : b = true ↔ 0 < ks.length := hi2
  have hi3 : kindF (no.getD []) (o.getD []) ((o.getD []).length - ks.length) ks = r := hi3
  have w3 := zE0 (n := ks.length) (by omega)
  cases b with
  | false =>
    have h0 : ks = [] := by have := mt hi2.2; simpa using this
    subst h0
    rw [show accAt 0 1 false ([] : List Int).length = .d .snil from rfl, show accB 1 3 (accL []) false = none from rfl]
    refine zD7 fun C hC => ?_
    generalize hgen0 : encKs no = gen0
    generalize hgen1 : encT o = gen1
    generalize hgen2 : DV.int .i64 r.1 = gen2
    generalize hgen3 : DV.int .i64 r.2.1 = gen3
    generalize hgen4 : DV.int .i64 r.2.2 = gen4
    cbv
    subst hgen0
    subst hgen1
    subst hgen2
    subst hgen3
    subst hgen4
    subst hC
    refine ⟨?_⟩
    simp (maxSteps := 3000000) only [hI, hF, std]
    have hlt : 0 < (o.getD []).length := by have := hR.nl; omega
    have g1 := zF7 _ _ hlt
    simp only [smp, lookOk, lookRes, sfOf, sgOf, hOk, hRes, hOut, ↓reduceIte, Nat.reduceEqDiff, reduceCtorEq, zC2, zA2, zB6, zA5, zB4, zB5, zA4, zB3, zA3, zB2, zC1, zA1, zB1, zA0, zB0, zA9, zC6, zA6, zC5, zC0, zC4, zB8, zA7, zB7, zA8, zC9, zD1, zC8, zD0, zB9, zC3, zC7, e1035', e1036e, g1]
    have w1 : IntKind.i64.wrap 1 = 1 := rfl
    have hP := hR.kin (ks := []) hlt
    have hk0 : okIs none := Nat.zero_le _
    have hst := kindF_step (ks := []) hlt hi3
    have hs1 := stepK_asked (ns := no.getD []) (t := o.getD []) (ks := [])
    have hs2 := stepK_else (ns := no.getD []) (t := o.getD []) (ks := [])
    simp only [List.length_nil, Nat.zero_add, Int.ofNat_zero, Int.natCast_zero, List.nil_append] at hP hst hs1 hs2
    simp [- List.getD_eq_getElem?_getD, - Subtype.exists, - Prod.exists, - Bool.exists_bool, hlt, w1, g1, zA9, zC6, zA6, zC5, zC0, zC4, zB8, zA7, zB7, zA8, zC9, zD1, zC8, zD0, zB9, zC3, zC7, zE5, zD4, zE2, zD5, zE1, zD6, zE7, zE8, zD9, zE3, zE6, zD3, agg_81n, toS81_enc, isS81_enc, zF5, ho, hn, hk0, hP, scalarD, List.getD_cons_zero, List.getD_cons_succ, isIK_int, asInt_int]
    refine ⟨fun h1 h2 => ?_, fun h => ?_⟩
    · have he := hs1 h1 h2
      rw [he] at hst
      exact ⟨⟨(true, [-1]), by show 1 ≤ _; omega, by simp, hst.2 rfl⟩, by show (o.getD []).length - 1 < _; omega, ⟨rfl, rfl⟩, rfl⟩
    · have he := hs2 h
      rw [he] at hst
      refine ⟨rfl, fun hn => ?_, fun hz => ⟨rfl, ⟨(true, [(kinE (no.getD []) (o.getD []) []).1]), by show 1 ≤ _; omega, by simp, hst.2 hz⟩, by show (o.getD []).length - 1 < _; omega, ⟨rfl, rfl⟩, rfl⟩⟩
      rw [hst.1 hn]; exact ⟨rfl, rfl, rfl⟩
  | true =>
    rw [show accAt 0 1 true ks.length = .slc 0 1 0 ks.length from rfl, show accB 1 3 (accL ks) true = some ⟨accL ks, 1, 3, true, true⟩ from rfl]
    refine zD7 fun C hC => ?_
    generalize hgen0 : encKs no = gen0
    generalize hgen1 : encT o = gen1
    generalize hgen2 : DV.int .i64 (ks.length : Int) = gen2
    generalize hgen3 : DV.int .i64 r.1 = gen3
    generalize hgen4 : DV.int .i64 r.2.1 = gen4
    generalize hgen5 : DV.int .i64 r.2.2 = gen5
    generalize hgen6 : accL ks = gen6
    generalize hgen7 : ks.length = gen7
    cbv
    subst hgen0
    subst hgen1
    subst hgen2
    subst hgen3
    subst hgen4
    subst hgen5
    subst hgen6
    subst hgen7
    subst hC
    refine ⟨?_⟩
    simp (maxSteps := 3000000) only [hI, hF, std]
    by_cases hlt : ks.length < (o.getD []).length
    · have g1 := zF7 _ _ hlt
      have hP := hR.kin hlt
      have hst := kindF_step hlt hi3
      have hs1 := stepK_asked (ns := no.getD []) (t := o.getD []) (ks := ks)
      have hs2 := stepK_else (ns := no.getD []) (t := o.getD []) (ks := ks)
      have rf := rowF_acc ks rfl
      have ro := rowOkF_acc ks rfl (by omega)
      have hok : okIs (some ks) := by
        show ks.length ≤ 1048576
        omega
      simp only [smp, lookOk, lookRes, sfOf, sgOf, hOk, hRes, hOut, ↓reduceIte, Nat.reduceEqDiff, reduceCtorEq, zC2, zA2, zB6, zA5, zB4, zB5, zA4, zB3, zA3, zB2, zC1, zA1, zB1, zA0, zB0, zA9, zC6, zA6, zC5, zC0, zC4, zB8, zA7, zB7, zA8, zC9, zD1, zC8, zD0, zB9, zC3, zC7, e1035', e1036e, g1, rf, ro, zF4]
      simp [- List.getD_eq_getElem?_getD, - Subtype.exists, - Prod.exists, - Bool.exists_bool, hlt, w3, g1, zA9, zC6, zA6, zC5, zC0, zC4, zB8, zA7, zB7, zA8, zC9, zD1, zC8, zD0, zB9, zC3, zC7, zE5, zD4, zE2, zD5, zE1, zD6, zE7, zE8, zD9, zE3, zE6, zD3, rf, ro, agg_81, toS81_enc, isS81_enc, zF5, ho, hn, hok, hP, scalarD, List.getD_cons_zero, List.getD_cons_succ, isIK_int, asInt_int, zF4]
      have hbl : ∀ x, x ∈ List.take ks.length (accL ks) → bel 0 8 x = true := fun x hx => by
        obtain ⟨y, hy, rfl⟩ := List.mem_map.1 (List.mem_of_mem_take hx)
        obtain ⟨z, hz, rfl⟩ := List.mem_map.1 hy
        rfl
      have hbig : ks.length ≤ 4294967295 := by omega
      have hrow : ∀ a : Int, List.take ks.length (accL ks) ++ [.d (.int .i64 a)] = accL (ks ++ [a]) := fun a => by
        rw [List.take_of_length_le (by rw [zF4]; exact Nat.le_refl _), accL_app]
      have hln : ∀ a : Int, (ks ++ [a]).length = ks.length + 1 := fun a => by simp
      refine ⟨fun h1 h2 => ⟨⟨by rw [← List.length.eq_def, zF4]; exact Nat.le_refl _, hbig⟩, ⟨hbl, rfl⟩, ?_⟩, fun h => ?_⟩
      · have he := hs1 h1 h2
        rw [he] at hst
        refine ⟨⟨(true, ks ++ [-1]), by show (ks ++ [-1]).length ≤ _; rw [hln]; omega, by simp, hst.2 rfl⟩, by show (o.getD []).length - (ks ++ [-1]).length < _; rw [hln]; omega, ⟨?_, ?_⟩, ?_⟩
        · show _ = AV.slc 0 1 0 (ks ++ [-1]).length; rw [hln]
        · show _ = (((ks ++ [-1]).length : Nat) : Int); rw [hln]; rfl
        · rw [hrow]; rfl
      · have he := hs2 h
        rw [he] at hst
        refine ⟨rfl, fun hn => ?_, fun hz => ⟨rfl, ⟨by rw [← List.length.eq_def, zF4]; exact Nat.le_refl _, hbig⟩, ⟨hbl, rfl⟩, ?_⟩⟩
        · rw [hst.1 hn]; exact ⟨rfl, rfl, rfl⟩
        · have := hst.2 hz
          generalize (kinE (no.getD []) (o.getD []) ks).1 = a at this ⊢
          refine ⟨⟨(true, ks ++ [a]), by show (ks ++ [a]).length ≤ _; rw [hln]; omega, by simp, this⟩, by show (o.getD []).length - (ks ++ [a]).length < _; rw [hln]; omega, ⟨?_, ?_⟩, ?_⟩
          · show _ = AV.slc 0 1 0 (ks ++ [a]).length; rw [hln]
          · show _ = (((ks ++ [a]).length : Nat) : Int); rw [hln]; rfl
          · rw [hrow]; rfl
    · have hnl := hR.nl
      have hkl : ks.length = (o.getD []).length := by omega
      have w5 : IntKind.i64.wrap (((o.getD []).length : Int) - 1) = (((o.getD []).length - 1 : Nat) : Int) := wrap_pred hnl (by omega)
      have hlk : (o.getD []).length - 1 < ks.length := by omega
      rw [hkl, Nat.sub_self, kindF] at hi3
      simp only [smp, lookOk, lookRes, sfOf, sgOf, hOk, hRes, hOut, ↓reduceIte, Nat.reduceEqDiff, reduceCtorEq, zC2, zA2, zB6, zA5, zB4, zB5, zA4, zB3, zA3, zB2, zC1, zA1, zB1, zA0, zB0, zA9, zC6, zA6, zC5, zC0, zC4, zB8, zA7, zB7, zA8, zC9, zD1, zC8, zD0, zB9, zC3, zC7, e1035', e1036e, w5]
      simp [- List.getD_eq_getElem?_getD, - Subtype.exists, - Prod.exists, - Bool.exists_bool, hlt, w3, w5, zF4, zG2 hlk, zH8 hlk, hlk]
      rw [← hi3]; exact ⟨rfl, rfl, rfl⟩
open Classical in
noncomputable def e1010 : Ent := ⟨10, fun | [d_no, d_o] => decide (isKs d_no ∧ isT d_o ∧ RightT ((toT d_o).getD [])) | _ => false, fun | [d_no, d_o] => .tup [.int .i64 (kindF ((toKs d_no).getD []) ((toT d_o).getD []) ((toT d_o).getD []).length []).1, .int .i64 (kindF ((toKs d_no).getD []) ((toT d_o).getD []) ((toT d_o).getD []).length []).2.1, .int .i64 (kindF ((toKs d_no).getD []) ((toT d_o).getD []) ((toT d_o).getD []).length []).2.2] | _ => .inil⟩
open Classical in
theorem ok1010 : EntOk Tryz.prog [0] e1010 := fun ds h => by
  unfold e1010 at h ⊢
  simp only at h ⊢
  split at h
  · rw [decide_eq_true_iff] at h
    obtain ⟨⟨v0, rfl, k0⟩, ⟨v1, rfl, k1⟩, kx⟩ := h
    simp only [zB2, zA1, zA0, zB9, zC9, zC8, zE7, zD9] at kx ⊢
    exact pc1010 _ _ k0 k1 kx
  · cases h
end Go.Proofs.Sx

set_option linter.unusedVariables false
set_option linter.unusedSimpArgs false
set_option maxRecDepth 100000
namespace Go.Proofs.Sx
open Go Go.Proofs Go.Proofs.Am 
variable {gs : List Nat}

/-- What is known when the kind is asked for. -/
structure KndP (x : Nd) (wk : List Int) : Prop where
  k : 8 ≤ x.k ∧ x.k ≤ 13
  a12 : x.k = 12 → 0 < wk.length
  a13 : x.k = 13 → 1 < wk.length
  a8 : x.k = 8 → (lookR x.tx).isSome = true ∧ 0 < wk.length ∧ (((ruleS x.tx).alike.getD []).length = 2 → (0 ≤ ((ruleS x.tx).alike.getD []).getD 0 0 ∧ ((ruleS x.tx).alike.getD []).getD 0 0 < wk.length) ∧ (0 ≤ ((ruleS x.tx).alike.getD []).getD 1 0 ∧ ((ruleS x.tx).alike.getD []).getD 1 0 < wk.length))
theorem tabZ : ((opTab.all fun p => decide (p.2.2.1.wants.length ≤ 4) && p.2.2.1.wants.all (fun o => decide ((o.getD []).length ≤ 10)) && decide ((p.2.2.1.alike.getD []).length ≤ 10)) && (askTab.all fun p => decide (p.2.wants.length ≤ 4) && p.2.wants.all (fun o => decide ((o.getD []).length ≤ 10)) && decide ((p.2.alike.getD []).length ≤ 10))) = true := by kernel_rfl
structure SmallR (r : Ru) : Prop where
  w : r.wants.length ≤ 4
  o : ∀ x ∈ r.wants, (x.getD []).length ≤ 10
  a : (r.alike.getD []).length ≤ 10
theorem ruleS_small {s : ByteArray} (h : (lookR s).isSome = true) : SmallR (ruleS s) := by
  have hz := tabZ
  rw [Bool.and_eq_true] at hz
  obtain ⟨h1, h2⟩ := hz
  unfold ruleS
  unfold lookR at h ⊢
  split at h
  · rename_i p hp
    have := List.all_eq_true.1 h1 p (List.mem_of_find?_eq_some hp)
    simp only [Bool.and_eq_true, decide_eq_true_eq, List.all_eq_true] at this
    exact ⟨this.1.1, this.1.2, this.2⟩
  · split at h
    · rename_i p hp
      have := List.all_eq_true.1 h2 p (List.mem_of_find?_eq_some hp)
      simp only [Bool.and_eq_true, decide_eq_true_eq, List.all_eq_true] at this
      exact ⟨this.1.1, this.1.2, this.2⟩
    · cases h
theorem zI1 (r : Ru) : (encR r).cells = [.sim (r.wants.map encIs), encIs r.alike, .int .i64 r.res] := rfl
theorem zI0 (r : Ru) : dIsAgg (encR r) = true := rfl
theorem get_encIsL (l : List (Option (List Int))) (i : Nat) (h : i < l.length) : (l.map encIs).getD i .inil = encIs (l.getD i none) := by
  simp [List.getD, List.getElem?_map, List.getElem?_eq_getElem h]
theorem isSnil_encIs (o : Option (List Int)) : isSnil (encIs o) = o.isNone := by cases o <;> rfl
theorem cells_len_encIs (o : Option (List Int)) : (encIs o).cells.length = 1 := by cases o <;> rfl
theorem sim9 : DV.sim [.int .i64 9, .int .i64 12] = encIs (some [9, 12]) := rfl
theorem sim10 : DV.sim [.int .i64 10, .int .i64 11, .int .i64 4, .int .i64 5, .int .i64 6] = encIs (some [10, 11, 4, 5, 6]) := rfl
theorem sim2 : DV.sim [.int .i64 2] = encIs (some [2]) := rfl
theorem okIs_small {l : List Int} (h : l.length ≤ 10) : okIs (some l) := by show l.length ≤ 1048576; omega
theorem encIs_cell0 (o : Option (List Int)) : (encIs o).cells.getD 0 .inil = encIs o := by cases o <;> rfl
theorem isNeq_neq : isNeq .neq = true := rfl
theorem isNeq_eql : isNeq .eql = false := rfl
def lv1028 : Nat → List Nat × List Nat
  | 18 => ([1, 6, 8, 64, 65, 66], [1])
  | _ => ([], [])
set_option maxHeartbeats 4000000 in
theorem pc1028 (x : Nd) (wo : Option (List Int)) (hx : okN x) (hw : okIs wo) (hP : KndP x (wo.getD [])) :
    PureCall Tryz.prog [0] 28 [encN x, encIs wo] (dRet (.tup [.int .i64 (kindP x (wo.getD [])).1, .bool (kindP x (wo.getD [])).2])) := by
  generalize hr : kindP x (wo.getD []) = r
  have hl : (wo.getD []).length ≤ 1048576 := hw
  have w9 : okIs (some [9, 12]) := okIs_small (by decide)
  have w10 : okIs (some [10, 11, 4, 5, 6]) := okIs_small (by decide)
  have w2 : okIs (some [2]) := okIs_small (by decide)
  have hk := hP.k
  unfold kindP at hr
  refine zD2 mixed fn1028 (Nat.le_of_ble_eq_true rfl) (Nat.lt_of_succ_le (Nat.le_of_ble_eq_true rfl)) (sfOk (.cons ok1048 (.cons ok1050 .nil))) TbOk (lv := lv1028) fun I F hI hF => ?_
  refine zD7 fun C hC => ?_
  generalize hgen0 : encN x = gen0
  generalize hgen1 : encIs wo = gen1
  generalize hgen2 : DV.int .i64 r.1 = gen2
  generalize hgen3 : DV.bool r.2 = gen3
  cbv
  subst hgen0
  subst hgen1
  subst hgen2
  subst hgen3
  subst hC
  refine ⟨?_⟩
  simp (maxSteps := 3000000) only [hI, hF, std]
  simp only [smp, lookOk, lookRes, sfOf, sgOf, hOk, hRes, hOut, ↓reduceIte, Nat.reduceEqDiff, reduceCtorEq, zC2, zA2, zB6, zA5, zB4, zB5, zA4, zB3, zA3, zB2, zC1, zA1, zB1, zA0, zB0, zA9, zC6, zA6, zC5, zC0, zC4, zB8, zA7, zB7, zA8, zC9, zD1, zC8, zD0, zB9, zC3, zC7]
  generalize hL : Sat Tryz.prog [0] _ (Tree.loop _ _ _ _ _ _ _) = L
  simp only [smp, lookOk, lookRes, sfOf, sgOf, hOk, hRes, hOut, ↓reduceIte, Nat.reduceEqDiff, reduceCtorEq, zC2, zA2, zB6, zA5, zB4, zB5, zA4, zB3, zA3, zB2, zC1, zA1, zB1, zA0, zB0, zA9, zC6, zA6, zC5, zC0, zC4, zB8, zA7, zB7, zA8, zC9, zD1, zC8, zD0, zB9, zC3, zC7, e1048, e1050]
  have hc : x.k = 9 ∨ x.k = 10 ∨ x.k = 11 ∨ x.k = 12 ∨ x.k = 13 ∨ x.k = 8 := by omega
  rcases hc with h | h | h | h | h | h
  · simp [h] at hr ⊢; rw [← hr]; exact ⟨rfl, rfl⟩
  · simp [h] at hr ⊢; rw [← hr]; exact ⟨rfl, rfl⟩
  · simp [h] at hr ⊢; rw [← hr]; exact ⟨rfl, rfl⟩
  · have h0 := hP.a12 h
    have g0 := zE9 (wo.getD []) 0 h0
    simp only [g0, smp, lookOk, lookRes, sfOf, sgOf, hOk, hRes, hOut, ↓reduceIte, Nat.reduceEqDiff, reduceCtorEq, zC2, zA2, zB6, zA5, zB4, zB5, zA4, zB3, zA3, zB2, zC1, zA1, zB1, zA0, zB0, zA9, zC6, zA6, zC5, zC0, zC4, zB8, zA7, zB7, zA8, zC9, zD1, zC8, zD0, zB9, zC3, zC7]
    simp [- List.getD_eq_getElem?_getD, - Subtype.exists, - Prod.exists, - Bool.exists_bool, h, zA9, zC6, zA6, zC5, zC0, zC4, zB8, zA7, zB7, zA8, zC9, zD1, zC8, zD0, zB9, zC3, zC7, sim9, sim10, sim2, w9, w10, w2, h0] at hr ⊢
    rw [← hr]; exact ⟨rfl, rfl⟩
  · have h1 := hP.a13 h
    have h0 : 0 < (wo.getD []).length := by omega
    have g0 := zE9 (wo.getD []) 0 h0
    have g1 := zE9 (wo.getD []) 1 h1
    simp only [g0, g1, smp, lookOk, lookRes, sfOf, sgOf, hOk, hRes, hOut, ↓reduceIte, Nat.reduceEqDiff, reduceCtorEq, zC2, zA2, zB6, zA5, zB4, zB5, zA4, zB3, zA3, zB2, zC1, zA1, zB1, zA0, zB0, zA9, zC6, zA6, zC5, zC0, zC4, zB8, zA7, zB7, zA8, zC9, zD1, zC8, zD0, zB9, zC3, zC7]
    simp [- List.getD_eq_getElem?_getD, - Subtype.exists, - Prod.exists, - Bool.exists_bool, h, zA9, zC6, zA6, zC5, zC0, zC4, zB8, zA7, zB7, zA8, zC9, zD1, zC8, zD0, zB9, zC3, zC7, sim9, sim10, sim2, w9, w10, w2, h0, h1, g0, g1] at hr ⊢
    simp only [cells_int, List.getD_cons_zero, zB9, zC3, w2, smp, lookOk, lookRes, sfOf, sgOf, hOk, hRes, hOut, ↓reduceIte, Nat.reduceEqDiff, reduceCtorEq]
    generalize (wo.getD []).getD 0 0 = a0 at *
    generalize mayL ((wo.getD []).getD 1 0) [2] = m1 at *
    rcases Bool.eq_false_or_eq_true (mayL a0 [10, 11, 4, 5, 6]) with hm | hm <;> simp only [hm] at hr ⊢ <;> (by_cases ha : a0 = 10 ∨ a0 = 11 <;> simp [ha] at hr ⊢ <;> (subst hr) <;> simp <;> (try omega))
  · obtain ⟨k1, k2, k3⟩ := hP.a8 h
    simp [- List.getD_eq_getElem?_getD, - Subtype.exists, - Prod.exists, - Bool.exists_bool, h, zA9, zC6, zA6, zC5, zC0, zC4, zB8, zA7, zB7, zA8, zC9, zD1, zC8, zD0, zB9, zC3, zC7, k1] at hr ⊢
    have hsm := ruleS_small k1
    obtain ⟨R, hR⟩ : ∃ R, R = ruleS x.tx := ⟨_, rfl⟩
    rw [← hR] at hr k3 hsm ⊢
    refine ⟨⟨⟨rfl, rfl⟩, rfl, zB7 _, rfl⟩, ?_⟩
    subst hL
    refine zD8 (kend := fun I => kEndF I Tb [.tmp 4, .tmp 5]) hI hF (sfOk (.cons ok1048 (.cons ok1050 .nil))) TbOk (by exact fun Bk e s h => endF TbOk Bk e s h) (lv := lv1028) 0 (fun i : {i : Nat // i ≤ (wo.getD []).length ∧ ∀ j, j < i → j < R.wants.length → ∀ l, R.wants.getD j none = some l → mayL ((wo.getD []).getD j 0) l = true} => [.d (encIs wo), .d (.fn 48 []), .loc 1 3 0 0, .d (encIs wo), .d (.int .i64 ((wo.getD []).length : Int)), .d (.int .i64 (i.1 : Int))]) (fun i : {i : Nat // i ≤ (wo.getD []).length ∧ ∀ j, j < i → j < R.wants.length → ∀ l, R.wants.getD j none = some l → mayL ((wo.getD []).getD j 0) l = true} => [(1, some ⟨[.d (encR R)], 3, 95, true, true⟩)]) (fun i : {i : Nat // i ≤ (wo.getD []).length ∧ ∀ j, j < i → j < R.wants.length → ∀ l, R.wants.getD j none = some l → mayL ((wo.getD []).getD j 0) l = true} => (wo.getD []).length - i.1) [1] (⟨0, by omega, fun j h => by omega⟩ : {i : Nat // i ≤ (wo.getD []).length ∧ ∀ j, j < i → j < R.wants.length → ∀ l, R.wants.getD j none = some l → mayL ((wo.getD []).getD j 0) l = true}) (by rfl) (by rfl) ?_ ?_ fun i => ?_
    · simp
    · simp [e1048, e1050, ← hR]
    obtain ⟨i, hi1, hi2⟩ := i
    refine zD7 fun C hC => ?_
    generalize hgen0 : encIs wo = gen0
    generalize hgen1 : encR R = gen1
    generalize hgen2 : DV.int .i64 ((wo.getD []).length : Int) = gen2
    generalize hgen3 : DV.int .i64 (i : Int) = gen3
    generalize hgen4 : DV.int .i64 r.1 = gen4
    generalize hgen5 : DV.bool r.2 = gen5
    cbv
    subst hgen0
    subst hgen1
    subst hgen2
    subst hgen3
    subst hgen4
    subst hgen5
    subst hC
    refine ⟨?_⟩
    simp (maxSteps := 3000000) only [hI, hF, std]
    have w3 := zE0 (n := i) (by omega)
    by_cases hlt : i < (wo.getD []).length
    · have g1 := zE9 _ _ hlt
      have hx2 := isSnil_encIs (R.wants.getD i none)
      by_cases hw2 : i < R.wants.length
      · have g2 := get_encIsL _ _ hw2
        simp only [smp, lookOk, lookRes, sfOf, sgOf, hOk, hRes, hOut, ↓reduceIte, Nat.reduceEqDiff, reduceCtorEq, zC2, zA2, zB6, zA5, zB4, zB5, zA4, zB3, zA3, zB2, zC1, zA1, zB1, zA0, zB0, zA9, zC6, zA6, zC5, zC0, zC4, zB8, zA7, zB7, zA8, zC9, zD1, zC8, zD0, zB9, zC3, zC7, e1048, e1050, g1, g2, zI1, zI0]
        simp [- List.getD_eq_getElem?_getD, - Subtype.exists, - Prod.exists, - Bool.exists_bool, hlt, w3, zA9, zC6, zA6, zC5, zC0, zC4, zB8, zA7, zB7, zA8, zC9, zD1, zC8, zD0, zB9, zC3, zC7, hw2, g1, g2, zI1, zI0, isSnil_encIs, cells_len_encIs, encIs_cell0, isNeq_neq, isNeq_eql]
        have hk1 : okIs (R.wants.getD i none) := by
          have := hsm.o (R.wants.getD i none) (by simp [List.getD, hw2])
          show (Option.getD (R.wants.getD i none) []).length ≤ 1048576
          omega
        refine ⟨.inr hk1, fun hs hm => ?_, fun hm => ⟨⟨i + 1, by omega, fun j hj hjw l hl => ?_⟩, by show (wo.getD []).length - (i + 1) < (wo.getD []).length - i; omega, rfl⟩⟩
        · have hno : ¬ wantsOk R (wo.getD []) := fun hok => by
            have hns : R.wants.getD i none ≠ none := fun h => by rw [h] at hs; cases hs
            obtain ⟨l, hl⟩ := Option.isSome_iff_exists.1 (Option.isSome_iff_ne_none.2 hns)
            have := hok i hlt hw2 l hl
            rw [hl] at hm
            simp only [Option.getD_some] at hm
            rw [this] at hm; cases hm
          unfold ruleP at hr
          rw [if_pos hno] at hr
          rw [← hr]; exact ⟨rfl, rfl⟩
        · by_cases hji : j = i
          · subst hji
            have := hm (by rw [hl]; rfl)
            rw [hl] at this; exact this
          · exact hi2 j (by omega) hjw l hl
      · simp only [smp, lookOk, lookRes, sfOf, sgOf, hOk, hRes, hOut, ↓reduceIte, Nat.reduceEqDiff, reduceCtorEq, zC2, zA2, zB6, zA5, zB4, zB5, zA4, zB3, zA3, zB2, zC1, zA1, zB1, zA0, zB0, zA9, zC6, zA6, zC5, zC0, zC4, zB8, zA7, zB7, zA8, zC9, zD1, zC8, zD0, zB9, zC3, zC7, e1048, e1050, g1, zI1, zI0]
        simp [- List.getD_eq_getElem?_getD, - Subtype.exists, - Prod.exists, - Bool.exists_bool, hlt, w3, zA9, zC6, zA6, zC5, zC0, zC4, zB8, zA7, zB7, zA8, zC9, zD1, zC8, zD0, zB9, zC3, zC7, hw2, g1, zI1, zI0]
        exact ⟨⟨i + 1, by omega, fun j hj hjw l hl => by
          by_cases hji : j = i
          · subst hji; exact absurd hjw hw2
          · exact hi2 j (by omega) hjw l hl⟩, by show (wo.getD []).length - (i + 1) < (wo.getD []).length - i; omega, rfl⟩
    · have hok : wantsOk R (wo.getD []) := fun j hj hjw l hl => hi2 j (by omega) hjw l hl
      unfold ruleP at hr
      rw [if_neg (not_not_intro hok)] at hr
      have g0 := zE9 (wo.getD []) 0 k2
      by_cases h2 : (R.alike.getD []).length = 2
      · obtain ⟨⟨a1, a2⟩, b1, b2⟩ := k3 h2
        have ga := zE9 (R.alike.getD []) 0 (by omega)
        have gb := zE9 (R.alike.getD []) 1 (by omega)
        have gwa := zE9 (wo.getD []) ((R.alike.getD []).getD 0 0).toNat ((Int.toNat_lt a1).2 a2)
        have gwb := zE9 (wo.getD []) ((R.alike.getD []).getD 1 0).toNat ((Int.toNat_lt b1).2 b2)
        have h2' : ((R.alike.getD []).length : Int) = 2 := by rw [h2]; rfl
        rw [if_pos h2] at hr
        simp only [smp, lookOk, lookRes, sfOf, sgOf, hOk, hRes, hOut, ↓reduceIte, Nat.reduceEqDiff, reduceCtorEq, zC2, zA2, zB6, zA5, zB4, zB5, zA4, zB3, zA3, zB2, zC1, zA1, zB1, zA0, zB0, zA9, zC6, zA6, zC5, zC0, zC4, zB8, zA7, zB7, zA8, zC9, zD1, zC8, zD0, zB9, zC3, zC7, e1048, e1050, zI1, zI0, h2', g0, ga, gb, gwa, gwb]
        simp [- List.getD_eq_getElem?_getD, - Subtype.exists, - Prod.exists, - Bool.exists_bool, hlt, w3, zA9, zC6, zA6, zC5, zC0, zC4, zB8, zA7, zB7, zA8, zC9, zD1, zC8, zD0, zB9, zC3, zC7, zI1, zI0, h2, h2', g0, ga, gb, gwa, gwb, k2, a1, a2, b1, b2]
        simp only [smp, lookOk, lookRes, sfOf, sgOf, hOk, hRes, hOut, ↓reduceIte, Nat.reduceEqDiff, reduceCtorEq, zC2, zA2, zB6, zA5, zB4, zB5, zA4, zB3, zA3, zB2, zC1, zA1, zB1, zA0, zB0, zA9, zC6, zA6, zC5, zC0, zC4, zB8, zA7, zB7, zA8, zC9, zD1, zC8, zD0, zB9, zC3, zC7, g0, ga, gb, gwa, gwb]
        simp [- List.getD_eq_getElem?_getD, - Subtype.exists, - Prod.exists, - Bool.exists_bool, a1, a2, b1, b2, gwa, gwb]
        unfold alA alB res0 at hr
        clear w9 w10 w2 hl g0 ga gb gwa gwb hi1 hi2 hlt w3 hok k3 hsm
        generalize (wo.getD []).getD ((R.alike.getD []).getD 0 0).toNat 0 = ka at *
        generalize (wo.getD []).getD ((R.alike.getD []).getD 1 0).toNat 0 = kb at *
        generalize (wo.getD []).getD 0 0 = k0 at *
        subst hr
        by_cases hc : ka ≠ -1 ∧ kb ≠ -1 ∧ ka ≠ kb
        · rw [if_pos hc]; simp [hc]
        · rw [if_neg hc]
          by_cases hres : R.res = -1 <;> by_cases hk0 : k0 = -1 <;> simp [hres, hk0] <;> grind
      · have h2' : ¬ ((R.alike.getD []).length : Int) = 2 := by omega
        rw [if_neg h2] at hr
        simp only [smp, lookOk, lookRes, sfOf, sgOf, hOk, hRes, hOut, ↓reduceIte, Nat.reduceEqDiff, reduceCtorEq, zC2, zA2, zB6, zA5, zB4, zB5, zA4, zB3, zA3, zB2, zC1, zA1, zB1, zA0, zB0, zA9, zC6, zA6, zC5, zC0, zC4, zB8, zA7, zB7, zA8, zC9, zD1, zC8, zD0, zB9, zC3, zC7, e1048, e1050, zI1, zI0, g0]
        simp [- List.getD_eq_getElem?_getD, - Subtype.exists, - Prod.exists, - Bool.exists_bool, hlt, w3, zA9, zC6, zA6, zC5, zC0, zC4, zB8, zA7, zB7, zA8, zC9, zD1, zC8, zD0, zB9, zC3, zC7, zI1, zI0, h2', g0, k2]
        subst hr
        unfold res0
        by_cases hres : R.res = -1 <;> simp [hres]
open Classical in
noncomputable def e1028 : Ent := ⟨28, fun | [d_x, d_wo] => decide (isN d_x ∧ isIs d_wo ∧ KndP (toN d_x) ((toIs d_wo).getD [])) | _ => false, fun | [d_x, d_wo] => .tup [.int .i64 (kindP (toN d_x) ((toIs d_wo).getD [])).1, .bool (kindP (toN d_x) ((toIs d_wo).getD [])).2] | _ => .inil⟩
open Classical in
theorem ok1028 : EntOk Tryz.prog [0] e1028 := fun ds h => by
  unfold e1028 at h ⊢
  simp only at h ⊢
  split at h
  · rw [decide_eq_true_iff] at h
    obtain ⟨⟨v0, rfl, k0⟩, ⟨v1, rfl, k1⟩, kx⟩ := h
    simp only [zB2, zA1, zA0, zB9, zC9, zC8] at kx ⊢
    exact pc1028 _ _ k0 k1 kx
  · cases h
end Go.Proofs.Sx

set_option linter.unusedVariables false
set_option linter.unusedSimpArgs false
set_option maxRecDepth 100000
namespace Go.Proofs.Sx
open Go Go.Proofs Go.Proofs.Am 
variable {gs : List Nat}

theorem slD_encKs (o : Option (List Kn)) (i : Nat) : slD (encKs o) none (some (.int .i64 (i : Int))) = encKs (o.map (·.take i)) := by
  cases o with
  | none => rfl
  | some l =>
    simp only [slD, encKs, isSnil_sim, if_false, Option.map, lstD_sim]
    rw [loN_none, hiN_int]; simp
/-- Is a kind one of plain values? -/
def plainK (k : Int) : Prop := (1 ≤ k ∧ k ≤ 6) ∨ (9 ≤ k ∧ k ≤ 12) ∨ k = 14
open Classical in
theorem shape_ok (k : Int) : ∃ lo hi t n i m o s ins, shapeK k = shapeD lo hi t n i m o s ins (decide (plainK k)) := by
  have key : ∃ lo hi t n i m o s ins b, shapeK k = shapeD lo hi t n i m o s ins b ∧ (b = true ↔ plainK k) := by
    unfold shapeK
    repeat' split
    all_goals (refine ⟨_, _, _, _, _, _, _, _, _, _, rfl, ?_⟩; unfold plainK; simp; try omega)
  obtain ⟨lo, hi, t, n, i, m, o, s, ins, b, h1, h2⟩ := key
  have : b = decide (plainK k) := by rw [Bool.eq_iff_iff, decide_eq_true_iff]; exact h2
  exact ⟨lo, hi, t, n, i, m, o, s, ins, this ▸ h1⟩
theorem kErr_step {l : List Kn} {i : Nat} {r : Int} (h : i < l.length) (hr : kErrF l (l.length - i) i = r) : (kErr1 l i ≠ 0 → r = kErr1 l i) ∧ (kErr1 l i = 0 → kErrF l (l.length - (i + 1)) (i + 1) = r) := by
  rw [show l.length - i = (l.length - (i + 1)) + 1 from by omega, kErrF] at hr
  constructor
  · intro h; rw [if_pos h] at hr; exact hr.symm
  · intro h; rw [if_neg (not_not_intro h)] at hr; exact hr
theorem kDbl_idx {l : List Kn} {i : Nat} (h : i < l.length) : kDbl l i ↔ 0 ≤ idxG (fun k => decide (k.nm = (l.getD i default).nm)) (l.take i) := by
  rw [idxG_iff]
  constructor
  · rintro ⟨j, h1, h2⟩
    refine ⟨l.getD j default, ?_, decide_eq_true h2⟩
    have : j < l.length := by omega
    rw [List.mem_take_iff_getElem]
    exact ⟨j, by omega, by simp [List.getD, this]⟩
  · rintro ⟨x, h1, h2⟩
    obtain ⟨j, h3, rfl⟩ := List.mem_take_iff_getElem.1 h1
    have : j < l.length := by omega
    exact ⟨j, by omega, by rw [← of_decide_eq_true h2]; simp [List.getD, this]⟩
/-- What the program answers. -/
noncomputable def kindA (ns : List Kn) (t : List Nd) : Int × Int × Int := if kErr ns ≠ 0 then (0, 0, kErr ns) else if (checkE t).2 ≠ 0 then (0, (checkE t).1, (checkE t).2) else kindF ns t t.length []
/-- Kinds that are known, zeros behind them. -/
def padK (n : Nat) (ks : List Int) : List Int := ks ++ List.replicate (n - ks.length) 0
theorem padK_len {n : Nat} {ks : List Int} (h : ks.length ≤ n) : (padK n ks).length = n := by simp [padK]; omega
theorem padK_get {n : Nat} {ks : List Int} {j : Nat} (h : j < ks.length) : (padK n ks).getD j 0 = ks.getD j 0 := by
  unfold padK
  simp [List.getD, List.getElem?_append_left h]
theorem padK_set {n : Nat} {ks : List Int} (v : Int) (h : ks.length < n) : (padK n ks).set ks.length v = padK n (ks ++ [v]) := by
  unfold padK
  rw [List.set_append_right (h := Nat.le_refl _), Nat.sub_self, show n - ks.length = (n - (ks ++ [v]).length) + 1 from by simp; omega, List.replicate_succ]
  simp
theorem accL_set (l : List Int) (i : Nat) (a : Int) : (accL l).set i (.d (.int .i64 a)) = accL (l.set i a) := by
  simp [accL, List.map_set]
theorem accL_rep (n : Nat) : List.replicate n (AV.d (.int .i64 0)) = accL (padK n []) := by simp [accL, padK]
theorem zH3 (m : Nat) (l : List Int) : ∀ x, x ∈ accL l → bel m 8 x = true := fun x hx => by
  obtain ⟨y, hy, rfl⟩ := List.mem_map.1 hx
  obtain ⟨z, hz, rfl⟩ := List.mem_map.1 hy
  rfl
theorem pset_get {n : Nat} {ks : List Int} {j : Nat} (v : Int) (h : j < ks.length) : ((padK n ks).set ks.length v).getD j 0 = ks.getD j 0 := by
  rw [← padK_get (n := n) h]
  simp [List.getD, List.getElem?_set, show ¬ ks.length = j from by omega]
theorem stepK_lit {ns : List Kn} {t : List Nd} {ks : List Int} (h : 0 ≤ (t.getD ks.length default).k ∧ (t.getD ks.length default).k ≤ 6) : stepK ns t ks = ((litV (t.getD ks.length default)).k, 0) := by
  rw [stepK_else (fun h => by omega)]
  unfold kinE kindS
  rw [if_neg (by omega), if_neg (by omega), if_neg (by omega), if_neg (by omega), if_neg (by omega), if_neg (by omega), if_neg (by omega), if_neg (by omega)]
theorem stepK_omit {ns : List Kn} {t : List Nd} {ks : List Int} (h : (t.getD ks.length default).k = 14) : stepK ns t ks = (-1, 0) := by
  rw [stepK_else (fun h => by omega)]
  unfold kinE kindS
  rw [if_neg (by omega), if_neg (by omega), if_neg (by omega), if_neg (by omega), if_pos h]
theorem stepK_name {ns : List Kn} {t : List Nd} {ks : List Int} (h : (t.getD ks.length default).k = 7) : stepK ns t ks = (nameK ns (t.getD ks.length default).tx, 0) := by
  rw [stepK_else (fun h => by omega)]
  unfold kinE kindS
  rw [if_pos h]
open Classical in
theorem stepK_ops {ns : List Kn} {t : List Nd} {ks : List Int} (h : RightT t) (hi : ks.length < t.length) (hk : 8 ≤ (t.getD ks.length default).k) (h14 : (t.getD ks.length default).k ≠ 14) (h12 : (t.getD ks.length default).k = 12 → idxG (askOf (ks.length : Int)) t < 0) :
    stepK ns t ks = if (kindP (t.getD ks.length default) (wkP t ks (t.getD ks.length default))).2 = true then ((kindP (t.getD ks.length default) (wkP t ks (t.getD ks.length default))).1, 0) else (0, 17) := by
  rw [stepK_else (fun hk => by rw [h.ask_same hi, decide_eq_false]; have := h12 hk; omega)]
  exact kind_same h hi hk h14
theorem lookR_asks : (lookR wIsp).isSome = true ∧ (lookR wIsc).isSome = true := by constructor <;> kernel_rfl
theorem RightT.knd {t : List Nd} (h : RightT t) {ks : List Int} (hi : ks.length < t.length) (hk : 8 ≤ (t.getD ks.length default).k) (h14 : (t.getD ks.length default).k ≠ 14) : KndP (t.getD ks.length default) (wkP t ks (t.getD ks.length default)) := by
  have hkk := (h.kk _ hi).2
  have hwl : (wkP t ks (t.getD ks.length default)).length = (t.getD ks.length default).args.length := by unfold wkP opK; split <;> simp
  refine ⟨⟨hk, by omega⟩, fun h12 => by have := h.a12 hi h12; omega, fun h13 => by have := h.a13 hi h13; omega, fun h8 => ?_⟩
  have hn := opsOf_pos (h.a8 hi h8)
  rcases Bool.eq_false_or_eq_true (asksS (t.getD ks.length default)) with ha | ha
  · obtain ⟨⟨b1, b2, b3⟩, ⟨c1, c2, c3⟩⟩ := tabK
    rcases (asks_k ha).2 with ht | ht
    · rw [ht]
      refine ⟨lookR_asks.1, by omega, fun hl => ?_⟩
      rw [b2] at hl; simp at hl
    · rw [ht]
      refine ⟨lookR_asks.2, by omega, fun hl => ?_⟩
      rw [c2] at hl; simp at hl
  · have hna := (h.app (wk := wkP t ks (t.getD ks.length default)) hi h8 hwl).na ha
    obtain ⟨n1, n2, n3⟩ := hna
    obtain ⟨p, hp⟩ := Option.isSome_iff_exists.1 n1
    obtain ⟨q1, q2, q3⟩ := lookT_mem hp
    have hl := List.map_inj_left.1 tabL p q1
    rw [q2] at hl
    have t1 := List.all_eq_true.1 tab_ok p q1
    simp only [Bool.and_eq_true, decide_eq_true_eq] at t1
    have hr : ruleS (t.getD ks.length default).tx = p.2.2.1 := by unfold ruleS; rw [hl]; rfl
    refine ⟨by rw [hl]; rfl, n2, fun h2 => ?_⟩
    have hal : alikeS (t.getD ks.length default).tx = some (((ruleS (t.getD ks.length default).tx).alike).getD []) := by
      rw [← q2, ← t1.2, q2, hr]
      rw [hr] at h2
      cases hh : p.2.2.1.alike with
      | none => rw [hh] at h2; simp at h2
      | some l => rfl
    obtain ⟨_, d1, d2, d3, d4⟩ := n3 _ hal
    exact ⟨⟨d1, d2⟩, d3, d4⟩
theorem isIs_snil : isIs .snil = True := by
  have : isIs (encIs none) = okIs none := zC3 none
  rw [show encIs none = .snil from rfl] at this
  rw [this]; exact eq_true (Nat.zero_le _)
theorem toIs_snil : toIs .snil = none := zB9 none
/-- The kind of an operand, as the program asks for it. -/
noncomputable def wkE (t : List Nd) (ks : List Int) (x : Nd) (a : Int) : Int := if asksS x = true then ks.getD ((t.getD a.toNat default).args.getD 0 0).toNat 0 else ks.getD a.toNat 0
theorem wkP_map (t : List Nd) (ks : List Int) (x : Nd) : wkP t ks x = x.args.map (wkE t ks x) := by
  unfold wkP opK
  split
  · rename_i h; apply List.map_congr_left; intro a _; unfold wkE; rw [if_pos h]
  · rename_i h; apply List.map_congr_left; intro a _; unfold wkE; rw [if_neg h]
noncomputable def wkT (t : List Nd) (ks : List Int) (x : Nd) (i : Nat) : List Int := (x.args.take i).map (wkE t ks x)
theorem wkT_len {t : List Nd} {ks : List Int} {x : Nd} {i : Nat} (h : i ≤ x.args.length) : (wkT t ks x i).length = i := by simp [wkT]; omega
theorem wkT_succ {t : List Nd} {ks : List Int} {x : Nd} {i : Nat} (h : i < x.args.length) : wkT t ks x (i + 1) = wkT t ks x i ++ [wkE t ks x (x.args.getD i 0)] := by
  unfold wkT
  rw [List.take_add_one, List.map_append]
  simp [List.getD, h]
theorem wkT_all {t : List Nd} {ks : List Int} {x : Nd} : wkT t ks x x.args.length = wkP t ks x := by rw [wkP_map]; simp [wkT]
def TbP41T : BT := (.node 1000000 ⟨none, .other, [], none⟩ .nil (.node 2000028 ⟨none, .other, [], none⟩ .nil .nil))
def TbP41 : Nat → Option TRow := orT TbP41T.get Tb
theorem zH9 : TabOk Tryz.prog TbP41 := tabOk_or (tabOk_tree (by kernel_rfl)) TbOk
def lv1006 : Nat → List Nat × List Nat
  | 4 => ([0, 1, 27, 28, 29], [])
  | 999999 => ([14], [])
  | _ => ([], [])
def lv1006b : Nat → List Nat × List Nat
  | 999999 => ([17], [])
  | _ => ([], [])
def lv1006c : Nat → List Nat × List Nat
  | 19 => ([0, 1, 13, 67, 68, 69], [0])
  | 32 => ([0, 1, 13, 14, 15, 19, 67, 68, 69, 118, 119, 120], [0, 1, 10019])
  | 999999 => ([26], [])
  | _ => ([], [])
def lv1006d : Nat → List Nat × List Nat
  | 32 => ([0, 1, 13, 14, 15, 19, 67, 68, 69, 118, 119, 120], [0, 1, 10019])
  | 999999 => ([30], [])
  | _ => ([], [])
def lv1006e : Nat → List Nat × List Nat
  | 32 => ([0, 1, 13, 14, 15, 19, 67, 68, 69, 118, 119, 120], [0, 1, 10019])
  | _ => ([], [])
set_option maxHeartbeats 8000000 in
theorem pc1006 (no : Option (List Kn)) (o : Option (List Nd)) (hn : okKs no) (ho : okT o) :
    PureCall Tryz.prog [0] 6 [encKs no, encT o] (dRet (.tup [.int .i64 (kindA (no.getD []) (o.getD [])).1, .int .i64 (kindA (no.getD []) (o.getD [])).2.1, .int .i64 (kindA (no.getD []) (o.getD [])).2.2])) := by
  generalize hr : kindA (no.getD []) (o.getD []) = r
  have hl := ho.1
  have hnl := hn.1
  unfold kindA kErr at hr
  refine zD2 mixed fn1006 (Nat.le_of_ble_eq_true rfl) (Nat.lt_of_succ_le (Nat.le_of_ble_eq_true rfl)) (sfOk (.cons ok21 (.cons ok1020 (.cons ok62 (.cons ok33 (.cons ok74 (.cons ok1024 (.cons ok1025b (.cons ok97 (.cons ok1028 .nil)))))))))) zH9 (lv := lv1006) fun I F hI hF => ?_
  refine zD7 fun C hC => ?_
  generalize hgen0 : encKs no = gen0
  generalize hgen1 : encT o = gen1
  generalize hgen2 : DV.int .i64 r.1 = gen2
  generalize hgen3 : DV.int .i64 r.2.1 = gen3
  generalize hgen4 : DV.int .i64 r.2.2 = gen4
  cbv
  subst hgen0
  subst hgen1
  subst hgen2
  subst hgen3
  subst hgen4
  subst hC
  refine ⟨?_⟩
  simp (maxSteps := 3000000) only [hI, hF, std]
  simp only [smp, lookOk, lookRes, sfOf, sgOf, hOk, hRes, hOut, ↓reduceIte, Nat.reduceEqDiff, reduceCtorEq, zC2, zA2, zB6, zA5, zB4, zB5, zA4, zB3, zA3, zB2, zC1, zA1, zB1, zA0, zB0, zA9, zC6, zA6, zC5, zC0, zC4, zB8, zA7, zB7, zA8, zC9, zD1, zC8, zD0, zB9, zC3, zC7, zE5, zD4, zE2, zD5, zE1, zD6, zE7, zE8, zD9, zE3, zE6, zD3]
  simp [- List.getD_eq_getElem?_getD, - Subtype.exists, - Prod.exists, - Bool.exists_bool]
  refine ⟨fun h => ?_, fun h => ?_⟩
  · rw [if_pos (show 40 < (no.getD []).length by omega)] at hr
    rw [← hr]; exact ⟨rfl, rfl, rfl⟩
  rw [if_neg (show ¬ 40 < (no.getD []).length by omega)] at hr
  refine zD8 (kend := fun I => kEndF I TbP41 [.tmp 4, .tmp 5, .tmp 6]) hI hF (sfOk (.cons ok21 (.cons ok1020 (.cons ok62 (.cons ok33 (.cons ok74 (.cons ok1024 (.cons ok1025b (.cons ok97 (.cons ok1028 .nil)))))))))) zH9 (by exact fun Bk e s h => endF zH9 Bk e s h) (lv := lv1006) 0 (fun i : {i : Nat // i ≤ (no.getD []).length ∧ kErrF (no.getD []) ((no.getD []).length - i) i = kErrF (no.getD []) (no.getD []).length 0} => [.d (encKs no), .d (encT o), .d (encKs no), .d (.int .i64 ((no.getD []).length : Int)), .d (.int .i64 (i.1 : Int))]) (fun i : {i : Nat // i ≤ (no.getD []).length ∧ kErrF (no.getD []) ((no.getD []).length - i) i = kErrF (no.getD []) (no.getD []).length 0} => []) (fun i : {i : Nat // i ≤ (no.getD []).length ∧ kErrF (no.getD []) ((no.getD []).length - i) i = kErrF (no.getD []) (no.getD []).length 0} => (no.getD []).length - i.1) [] (⟨0, by omega, rfl⟩ : {i : Nat // i ≤ (no.getD []).length ∧ kErrF (no.getD []) ((no.getD []).length - i) i = kErrF (no.getD []) (no.getD []).length 0}) (by rfl) (by rfl) ?_ ?_ fun i => ?_
  · simp
  · rfl
  obtain ⟨i, hi1, hi2⟩ := i
  refine zD7 fun C hC => ?_
  generalize hgen0 : encKs no = gen0
  generalize hgen1 : encT o = gen1
  generalize hgen2 : DV.int .i64 ((no.getD []).length : Int) = gen2
  generalize hgen3 : DV.int .i64 (i : Int) = gen3
  generalize hgen4 : DV.int .i64 r.1 = gen4
  generalize hgen5 : DV.int .i64 r.2.1 = gen5
  generalize hgen6 : DV.int .i64 r.2.2 = gen6
  cbv
  subst hgen0
  subst hgen1
  subst hgen2
  subst hgen3
  subst hgen4
  subst hgen5
  subst hgen6
  subst hC
  refine ⟨?_⟩
  simp (maxSteps := 3000000) only [hI, hF, std]
  have w3 := zE0 (n := i) (by omega)
  by_cases hlt : i < (no.getD []).length
  · have g1 := get_encK _ _ hlt
    have k1 := okKs_get hn hlt
    obtain ⟨lo, hi, q1, q2, q3, q4, q5, q6, q7, hs⟩ := shape_ok ((no.getD []).getD i default).kd
    simp only [smp, lookOk, lookRes, sfOf, sgOf, hOk, hRes, hOut, ↓reduceIte, Nat.reduceEqDiff, reduceCtorEq, zC2, zA2, zB6, zA5, zB4, zB5, zA4, zB3, zA3, zB2, zC1, zA1, zB1, zA0, zB0, zA9, zC6, zA6, zC5, zC0, zC4, zB8, zA7, zB7, zA8, zC9, zD1, zC8, zD0, zB9, zC3, zC7, zE5, zD4, zE2, zD5, zE1, zD6, zE7, zE8, zD9, zE3, zE6, zD3, e21, e1020, e62, e33, e74, e1024, e1025b, e97, e1028, g1, hs]
    simp only [shapeD, zF5, List.getD_cons_zero, List.getD_cons_succ, slD_encKs]
    simp [- List.getD_eq_getElem?_getD, - Subtype.exists, - Prod.exists, - Bool.exists_bool, hlt, w3, g1, zE5, zD4, zE2, zD5, zE1, zD6, zE7, zE8, zD9, zE3, zE6, zD3, zA9, zC6, zA6, zC5, zC0, zC4, zB8, zA7, zB7, zA8, zC9, zD1, zC8, zD0, zB9, zC3, zC7, slD_encKs, hn, k1, intO_none, loN_none, hiN_int]
    have hok2 : okKs (Option.map (fun x => List.take i x) no) := by
      cases no with
      | none => exact hn
      | some l => exact ⟨by simp; simp at hnl; omega, fun x hx => hn.2 x (List.mem_of_mem_take hx)⟩
    have hgo : (Option.map (fun x => List.take i x) no).getD [] = (no.getD []).take i := by cases no <;> simp
    have hdb := kDbl_idx hlt
    obtain ⟨s1, s2⟩ := kErr_step hlt rfl
    rw [hi2] at s1 s2
    refine ⟨⟨⟨rfl, rfl⟩, rfl, rfl, rfl, rfl, rfl, rfl, rfl, rfl, rfl⟩, k1, fun h7 => ?_, fun hname => ⟨⟨rfl, by omega⟩, hok2, fun hd => ?_, fun hd => ⟨rfl, fun hp => ?_, fun hp => ?_⟩⟩⟩
    · have he : kErr1 (no.getD []) i = 7 := by unfold kErr1; rw [if_pos h7]
      rw [he] at s1
      rw [s1 (by omega), if_pos (by omega)] at hr
      rw [← hr]; exact ⟨rfl, rfl, rfl⟩
    · rw [hgo, ← hdb] at hd
      have he : kErr1 (no.getD []) i = 13 := by unfold kErr1; rw [if_neg (by rw [hname]; exact fun h => nomatch h), if_pos hd]
      rw [he] at s1
      rw [s1 (by omega), if_pos (by omega)] at hr
      rw [← hr]; exact ⟨rfl, rfl, rfl⟩
    · rw [hgo] at hd
      have hd : ¬ kDbl (no.getD []) i := fun h => by have := hdb.1 h; omega
      have hp : ¬ plainK ((no.getD []).getD i default).kd := by simp only [zF1, decide_eq_false_iff_not] at hp; exact hp
      have he : kErr1 (no.getD []) i = 4 := by unfold kErr1; rw [if_neg (by rw [hname]; exact fun h => nomatch h), if_neg hd]; exact if_pos hp
      rw [he] at s1
      rw [s1 (by omega), if_pos (by omega)] at hr
      rw [← hr]; exact ⟨rfl, rfl, rfl⟩
    · rw [hgo] at hd
      have hd : ¬ kDbl (no.getD []) i := fun h => by have := hdb.1 h; omega
      have hp : plainK ((no.getD []).getD i default).kd := by simp only [zF1, decide_eq_true_iff] at hp; exact hp
      have he : kErr1 (no.getD []) i = 0 := by unfold kErr1; rw [if_neg (by rw [hname]; exact fun h => nomatch h), if_neg hd]; exact if_neg (not_not_intro hp)
      exact ⟨⟨i + 1, by omega, s2 he⟩, by show (no.getD []).length - (i + 1) < (no.getD []).length - i; omega, rfl⟩
  · simp only [smp, lookOk, lookRes, sfOf, sgOf, hOk, hRes, hOut, ↓reduceIte, Nat.reduceEqDiff, reduceCtorEq, zC2, zA2, zB6, zA5, zB4, zB5, zA4, zB3, zA3, zB2, zC1, zA1, zB1, zA0, zB0, zA9, zC6, zA6, zC5, zC0, zC4, zB8, zA7, zB7, zA8, zC9, zD1, zC8, zD0, zB9, zC3, zC7, zE5, zD4, zE2, zD5, zE1, zD6, zE7, zE8, zD9, zE3, zE6, zD3, e21, e1020, e62, e33, e74, e1024, e1025b, e97, e1028]
    simp [- List.getD_eq_getElem?_getD, - Subtype.exists, - Prod.exists, - Bool.exists_bool, hlt]
    rw [show (no.getD []).length - i = 0 from by omega, kErrF] at hi2
    rw [← hi2, if_neg (by omega)] at hr
    refine cut_rule (kend := fun I => kEndF I TbP41 [.tmp 4, .tmp 5, .tmp 6]) hI hF (sfOk (.cons ok21 (.cons ok1020 (.cons ok62 (.cons ok33 (.cons ok74 (.cons ok1024 (.cons ok1025b (.cons ok97 (.cons ok1028 .nil)))))))))) zH9 (by exact fun Bk e s h => endF zH9 Bk e s h) (lv := lv1006b) ?_
    refine zD7 fun C hC => ?_
    generalize hgen0 : encKs no = gen0
    generalize hgen1 : encT o = gen1
    generalize hgen2 : DV.int .i64 ((no.getD []).length : Int) = gen2
    generalize hgen3 : DV.int .i64 (i : Int) = gen3
    generalize hgen4 : DV.int .i64 r.1 = gen4
    generalize hgen5 : DV.int .i64 r.2.1 = gen5
    generalize hgen6 : DV.int .i64 r.2.2 = gen6
    cbv
    subst hgen0
    subst hgen1
    subst hgen2
    subst hgen3
    subst hgen4
    subst hgen5
    subst hgen6
    subst hC
    refine ⟨?_⟩
    simp (maxSteps := 3000000) only [hI, hF, std]
    simp only [smp, lookOk, lookRes, sfOf, sgOf, hOk, hRes, hOut, ↓reduceIte, Nat.reduceEqDiff, reduceCtorEq, zC2, zA2, zB6, zA5, zB4, zB5, zA4, zB3, zA3, zB2, zC1, zA1, zB1, zA0, zB0, zA9, zC6, zA6, zC5, zC0, zC4, zB8, zA7, zB7, zA8, zC9, zD1, zC8, zD0, zB9, zC3, zC7, zE5, zD4, zE2, zD5, zE1, zD6, zE7, zE8, zD9, zE3, zE6, zD3, e21, e1020, e62, e33, e74, e1024, e1025b, e97, e1028, zF5]
    simp [- List.getD_eq_getElem?_getD, - Subtype.exists, - Prod.exists, - Bool.exists_bool, zA9, zC6, zA6, zC5, zC0, zC4, zB8, zA7, zB7, zA8, zC9, zD1, zC8, zD0, zB9, zC3, zC7, ho, zF5]
    refine ⟨fun he => ?_, fun he => ?_⟩
    · rw [if_pos he] at hr; rw [← hr]; exact ⟨rfl, rfl, rfl⟩
    rw [if_neg (not_not_intro he)] at hr
    have hR := rightT he
    have hAA := hR.askArg
    refine cut_rule (kend := fun I => kEndF I TbP41 [.tmp 4, .tmp 5, .tmp 6]) hI hF (sfOk (.cons ok21 (.cons ok1020 (.cons ok62 (.cons ok33 (.cons ok74 (.cons ok1024 (.cons ok1025b (.cons ok97 (.cons ok1028 .nil)))))))))) zH9 (by exact fun Bk e s h => endF zH9 Bk e s h) (lv := lv1006c) ?_
    refine zD7 fun C hC => ?_
    generalize hgen0 : encKs no = gen0
    generalize hgen1 : encT o = gen1
    generalize hgen2 : DV.int .i64 ((no.getD []).length : Int) = gen2
    generalize hgen3 : DV.int .i64 (i : Int) = gen3
    generalize hgen4 : DV.int .i64 r.1 = gen4
    generalize hgen5 : DV.int .i64 r.2.1 = gen5
    generalize hgen6 : DV.int .i64 r.2.2 = gen6
    generalize hgen7 : (checkE (o.getD [])).1 = gen7
    generalize hgen8 : (checkE (o.getD [])).2 = gen8
    cbv
    subst hgen0
    subst hgen1
    subst hgen2
    subst hgen3
    subst hgen4
    subst hgen5
    subst hgen6
    subst hgen7
    subst hgen8
    subst hC
    refine ⟨?_⟩
    simp (maxSteps := 3000000) only [hI, hF, std]
    generalize hL : Sat Tryz.prog [0] _ (Tree.loop _ _ _ _ _ _ _) = L
    simp only [smp, lookOk, lookRes, sfOf, sgOf, hOk, hRes, hOut, ↓reduceIte, Nat.reduceEqDiff, reduceCtorEq, zC2, zA2, zB6, zA5, zB4, zB5, zA4, zB3, zA3, zB2, zC1, zA1, zB1, zA0, zB0, zA9, zC6, zA6, zC5, zC0, zC4, zB8, zA7, zB7, zA8, zC9, zD1, zC8, zD0, zB9, zC3, zC7, zE5, zD4, zE2, zD5, zE1, zD6, zE7, zE8, zD9, zE3, zE6, zD3, e21, e1020, e62, e33, e74, e1024, e1025b, e97, e1028]
    simp [- List.getD_eq_getElem?_getD, - Subtype.exists, - Prod.exists, - Bool.exists_bool, zA9, zC6, zA6, zC5, zC0, zC4, zB8, zA7, zB7, zA8, zC9, zD1, zC8, zD0, zB9, zC3, zC7]
    refine ⟨by unfold big; omega, .inr rfl, ?_⟩
    subst hL
    refine zD8 (kend := fun I => kEndF I TbP41 [.tmp 4, .tmp 5, .tmp 6]) hI hF (sfOk (.cons ok21 (.cons ok1020 (.cons ok62 (.cons ok33 (.cons ok74 (.cons ok1024 (.cons ok1025b (.cons ok97 (.cons ok1028 .nil)))))))))) zH9 (by exact fun Bk e s h => endF zH9 Bk e s h) (lv := lv1006c) 1 (fun i : {ks : List Int // ks.length ≤ (o.getD []).length ∧ kindF (no.getD []) (o.getD []) ((o.getD []).length - ks.length) ks = r} => [.d (encKs no), .d (encT o), .slc 0 1 0 (o.getD []).length, .d (encT o), .d (.int .i64 ((o.getD []).length : Int)), .d (.int .i64 (i.1.length : Int))]) (fun i : {ks : List Int // ks.length ≤ (o.getD []).length ∧ kindF (no.getD []) (o.getD []) ((o.getD []).length - ks.length) ks = r} => [(0, some ⟨accL (padK (o.getD []).length i.1), 1, 3, true, true⟩)]) (fun i : {ks : List Int // ks.length ≤ (o.getD []).length ∧ kindF (no.getD []) (o.getD []) ((o.getD []).length - ks.length) ks = r} => (o.getD []).length - i.1.length) [0] (⟨[], by simp, by simpa using hr⟩ : {ks : List Int // ks.length ≤ (o.getD []).length ∧ kindF (no.getD []) (o.getD []) ((o.getD []).length - ks.length) ks = r}) (by rfl) (by rfl) ?_ ?_ fun i => ?_
    · simp
    · simp [accL_rep]
    obtain ⟨ks, hk1, hk2⟩ := i
    have hpl := padK_len hk1
    have w3 := zE0 (n := ks.length) (by omega)
    refine zD7 fun C hC => ?_
    generalize hgen0 : encKs no = gen0
    generalize hgen1 : encT o = gen1
    generalize hgen2 : DV.int .i64 ((o.getD []).length : Int) = gen2
    generalize hgen3 : DV.int .i64 (ks.length : Int) = gen3
    generalize hgen4 : DV.int .i64 r.1 = gen4
    generalize hgen5 : DV.int .i64 r.2.1 = gen5
    generalize hgen6 : DV.int .i64 r.2.2 = gen6
    generalize hgen7 : accL (padK (o.getD []).length ks) = gen7
    generalize hgen8 : (o.getD []).length = gen8
    cbv
    subst hgen0
    subst hgen1
    subst hgen2
    subst hgen3
    subst hgen4
    subst hgen5
    subst hgen6
    subst hgen7
    subst hgen8
    subst hC
    refine ⟨?_⟩
    simp (maxSteps := 3000000) only [hI, hF, std]
    by_cases hlt : ks.length < (o.getD []).length
    · have g1 := zF7 _ _ hlt
      have hx := zH5 ho hlt
      have hlp : ks.length < (padK (o.getD []).length ks).length := by omega
      have hs1 := zG2 hlp
      have hst := kindF_step hlt hk2
      simp only [smp, lookOk, lookRes, sfOf, sgOf, hOk, hRes, hOut, ↓reduceIte, Nat.reduceEqDiff, reduceCtorEq, zC2, zA2, zB6, zA5, zB4, zB5, zA4, zB3, zA3, zB2, zC1, zA1, zB1, zA0, zB0, zA9, zC6, zA6, zC5, zC0, zC4, zB8, zA7, zB7, zA8, zC9, zD1, zC8, zD0, zB9, zC3, zC7, zE5, zD4, zE2, zD5, zE1, zD6, zE7, zE8, zD9, zE3, zE6, zD3, e21, e1020, e62, e33, e74, e1024, e1025b, e97, e1028, g1, hs1, zF4, accL_set, hpl]
      simp [- List.getD_eq_getElem?_getD, - Subtype.exists, - Prod.exists, - Bool.exists_bool, zA9, zC6, zA6, zC5, zC0, zC4, zB8, zA7, zB7, zA8, zC9, zD1, zC8, zD0, zB9, zC3, zC7, hlt, hx, g1, hs1, zF4, accL_set, hpl, w3, zA2, zA3]
      have hll : ∀ v : Int, ks.length < ((padK (o.getD []).length ks).set ks.length v).length := fun v => by rw [List.length_set]; omega
      have hs2 : ∀ v : Int, isDatA ((accL ((padK (o.getD []).length ks).set ks.length v)).getD ks.length .undef) = true := fun v => zG2 (hll v)
      simp only [zF5, smp, lookOk, lookRes, sfOf, sgOf, hOk, hRes, hOut, ↓reduceIte, Nat.reduceEqDiff, reduceCtorEq, zC2, zA2, zB6, zA5, zB4, zB5, zA4, zB3, zA3, zB2, zC1, zA1, zB1, zA0, zB0, zA9, zC6, zA6, zC5, zC0, zC4, zB8, zA7, zB7, zA8, zC9, zD1, zC8, zD0, zB9, zC3, zC7, zE5, zD4, zE2, zD5, zE1, zD6, zE7, zE8, zD9, zE3, zE6, zD3, hs2]
      simp [- List.getD_eq_getElem?_getD, - Subtype.exists, - Prod.exists, - Bool.exists_bool, zA9, zC6, zA6, zC5, zC0, zC4, zB8, zA7, zB7, zA8, zC9, zD1, zC8, zD0, zB9, zC3, zC7, hlt, hx, g1, hs1, hs2, zF4, accL_set, hpl, w3, zA2, zA3, litV_ok hx]
      have bk : ∀ v : Int, kindF (no.getD []) (o.getD []) ((o.getD []).length - (ks ++ [v]).length) (ks ++ [v]) = r → ∃ j : {ks : List Int // ks.length ≤ (o.getD []).length ∧ kindF (no.getD []) (o.getD []) ((o.getD []).length - ks.length) ks = r}, (o.getD []).length - j.val.length < (o.getD []).length - ks.length ∧ (ks.length : Int) + 1 = (j.val.length : Int) ∧ accL ((padK (o.getD []).length ks).set ks.length v) = accL (padK (o.getD []).length j.val) := fun v hv => by
        have hln : (ks ++ [v]).length = ks.length + 1 := by simp
        exact ⟨⟨ks ++ [v], by omega, hv⟩, by show _ - (ks ++ [v]).length < _; omega, by show _ = (((ks ++ [v]).length : Nat) : Int); rw [hln]; rfl, by rw [padK_set v hlt]⟩
      have hkk := hR.kk _ hlt
      refine ⟨fun c0 c6 => ⟨zH3 _ _, bk _ ?_⟩, fun c7 => ⟨.inr (.inr ⟨ho, hAA⟩), fun hc => ⟨zH3 _ _, bk _ ?_⟩, fun c14 c12 => ?_⟩⟩
      · rw [stepK_lit ⟨c0, c6⟩] at hst; exact hst.2 rfl
      · have : stepK (no.getD []) (o.getD []) ks = (-1, 0) := by
          rcases hc with hc | hc
          · exact stepK_omit hc
          · exact stepK_asked hc.1 (by rw [hR.ask_same hlt]; exact decide_eq_true hc.2)
        rw [this] at hst; exact hst.2 rfl
      have c7 := c7 hkk.1
      simp only [if_neg c14]
      refine cut_rule (kend := fun I => kEndF I TbP41 [.tmp 4, .tmp 5, .tmp 6]) hI hF (sfOk (.cons ok21 (.cons ok1020 (.cons ok62 (.cons ok33 (.cons ok74 (.cons ok1024 (.cons ok1025b (.cons ok97 (.cons ok1028 .nil)))))))))) zH9 (by exact fun Bk e s h => endF zH9 Bk e s h) (lv := lv1006d) ?_
      refine zD7 fun C hC => ?_
      generalize hgen0 : (if ((o.getD []).getD ks.length default).k = 12 then DV.int .i64 (ks.length : Int) else DV.tup []) = gen0
      generalize hgen1 : (if ((o.getD []).getD ks.length default).k = 12 then DV.bool (decide (0 ≤ idxG (askOf (ks.length : Int)) (o.getD []))) else DV.tup []) = gen1
      generalize hgen2 : (if ((o.getD []).getD ks.length default).k = 12 then encT o else DV.tup []) = gen2
      generalize hgen3 : (decide (0 ≤ idxG (askOf (ks.length : Int)) (o.getD []))) = gen3
      generalize hgen4 : (decide (((o.getD []).getD ks.length default).k = 12)) = gen4
      generalize hgen5 : (decide (((o.getD []).getD ks.length default).k = 14)) = gen5
      generalize hgen6 : (decide (0 ≤ ((o.getD []).getD ks.length default).k)) = gen6
      generalize hgen7 : (decide (((o.getD []).getD ks.length default).k ≤ 6)) = gen7
      generalize hgen8 : (List.map encN (o.getD [])) = gen8
      generalize hgen9 : encKs no = gen9
      generalize hgen10 : encT o = gen10
      generalize hgen11 : DV.int .i64 ((o.getD []).length : Int) = gen11
      generalize hgen12 : DV.int .i64 (ks.length : Int) = gen12
      generalize hgen13 : DV.int .i64 r.1 = gen13
      generalize hgen14 : DV.int .i64 r.2.1 = gen14
      generalize hgen15 : DV.int .i64 r.2.2 = gen15
      generalize hgen16 : accL ((padK (o.getD []).length ks).set ks.length (-1)) = gen16
      generalize hgen17 : (o.getD []).length = gen17
      generalize hgen18 : encN ((o.getD []).getD ks.length default) = gen18
      generalize hgen19 : (litV ((o.getD []).getD ks.length default)).enc = gen19
      generalize hgen20 : ((o.getD []).getD ks.length default) = gen20
      cbv
      subst hgen0
      subst hgen1
      subst hgen2
      subst hgen3
      subst hgen4
      subst hgen5
      subst hgen6
      subst hgen7
      subst hgen8
      subst hgen9
      subst hgen10
      subst hgen11
      subst hgen12
      subst hgen13
      subst hgen14
      subst hgen15
      subst hgen16
      subst hgen17
      subst hgen18
      subst hgen19
      subst hgen20
      subst hC
      refine ⟨?_⟩
      simp (maxSteps := 3000000) only [hI, hF, std]
      simp only [smp, lookOk, lookRes, sfOf, sgOf, hOk, hRes, hOut, ↓reduceIte, Nat.reduceEqDiff, reduceCtorEq, zC2, zA2, zB6, zA5, zB4, zB5, zA4, zB3, zA3, zB2, zC1, zA1, zB1, zA0, zB0, zA9, zC6, zA6, zC5, zC0, zC4, zB8, zA7, zB7, zA8, zC9, zD1, zC8, zD0, zB9, zC3, zC7, zE5, zD4, zE2, zD5, zE1, zD6, zE7, zE8, zD9, zE3, zE6, zD3, e21, e1020, e62, e33, e74, e1024, e1025b, e97, e1028]
      generalize hL : Sat Tryz.prog [0] _ (Tree.cut _ _ _) = L
      simp [- List.getD_eq_getElem?_getD, - Subtype.exists, - Prod.exists, - Bool.exists_bool, zA9, zC6, zA6, zC5, zC0, zC4, zB8, zA7, zB7, zA8, zC9, zD1, zC8, zD0, zB9, zC3, zC7, zE5, zD4, zE2, zD5, zE1, zD6, zE7, zE8, zD9, zE3, zE6, zD3, hn, hx]
      refine ⟨fun c7 => ⟨fun hm => ?_, fun hm => ⟨zH3 _ _, ?_⟩⟩, fun c7' => ?_⟩
      · have hlt2 := idxG_lt (fun k : Kn => decide (k.nm = ((o.getD []).getD ks.length default).tx)) (no.getD [])
        have hstn := stepK_name (ns := no.getD []) c7
        unfold nameK at hstn
        rw [if_neg (by omega)] at hstn
        rw [hstn] at hst
        generalize idxG (fun k : Kn => decide (k.nm = ((o.getD []).getD ks.length default).tx)) (no.getD []) = m at *
        have gk := get_encK (no.getD []) m.toNat ((Int.toNat_lt hm).2 hlt2)
        simp only [gk, zD4, List.getD_cons_succ, List.getD_cons_zero, accL_set, List.set_set, zF4, List.length_set, hs2, w3]
        refine ⟨⟨⟨hm, hlt2⟩, rfl⟩, Nat.lt_succ_self 1, hlt, ⟨by omega, trivial⟩, rfl, zH3 _ _, bk _ (hst.2 rfl)⟩
      · have hstn := stepK_name (ns := no.getD []) c7
        unfold nameK at hstn
        rw [if_pos hm] at hstn
        rw [hstn] at hst
        rw [w3]
        exact bk _ (hst.2 rfl)
      subst hL
      have h8 : 8 ≤ ((o.getD []).getD ks.length default).k := by omega
      have hkn := hR.knd (ks := ks) hlt h8 c14
      have hso := stepK_ops (ns := no.getD []) hR hlt h8 c14 (fun h => by have := c12 h; simpa using this)
      refine cut_rule (kend := fun I => kEndF I TbP41 [.tmp 4, .tmp 5, .tmp 6]) hI hF (sfOk (.cons ok21 (.cons ok1020 (.cons ok62 (.cons ok33 (.cons ok74 (.cons ok1024 (.cons ok1025b (.cons ok97 (.cons ok1028 .nil)))))))))) zH9 (by exact fun Bk e s h => endF zH9 Bk e s h) (lv := lv1006e) ?_
      refine zD7 fun C hC => ?_
      generalize hgen0 : (if ((o.getD []).getD ks.length default).k = 12 then DV.int .i64 (ks.length : Int) else DV.tup []) = gen0
      generalize hgen1 : (if ((o.getD []).getD ks.length default).k = 12 then DV.bool (decide (0 ≤ idxG (askOf (ks.length : Int)) (o.getD []))) else DV.tup []) = gen1
      generalize hgen2 : (if ((o.getD []).getD ks.length default).k = 12 then encT o else DV.tup []) = gen2
      generalize hgen3 : (decide (0 ≤ idxG (askOf (ks.length : Int)) (o.getD []))) = gen3
      generalize hgen4 : (decide (((o.getD []).getD ks.length default).k = 12)) = gen4
      generalize hgen5 : (decide (((o.getD []).getD ks.length default).k = 14)) = gen5
      generalize hgen6 : (decide (0 ≤ ((o.getD []).getD ks.length default).k)) = gen6
      generalize hgen7 : (decide (((o.getD []).getD ks.length default).k ≤ 6)) = gen7
      generalize hgen8 : (List.map encN (o.getD [])) = gen8
      generalize hgen9 : encKs no = gen9
      generalize hgen10 : encT o = gen10
      generalize hgen11 : DV.int .i64 ((o.getD []).length : Int) = gen11
      generalize hgen12 : DV.int .i64 (ks.length : Int) = gen12
      generalize hgen13 : DV.int .i64 r.1 = gen13
      generalize hgen14 : DV.int .i64 r.2.1 = gen14
      generalize hgen15 : DV.int .i64 r.2.2 = gen15
      generalize hgen16 : accL ((padK (o.getD []).length ks).set ks.length (-1)) = gen16
      generalize hgen17 : (o.getD []).length = gen17
      generalize hgen18 : encN ((o.getD []).getD ks.length default) = gen18
      generalize hgen19 : (litV ((o.getD []).getD ks.length default)).enc = gen19
      generalize hgen20 : ((o.getD []).getD ks.length default) = gen20
      cbv
      subst hgen0
      subst hgen1
      subst hgen2
      subst hgen3
      subst hgen4
      subst hgen5
      subst hgen6
      subst hgen7
      subst hgen8
      subst hgen9
      subst hgen10
      subst hgen11
      subst hgen12
      subst hgen13
      subst hgen14
      subst hgen15
      subst hgen16
      subst hgen17
      subst hgen18
      subst hgen19
      subst hgen20
      subst hC
      refine ⟨?_⟩
      simp (maxSteps := 3000000) only [hI, hF, std]
      generalize hL : Sat Tryz.prog [0] _ (Tree.loop _ _ _ _ _ _ _) = L
      simp only [smp, lookOk, lookRes, sfOf, sgOf, hOk, hRes, hOut, ↓reduceIte, Nat.reduceEqDiff, reduceCtorEq, zC2, zA2, zB6, zA5, zB4, zB5, zA4, zB3, zA3, zB2, zC1, zA1, zB1, zA0, zB0, zA9, zC6, zA6, zC5, zC0, zC4, zB8, zA7, zB7, zA8, zC9, zD1, zC8, zD0, zB9, zC3, zC7, zE5, zD4, zE2, zD5, zE1, zD6, zE7, zE8, zD9, zE3, zE6, zD3, e21, e1020, e62, e33, e74, e1024, e1025b, e97, e1028]
      simp [- List.getD_eq_getElem?_getD, - Subtype.exists, - Prod.exists, - Bool.exists_bool, zA9, zC6, zA6, zC5, zC0, zC4, zB8, zA7, zB7, zA8, zC9, zD1, zC8, zD0, zB9, zC3, zC7, zE5, zD4, zE2, zD5, zE1, zD6, zE7, zE8, zD9, zE3, zE6, zD3, hn, hx]
      refine ⟨zH3 _ _, ?_⟩
      subst hL
      have hal : ((o.getD []).getD ks.length default).args.length ≤ 1048576 := hx.2.2
      have e5 : ((o.getD []).getD ks.length default).ar.getD [] = ((o.getD []).getD ks.length default).args := rfl
      have hlow := hR.low _ hlt
      have hask := hR.asks hlt
      refine zD8 (kend := fun I => kEndF I TbP41 [.tmp 4, .tmp 5, .tmp 6]) hI hF (sfOk (.cons ok21 (.cons ok1020 (.cons ok62 (.cons ok33 (.cons ok74 (.cons ok1024 (.cons ok1025b (.cons ok97 (.cons ok1028 .nil)))))))))) zH9 (by exact fun Bk e s h => endF zH9 Bk e s h) (lv := lv1006e) 2 (fun i : {i : Bool × Nat // i.2 ≤ ((o.getD []).getD ks.length default).args.length ∧ (i.1 = true ↔ 0 < i.2)} => [.d (encKs no), .d (encT o), .slc 0 1 0 (o.getD []).length, .d (.int .i64 (ks.length : Int)), .loc 1 5 0 0, accAt 3 1 i.1.1 i.1.2, .d (encT o), .d (.int .i64 ((o.getD []).length : Int)), .d (.int .i64 (ks.length : Int)), .d (encIs ((o.getD []).getD ks.length default).ar), .d (.int .i64 (((o.getD []).getD ks.length default).args.length : Int)), .d (.int .i64 (i.1.2 : Int))]) (fun i : {i : Bool × Nat // i.2 ≤ ((o.getD []).getD ks.length default).args.length ∧ (i.1 = true ↔ 0 < i.2)} => [(0, some ⟨accL ((padK (o.getD []).length ks).set ks.length (-1)), 1, 3, true, true⟩), (1, some ⟨[.d (encN ((o.getD []).getD ks.length default))], 5, 67, true, true⟩), (3, accB 1 3 (accL (wkT (o.getD []) ks ((o.getD []).getD ks.length default) i.1.2)) i.1.1)]) (fun i : {i : Bool × Nat // i.2 ≤ ((o.getD []).getD ks.length default).args.length ∧ (i.1 = true ↔ 0 < i.2)} => ((o.getD []).getD ks.length default).args.length - i.1.2) [0, 1, 10019] (⟨(false, 0), by simp, by simp⟩ : {i : Bool × Nat // i.2 ≤ ((o.getD []).getD ks.length default).args.length ∧ (i.1 = true ↔ 0 < i.2)}) (by rfl) (by rfl) ?_ ?_ fun i => ?_
      · simp [- List.getD_eq_getElem?_getD, e5, zA6, zB8, zA9, zC6, zA6, zC5, zC0, zC4, zB8, zA7, zB7, zA8, zC9, zD1, zC8, zD0, zB9, zC3, zC7]; rfl
      · rfl
      obtain ⟨⟨b, q⟩, hq1, hq2⟩ := i
      have hq1 : q ≤ ((o.getD []).getD ks.length default).args.length := hq1
      have hq2 : b = true ↔ 0 < q := hq2
      have w4 := zE0 (n := q) (by omega)
      have hwl := wkT_len (t := o.getD []) (ks := ks) hq1
      generalize hPA : (padK (o.getD []).length ks).set ks.length (-1) = PA at *
      have hPL : PA.length = (o.getD []).length := by rw [← hPA, List.length_set]; exact hpl
      have hPG : ∀ j, j < ks.length → PA.getD j 0 = ks.getD j 0 := fun j hj => by rw [← hPA]; exact pset_get _ hj
      cases b with
      | false =>
        have h0 : q = 0 := by have := mt hq2.2; simp at this; omega
        subst h0
        rw [show accAt 3 1 false 0 = .d .snil from rfl, show accB 1 3 (accL (wkT (o.getD []) ks ((o.getD []).getD ks.length default) 0)) false = none from rfl]
        refine zD7 fun C hC => ?_
        generalize hgen0 : encKs no = gen0
        generalize hgen1 : encT o = gen1
        generalize hgen2 : DV.int .i64 ((o.getD []).length : Int) = gen2
        generalize hgen3 : DV.int .i64 (ks.length : Int) = gen3
        generalize hgen4 : DV.int .i64 (((o.getD []).getD ks.length default).args.length : Int) = gen4
        generalize hgen5 : DV.int .i64 r.1 = gen5
        generalize hgen6 : DV.int .i64 r.2.1 = gen6
        generalize hgen7 : DV.int .i64 r.2.2 = gen7
        generalize hgen8 : accL PA = gen8
        generalize hgen9 : (o.getD []).length = gen9
        generalize hgen10 : encN ((o.getD []).getD ks.length default) = gen10
        generalize hgen11 : encIs ((o.getD []).getD ks.length default).ar = gen11
        cbv
        subst hgen0
        subst hgen1
        subst hgen2
        subst hgen3
        subst hgen4
        subst hgen5
        subst hgen6
        subst hgen7
        subst hgen8
        subst hgen9
        subst hgen10
        subst hgen11
        subst hC
        refine ⟨?_⟩
        simp (maxSteps := 3000000) only [hI, hF, std]
        by_cases hqa : 0 < ((o.getD []).getD ks.length default).args.length
        · have g5 := zE9 _ _ hqa
          have k5 := hlow.get hqa
          have n5 : (((o.getD []).getD ks.length default).args.getD 0 0).toNat < (o.getD []).length := by omega
          have n6 : (((o.getD []).getD ks.length default).args.getD 0 0).toNat < ks.length := by omega
          have g6 := zF7 _ _ n5
          rcases Bool.eq_false_or_eq_true (asksS ((o.getD []).getD ks.length default)) with hA | hA
          · obtain ⟨a1, a2⟩ := hask hA
            have hq0 : ((o.getD []).getD ks.length default).args.getD 0 0 = ((o.getD []).getD ks.length default).args.getD 0 0 := by rw [show 0 = 0 from by omega]
            have a3 := hR.a12 n5 (by rw [hq0]; exact a2)
            have a4 := (hR.low _ n5).get (j := 0) (by omega)
            have g7 := zE9 ((o.getD []).getD (((o.getD []).getD ks.length default).args.getD 0 0).toNat default).args 0 (by omega)
            have e7 : ((o.getD []).getD (((o.getD []).getD ks.length default).args.getD 0 0).toNat default).ar.getD [] = ((o.getD []).getD (((o.getD []).getD ks.length default).args.getD 0 0).toNat default).args := rfl
            have hwe : wkE (o.getD []) ks ((o.getD []).getD ks.length default) (((o.getD []).getD ks.length default).args.getD 0 0) = ks.getD (((o.getD []).getD (((o.getD []).getD ks.length default).args.getD 0 0).toNat default).args.getD 0 0).toNat 0 := by unfold wkE; rw [if_pos hA]
            generalize ((o.getD []).getD (((o.getD []).getD ks.length default).args.getD 0 0).toNat default).args.getD 0 0 = c at *
            have n7 : c.toNat < ks.length := by omega
            have hd := zG2 (l := PA) (j := c.toNat) (by omega)
            have hdg := zH8 (l := PA) (j := c.toNat) (by omega)
            rw [hPG _ n7] at hdg
            simp only [smp, lookOk, lookRes, sfOf, sgOf, hOk, hRes, hOut, ↓reduceIte, Nat.reduceEqDiff, reduceCtorEq, zC2, zA2, zB6, zA5, zB4, zB5, zA4, zB3, zA3, zB2, zC1, zA1, zB1, zA0, zB0, zA9, zC6, zA6, zC5, zC0, zC4, zB8, zA7, zB7, zA8, zC9, zD1, zC8, zD0, zB9, zC3, zC7, zE5, zD4, zE2, zD5, zE1, zD6, zE7, zE8, zD9, zE3, zE6, zD3, e21, e1020, e62, e33, e74, e1024, e1025b, e97, e1028, e5, e7, g5, g6, g7]
            simp [- List.getD_eq_getElem?_getD, - Subtype.exists, - Prod.exists, - Bool.exists_bool, zA9, zC6, zA6, zC5, zC0, zC4, zB8, zA7, zB7, zA8, zC9, zD1, zC8, zD0, zB9, zC3, zC7, zE5, zD4, zE2, zD5, zE1, zD6, zE7, zE8, zD9, zE3, zE6, zD3, hn, hx, hqa, e5, e7, g5, g6, g7, w4, zF4, hPL, hA, a3, k5]
            simp only [smp, lookOk, lookRes, sfOf, sgOf, hOk, hRes, hOut, ↓reduceIte, Nat.reduceEqDiff, reduceCtorEq, zC2, zA2, zB6, zA5, zB4, zB5, zA4, zB3, zA3, zB2, zC1, zA1, zB1, zA0, zB0, zA9, zC6, zA6, zC5, zC0, zC4, zB8, zA7, zB7, zA8, zC9, zD1, zC8, zD0, zB9, zC3, zC7, g7, hd, hdg]
            simp [- List.getD_eq_getElem?_getD, - Subtype.exists, - Prod.exists, - Bool.exists_bool, a4, hd, hdg, n5, n6, n7]
            refine ⟨by omega, by omega, zH3 _ _, ⟨⟨(true, 1), by omega, by simp⟩, by show _ - 1 < _; omega, ⟨rfl, rfl⟩, ?_⟩⟩
            rw [show wkT (o.getD []) ks ((o.getD []).getD ks.length default) 1 = [wkE (o.getD []) ks ((o.getD []).getD ks.length default) (((o.getD []).getD ks.length default).args.getD 0 0)] from by rw [show (1 : Nat) = 0 + 1 from rfl, wkT_succ hqa]; simp [wkT], hwe]; rfl
          · have hwe : wkE (o.getD []) ks ((o.getD []).getD ks.length default) (((o.getD []).getD ks.length default).args.getD 0 0) = ks.getD (((o.getD []).getD ks.length default).args.getD 0 0).toNat 0 := by unfold wkE; rw [if_neg (by rw [hA]; exact fun h => nomatch h)]
            have hd := zG2 (l := PA) (j := (((o.getD []).getD ks.length default).args.getD 0 0).toNat) (by omega)
            have hdg := zH8 (l := PA) (j := (((o.getD []).getD ks.length default).args.getD 0 0).toNat) (by omega)
            rw [hPG _ n6] at hdg
            simp only [smp, lookOk, lookRes, sfOf, sgOf, hOk, hRes, hOut, ↓reduceIte, Nat.reduceEqDiff, reduceCtorEq, zC2, zA2, zB6, zA5, zB4, zB5, zA4, zB3, zA3, zB2, zC1, zA1, zB1, zA0, zB0, zA9, zC6, zA6, zC5, zC0, zC4, zB8, zA7, zB7, zA8, zC9, zD1, zC8, zD0, zB9, zC3, zC7, zE5, zD4, zE2, zD5, zE1, zD6, zE7, zE8, zD9, zE3, zE6, zD3, e21, e1020, e62, e33, e74, e1024, e1025b, e97, e1028, e5, g5, g6, hd, hdg]
            simp [- List.getD_eq_getElem?_getD, - Subtype.exists, - Prod.exists, - Bool.exists_bool, zA9, zC6, zA6, zC5, zC0, zC4, zB8, zA7, zB7, zA8, zC9, zD1, zC8, zD0, zB9, zC3, zC7, zE5, zD4, zE2, zD5, zE1, zD6, zE7, zE8, zD9, zE3, zE6, zD3, hn, hx, hqa, e5, g5, g6, w4, zF4, hPL, hA, k5, hd, hdg, n5, n6]
            refine ⟨by omega, zH3 _ _, ⟨⟨(true, 1), by omega, by simp⟩, by show _ - 1 < _; omega, ⟨rfl, rfl⟩, ?_⟩⟩
            rw [show wkT (o.getD []) ks ((o.getD []).getD ks.length default) 1 = [wkE (o.getD []) ks ((o.getD []).getD ks.length default) (((o.getD []).getD ks.length default).args.getD 0 0)] from by rw [show (1 : Nat) = 0 + 1 from rfl, wkT_succ hqa]; simp [wkT], hwe]; rfl
        · have hz : ((o.getD []).getD ks.length default).args.length = 0 := by omega
          have hwz : wkP (o.getD []) ks ((o.getD []).getD ks.length default) = [] := by rw [← wkT_all, hz]; simp [wkT]
          rw [hwz] at hkn hso
          simp only [smp, lookOk, lookRes, sfOf, sgOf, hOk, hRes, hOut, ↓reduceIte, Nat.reduceEqDiff, reduceCtorEq, zC2, zA2, zB6, zA5, zB4, zB5, zA4, zB3, zA3, zB2, zC1, zA1, zB1, zA0, zB0, zA9, zC6, zA6, zC5, zC0, zC4, zB8, zA7, zB7, zA8, zC9, zD1, zC8, zD0, zB9, zC3, zC7, zE5, zD4, zE2, zD5, zE1, zD6, zE7, zE8, zD9, zE3, zE6, zD3, e21, e1020, e62, e33, e74, e1024, e1025b, e97, e1028, e5]
          simp [- List.getD_eq_getElem?_getD, - Subtype.exists, - Prod.exists, - Bool.exists_bool, zA9, zC6, zA6, zC5, zC0, zC4, zB8, zA7, zB7, zA8, zC9, zD1, zC8, zD0, zB9, zC3, zC7, zE5, zD4, zE2, zD5, zE1, zD6, zE7, zE8, zD9, zE3, zE6, zD3, hn, hx, hqa, e5, w3, w4, hz, zF4, hPL, isIs_snil, toIs_snil, hkn, scalarD, zF5]
          simp only [List.getD_cons_zero, List.getD_cons_succ, isBoolD_bool, zF1]
          have hs3 : isDatA ((accL PA).getD ks.length .undef) = true := zG2 (by omega)
          generalize kindP ((o.getD []).getD ks.length default) [] = kp at hso ⊢
          refine ⟨rfl, trivial, fun hb => ?_, fun hb => ⟨hlt, ⟨hlt, hs3⟩, rfl, by rw [accL_set]; exact zH3 _ _, ?_⟩⟩
          · rw [if_neg (by rw [hb]; exact fun h => nomatch h)] at hso
            rw [hso] at hst
            rw [hst.1 (by simp)]; exact ⟨rfl, rfl, rfl⟩
          · rw [if_pos hb] at hso
            rw [hso] at hst
            obtain ⟨j, h1, h2, h3⟩ := bk _ (hst.2 rfl)
            have h4 : (accL PA).set ks.length (.d (.int .i64 kp.1)) = accL (padK (o.getD []).length j.val) := by
              rw [accL_set, ← hPA, List.set_set]; exact h3
            rw [into_bk_ne (by decide), into_bk]
            exact ⟨j, h1, by rw [h2], by rw [h4]⟩
      | true =>
        rw [show accAt 3 1 true q = .slc 3 1 0 q from rfl, show accB 1 3 (accL (wkT (o.getD []) ks ((o.getD []).getD ks.length default) q)) true = some ⟨accL (wkT (o.getD []) ks ((o.getD []).getD ks.length default) q), 1, 3, true, true⟩ from rfl]
        refine zD7 fun C hC => ?_
        generalize hgen0 : encKs no = gen0
        generalize hgen1 : encT o = gen1
        generalize hgen2 : DV.int .i64 ((o.getD []).length : Int) = gen2
        generalize hgen3 : DV.int .i64 (ks.length : Int) = gen3
        generalize hgen4 : DV.int .i64 (((o.getD []).getD ks.length default).args.length : Int) = gen4
        generalize hgen5 : DV.int .i64 (q : Int) = gen5
        generalize hgen6 : DV.int .i64 r.1 = gen6
        generalize hgen7 : DV.int .i64 r.2.1 = gen7
        generalize hgen8 : DV.int .i64 r.2.2 = gen8
        generalize hgen9 : accL PA = gen9
        generalize hgen10 : accL (wkT (o.getD []) ks ((o.getD []).getD ks.length default) q) = gen10
        generalize hgen11 : (o.getD []).length = gen11
        generalize hgen12 : encN ((o.getD []).getD ks.length default) = gen12
        generalize hgen13 : encIs ((o.getD []).getD ks.length default).ar = gen13
        cbv
        subst hgen0
        subst hgen1
        subst hgen2
        subst hgen3
        subst hgen4
        subst hgen5
        subst hgen6
        subst hgen7
        subst hgen8
        subst hgen9
        subst hgen10
        subst hgen11
        subst hgen12
        subst hgen13
        subst hC
        refine ⟨?_⟩
        simp (maxSteps := 3000000) only [hI, hF, std]
        by_cases hqa : q < ((o.getD []).getD ks.length default).args.length
        · have g5 := zE9 _ _ hqa
          have k5 := hlow.get hqa
          have n5 : (((o.getD []).getD ks.length default).args.getD q 0).toNat < (o.getD []).length := by omega
          have n6 : (((o.getD []).getD ks.length default).args.getD q 0).toNat < ks.length := by omega
          have g6 := zF7 _ _ n5
          rcases Bool.eq_false_or_eq_true (asksS ((o.getD []).getD ks.length default)) with hA | hA
          · obtain ⟨a1, a2⟩ := hask hA
            have hq0 : ((o.getD []).getD ks.length default).args.getD q 0 = ((o.getD []).getD ks.length default).args.getD 0 0 := by rw [show q = 0 from by omega]
            have a3 := hR.a12 n5 (by rw [hq0]; exact a2)
            have a4 := (hR.low _ n5).get (j := 0) (by omega)
            have g7 := zE9 ((o.getD []).getD (((o.getD []).getD ks.length default).args.getD q 0).toNat default).args 0 (by omega)
            have e7 : ((o.getD []).getD (((o.getD []).getD ks.length default).args.getD q 0).toNat default).ar.getD [] = ((o.getD []).getD (((o.getD []).getD ks.length default).args.getD q 0).toNat default).args := rfl
            have hwe : wkE (o.getD []) ks ((o.getD []).getD ks.length default) (((o.getD []).getD ks.length default).args.getD q 0) = ks.getD (((o.getD []).getD (((o.getD []).getD ks.length default).args.getD q 0).toNat default).args.getD 0 0).toNat 0 := by unfold wkE; rw [if_pos hA]
            generalize ((o.getD []).getD (((o.getD []).getD ks.length default).args.getD q 0).toNat default).args.getD 0 0 = c at *
            have n7 : c.toNat < ks.length := by omega
            have hd := zG2 (l := PA) (j := c.toNat) (by omega)
            have hdg := zH8 (l := PA) (j := c.toNat) (by omega)
            rw [hPG _ n7] at hdg
            simp only [smp, lookOk, lookRes, sfOf, sgOf, hOk, hRes, hOut, ↓reduceIte, Nat.reduceEqDiff, reduceCtorEq, zC2, zA2, zB6, zA5, zB4, zB5, zA4, zB3, zA3, zB2, zC1, zA1, zB1, zA0, zB0, zA9, zC6, zA6, zC5, zC0, zC4, zB8, zA7, zB7, zA8, zC9, zD1, zC8, zD0, zB9, zC3, zC7, zE5, zD4, zE2, zD5, zE1, zD6, zE7, zE8, zD9, zE3, zE6, zD3, e21, e1020, e62, e33, e74, e1024, e1025b, e97, e1028, e5, e7, g5, g6, g7]
            simp [- List.getD_eq_getElem?_getD, - Subtype.exists, - Prod.exists, - Bool.exists_bool, zA9, zC6, zA6, zC5, zC0, zC4, zB8, zA7, zB7, zA8, zC9, zD1, zC8, zD0, zB9, zC3, zC7, zE5, zD4, zE2, zD5, zE1, zD6, zE7, zE8, zD9, zE3, zE6, zD3, hn, hx, hqa, e5, e7, g5, g6, g7, w4, zF4, hPL, hA, a3, k5]
            simp only [smp, lookOk, lookRes, sfOf, sgOf, hOk, hRes, hOut, ↓reduceIte, Nat.reduceEqDiff, reduceCtorEq, zC2, zA2, zB6, zA5, zB4, zB5, zA4, zB3, zA3, zB2, zC1, zA1, zB1, zA0, zB0, zA9, zC6, zA6, zC5, zC0, zC4, zB8, zA7, zB7, zA8, zC9, zD1, zC8, zD0, zB9, zC3, zC7, g7, hd, hdg]
            simp [- List.getD_eq_getElem?_getD, - Subtype.exists, - Prod.exists, - Bool.exists_bool, a4, hd, hdg, n5, n6, n7]
            refine ⟨by omega, by omega, ⟨by rw [← List.length.eq_def, zF4]; omega, by omega⟩, ⟨zH3 _ _, fun x hx => zH3 _ _ _ (List.mem_of_mem_take hx)⟩, ⟨⟨(true, q + 1), by omega, by simp⟩, by show _ - (q + 1) < _; omega, ⟨rfl, rfl⟩, ?_⟩⟩
            rw [wkT_succ hqa, hwe, accL_app, List.take_of_length_le (by rw [zF4]; omega)]; rfl
          · have hwe : wkE (o.getD []) ks ((o.getD []).getD ks.length default) (((o.getD []).getD ks.length default).args.getD q 0) = ks.getD (((o.getD []).getD ks.length default).args.getD q 0).toNat 0 := by unfold wkE; rw [if_neg (by rw [hA]; exact fun h => nomatch h)]
            have hd := zG2 (l := PA) (j := (((o.getD []).getD ks.length default).args.getD q 0).toNat) (by omega)
            have hdg := zH8 (l := PA) (j := (((o.getD []).getD ks.length default).args.getD q 0).toNat) (by omega)
            rw [hPG _ n6] at hdg
            simp only [smp, lookOk, lookRes, sfOf, sgOf, hOk, hRes, hOut, ↓reduceIte, Nat.reduceEqDiff, reduceCtorEq, zC2, zA2, zB6, zA5, zB4, zB5, zA4, zB3, zA3, zB2, zC1, zA1, zB1, zA0, zB0, zA9, zC6, zA6, zC5, zC0, zC4, zB8, zA7, zB7, zA8, zC9, zD1, zC8, zD0, zB9, zC3, zC7, zE5, zD4, zE2, zD5, zE1, zD6, zE7, zE8, zD9, zE3, zE6, zD3, e21, e1020, e62, e33, e74, e1024, e1025b, e97, e1028, e5, g5, g6, hd, hdg]
            simp [- List.getD_eq_getElem?_getD, - Subtype.exists, - Prod.exists, - Bool.exists_bool, zA9, zC6, zA6, zC5, zC0, zC4, zB8, zA7, zB7, zA8, zC9, zD1, zC8, zD0, zB9, zC3, zC7, zE5, zD4, zE2, zD5, zE1, zD6, zE7, zE8, zD9, zE3, zE6, zD3, hn, hx, hqa, e5, g5, g6, w4, zF4, hPL, hA, k5, hd, hdg, n5, n6]
            refine ⟨by omega, ⟨by rw [← List.length.eq_def, zF4]; omega, by omega⟩, ⟨zH3 _ _, fun x hx => zH3 _ _ _ (List.mem_of_mem_take hx), rfl⟩, ⟨⟨(true, q + 1), by omega, by simp⟩, by show _ - (q + 1) < _; omega, ⟨rfl, rfl⟩, ?_⟩⟩
            rw [wkT_succ hqa, hwe, accL_app, List.take_of_length_le (by rw [zF4]; omega)]; rfl
        · have hz : q = ((o.getD []).getD ks.length default).args.length := by omega
          have hwz : wkT (o.getD []) ks ((o.getD []).getD ks.length default) q = wkP (o.getD []) ks ((o.getD []).getD ks.length default) := by rw [hz, wkT_all]
          rw [hwz] at hwl ⊢
          have rf := rowF_acc _ hwl
          have ro := rowOkF_acc _ hwl (by omega)
          have hok : okIs (some (wkP (o.getD []) ks ((o.getD []).getD ks.length default))) := by
            show (wkP (o.getD []) ks ((o.getD []).getD ks.length default)).length ≤ 1048576
            omega
          simp only [smp, lookOk, lookRes, sfOf, sgOf, hOk, hRes, hOut, ↓reduceIte, Nat.reduceEqDiff, reduceCtorEq, zC2, zA2, zB6, zA5, zB4, zB5, zA4, zB3, zA3, zB2, zC1, zA1, zB1, zA0, zB0, zA9, zC6, zA6, zC5, zC0, zC4, zB8, zA7, zB7, zA8, zC9, zD1, zC8, zD0, zB9, zC3, zC7, zE5, zD4, zE2, zD5, zE1, zD6, zE7, zE8, zD9, zE3, zE6, zD3, e21, e1020, e62, e33, e74, e1024, e1025b, e97, e1028, e5, rf, ro]
          simp [- List.getD_eq_getElem?_getD, - Subtype.exists, - Prod.exists, - Bool.exists_bool, zA9, zC6, zA6, zC5, zC0, zC4, zB8, zA7, zB7, zA8, zC9, zD1, zC8, zD0, zB9, zC3, zC7, zE5, zD4, zE2, zD5, zE1, zD6, zE7, zE8, zD9, zE3, zE6, zD3, hn, hx, hqa, e5, w3, w4, zF4, hPL, rf, ro, hok, hkn, scalarD, zF5]
          simp only [List.getD_cons_zero, List.getD_cons_succ, isBoolD_bool, zF1]
          have hs3 : isDatA ((accL PA).getD ks.length .undef) = true := zG2 (by omega)
          generalize kindP ((o.getD []).getD ks.length default) (wkP (o.getD []) ks ((o.getD []).getD ks.length default)) = kp at hso ⊢
          refine ⟨rfl, trivial, fun hb => ?_, fun hb => ⟨hlt, ⟨hlt, hs3⟩, rfl, by rw [accL_set]; exact zH3 _ _, ?_⟩⟩
          · rw [if_neg (by rw [hb]; exact fun h => nomatch h)] at hso
            rw [hso] at hst
            rw [hst.1 (by simp)]; exact ⟨rfl, rfl, rfl⟩
          · rw [if_pos hb] at hso
            rw [hso] at hst
            obtain ⟨j, h1, h2, h3⟩ := bk _ (hst.2 rfl)
            have h4 : (accL PA).set ks.length (.d (.int .i64 kp.1)) = accL (padK (o.getD []).length j.val) := by
              rw [accL_set, ← hPA, List.set_set]; exact h3
            rw [into_bk_ne (by decide), into_bk]
            exact ⟨j, h1, by rw [h2], by rw [h4]⟩
    · have hnl2 := hR.nl
      have hkl : ks.length = (o.getD []).length := by omega
      have w5 : IntKind.i64.wrap (((o.getD []).length : Int) - 1) = (((o.getD []).length - 1 : Nat) : Int) := wrap_pred hnl2 (by omega)
      have hlk : (o.getD []).length - 1 < (padK (o.getD []).length ks).length := by omega
      have hd := zG2 hlk
      have hdg := zH8 hlk
      rw [padK_get (by omega)] at hdg
      rw [hkl, Nat.sub_self, kindF] at hk2
      simp only [smp, lookOk, lookRes, sfOf, sgOf, hOk, hRes, hOut, ↓reduceIte, Nat.reduceEqDiff, reduceCtorEq, zC2, zA2, zB6, zA5, zB4, zB5, zA4, zB3, zA3, zB2, zC1, zA1, zB1, zA0, zB0, zA9, zC6, zA6, zC5, zC0, zC4, zB8, zA7, zB7, zA8, zC9, zD1, zC8, zD0, zB9, zC3, zC7, zE5, zD4, zE2, zD5, zE1, zD6, zE7, zE8, zD9, zE3, zE6, zD3, e21, e1020, e62, e33, e74, e1024, e1025b, e97, e1028, w5, hd, hdg]
      simp [- List.getD_eq_getElem?_getD, - Subtype.exists, - Prod.exists, - Bool.exists_bool, hlt, w5, zF4, hd, hdg, hlk, hpl]
      rw [← hk2]; exact ⟨by omega, rfl, rfl, rfl⟩
open Classical in
noncomputable def e1006 : Ent := ⟨6, fun | [d_no, d_o] => decide (isKs d_no ∧ isT d_o) | _ => false, fun | [d_no, d_o] => .tup [.int .i64 (kindA ((toKs d_no).getD []) ((toT d_o).getD [])).1, .int .i64 (kindA ((toKs d_no).getD []) ((toT d_o).getD [])).2.1, .int .i64 (kindA ((toKs d_no).getD []) ((toT d_o).getD [])).2.2] | _ => .inil⟩
open Classical in
theorem ok1006 : EntOk Tryz.prog [0] e1006 := fun ds h => by
  unfold e1006 at h ⊢
  simp only at h ⊢
  split at h
  · rw [decide_eq_true_iff] at h
    obtain ⟨⟨v0, rfl, k0⟩, ⟨v1, rfl, k1⟩⟩ := h
    simp only [zB2, zA1, zA0, zB9, zC9, zC8, zE7, zD9]
    exact pc1006 _ _ k0 k1
  · cases h
end Go.Proofs.Sx

set_option linter.unusedVariables false
set_option linter.unusedSimpArgs false
set_option maxRecDepth 100000
namespace Go.Proofs.Sx
open Go Go.Proofs Go.Proofs.Am 
variable {gs : List Nat}

def ownN (x : Nd) : Nd := ⟨x.k, x.n, x.tx, some x.names, some x.args⟩
def ownT (o : Option (List Nd)) : Option (List Nd) := if o.getD [] = [] then none else some ((o.getD []).map ownN)
def aggN (x : Nd) : AV := .agg [.d (.int .i64 x.k), .d (.int .i64 x.n), .d (.str x.tx), .d (encS x.nm), .d (encIs x.ar)]
def ownNA (l : List Nd) (i : Nat) : List AV := (l.take i).map fun b => aggN (ownN b)
theorem ownNA_len {l : List Nd} {i : Nat} (h : i ≤ l.length) : (ownNA l i).length = i := by simp [ownNA]; omega
theorem ownNA_succ {l : List Nd} {i : Nat} (h : i < l.length) : ownNA l (i + 1) = ownNA l i ++ [aggN (ownN (l.getD i default))] := by
  unfold ownNA
  rw [List.take_add_one, List.map_append]
  simp [List.getD, h]
theorem frz_aggN (lh : Nat → Option LB) (b : Nd) : frz lh 7 (aggN b) = some (encN b) := rfl
theorem mapM_aggN (lh : Nat → Option LB) (f : Nd → Nd) : ∀ (l : List Nd), (l.map fun b => aggN (f b)).mapM (frz lh 7) = some (l.map fun b => encN (f b))
  | [] => rfl
  | b :: r => by simp [List.mapM_cons, frz_aggN, mapM_aggN lh f r]
theorem frz_rowN {lh : LM} {o : Option (List Nd)} {i : Nat} (hb : lh.get 0 = some ⟨ownNA (o.getD []) i, 5, 67, true, true⟩) (h : (o.getD []).length ≤ i) (h1 : i ≤ (o.getD []).length) (h2 : 0 < i) (h3 : (o.getD []).length ≤ 1048576) : frz lh.get 8 (.slc 0 5 0 i) = some (encT (ownT o)) := by
  have hi : i = (o.getD []).length := by omega
  have hl : 0 + i ≤ (ownNA (o.getD []) i).length ∧ i ≤ big := ⟨by rw [ownNA_len h1]; omega, by unfold big; omega⟩
  simp only [frz, hb, if_pos hl, List.drop_zero]
  rw [List.take_of_length_le (by rw [ownNA_len h1]; omega)]
  have : ownNA (o.getD []) i = (o.getD []).map fun b => aggN (ownN b) := by unfold ownNA; rw [List.take_of_length_le h]
  have hne : ¬ o.getD [] = [] := fun hc => by rw [hc] at hi; simp at hi; omega
  rw [this, mapM_aggN, ownT, if_neg hne, encT, List.map_map]; rfl
def lv1007 : Nat → List Nat × List Nat
  | 3 => ([0, 3, 4], [10003])
  | _ => ([], [])
set_option maxHeartbeats 2000000 in
theorem pc1007 (o : Option (List Nd)) (ho : okT o) : PureCall Tryz.prog [0] 7 [encT o] (dRet (encT (ownT o))) := by
  have hl := ho.1
  refine pure_of_treeR mixed fn1007 (Nat.le_of_ble_eq_true rfl) (Nat.lt_of_succ_le (Nat.le_of_ble_eq_true rfl)) (sfOk (.cons ok29 (.cons ok1030 .nil))) TbOk (lv := lv1007) fun I F hI hF => ?_
  refine zD7 fun C hC => ?_
  generalize hgen0 : encT o = gen0
  cbv
  subst hgen0
  subst hC
  refine ⟨?_⟩
  simp (maxSteps := 3000000) only [hI, hF, std]
  simp only [smp, lookOk, lookRes, sfOf, sgOf, hOk, hRes, hOut, ↓reduceIte, Nat.reduceEqDiff, reduceCtorEq, zC2, zA2, zB6, zA5, zB4, zB5, zA4, zB3, zA3, zB2, zC1, zA1, zB1, zA0, zB0, zA9, zC6, zA6, zC5, zC0, zC4, zB8, zA7, zB7, zA8, zC9, zD1, zC8, zD0, zB9, zC3, zC7]
  refine zD8 (kend := fun I => kEnd I Tb [.tmp 2]) hI hF (sfOk (.cons ok29 (.cons ok1030 .nil))) TbOk (by exact fun Bk e s h => endR TbOk Bk e s h) (lv := lv1007) 0 (fun i : {i : Bool × Nat // i.2 ≤ (o.getD []).length ∧ (i.1 = true ↔ 0 < i.2)} => [.d (encT o), accA 5 i.1.1 i.1.2, .d (.int .i64 (i.1.2 : Int))]) (fun i : {i : Bool × Nat // i.2 ≤ (o.getD []).length ∧ (i.1 = true ↔ 0 < i.2)} => [(0, accB 5 67 (ownNA (o.getD []) i.1.2) i.1.1)]) (fun i : {i : Bool × Nat // i.2 ≤ (o.getD []).length ∧ (i.1 = true ↔ 0 < i.2)} => (o.getD []).length - i.1.2) [10003] (⟨(false, 0), by simp, by simp⟩ : {i : Bool × Nat // i.2 ≤ (o.getD []).length ∧ (i.1 = true ↔ 0 < i.2)}) (by rfl) (by rfl) ?_ ?_ fun i => ?_
  · rfl
  · rfl
  obtain ⟨⟨b, i⟩, hi1, hi2⟩ := i
  have hi1 : i ≤ (o.getD []).length := hi1
  have hi2 : b = true ↔ 0 < i := hi2
  have w3 := zE0 (n := i) (by omega)
  have hlen := ownNA_len hi1
  cases b with
  | false =>
    rw [show accA 5 false i = .d .snil from rfl, show accB 5 67 (ownNA (o.getD []) i) false = none from rfl]
    have h0 : i = 0 := by have := mt hi2.2; simp at this; omega
    refine zD7 fun C hC => ?_
    generalize hgen0 : encT o = gen0
    generalize hgen1 : DV.int .i64 (i : Int) = gen1
    cbv
    subst hgen0
    subst hgen1
    subst hC
    refine ⟨?_⟩
    simp (maxSteps := 3000000) only [hI, hF, std]
    by_cases hlt : i < (o.getD []).length
    · have g1 := zF7 _ _ hlt
      have k1 := zH5 ho hlt
      simp only [smp, lookOk, lookRes, sfOf, sgOf, hOk, hRes, hOut, ↓reduceIte, Nat.reduceEqDiff, reduceCtorEq, zC2, zA2, zB6, zA5, zB4, zB5, zA4, zB3, zA3, zB2, zC1, zA1, zB1, zA0, zB0, zA9, zC6, zA6, zC5, zC0, zC4, zB8, zA7, zB7, zA8, zC9, zD1, zC8, zD0, zB9, zC3, zC7, e29, e1030, g1, zH4]
      simp [hlt, w3, - List.getD_eq_getElem?_getD, k1, k1.2.1, k1.2.2, zC2, zA2, zB6, zA5, zB4, zB5, zA4, zB3, zA3, zB2, zC1, zA1, zB1, zA0, zB0, zA9, zC6, zA6, zC5, zC0, zC4, zB8, zA7, zB7, zA8, zC9, zD1, zC8, zD0, zB9, zC3, zC7]
      subst h0
      refine .inr ⟨1, by omega, ⟨rfl, rfl⟩, ⟨hlt, by omega⟩, ?_⟩
      rw [show ownNA (o.getD []) 1 = [aggN (ownN ((o.getD []).getD 0 default))] from by rw [ownNA_succ hlt]; rfl]; rfl
    · simp only [smp, lookOk, lookRes, sfOf, sgOf, hOk, hRes, hOut, ↓reduceIte, Nat.reduceEqDiff, reduceCtorEq, zC2, zA2, zB6, zA5, zB4, zB5, zA4, zB3, zA3, zB2, zC1, zA1, zB1, zA0, zB0, zA9, zC6, zA6, zC5, zC0, zC4, zB8, zA7, zB7, zA8, zC9, zD1, zC8, zD0, zB9, zC3, zC7, e29, e1030, zH4]
      simp [hlt]
      have he : o.getD [] = [] := List.length_eq_zero_iff.1 (by omega)
      rw [ownT, if_pos he]; rfl
  | true =>
    rw [show accA 5 true i = .slc 0 5 0 i from rfl, show accB 5 67 (ownNA (o.getD []) i) true = some ⟨ownNA (o.getD []) i, 5, 67, true, true⟩ from rfl]
    refine zD7 fun C hC => ?_
    generalize hgen0 : encT o = gen0
    generalize hgen1 : DV.int .i64 (i : Int) = gen1
    generalize hgen2 : ownNA (o.getD []) i = gen2
    cbv
    subst hgen0
    subst hgen1
    subst hgen2
    subst hC
    refine ⟨?_⟩
    simp (maxSteps := 3000000) only [hI, hF, std]
    by_cases hlt : i < (o.getD []).length
    · have g1 := zF7 _ _ hlt
      have k1 := zH5 ho hlt
      simp only [smp, lookOk, lookRes, sfOf, sgOf, hOk, hRes, hOut, ↓reduceIte, Nat.reduceEqDiff, reduceCtorEq, zC2, zA2, zB6, zA5, zB4, zB5, zA4, zB3, zA3, zB2, zC1, zA1, zB1, zA0, zB0, zA9, zC6, zA6, zC5, zC0, zC4, zB8, zA7, zB7, zA8, zC9, zD1, zC8, zD0, zB9, zC3, zC7, e29, e1030, g1, zH4]
      simp [hlt, w3, - List.getD_eq_getElem?_getD, k1, k1.2.1, k1.2.2, zC2, zA2, zB6, zA5, zB4, zB5, zA4, zB3, zA3, zB2, zC1, zA1, zB1, zA0, zB0, zA9, zC6, zA6, zC5, zC0, zC4, zB8, zA7, zB7, zA8, zC9, zD1, zC8, zD0, zB9, zC3, zC7]
      refine ⟨⟨by rw [← List.length.eq_def]; simp [hlen], by omega⟩, ⟨fun x hx => ?_, rfl⟩, .inr ⟨i + 1, by omega, ⟨rfl, rfl⟩, ⟨hlt, by omega⟩, ?_⟩⟩
      · obtain ⟨d, _, rfl⟩ := List.mem_map.1 (List.mem_of_mem_take hx); rfl
      · rw [List.take_of_length_le (by simp [hlen]), ownNA_succ hlt]; rfl
    · simp only [smp, lookOk, lookRes, sfOf, sgOf, hOk, hRes, hOut, ↓reduceIte, Nat.reduceEqDiff, reduceCtorEq, zC2, zA2, zB6, zA5, zB4, zB5, zA4, zB3, zA3, zB2, zC1, zA1, zB1, zA0, zB0, zA9, zC6, zA6, zC5, zC0, zC4, zB8, zA7, zB7, zA8, zC9, zD1, zC8, zD0, zB9, zC3, zC7, e29, e1030, zH4]
      simp [hlt]
      exact frz_rowN rfl (by omega) hi1 (hi2.1 rfl) hl
open Classical in
noncomputable def e1007 : Ent := ⟨7, fun | [d_o] => decide (isT d_o) | _ => false, fun | [d_o] => encT (ownT (toT d_o)) | _ => .inil⟩
open Classical in
theorem ok1007 : EntOk Tryz.prog [0] e1007 := fun ds h => by
  unfold e1007 at h ⊢
  simp only at h ⊢
  split at h
  · rw [decide_eq_true_iff] at h
    obtain ⟨v0, rfl, k0⟩ := h
    simp only [zB2, zA1, zA0, zB9, zC9, zC8]
    exact pc1007 _ k0
  · cases h
end Go.Proofs.Sx

set_option linter.unusedVariables false
set_option linter.unusedSimpArgs false
set_option maxRecDepth 100000
namespace Go.Proofs.Sx
open Go Go.Proofs Go.Proofs.Am 
variable {gs : List Nat}

theorem own_getD (o : Option (List Nd)) : (ownT o).getD [] = (o.getD []).map ownN := by
  unfold ownT
  split
  · rename_i h; rw [h]; rfl
  · rfl
theorem okT_own {o : Option (List Nd)} (h : okT o) : okT (ownT o) := by
  refine ⟨by rw [own_getD, List.length_map]; exact h.1, fun x hx => ?_⟩
  rw [own_getD] at hx
  obtain ⟨y, hy, rfl⟩ := List.mem_map.1 hx
  exact h.2 y hy
theorem own_f {α : Type} (f : Nd → α) (hf : ∀ x, f (ownN x) = f x) (l : List Nd) (j : Nat) : f ((l.map ownN).getD j default) = f (l.getD j default) := by
  by_cases h : j < l.length
  · rw [show (l.map ownN).getD j default = ownN (l.getD j default) from by simp [List.getD, h]]; exact hf _
  · rw [show (l.map ownN).getD j default = default from by simp [List.getD, h], show l.getD j default = default from by simp [List.getD, h]]
theorem oT_k (l : List Nd) (j : Nat) : ((l.map ownN).getD j default).k = (l.getD j default).k := own_f (·.k) (fun _ => rfl) l j
theorem oT_tx (l : List Nd) (j : Nat) : ((l.map ownN).getD j default).tx = (l.getD j default).tx := own_f (·.tx) (fun _ => rfl) l j
theorem oT_n (l : List Nd) (j : Nat) : ((l.map ownN).getD j default).n = (l.getD j default).n := own_f (·.n) (fun _ => rfl) l j
theorem oT_args (l : List Nd) (j : Nat) : ((l.map ownN).getD j default).args = (l.getD j default).args := own_f Nd.args (fun _ => rfl) l j
theorem oT_names (l : List Nd) (j : Nat) : ((l.map ownN).getD j default).names = (l.getD j default).names := own_f Nd.names (fun _ => rfl) l j
theorem own_nmE (l : List Nd) (j : Nat) : nmE ((l.map ownN).getD j default) = nmE (l.getD j default) := own_f nmE (fun _ => rfl) l j
theorem own_arOk (l : List Nd) (j : Nat) : arOk ((l.map ownN).getD j default) = arOk (l.getD j default) := own_f arOk (fun _ => rfl) l j
theorem own_litV (l : List Nd) (j : Nat) : litV ((l.map ownN).getD j default) = litV (l.getD j default) := own_f litV (fun _ => rfl) l j
theorem own_asks (l : List Nd) (j : Nat) : asksS ((l.map ownN).getD j default) = asksS (l.getD j default) := own_f asksS (fun _ => rfl) l j
theorem own_kAt (l : List Nd) (a : Int) : kAt (l.map ownN) a = kAt l a := oT_k l a.toNat
theorem rootsF_own : ∀ (l : List Nd) (i : Nat) (r : List Int), rootsF (l.map ownN) i r = rootsF l i r
  | [], _, _ => rfl
  | x :: l, i, r => by
    simp only [List.map_cons, rootsF]
    rw [show (ownN x).args = x.args from rfl]
    cases stepR r x.args i with
    | none => rfl
    | some r' => exact rootsF_own l (i + 1) r'
theorem frmE_own (l : List Nd) (i : Nat) : frmE (l.map ownN) i = frmE l i := by
  unfold frmE
  simp only [oT_k, oT_n, oT_tx, oT_names, oT_args, own_asks, own_kAt, List.length_map]
theorem nodeE_own (l : List Nd) (i : Nat) : nodeE (l.map ownN) i = nodeE l i := by
  unfold nodeE nodeE2
  simp only [oT_k, oT_n, oT_tx, oT_names, oT_args, own_nmE, own_arOk, own_litV, frmE_own]
  rw [oT_names]
theorem chkF_own (l : List Nd) : ∀ (m i : Nat), chkF (l.map ownN) m i = chkF l m i
  | 0, _ => rfl
  | m + 1, i => by simp only [chkF, nodeE_own, chkF_own l m]
theorem checkE_own (l : List Nd) : checkE (l.map ownN) = checkE l := by
  unfold checkE isTermS
  simp only [rootsF_own, List.length_map, chkF_own]
theorem askF_own (l : List Nd) (a : Int) : ∀ (m j : Nat), askF (l.map ownN) a m j = askF l a m j
  | 0, _ => rfl
  | m + 1, j => by simp only [askF, oT_args, own_asks, askF_own l a m]
theorem kinE_own (ns : List Kn) (l : List Nd) (ks : List Int) : kinE ns (l.map ownN) ks = kinE ns l ks := by
  unfold kinE
  by_cases h : ks.length < l.length
  · rw [show (l.map ownN).getD ks.length default = ownN (l.getD ks.length default) from by simp [List.getD, h]]
    generalize l.getD ks.length default = x
    show kindS ns (l.map ownN) ks (opK ks x) (ownN x) = kindS ns l ks (opK ks x) x
    unfold kindS appS
    simp only [oT_args]
    rfl
  · rw [show (l.map ownN).getD ks.length default = default from by simp [List.getD, h], show l.getD ks.length default = default from by simp [List.getD, h]]
    rfl
theorem stepK_own (ns : List Kn) (l : List Nd) (ks : List Int) : stepK ns (l.map ownN) ks = stepK ns l ks := by
  unfold stepK
  simp only [oT_k, askF_own, kinE_own, List.length_map]
theorem kindF_own (ns : List Kn) (l : List Nd) : ∀ (m : Nat) (ks : List Int), kindF ns (l.map ownN) m ks = kindF ns l m ks
  | 0, ks => by simp only [kindF, List.length_map]
  | m + 1, ks => by simp only [kindF, stepK_own, kindF_own ns l m]
theorem kindA_own (ns : List Kn) (o : Option (List Nd)) : kindA ns ((ownT o).getD []) = kindA ns (o.getD []) := by
  rw [own_getD]
  unfold kindA
  simp only [checkE_own, kindF_own, List.length_map]
open Classical in
theorem pc1005 (o : Option (List Nd)) (ho : okT o) : PureCall Tryz.prog [0] 5 [encT o] (dRet (.bool (decide (shortT (o.getD []))))) := by
  refine zD2 mixed fn1005 (Nat.le_of_ble_eq_true rfl) (Nat.lt_of_succ_le (Nat.le_of_ble_eq_true rfl)) (sfOk (.cons ok1017 .nil)) TbOk (lv := lv0) fun I F hI hF => ?_
  refine zD7 fun C hC => ?_
  generalize hgen0 : encT o = gen0
  cbv
  subst hgen0
  subst hC
  refine ⟨?_⟩
  simp (maxSteps := 3000000) only [hI, hF, std]
  simp only [smp, lookOk, lookRes, sfOf, sgOf, hOk, hRes, hOut, ↓reduceIte, Nat.reduceEqDiff, reduceCtorEq, zC2, zA2, zB6, zA5, zB4, zB5, zA4, zB3, zA3, zB2, zC1, zA1, zB1, zA0, zB0, zA9, zC6, zA6, zC5, zC0, zC4, zB8, zA7, zB7, zA8, zC9, zD1, zC8, zD0, zB9, zC3, zC7, e1017]
  simp [ho, zA9, zC6, zA6, zC5, zC0, zC4, zB8, zA7, zB7, zA8, zC9, zD1, zC8, zD0, zB9, zC3, zC7]
open Classical in
noncomputable def e1005 : Ent := ⟨5, fun | [d_o] => decide (isT d_o) | _ => false, fun | [d_o] => .bool (decide (shortT ((toT d_o).getD []))) | _ => .inil⟩
open Classical in
theorem ok1005 : EntOk Tryz.prog [0] e1005 := fun ds h => by
  unfold e1005 at h ⊢
  simp only at h ⊢
  split at h
  · rw [decide_eq_true_iff] at h
    obtain ⟨v0, rfl, k0⟩ := h
    simp only [zB2, zA1, zA0, zB9, zC9, zC8]
    exact pc1005 _ k0
  · cases h
def TbL42T : BT := (.node 1000000 ⟨none, .other, [], none⟩ .nil (.node 2000006 ⟨none, .other, [], none⟩ .nil .nil))
def TbL42 : Nat → Option TRow := orT TbL42T.get Tb
theorem TbL42Ok : TabOk Tryz.prog TbL42 := tabOk_or (tabOk_tree (by kernel_rfl)) TbOk
set_option maxHeartbeats 4000000 in
theorem pc1003 (no : Option (List Kn)) (o : Option (List Nd)) (hn : okKs no) (ho : okT o) : PureCall Tryz.prog [0] 3 [.agg [encKs no], encT o] (dRet (.bool true)) := by
  refine zD2 mixed fn1003 (Nat.le_of_ble_eq_true rfl) (Nat.lt_of_succ_le (Nat.le_of_ble_eq_true rfl)) (sfOk (.cons ok4 (.cons ok1005 (.cons ok1007 (.cons ok1006 (.cons ok1008 (.cons ok1009 (.cons ok1010 .nil)))))))) TbL42Ok (lv := lv0) fun I F hI hF => ?_
  refine zD7 fun C hC => ?_
  generalize hgen0 : encKs no = gen0
  generalize hgen1 : encT o = gen1
  cbv
  subst hgen0
  subst hgen1
  subst hC
  refine ⟨?_⟩
  simp (maxSteps := 3000000) only [hI, hF, std]
  simp only [smp, lookOk, lookRes, sfOf, sgOf, hOk, hRes, hOut, ↓reduceIte, Nat.reduceEqDiff, reduceCtorEq, zC2, zA2, zB6, zA5, zB4, zB5, zA4, zB3, zA3, zB2, zC1, zA1, zB1, zA0, zB0, zA9, zC6, zA6, zC5, zC0, zC4, zB8, zA7, zB7, zA8, zC9, zD1, zC8, zD0, zB9, zC3, zC7, zE5, zD4, zE2, zD5, zE1, zD6, zE7, zE8, zD9, zE3, zE6, zD3, e4, e1005, e1007, e1006, e1008, e1009, e1010, zH4, List.length_map, Nat.zero_add]
  have r1 : rowF [] 0 0 = encKs (some []) := rfl
  have r2 : rowOkF [] 0 0 = true := by unfold rowOkF; simp [isD]
  have hk1 : okKs (some []) := ⟨by simp, by simp⟩
  have hk2 : okKs (some (no.getD [])) := hn
  have ho2 := okT_own ho
  have r3 : DV.sim (List.map encK (no.getD [])) = encKs (some (no.getD [])) := rfl
  have hl : (no.getD []).length ≤ 1048576 := hn.1
  simp [- List.getD_eq_getElem?_getD, zA9, zC6, zA6, zC5, zC0, zC4, zB8, zA7, zB7, zA8, zC9, zD1, zC8, zD0, zB9, zC3, zC7, zE5, zD4, zE2, zD5, zE1, zD6, zE7, zE8, zD9, zE3, zE6, zD3, r1, r2, r3, scalarD, ho, hn, hk1, hk2, ho2, zD9, zE3, kindA_own, zF5, rowF_map, rowOkF_map]
  simp only [smp, lookOk, lookRes, sfOf, sgOf, hOk, hRes, hOut, ↓reduceIte, Nat.reduceEqDiff, reduceCtorEq, zC2, zA2, zB6, zA5, zB4, zB5, zA4, zB3, zA3, zB2, zC1, zA1, zB1, zA0, zB0, zA9, zC6, zA6, zC5, zC0, zC4, zB8, zA7, zB7, zA8, zC9, zD1, zC8, zD0, zB9, zC3, zC7, zE5, zD4, zE2, zD5, zE1, zD6, zE7, zE8, zD9, zE3, zE6, zD3, List.getD_cons_zero, List.getD_cons_succ, isIK_int, asInt_int, r3, zD9, zE3, hk2, kindA_own, zF5]
  simp [- List.getD_eq_getElem?_getD, zA9, zC6, zA6, zC5, zC0, zC4, zB8, zA7, zB7, zA8, zC9, zD1, zC8, zD0, zB9, zC3, zC7, zE5, zD4, zE2, zD5, zE1, zD6, zE7, zE8, zD9, zE3, zE6, zD3, -List.map_map]
  intro h45 hS
  have hl45 : (no.getD []).length ≤ 45 := by omega
  have hrf : rowF (List.map AV.d (List.map encK (no.getD []))) 0 (no.getD []).length = encKs (some (no.getD [])) := by rw [rowF_map, List.drop_zero, List.take_of_length_le (by simp)]; rfl
  have key : ∀ (ns : List Kn) (t : List Nd), (¬kErr ns = 0 → ((kindA ns t).2.2 = kErr ns ∧ (kindA ns t).2.1 = 0) ∧ (kindA ns t).1 = 0) ∧ (kErr ns = 0 → (¬(checkE t).2 = 0 → ((kindA ns t).2.2 = (checkE t).2 ∧ (kindA ns t).2.1 = (checkE t).1) ∧ (kindA ns t).1 = 0) ∧
      ((checkE t).2 = 0 → RightT t ∧ ((kindA ns t).2.2 = (kindF ns t t.length []).2.2 ∧ (kindA ns t).2.1 = (kindF ns t t.length []).2.1) ∧ (kindA ns t).1 = (kindF ns t t.length []).1)) := by
    intro ns t
    refine ⟨fun h => ?_, fun h => ⟨fun h2 => ?_, fun h2 => ⟨rightT h2, ?_⟩⟩⟩
    · unfold kindA; rw [if_pos h]; exact ⟨⟨rfl, rfl⟩, rfl⟩
    · unfold kindA; rw [if_neg (not_not_intro h), if_pos h2]; exact ⟨⟨rfl, rfl⟩, rfl⟩
    · unfold kindA; rw [if_neg (not_not_intro h), if_neg (not_not_intro h2)]; exact ⟨⟨rfl, rfl⟩, rfl⟩
  have hrf2 : rowF (List.map (AV.d ∘ encK) (no.getD [])) 0 (no.getD []).length = encKs (some (no.getD [])) := by rw [← List.map_map]; exact hrf
  have hro2 : rowOkF (List.map (AV.d ∘ encK) (no.getD [])) 0 (no.getD []).length = true := by
    rw [← List.map_map, rowOkF_map]
    exact dec_true ⟨by simp, by unfold big; omega⟩
  simp only [hrf, hrf2, hro2, zD9, zE3, zD0]
  refine ⟨fun hs => ⟨rfl, ?_⟩, fun hs => ⟨?_, by omega, trivial, dec_true ⟨by rw [hrf, zE3]; exact hk2, by rw [zD0]; exact ho2⟩, rfl, key _ _⟩⟩
  · cases no with
    | none => exact key [] (o.getD [])
    | some l => cases hs
  · cases no with
    | none => cases hs
    | some l =>
      show (l.map encK).all _ = true
      rw [List.all_eq_true]
      intro x hx
      obtain ⟨y, _, rfl⟩ := List.mem_map.1 hx
      rfl
end Go.Proofs.Sx
