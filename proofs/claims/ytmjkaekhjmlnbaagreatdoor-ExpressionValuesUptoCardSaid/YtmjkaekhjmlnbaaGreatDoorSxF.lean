/- For every value and every environment, of together at most 1048576 values and letters, the law 'examinerlaw20.ExpressionValues' returns true, and what it was handed reads as it did. -/
import Derived.WalkKit
import Derived.ProofKit
import Derived.OpenShut
import Derived.Deep.DeepHandedRow
import Derived.Lay
import Derived.Carry
import Derived.Test.YtmjkaekhjmlnbaaGreatDoorSx18
import Derived.Test.YtmjkaekhjmlnbaaGreatDoorSxE
import Derived.Test.YtmjkaekhjmlnbaaGreatDoorCards
import Derived.Test.YtmjkaekhjmlnbaaGreatDoorTie
import Derived.Test.YtmjkaekhjmlnbaaGreatDoorSxBase
import Derived.Test.YtmjkaekhjmlnbaaGreatDoorAmPtr
set_option linter.unusedVariables false
set_option linter.unusedSimpArgs false
set_option maxRecDepth 100000
namespace Go.Proofs.Sx
open Go Go.Proofs Go.Proofs.Am 
variable {gs : List Nat}

end Go.Proofs.Sx
namespace Go.Proofs.YtmjkaekhjmlnbaaGreatDoor.law
open Go Go.Proofs Go.Proofs.Am Go.Proofs.Sx
open Go.ChangeShapes Go.WideShapes Go.ChangeAt Go.RowKit

theorem own : ownKnob Tryz.prog.godebug = none := by kernel_rfl
theorem laidOut : laidOutB Tryz.prog = true := by kernel_rfl
theorem readable25 : Tryz.prog.readableRec 25 = true := by kernel_rfl
theorem readable28 : Tryz.prog.readableRec 28 = true := by kernel_rfl
theorem types25 : 25 < Tryz.prog.types.size := of_decide_eq_true (by kernel_rfl)
theorem types28 : 28 < Tryz.prog.types.size := of_decide_eq_true (by kernel_rfl)
/-- The variable that Go's library reads is a whole number. -/
theorem gint {W : World} (h : W.ShapedOpen Tryz.prog) : GInt [0] W := by
  intro g hg
  have : g = 0 := by simpa using hg
  subst this
  obtain ⟨cs, hh, hs, hr⟩ := h.1 0 #[.int .i64 0] 3 (of_decide_eq_true (by kernel_rfl)) (by kernel_rfl)
  obtain ⟨ts, hts, _, hall⟩ := hr (by kernel_rfl)
  rw [show Tryz.prog.cellTypes Tryz.prog.depth 3 = some [3] by kernel_rfl] at hts
  cases hts
  have h1 : 0 < cs.size := by rw [hs]; simp
  obtain ⟨u, hu', hok⟩ := hall 0 cs[0] (by simp [h1])
  have : u = 3 := by simpa using hu'.symm
  subst this
  have hcell : W.cell? ⟨0, 0, none⟩ = some cs[0] := by simp [World.cell?, hh, h1]
  unfold Cell.ok at hok
  rw [Tryz.underlying3] at hok
  cases hv : cs[0] <;> rw [hv] at hok <;> simp only at hok
  obtain ⟨rfl, _⟩ := hok
  exact ⟨_, by rw [hcell, hv]⟩

theorem contract (H : Type) (enc : TypeId × Value → H) (W : World) (base : Nat) (args : Array Value) (ds gs : List (DataW H)) (before : List MemPlace)
    (hval : ∀ (j : Nat) t v, Tryz.f3.params[j]? = some t → args[j]? = some v → Value.okWide Tryz.prog W .any base t v)
    (hW : DataW.Whole enc Tryz.prog Tryz.f3.params.toList Rows.expressionValuesSpec.vars false W args.toList ds gs before)
    (hk : Rows.uptoSmall H (ds ++ gs) = true) (hsh : W.ShapedOpen Tryz.prog) :
    Calls Tryz.prog 3 args W fun e W' => ∃ v, e = .returned v ∧ Rows.expressionValuesSpec.post enc Tryz.prog Tryz.f3 false true false false W args v W' := by
  have hW' := hW
  have hlt := hW.lt
  obtain ⟨p, q, hA0, hV, rfl, hfz, hnd⟩ := hW
  have hA : DataW.TrodAll enc Tryz.prog W 0 (fun _ => true) true Tryz.f3.params.toList args.toList ds p := hA0
  rw [Tryz.params3] at hA hval
  obtain ⟨v0, v1, d0, d1, p0, p1, rfl, rfl, rfl, h0, h1⟩ := trodAll_two hA
  obtain ⟨rfl, rfl⟩ := trodVars_none hV
  have hb := of_decide_eq_true hk
  simp only [List.append_nil, _root_.Go.Proofs.YtmjkaekhjmlnbaaGreatDoor.Rows.uptoBulkAll] at hb
  obtain ⟨a, ha, ra⟩ := val_arg (hval 0 25 v0 rfl rfl) h0 (by omega)
  obtain ⟨o, ho, ro⟩ := set_arg (hval 1 28 v1 rfl rfl) h1 (by omega)
  have hc := (pc3 a o ha ho).2 W (There W) #[v0, v1] (fun g h => h) rfl (fun i hi => by
    match i, hi with
    | 0, _ => exact ra
    | 1, _ => exact ro) (gint hsh)
  refine hc.mono fun e W' ⟨v, he, hr⟩ => ?_
  obtain ⟨A', ρ, hbl, _, _, _, hv, _, _, _⟩ := hr.ex
  have hv : ARep W' A' ρ (.d (.bool true)) v := hv
  have : v = .bool true := by
    cases hv with
    | d _ _ h => cases h; rfl
  subst this
  subst he
  simp only [List.append_nil] at hW' hlt
  have q0 := Below.trod laidOut readable25 types25 h0 hbl (fun x hx => hlt x (by simp [hx]))
  have q1 := Below.trod laidOut readable28 types28 h1 hbl (fun x hx => hlt x (by simp [hx]))
  exact ⟨_, rfl, _, _, _, [], p0 ++ p1, [], hW', trodAll_mk1 (shut_bool Tryz.underlying4 _), trodAll_mk2 q0 q1, rfl, hbl.frame _, fun h => by cases h⟩

/-- What the witness reads as. -/
noncomputable def zeroArgs : Array Value := #[.agg #[.int .i64 0, .int .i64 0, .int .i64 0, .string ⟨#[]⟩, .slice none 0 0, .slice none 0 0], .agg #[.slice none 0 0]]
noncomputable def start (os : Os) : World := World.laidAll Tryz.prog os Rows.expressionValuesUptoRow.laid
theorem reads (os : Os) {H : Type} (enc : TypeId × Value → H) : DataW.whole enc Tryz.prog ((start os).forCall (fun _ _ => 0) ⟨#[], zeroArgs, []⟩).memory Tryz.f3.params.toList Rows.expressionValuesSpec.vars false zeroArgs.toList 8 =
    some ([.agg [.lit (.int .i64 0), .lit (.int .i64 0), .lit (.int .i64 0), .lit (.string []), .nil, .nil], .agg [.nil]], [], []) := by kernel_rfl
set_option maxRecDepth 100000 in
theorem laid_met (os : Os) : laidMetH Tryz.prog Rows.expressionValuesUptoRow.laid ((start os).forCall (fun _ _ => 0) ⟨#[], zeroArgs, []⟩).memory := by
  rw [MakeChecks.laidMetH_plain _ _ _ (by kernel_rfl)]; exact laidMet_laidAll _ (by kernel_rfl) (by kernel_rfl)
set_option maxRecDepth 100000 in
theorem shaped (os : Os) : ((start os).forCall (fun _ _ => 0) ⟨#[], zeroArgs, []⟩).Shaped Tryz.prog := World.shaped_of_ZipB (by kernel_rfl) (by kernel_rfl)
set_option maxRecDepth 100000 in
theorem liftedUpto (os : Os) (started : os.Started) (H : Type) (enc : TypeId × Value → H) (F : Stop.Interp) :
    ReturnsInHanded {} Tryz.checked os 3 .any ((Rows.OpenSpec.upto Rows.expressionValuesSpec).preRow enc Tryz.prog Tryz.f3 Rows.expressionValuesUptoRow.domain false Rows.expressionValuesUptoRow.laid) (((Rows.OpenSpec.upto Rows.expressionValuesSpec).at F).post enc Tryz.prog Tryz.f3 false true false false) := by
  have hok : Input.okWideB Tryz.prog ((start os).forCall (fun _ _ => 0) ⟨#[], zeroArgs, []⟩) 3 ⟨#[], zeroArgs, []⟩ = true := by kernel_rfl
  refine returnsInHanded_of_row (C := Tryz.checked) (s := Rows.OpenSpec.upto Rows.expressionValuesSpec) own started (by kernel_rfl) Tryz.func3
    ⟨start os, fun _ _ => 0, ⟨#[], zeroArgs, []⟩, World.laidAll_os _ _ _, shaped os, (Input.okWide_of_okWideB (base := 0) hok).1, (Input.okWide_of_okWideB hok).2,
      OpenSpec.preRow_of_cond 8 (reads os enc) (by kernel_rfl) (fun k hk => by cases hk; kernel_rfl) (by kernel_rfl) (laid_met os), by
        simp only [Assume.holds]
        exact ⟨by simp, by simp, fun _ => Modest.zero, by simp, by simp⟩⟩ ?_
  intro W base args ds gs before hval hW _ hcond _ _ hsh _
  exact contract H enc W base args ds gs before hval hW (hcond _ rfl) hsh
theorem saidUpto : Rows.ExpressionValuesUptoSaid :=
  OpenClaim.holds_of_cond 3 Tryz.f3 rfl rfl rfl rfl rfl rfl rfl ⟨rfl, rfl, rfl, rfl, rfl⟩ rfl rfl rfl rfl rfl (by kernel_rfl) Tryz.func3 (by kernel_rfl)
    (of_decide_eq_true (by kernel_rfl)) (by unfold Func.isWrapper; first | (rw [if_pos (by decide +kernel)]; kernel_rfl) | (rw [if_neg (by decide +kernel)]; exact ⟨rfl, rfl⟩))
    (fun os started H enc _ F => by rw [OpenClaim.pre_eq_preRow]; exact liftedUpto os started H enc F)
theorem plain (f : FuncId) (fn : Func) (hf : Tryz.pinned.checked.prog.funcNamed "examiner/examinerlaw20.ExpressionValues" = some f) (hfn : Tryz.pinned.checked.prog.funcs[f]? = some fn) :
    true = Tryz.pinned.checked.prog.looks [] ∧ ∀ (j : Nat) t, fn.params[j]? = some t → Tryz.pinned.checked.prog.wantsStandIn t = false := by
  obtain rfl : f = 3 := Option.some.inj ((show Tryz.prog.funcNamed "examiner/examinerlaw20.ExpressionValues" = some 3 by kernel_rfl).symm.trans hf) |>.symm
  obtain rfl : fn = Tryz.f3 := (Option.some.inj (Tryz.func3.symm.trans hfn)).symm
  refine ⟨by kernel_rfl, fun j t ht => ?_⟩
  rw [Tryz.params3] at ht
  have hm : t ∈ [25, 28] := by simpa using Array.mem_of_getElem? ht
  have hall : ([25, 28].all fun u => !Tryz.prog.wantsStandIn u) = true := by kernel_rfl
  exact (show Tryz.prog.wantsStandIn t = false by simpa using List.all_eq_true.1 hall t hm)
/-- THE STATEMENT. -/
theorem cardUpto : Rows.ExpressionValuesUptoCardSaid :=
  Claim7.holds_tied_plain_at .later [] _ _ _ _ saidUpto (fun _ h => by cases h) (by kernel_rfl) (fun _ h => by cases h) expressionValuesUpto_row_tie rfl ⟨rfl, rfl⟩ (by kernel_rfl) rfl plain (by kernel_rfl)
#print axioms cardUpto
end Go.Proofs.YtmjkaekhjmlnbaaGreatDoor.law
namespace Go.Proofs.Sx
end Go.Proofs.Sx
