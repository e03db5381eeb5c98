/- The examples of the document hold: run. -/
import Derived.Test.YtmjkaekhjmlnbaaGreatDoorSx2
import Derived.Test.YtmjkaekhjmlnbaaGreatDoorSxBase
import Derived.Test.YtmjkaekhjmlnbaaGreatDoorAmPtr
set_option linter.unusedVariables false
set_option linter.unusedSimpArgs false
set_option maxRecDepth 100000
namespace Go.Proofs.Sx
open Go Go.Proofs Go.Proofs.Am 
variable {gs : List Nat}

noncomputable def prims : Prims := fun f => if f = 39 then some (fun l => match l with | [.str a, .str b] => if a.size < 4294967281 then some (dRet (.bool (Lib.contains a.data.toList b.data.toList))) else none | _ => none)
  else if f = 85 then some (fun l => match l with | [.str a, .str b] => some (dRet (.int .i64 (Lib.compareBytes a.data.toList b.data.toList))) | _ => none) else none
theorem primsOk : PrimsOk Tryz.prog [0] prims := by
  intro f g ds p hf hp
  unfold prims at hf
  split at hf
  · rename_i h; subst h
    cases hf
    simp only at hp
    split at hp
    · split at hp
      · rename_i hs; cases hp; exact pc39 _ _ hs
      · cases hp
    · cases hp
  · split at hf
    · rename_i h; subst h
      cases hf
      simp only at hp
      split at hp
      · cases hp; exact pc85 _ _
      · cases hp
    · cases hf
theorem run4 : (runs Tryz.prog prims 100 100).pure 4 [] = some (dRet (.bool true)) := by kernel_rfl
theorem pc4 : PureCall Tryz.prog [0] 4 [] (dRet (.bool true)) := pure_of_run mixed primsOk 100 100 run4
noncomputable def e4 : Ent := ⟨4, fun | [] => true | _ => false, fun | [] => .bool true | _ => .inil⟩
theorem ok4 : EntOk Tryz.prog [0] e4 := fun ds h => by
  unfold e4 at h ⊢
  simp only at h ⊢
  split at h
  · exact pc4
  · cases h
#print axioms pc4
end Go.Proofs.Sx
