/- What is needed to read trees. -/
import Derived.Test.YtmjkaekhjmlnbaaGreatDoorAmEnd
set_option linter.unusedVariables false
set_option linter.unusedSimpArgs false
namespace Go.Proofs.Am
open Go Go.RowKit

/-- A function that is known by its results on data. -/
structure Ent where
  f : Nat
  ok : List DV → Bool
  res : List DV → DV

def lookOk : List Ent → Nat → List DV → Bool
  | [], _, _ => false
  | e :: r, f, ds => if e.f = f then e.ok ds else lookOk r f ds
def lookRes : List Ent → Nat → List DV → DV
  | [], _, _ => .inil
  | e :: r, f, ds => if e.f = f then e.res ds else lookRes r f ds

def sfOf (l : List Ent) : SF := ⟨lookOk l, lookRes l⟩

def noH : SH := fun _ => none

def EntOk (P : Program) (gs : List Nat) (e : Ent) : Prop := ∀ ds, e.ok ds = true → PureCall P gs e.f ds (dRet (e.res ds))

inductive AllOk (P : Program) (gs : List Nat) : List Ent → Prop where
  | nil : AllOk P gs []
  | cons {e : Ent} {l : List Ent} (h : EntOk P gs e) (t : AllOk P gs l) : AllOk P gs (e :: l)

theorem lookOk_ok {P : Program} {gs : List Nat} {l : List Ent} (h : AllOk P gs l) : ∀ f ds, lookOk l f ds = true → PureCall P gs f ds (dRet (lookRes l f ds)) := by
  induction h with
  | nil => intro f ds h; cases h
  | cons h t ih =>
    intro f ds hk
    simp only [lookOk] at hk
    simp only [lookRes]
    split at hk
    · rename_i hf; subst hf; rw [if_pos rfl]; exact h ds hk
    · rename_i hf; rw [if_neg hf]; exact ih f ds hk

theorem sfOk {P : Program} {gs : List Nat} {l : List Ent} (h : AllOk P gs l) : SFok P gs (sfOf l) noH :=
  ⟨lookOk_ok h, fun f g lh nid args r h => by cases h⟩

/-! ## Reading -/

theorem std_imp (a b : Bool) : ((!a || b) = true) = (a = true → b = true) := by cases a <;> cases b <;> simp

theorem binV_add (k : IntKind) (a b : Int) : binV .add (.int k a) (.int k b) = some (.int k (k.wrap (a + b))) := by simp [binV, intOp]
theorem binV_sub (k : IntKind) (a b : Int) : binV .sub (.int k a) (.int k b) = some (.int k (k.wrap (a - b))) := by simp [binV, intOp]
theorem binV_mul (k : IntKind) (a b : Int) : binV .mul (.int k a) (.int k b) = some (.int k (k.wrap (a * b))) := by simp [binV, intOp]
theorem binV_eql (k : IntKind) (a b : Int) : binV .eql (.int k a) (.int k b) = some (.bool (decide (a = b))) := by simp [binV, intOp]; rfl
theorem binV_neq (k : IntKind) (a b : Int) : binV .neq (.int k a) (.int k b) = some (.bool (!decide (a = b))) := by simp [binV, intOp]; rfl
theorem binV_lss (k : IntKind) (a b : Int) : binV .lss (.int k a) (.int k b) = some (.bool (decide (a < b))) := by simp [binV, intOp]
theorem binV_leq (k : IntKind) (a b : Int) : binV .leq (.int k a) (.int k b) = some (.bool (decide (a ≤ b))) := by simp [binV, intOp]
theorem binV_gtr (k : IntKind) (a b : Int) : binV .gtr (.int k a) (.int k b) = some (.bool (decide (b < a))) := by simp [binV, intOp]
theorem binV_geq (k : IntKind) (a b : Int) : binV .geq (.int k a) (.int k b) = some (.bool (decide (b ≤ a))) := by simp [binV, intOp]
theorem binV_seql (a b : ByteArray) : binV .eql (.str a) (.str b) = some (.bool (decide (a = b))) := by
  simp only [binV, strOp]
  congr 2
  obtain ⟨⟨a⟩⟩ := a; obtain ⟨⟨b⟩⟩ := b
  by_cases h : a = b <;> simp [h]
theorem binV_sneq (a b : ByteArray) : binV .neq (.str a) (.str b) = some (.bool (!decide (a = b))) := by
  simp only [binV, strOp]
  congr 3
  obtain ⟨⟨a⟩⟩ := a; obtain ⟨⟨b⟩⟩ := b
  by_cases h : a = b <;> simp [h]
theorem binV_sgtr (a b : ByteArray) : binV .gtr (.str a) (.str b) = some (.bool (!(Op.bytesLess a.data.toList b.data.toList || a.data.toList == b.data.toList))) := rfl
theorem bbinV_eql (a b : Bool) : bbinV .eql (.bool a) (.bool b) = some (.bool (a == b)) := rfl
theorem bbinV_neq (a b : Bool) : bbinV .neq (.bool a) (.bool b) = some (.bool (!(a == b))) := rfl
theorem unV_not (b : Bool) : unV .not (.bool b) = some (.bool (!b)) := rfl
theorem unV_neg (k : IntKind) (n : Int) : unV .neg (.int k n) = some (.int k (k.wrap (0 - n))) := rfl
theorem convV_int (k k' : IntKind) (n : Int) : convV k (.int k' n) = .int k (k.wrap n) := rfl

theorem ib_add (k : IntKind) (x y : DV) : ibinD k .add x y = .int k (k.wrap (asInt x + asInt y)) := rfl
theorem ib_sub (k : IntKind) (x y : DV) : ibinD k .sub x y = .int k (k.wrap (asInt x - asInt y)) := rfl
theorem ib_mul (k : IntKind) (x y : DV) : ibinD k .mul x y = .int k (k.wrap (asInt x * asInt y)) := rfl
theorem ib_eql (k : IntKind) (x y : DV) : ibinD k .eql x y = .bool (eqI (asInt x) (asInt y)) := rfl
theorem ib_neq (k : IntKind) (x y : DV) : ibinD k .neq x y = .bool (!eqI (asInt x) (asInt y)) := rfl
theorem ib_lss (k : IntKind) (x y : DV) : ibinD k .lss x y = .bool (ltI (asInt x) (asInt y)) := rfl
theorem ib_leq (k : IntKind) (x y : DV) : ibinD k .leq x y = .bool (leI (asInt x) (asInt y)) := rfl
theorem ib_gtr (k : IntKind) (x y : DV) : ibinD k .gtr x y = .bool (ltI (asInt y) (asInt x)) := rfl
theorem ib_geq (k : IntKind) (x y : DV) : ibinD k .geq x y = .bool (leI (asInt y) (asInt x)) := rfl
theorem sb_eql (x y : DV) : sbinD .eql x y = .bool (eqB (asStr x) (asStr y)) := rfl
theorem sb_neq (x y : DV) : sbinD .neq x y = .bool (!eqB (asStr x) (asStr y)) := rfl
theorem sb_lss (x y : DV) : sbinD .lss x y = .bool (ltB (asStr x) (asStr y)) := rfl
theorem sb_gtr (x y : DV) : sbinD .gtr x y = .bool (!(ltB (asStr x) (asStr y) || eqB (asStr x) (asStr y))) := rfl
theorem eqI_eq (a b : Int) : eqI a b = decide (a = b) := rfl
theorem ltI_eq (a b : Int) : ltI a b = decide (a < b) := rfl
theorem leI_eq (a b : Int) : leI a b = decide (a ≤ b) := rfl
theorem eqB_eq (a b : ByteArray) : eqB a b = decide (a = b) := rfl
theorem isIK_int (k : IntKind) (n : Int) : isIK k (.int k n) = true := by simp [isIK]
theorem isIK_ite (k : IntKind) (c : Prop) [Decidable c] (x y : DV) : isIK k (if c then x else y) = if c then isIK k x else isIK k y := by split <;> rfl
theorem isStrD_ite (c : Prop) [Decidable c] (x y : DV) : isStrD (if c then x else y) = if c then isStrD x else isStrD y := by split <;> rfl
theorem asInt_ite (c : Prop) [Decidable c] (x y : DV) : asInt (if c then x else y) = if c then asInt x else asInt y := by split <;> rfl
theorem ite_eq_dv (c : Prop) [Decidable c] (x y d : DV) : ((if c then x else y) = d) = ((c → x = d) ∧ (¬ c → y = d)) := by split <;> simp_all
theorem asBool_ite (c : Prop) [Decidable c] (x y : DV) : asBool (if c then x else y) = if c then asBool x else asBool y := by split <;> rfl
theorem isBoolD_ite (c : Prop) [Decidable c] (x y : DV) : isBoolD (if c then x else y) = if c then isBoolD x else isBoolD y := by split <;> rfl
theorem isBUD_ite (c : Prop) [Decidable c] (x y : DV) : isBUD (if c then x else y) = if c then isBUD x else isBUD y := by split <;> rfl
theorem grdD_ite (c : Prop) [Decidable c] (x y : DV) (w : Bool) : grdD (if c then x else y) w = if c then grdD x w else grdD y w := by split <;> rfl
theorem grdD_bool (b w : Bool) : grdD (.bool b) w = (b == w) := rfl
theorem grdD_tup (l : List DV) (w : Bool) : grdD (.tup l) w = false := rfl
theorem isBUD_tup : isBUD (.tup []) = true := rfl
theorem isBUD_bool (b : Bool) : isBUD (.bool b) = true := rfl
theorem isBoolD_tup (l : List DV) : isBoolD (.tup l) = false := rfl
theorem isBoolD_bool (b : Bool) : isBoolD (.bool b) = true := rfl
theorem asBool_tup (l : List DV) : asBool (.tup l) = false := rfl
theorem asBool_bool (b : Bool) : asBool (.bool b) = b := rfl
theorem isB_bool (b c : Bool) : (isBoolD (.bool b) && (asBool (.bool b) == c)) = (b == c) := by simp [isBoolD, asBool]
theorem isIntD_int (k : IntKind) (n : Int) : isIntD (.int k n) = true := rfl
theorem isStrD_str (s : ByteArray) : isStrD (.str s) = true := rfl
theorem asInt_int (k : IntKind) (n : Int) : asInt (.int k n) = n := rfl
theorem asStr_str (s : ByteArray) : asStr (.str s) = s := rfl
theorem lstD_sim (l : List DV) : lstD (.sim l) = l := rfl
theorem lstD_snil : lstD .snil = [] := rfl
theorem isSlD_sim (l : List DV) : isSlD (.sim l) = true := rfl
theorem isSlD_snil : isSlD .snil = true := rfl
theorem isSnil_sim (l : List DV) : isSnil (.sim l) = false := rfl
theorem isSnil_snil : isSnil .snil = true := rfl

theorem dlV_whole (n : Nat) (e : DV) (h : e.cells.length = n) : dlV n true e 0 = e := by simp [dlV, h]
theorem dlV_cell (n : Nat) (e : DV) (fo : Nat) : dlV n false e fo = e.cells.getD fo .inil := rfl

theorem pick_or (c y : Bool) (z : List DV) : (if c = true then DV.bool true else if (!c) = true then DV.bool y else .tup z) = .bool (c || y) := by cases c <;> rfl
theorem pick_and (c y : Bool) (z : List DV) : (if c = true then (if c = true then DV.bool y else .tup z) else DV.bool false) = .bool (c && y) := by cases c <;> rfl
theorem pick_or' (c x y : Bool) (z : List DV) : (if c = true then DV.bool x else if (!c) = true then DV.bool y else .tup z) = .bool (cond c x y) := by cases c <;> rfl
theorem pick_and' (c x y : Bool) (z : List DV) : (if c = true then (if c = true then DV.bool y else .tup z) else DV.bool x) = .bool (cond c y x) := by cases c <;> rfl
theorem bytesA_get (s : ByteArray) (i : Nat) (h : i < s.size) : (bytesA s).getD i .undef = .d (.int .u8 (byt s i)) := by
  have h' : i < s.data.toList.length := by simpa using h
  simp [bytesA, byt, List.getD, List.getElem?_map, List.getElem?_eq_getElem h', h]
theorem dgetA_bytes (s : ByteArray) (i : Nat) (h : i < s.size) : dgetA (bytesA s) i = .int .u8 (byt s i) := by unfold dgetA; rw [bytesA_get s i h]
theorem isDat_bytes (s : ByteArray) (i : Nat) (h : i < s.size) : isDatA ((bytesA s).getD i .undef) = true := by rw [bytesA_get s i h]; rfl
theorem bytesA_len (s : ByteArray) : (bytesA s).length = s.size := by simp [bytesA]
theorem bytesA_bel (s : ByteArray) (m : Nat) : (bytesA s).all (bel m 8) = true := by
  simp only [bytesA, List.all_eq_true, List.mem_map]
  rintro e ⟨b, _, rfl⟩; rfl
theorem bel_d (m : Nat) (v : DV) : bel m 8 (.d v) = true := rfl
theorem cells_agg (l : List DV) : (DV.agg l).cells = l := rfl
theorem cells_str (s : ByteArray) : (DV.str s).cells = [.str s] := rfl
theorem cells_int (k : IntKind) (n : Int) : (DV.int k n).cells = [.int k n] := rfl
theorem cells_bool (b : Bool) : (DV.bool b).cells = [.bool b] := rfl
theorem cells_sim (l : List DV) : (DV.sim l).cells = [.sim l] := rfl
theorem cells_snil : DV.snil.cells = [.snil] := rfl
theorem bel_aggd (m : Nat) (l : List AV) : bel m 8 (.agg l) = l.all (bel m 7) := rfl
theorem bel7_d (m : Nat) (v : DV) : bel m 7 (.d v) = true := rfl
theorem dIsAgg_agg (l : List DV) : dIsAgg (.agg l) = true := rfl
theorem natCast_fold (n : Nat) : @NatCast.natCast Int instNatCastInt n = (n : Int) := rfl
theorem tupD_tup (l : List DV) : tupD (.tup l) = l := rfl
theorem ite_bool (c : Prop) [Decidable c] (a b : Bool) : (if c then DV.bool a else DV.bool b) = .bool (if c then a else b) := by split <;> rfl
theorem beq_tt (b : Bool) : (b == true) = b := by cases b <;> rfl
theorem beq_ft (b : Bool) : (b == false) = !b := by cases b <;> rfl
theorem ite_same {α : Type} (c : Prop) [Decidable c] (x : α) : (if c then x else x) = x := by split <;> rfl
theorem imp_true (p : Prop) : (p → True) = True := by simp
theorem one_int (k : IntKind) (n : Int) : avOne (.d (.int k n)) = true := rfl
theorem one_bool (b : Bool) : avOne (.d (.bool b)) = true := rfl
theorem one_str (s : ByteArray) : avOne (.d (.str s)) = true := rfl
theorem one_sim (l : List DV) : avOne (.d (.sim l)) = true := rfl
theorem one_snil : avOne (.d .snil) = true := rfl
theorem one_fn (f : FuncId) (l : List DV) : avOne (.d (.fn f l)) = true := rfl

theorem wrap64 {x : Int} (h1 : -9223372036854775808 ≤ x) (h2 : x ≤ 9223372036854775807) : IntKind.i64.wrap x = x := by
  show (if (true && decide (x % 18446744073709551616 ≥ 9223372036854775808)) = true then x % 18446744073709551616 - 18446744073709551616 else x % 18446744073709551616) = x
  split <;> rename_i h <;> simp at h <;> omega
end Go.Proofs.Am
