/-
  A part of the symbolic machine, of its soundness, and of what functions compute. No condition.
-/
import Derived.Test.YtnccjojfpkjihaaX5
set_option linter.unusedSimpArgs false
set_option linter.unusedVariables false
/- What awake tells: true. Reckoned. -/
section
namespace Go.Eng
open Go Go.RowKit Go.Proofs
set_option maxRecDepth 100000
def isT (o : Out) (h : HS) : Bool := match o with
  | .ret (.bool b) => b
  | _ => false
theorem isT_ok {o : Out} {h : HS} (he : isT o h = true) : o = .ret (.bool true) := by
  unfold isT at he
  split at he
  · rw [he]
  · cases he
theorem awake_run : runB 20000 (cx [] [] [] planX none) 13 [.code (Try.f13.body.getD .skip)] (catS [] (anys (Try.f13.ntmps - lenS []))) [] ⟨[], []⟩ isT = true := by kernel_rfl
def awakeBase : BaseF := fun args => match args with
  | [] => some (True, .bool true)
  | _ => none
theorem awake_eq : awakeBase [] = some (True, .bool true) := rfl
theorem awake_base : Base Try.prog 13 awakeBase := by
  intro args p v hq hp
  unfold awakeBase at hq
  split at hq
  rotate_left
  · cases hq
  cases hq
  exact ⟨trivial, calls_mono (fun o h he => ⟨.bool true, isT_ok he, .inl ⟨trivial, SameD.rfl' _⟩⟩) (calls_of_runB (C := cx [] [] [] planX none) ⟨cx_ok trivial trivial, fun g => rfl⟩ rfl (g := 13) (fn := Try.f13) (fn_13) rfl 20000 awake_run)⟩
end Go.Eng
end
