/-
  A part of the symbolic machine, of its soundness, and of what functions compute. No condition.
-/
import Derived.Test.YtnccjojfpkjihaaE4
set_option linter.unusedSimpArgs false
set_option linter.unusedVariables false
/- Plans. -/
section
namespace Go.Eng
def x18_6 : Plan := .quiet 0 (.quiet 1 (.quiet 2 (.quiet 3 (.quiet 4 (.quiet 5 (.quiet 6 (.quiet 7 (.loud 8 [] (.quiet 9 (.done))))))))))
def x22_17 : Plan := .quiet 0 (.quiet 1 (.quiet 2 (.quiet 3 (.quiet 4 (.quiet 5 (.quiet 6 (.loud 7 [] (.quiet 8 (.quiet 9 (.quiet 10 (.quiet 11 (.quiet 12 (.done)))))))))))))
def x24_6 : Plan := .quiet 0 (.quiet 1 (.quiet 2 (.quiet 3 (.quiet 4 (.quiet 5 (.quiet 6 (.quiet 7 (.quiet 8 (.done)))))))))
def x36_4 : Plan := .quiet 0 (.quiet 1 (.quiet 2 (.quiet 3 (.quiet 4 (.quiet 5 (.quiet 6 (.quiet 7 (.quiet 8 (.loud 9 [] (.done))))))))))
def x36_11 : Plan := .quiet 0 (.quiet 1 (.quiet 2 (.quiet 3 (.quiet 4 (.loud 5 [0, 4] (.quiet 6 (.quiet 7 (.loud 8 [] (.done)))))))))
def x38_5 : Plan := .quiet 0 (.quiet 1 (.quiet 2 (.quiet 3 (.quiet 4 (.quiet 5 (.quiet 6 (.quiet 7 (.quiet 8 (.quiet 9 (.done))))))))))
def x38_27 : Plan := .quiet 0 (.quiet 1 (.quiet 2 (.quiet 3 (.quiet 4 (.quiet 5 (.quiet 6 (.quiet 7 (.quiet 8 (.quiet 9 (.quiet 10 (.quiet 11 (.quiet 12 (.quiet 13 (.quiet 14 (.quiet 15 (.quiet 16 (.quiet 17 (.done))))))))))))))))))
def x39_3 : Plan := .quiet 0 (.quiet 1 (.quiet 2 (.quiet 3 (.quiet 4 (.quiet 5 (.quiet 6 (.quiet 7 (.quiet 8 (.quiet 9 (.loud 10 [] (.done)))))))))))
def x60_14 : Plan := .quiet 0 (.quiet 1 (.quiet 2 (.quiet 3 (.quiet 4 (.quiet 5 (.quiet 6 (.quiet 7 (.quiet 8 (.quiet 9 (.quiet 10 (.quiet 11 (.quiet 12 (.quiet 13 (.quiet 14 (.done)))))))))))))))
def x60_21 : Plan := .quiet 0 (.quiet 1 (.quiet 2 (.quiet 4 (.quiet 5 (.loud 3 [4] (.loud 6 [] (.loud 7 [] (.loud 8 [] (.quiet 9 (.done))))))))))
def x68_2 : Plan := .quiet 0 (.quiet 1 (.loud 2 [0] (.loud 3 [] (.quiet 4 (.done)))))
def x77_0 : Plan := .quiet 0 (.quiet 1 (.quiet 2 (.quiet 3 (.quiet 4 (.quiet 5 (.quiet 6 (.quiet 7 (.quiet 8 (.quiet 9 (.quiet 10 (.quiet 11 (.quiet 12 (.quiet 13 (.quiet 14 (.loud 15 [] (.quiet 16 (.quiet 17 (.loud 18 [] (.done)))))))))))))))))))
def x86_1 : Plan := .quiet 0 (.quiet 1 (.quiet 2 (.quiet 3 (.quiet 4 (.quiet 5 (.done))))))
def x86_3 : Plan := .quiet 0 (.quiet 1 (.quiet 2 (.quiet 3 (.quiet 4 (.quiet 5 (.done))))))
def x86_5 : Plan := .quiet 0 (.quiet 1 (.quiet 2 (.quiet 3 (.quiet 4 (.quiet 5 (.quiet 6 (.quiet 7 (.quiet 8 (.loud 9 [] (.done))))))))))
def planX : List (Nat × Nat × Plan) := [(18, 6, x18_6), (22, 17, x22_17), (24, 6, x24_6), (36, 4, x36_4), (36, 11, x36_11), (38, 5, x38_5), (38, 27, x38_27), (39, 3, x39_3), (60, 14, x60_14), (60, 21, x60_21), (68, 2, x68_2), (77, 0, x77_0), (86, 1, x86_1), (86, 3, x86_3), (86, 5, x86_5)]
end Go.Eng
end

/- What awake tells: true. Reckoned. -/
section
namespace Go.Eng
open Go Go.RowKit Go.Proofs
set_option maxRecDepth 100000
def isT (o : Out) (h : HS) : Bool := match o with
  | .ret (.bool b) => b
  | _ => false
theorem isT_ok {o : Out} {h : HS} (he : isT o h = true) : o = .ret (.bool true) := by
  unfold isT at he
  split at he
  · rw [he]
  · cases he
theorem awake_run : runB 20000 (cx [] [] [] planX none) 13 [.code (Try.f13.body.getD .skip)] (catS [] (anys (Try.f13.ntmps - lenS []))) [] ⟨[], []⟩ isT = true := by kernel_rfl
def awakeBase : BaseF := fun args => match args with
  | [] => some (True, .bool true)
  | _ => none
theorem awake_eq : awakeBase [] = some (True, .bool true) := rfl
theorem awake_base : Base Try.prog 13 awakeBase := by
  intro args p v hq hp
  unfold awakeBase at hq
  split at hq
  rotate_left
  · cases hq
  cases hq
  exact ⟨trivial, calls_mono (fun o h he => ⟨.bool true, isT_ok he, .inl ⟨trivial, SameD.rfl' _⟩⟩) (calls_of_runB (C := cx [] [] [] planX none) ⟨cx_ok trivial trivial, fun g => rfl⟩ rfl (g := 13) (fn := Try.f13) (fn_13) rfl 20000 awake_run)⟩
end Go.Eng
end
