/-
  The table of a program's functions.
-/
import Derived.Test.YtcbmjgagbfhigaaXD3
namespace Go.AB
open Go
set_option linter.unusedSimpArgs false
set_option linter.unusedVariables false

def entOf (fn : Func) : Option FEnt :=
  match fn.body with
  | none => none
  | some c => match fn.name == "runtime.NumGoroutine" with
    | true => none
    | false => some ⟨fn.ntmps, c, fn.results.toList⟩

def funT (P : Program) (g : FuncId) : Option FEnt :=
  match P.funcs[g]? with
  | none => none
  | some fn => entOf fn

theorem funT_ok (P : Program) : FunOk P (funT P) := by
  intro g e h
  unfold funT at h
  cases hf : P.funcs[g]? with
  | none => rw [hf] at h; cases h
  | some fn =>
    rw [hf] at h
    simp only [entOf] at h
    cases hb : fn.body with
    | none => rw [hb] at h; cases h
    | some c =>
      rw [hb] at h
      cases hn : fn.name == "runtime.NumGoroutine" with
      | true => rw [hn] at h; cases h
      | false => rw [hn] at h; cases h; exact ⟨fn, rfl, hb, rfl, rfl, hn⟩

/-- no overrides -/
def noOv : CallF := fun _ _ _ => none
theorem noOv_ok (P : Program) : CallOk P noOv := fun _ _ _ _ _ _ h => by cases h

end Go.AB
