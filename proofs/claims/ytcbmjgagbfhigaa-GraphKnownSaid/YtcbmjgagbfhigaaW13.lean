/-
  Closed calls run by the machine: awake, works.
-/
import Derived.Test.YtcbmjgagbfhigaaW12
namespace Go.AB.Try
open Go Go.AB Go.Proofs
set_option maxRecDepth 100000

def isT (x : Option (Value × CH × Nat)) : Bool := match x with | some (.bool b, _) => b | _ => false

theorem isT_some {x : Option (Value × CH × Nat)} (h : isT x = true) : ∃ H l, x = some (.bool true, H, l) := by
  unfold isT at h
  split at h
  · rename_i b p
    subst h
    exact ⟨p.1, p.2, rfl⟩
  · cases h

theorem closed_true {ov : CallF} (ho : CallOk Try.prog ov) {fuel f : Nat} (h : isT (runF Try.prog (funT Try.prog) ov fuel f [] CH.empty) = true) :
    ∃ A1, SimW Try.prog f [] CH.empty.abs (fun v A' => v = .bool true ∧ A' = A1) := by
  obtain ⟨H, l, e⟩ := isT_some h
  exact ⟨_, (runF_ok fine mixed (funT_ok _) ho fuel f [] CH.empty _ _ _ e).2⟩

theorem closed_any {ov : CallF} (ho : CallOk Try.prog ov) {fuel f : Nat} (h : isT (runF Try.prog (funT Try.prog) ov fuel f [] CH.empty) = true) (A : AHeap) :
    SimW Try.prog f [] A (fun v A' => v = .bool true ∧ A' = A) := by
  obtain ⟨A1, h1⟩ := closed_true ho h
  exact h1.anywhere rfl rfl A

/-- a closed call that is known to be true, as an operation -/
noncomputable def trueOv (f : FuncId) (ov : CallF) : CallF := fun g args H => match Nat.beq g f with
  | true => match args with
    | [] => some (.bool true, H, H.n)
    | _ => ov g args H
  | false => ov g args H

theorem trueOv_ok {f : FuncId} {ov : CallF} (ho : CallOk Try.prog ov) (h : ∀ A, SimW Try.prog f [] A (fun v A' => v = .bool true ∧ A' = A)) : CallOk Try.prog (trueOv f ov) := by
  intro g args H v H' l e
  unfold trueOv at e
  split at e
  · rename_i hg
    have hg := Nat.eq_of_beq_eq_true hg
    subst hg
    split at e
    · cases e; exact ⟨Ran.refl, h _⟩
    · exact ho _ _ _ _ _ _ e
  · exact ho _ _ _ _ _ _ e

theorem awake_run : isT (runF Try.prog (funT Try.prog) linesOv 300 14 [] CH.empty) = true := by kernel_rfl
theorem awake_simW (A : AHeap) : SimW Try.prog 14 [] A (fun v A' => v = .bool true ∧ A' = A) := closed_any linesOv_ok awake_run A
theorem works_run : isT (runF Try.prog (funT Try.prog) linesOv 400 26 [] CH.empty) = true := by kernel_rfl
theorem works_simW (A : AHeap) : SimW Try.prog 26 [] A (fun v A' => v = .bool true ∧ A' = A) := closed_any linesOv_ok works_run A
end Go.AB.Try
