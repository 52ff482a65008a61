/-
  (*Graph).Before as an operation of the machine.
-/
import Derived.Test.YtcbmjgagbfhigaaW15
namespace Go.AB.Try
open Go Go.AB Go.Proofs Go.IntWalk
set_option linter.unusedSimpArgs false
set_option linter.unusedVariables false
set_option maxRecDepth 10000

theorem dgraph_edges {G : List NE} (h : (G.length + 1) * (edges G + 1) ≤ 1000000000) : True := trivial

noncomputable def beforeF (H : CH) (args : List Value) : Option (Value × CH × Nat) :=
  match args with
  | [.pointer (some ⟨g, 0, none⟩), .agg ⟨ac⟩, .agg ⟨bc⟩] => match Nat.blt g H.n with
    | false => none
    | true => match H.t.get g with
      | some (.row [.bool true, pm, .map (some m), first0] k) => match dgraph H m with
        | none => none
        | some G => match dslice H first0 with
          | none => none
          | some F => match dvert ac with
            | none => none
            | some a => match dvert bc with
              | none => none
              | some b => match Nat.ble (qlen F) 1000 && Nat.ble (edges G) 1000 with
                | false => none
                | true => match beforeB G F 1000 a b with
                  | none => none
                  | some true => some (.bool true, H, H.n)
                  | some false => some (.bool false, H, H.n)
      | _ => none
  | _ => none

theorem beforeF_ok {H H' : CH} {args : List Value} {v : Value} {l : Nat} (h : beforeF H args = some (v, H', l)) : Ran Try.prog H H.n H' l ∧ SimW Try.prog 16 args H.abs (fun v' A' => v' = v ∧ A' = H'.abs) := by
  unfold beforeF at h
  split at h
  · rename_i g ac bc
    split at h
    · cases h
    · rename_i hb
      have hg := blt_of hb
      split at h
      · rename_i pm m first0 k hrow
        split at h
        · cases h
        · rename_i G hG
          obtain ⟨⟨c, hN⟩, hbig⟩ := dgraph_ok hG
          split at h
          · cases h
          · rename_i F hF
            obtain ⟨f1, f2⟩ := dslice_ok hF
            split at h
            · cases h
            · rename_i a ha
              obtain ⟨a1, a2⟩ := dvert_ok ha
              split at h
              · cases h
              · rename_i b hbv
                obtain ⟨b1, b2⟩ := dvert_ok hbv
                split at h
                · cases h
                · rename_i hle
                  rw [Bool.and_eq_true] at hle
                  have h1 := Nat.le_of_ble_eq_true hle.1
                  have h2 := Nat.le_of_ble_eq_true hle.2
                  rw [qlen_eq] at h1
                  have ga : GA H.abs g m c pm first0 k G F := ⟨by rw [CH.abs_f, if_pos hg, hrow], hg, hN, f1, f2⟩
                  subst a2; subst b2
                  split at h
                  · cases h
                  · rename_i hr
                    cases h
                    exact ⟨Ran.refl, t16 ga a1 b1 h1 h2 (by omega) hr⟩
                  · rename_i hr
                    cases h
                    exact ⟨Ran.refl, t16 ga a1 b1 h1 h2 (by omega) hr⟩
      · cases h
  · cases h

/-- Lines and Before -/
noncomputable def graphOv : CallF := fun f args H => match Nat.beq f 16 with
  | true => beforeF H args
  | false => linesOv f args H

theorem graphOv_ok : CallOk Try.prog graphOv := by
  intro f args H v H' l h
  unfold graphOv at h
  split at h
  · rename_i hf
    have hf := Nat.eq_of_beq_eq_true hf
    subst hf
    exact beforeF_ok h
  · exact linesOv_ok _ _ _ _ _ _ h
end Go.AB.Try

/-
  Closed calls run by the machine: awake, works.
-/
namespace Go.AB.Try
open Go Go.AB Go.Proofs
set_option maxRecDepth 100000

def isT (x : Option (Value × CH × Nat)) : Bool := match x with | some (.bool b, _) => b | _ => false

theorem isT_some {x : Option (Value × CH × Nat)} (h : isT x = true) : ∃ H l, x = some (.bool true, H, l) := by
  unfold isT at h
  split at h
  · rename_i b p
    subst h
    exact ⟨p.1, p.2, rfl⟩
  · cases h

theorem closed_true {ov : CallF} (ho : CallOk Try.prog ov) {fuel f : Nat} (h : isT (runF Try.prog (funT Try.prog) ov fuel f [] CH.empty) = true) :
    ∃ A1, SimW Try.prog f [] CH.empty.abs (fun v A' => v = .bool true ∧ A' = A1) := by
  obtain ⟨H, l, e⟩ := isT_some h
  exact ⟨_, (runF_ok fine mixed (funT_ok _) ho fuel f [] CH.empty _ _ _ e).2⟩

theorem closed_any {ov : CallF} (ho : CallOk Try.prog ov) {fuel f : Nat} (h : isT (runF Try.prog (funT Try.prog) ov fuel f [] CH.empty) = true) (A : AHeap) :
    SimW Try.prog f [] A (fun v A' => v = .bool true ∧ A' = A) := by
  obtain ⟨A1, h1⟩ := closed_true ho h
  exact h1.anywhere rfl rfl A

/-- a closed call that is known to be true, as an operation -/
noncomputable def trueOv (f : FuncId) (ov : CallF) : CallF := fun g args H => match Nat.beq g f with
  | true => match args with
    | [] => some (.bool true, H, H.n)
    | _ => ov g args H
  | false => ov g args H

theorem trueOv_ok {f : FuncId} {ov : CallF} (ho : CallOk Try.prog ov) (h : ∀ A, SimW Try.prog f [] A (fun v A' => v = .bool true ∧ A' = A)) : CallOk Try.prog (trueOv f ov) := by
  intro g args H v H' l e
  unfold trueOv at e
  split at e
  · rename_i hg
    have hg := Nat.eq_of_beq_eq_true hg
    subst hg
    split at e
    · cases e; exact ⟨Ran.refl, h _⟩
    · exact ho _ _ _ _ _ _ e
  · exact ho _ _ _ _ _ _ e

theorem awake_run : isT (runF Try.prog (funT Try.prog) graphOv 300 14 [] CH.empty) = true := by kernel_rfl
theorem awake_simW (A : AHeap) : SimW Try.prog 14 [] A (fun v A' => v = .bool true ∧ A' = A) := closed_any graphOv_ok awake_run A
theorem works_run : isT (runF Try.prog (funT Try.prog) graphOv 400 26 [] CH.empty) = true := by kernel_rfl
theorem works_simW (A : AHeap) : SimW Try.prog 26 [] A (fun v A' => v = .bool true ∧ A' = A) := closed_any graphOv_ok works_run A
end Go.AB.Try
