/-
  Functions without a body; closed functions at any memory.
-/
import Derived.Test.YtcbmjgagbfhigaaXD4
namespace Go.AB
open Go
set_option linter.unusedSimpArgs false
set_option linter.unusedVariables false

theorem simW_extern {P : Program} {f : FuncId} {fn : Func} {e : Array Value → Sem Value} {args : List Value} {A : AHeap} {K : Value → AHeap → Prop} (hf : P.funcs[f]? = some fn)
    (hname : (fn.name == "runtime.NumGoroutine") = false) (hb : fn.body.isNone = true) (hn : Extern.findNext fn = none) (he : Extern.find fn = some e)
    (h : ∀ ρ w rargs, Rel ρ A w → VL ρ args rargs → ∃ r w', (e ⟨rargs⟩).run P w = .ok r w' ∧ Out ρ A w K r w') : SimW P f args A K := by
  intro ρ w rargs hr hv
  obtain ⟨r, w', h1, h2⟩ := h ρ w rargs hr hv
  have : (callFunc f ⟨rargs⟩).run P w = .ok (.value r) w' := by
    rw [run_callFunc_extern hf hname hb hn he]
    simp only [Sem.run_bind, h1, Result.andThen_ok, Sem.run_pure]
  rw [this]
  exact h2

/-- no memory at all -/
theorem rel_empty (w : World) : Rel (fun _ => none) CH.empty.abs w where
  lt := fun i e h => by cases h
  obj := fun i e h => by cases h
  bnd := fun i e h => by cases h
  inj := fun i j e e' h => by cases h

/-- a closed call that tells a value without blocks: at any memory -/
theorem SimW.anywhere {P : Program} {g : FuncId} {args : List Value} {A1 : AHeap} {v : Value} (ha : args.all noRef = true) (hv : noRef v = true)
    (h : SimW P g args CH.empty.abs (fun v' A' => v' = v ∧ A' = A1)) (A : AHeap) : SimW P g args A (fun v' A' => v' = v ∧ A' = A) := by
  intro ρ w rargs hr hra
  have hargs : VL (fun _ => none) args rargs := by
    refine ⟨hra.1, fun i v v' h1 h2 => noRef_VR ?_ (hra.2 i v v' h1 h2)⟩
    exact List.all_eq_true.1 ha v (List.mem_of_getElem? h1)
  refine (h (fun _ => none) w rargs (rel_empty w) hargs).mono ?_
  rintro r w' ⟨ρ', v', A', ⟨rfl, rfl⟩, h2, h3⟩
  have hframe : ∀ B, B < w.heap.size → w'.heap[B]? = w.heap[B]? := fun B hB => h3.frame B hB fun i e hi => by cases hi
  refine ⟨ρ, v', A, ⟨rfl, rfl⟩, noRef_VR hv h2, ⟨Sub.refl _, ⟨hr.lt, ?_, ?_, hr.inj⟩, h3.os, h3.tape, h3.output, h3.size, fun B hB _ => hframe B hB, ?_, fun i e _ h => h, Nat.le_refl _, ?_⟩⟩
  · intro i e hi
    obtain ⟨o, k1, k2⟩ := hr.obj i e hi
    refine ⟨o, k1, ?_⟩
    have hb := hframe e.blk (hr.bnd i e hi)
    cases o with
    | dead => trivial
    | row cs k => obtain ⟨c, t, fz, a1, a2⟩ := k2; exact ⟨c, t, fz, by rw [hb]; exact a1, a2⟩
    | map es clock => obtain ⟨ents, a1, a2⟩ := k2; exact ⟨ents, by rw [hb]; exact a1, a2⟩
    | iter m since seen last => obtain ⟨em, a1, a2, a3⟩ := k2; exact ⟨em, a1, by rw [hb]; exact a2, a3⟩
    | siter s pos => obtain ⟨a1, a2⟩ := k2; exact ⟨by rw [hb]; exact a1, a2⟩
  · intro i e hi; exact Nat.lt_of_lt_of_le (hr.bnd i e hi) h3.size
  · intro i e h1 h2; rw [h1] at h2; cases h2
  · intro i e h1 h2; rw [h1] at h2; cases h2

end Go.AB
