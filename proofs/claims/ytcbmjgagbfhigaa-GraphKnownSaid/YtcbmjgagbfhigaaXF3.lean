/-
  What a contract says of the model's call; results that are new blocks.
-/
import Derived.Test.YtcbmjgagbfhigaaXF1
import Derived.RowKit3
namespace Go.AB
open Go
set_option linter.unusedSimpArgs false
set_option linter.unusedVariables false

theorem SimW.calls {P : Program} {f : FuncId} {fn : Func} {c : Code} (hf : P.funcs[f]? = some fn) (hb : fn.body = some c) (hname : (fn.name == "runtime.NumGoroutine") = false) {args : List Value} {A : AHeap}
    {K : Value → AHeap → Prop} (h : SimW P f args A K) {ρ : Rho} {w : World} {rargs : List Value} (hr : Rel ρ A w) (hv : VL ρ args rargs) :
    Calls P f ⟨rargs⟩ w fun e w' => ∃ v, e = .returned v ∧ Out ρ A w K v w' := by
  have hcall : (callFunc f ⟨rargs⟩).run P w = .ok (.enter f ⟨rargs⟩) w := by
    unfold callFunc
    simp only [Sem.run_bind, run_program, Result.andThen_ok, hf, hname, Bool.false_eq_true, if_false, hb, Option.isNone_some, Sem.run_pure]
  have := h ρ w rargs hr hv
  rw [hcall] at this
  exact this

/-- no block that was there turns -/
theorem grown_of_step {ρ ρ' : Rho} {A A' : AHeap} {w w' : World} (h : Step ρ A w ρ' A' w') (hno : ∀ i e, ρ i = some e → ¬ writable A i) : Go.RowKit.Grown w w' := by
  refine ⟨⟨h.os, h.output, fun i hi => ?_⟩, h.tape.2, h.size⟩
  have := h.frame i hi (fun j e hj hw => absurd hw (hno j e hj))
  rw [this]
  cases w.heap[i]? with
  | none => rfl
  | some o => cases o with
    | cells c t fz => exact ⟨rfl, rfl, rfl, fun _ _ => rfl⟩
    | map es cl => exact .inr ⟨rfl, rfl⟩
    | _ => rfl

/-- a closed law -/
theorem closed_law {P : Program} {f : FuncId} {fn : Func} {c : Code} (hf : P.funcs[f]? = some fn) (hb : fn.body = some c) (hname : (fn.name == "runtime.NumGoroutine") = false) {K : Value → AHeap → Prop}
    (h : SimW P f [] CH.empty.abs K) (hK : ∀ v A, K v A → v = .bool true) (w : World) : Calls P f #[] w fun e w' => e = .returned (.bool true) ∧ Go.RowKit.Grown w w' := by
  refine (h.calls hf hb hname (rel_empty w) (rargs := []) .nil).mono ?_
  rintro e w' ⟨v, rfl, ρ', v', A', h1, h2, h3⟩
  have := hK _ _ h1
  subst this
  cases h2
  exact ⟨rfl, grown_of_step h3 fun i e hi => by cases hi⟩

theorem SimW.dropK {P : Program} {g : FuncId} {args : List Value} {A : AHeap} {K : Value → AHeap → Prop} {v : Value} (h : SimW P g args A K) (hK : ∀ v' A', K v' A' → v' = v ∧ Unch A A') (hv : noRef v = true) :
    SimW P g args A (fun v' A' => v' = v ∧ A' = A) := by
  intro ρ w rargs hr ha
  refine (h ρ w rargs hr ha).mono ?_
  rintro r w' ⟨ρ', v', A', hk, h2, h3⟩
  obtain ⟨rfl, hu⟩ := hK _ _ hk
  refine ⟨ρ, v', A, ⟨rfl, rfl⟩, noRef_VR hv h2, ⟨Sub.refl _, ⟨hr.lt, ?_, ?_, hr.inj⟩, h3.os, h3.tape, h3.output, h3.size, h3.frame, ?_, fun i e _ h => h, Nat.le_refl _, ?_⟩⟩
  · intro i e hi
    obtain ⟨o, k1, k2⟩ := hr.obj i e hi
    obtain ⟨o', l1, l2⟩ := h3.rel.obj i e (h3.sub i e hi)
    rw [hu i (hr.lt i e hi), k1] at l1
    cases l1
    exact ⟨o, k1, OR.restrict h3.sub k2 l2⟩
  · intro i e hi; exact h3.rel.bnd i e (h3.sub i e hi)
  · intro i e h1 h2; rw [h1] at h2; cases h2
  · intro i e h1 h2; rw [h1] at h2; cases h2

/-- the result is one new row of plain cells, that grew: all else that was made is gone -/
theorem SimW.fresh {P : Program} {g : FuncId} {args : List Value} {A : AHeap} {K : Value → AHeap → Prop} {n sz : Nat} {cs : List Value} (h : SimW P g args A K)
    (hK : ∀ v A', K v A' → Unch A A' ∧ ∃ b, v = .slice (some ⟨b, 0, none⟩) n ucap ∧ A.n ≤ b ∧ A'.f b = some (.row cs (.grown sz))) (hcs : cs.all plain1 = true) :
    SimW P g args A (fun v A' => v = .slice (some ⟨A.n, 0, none⟩) n ucap ∧ A' = A.push (.row cs (.grown sz))) := by
  intro ρ w rargs hr ha
  refine (h ρ w rargs hr ha).mono ?_
  rintro r w' ⟨ρ', v', A', hk, h2, h3⟩
  obtain ⟨hu, b, rfl, hb, hfb⟩ := hK _ _ hk
  have hrn := hr.none_n
  have hrb : ρ b = none := by
    cases hx : ρ b with
    | none => rfl
    | some e => have := hr.lt b e hx; omega
  obtain ⟨e, c', he, hreq, hsl⟩ : ∃ e c', ρ' b = some e ∧ r = .slice (some ⟨e.blk, e.sh + 0, none⟩) n c' ∧ (0 + c' * e.esz = e.rsz ∧ n ≤ c' ∧ 0 < e.esz) := by
    obtain ⟨e, c', g1, g2, _, g4, _⟩ := h2.slice_inv (by unfold ucap ecap; omega)
    exact ⟨e, c', g1, g2, g4 rfl⟩
  subst hreq
  have hsub : Sub ρ (ext ρ A.n e) := ext_sub _ hrn
  have hsub' := h3.sub
  obtain ⟨o, k1, k2⟩ := h3.rel.obj b e he
  rw [hfb] at k1
  cases k1
  obtain ⟨c, t, fz, g1, g2, g3, g4, g5, g6, g7⟩ := k2
  have hwb : writable A' b := by unfold writable; rw [hfb]; trivial
  have hlb : live A' b := by unfold live; rw [hfb]; simp
  refine ⟨ext ρ A.n e, _, _, ⟨rfl, rfl⟩, ?_, ⟨hsub, ⟨?_, ?_, ?_, ?_⟩, h3.os, h3.tape, h3.output, h3.size, h3.frame, ?_, ?_, Nat.le_succ _, ?_⟩⟩
  · exact .sliceU A.n 0 _ n c' e (ext_same _ _ _) rfl hsl.1 hsl.2.1 hsl.2.2
  · intro i ei hi
    unfold ext at hi
    split at hi
    · rename_i hin; subst hin; simp
    · have := hr.lt _ _ hi; simp; omega
  · intro i ei hi
    unfold ext at hi
    split at hi
    · rename_i hin; subst hin; cases hi
      refine ⟨_, AHeap.push_new _ _, c, t, fz, g1, fun j v hj => ?_, g3, g4, g5, g6, g7⟩
      obtain ⟨v', q1, q2⟩ := g2 j v hj
      exact ⟨v', q1, plain1_VR (List.all_eq_true.1 hcs v (List.mem_of_getElem? hj)) q2⟩
    · obtain ⟨o, q1, q2⟩ := hr.obj i ei hi
      obtain ⟨o', l1, l2⟩ := h3.rel.obj i ei (hsub' i ei hi)
      rw [hu i (hr.lt i ei hi), q1] at l1
      cases l1
      exact ⟨o, by rw [AHeap.push_old _ _ (hr.lt _ _ hi)]; exact q1, (OR.restrict hsub' q2 l2).mono hsub rfl⟩
  · intro i ei hi
    unfold ext at hi
    split at hi
    · cases hi; exact h3.rel.bnd b e he
    · exact h3.rel.bnd i ei (hsub' i ei hi)
  · intro i j ei ej hi hj hbl hw hl
    unfold ext at hi hj
    split at hi <;> split at hj
    · omega
    · rename_i hin hjn
      cases hi
      have hjlt := hr.lt _ _ hj
      have : live A' j := by unfold live at hl ⊢; rw [AHeap.push_old _ _ hjlt] at hl; rw [hu j hjlt]; exact hl
      have := h3.rel.inj b j e ej he (hsub' _ _ hj) hbl hwb this
      omega
    · rename_i hin hjn
      cases hj
      have hilt := hr.lt _ _ hi
      have : writable A' i := by unfold writable at hw ⊢; rw [AHeap.push_old _ _ hilt] at hw; rw [hu i hilt]; exact hw
      have := h3.rel.inj i b ei e (hsub' _ _ hi) he hbl this hlb
      omega
    · have hi' := hr.lt _ _ hi
      have hj' := hr.lt _ _ hj
      refine hr.inj i j ei ej hi hj hbl ?_ ?_
      · unfold writable at hw ⊢; rw [AHeap.push_old _ _ hi'] at hw; exact hw
      · unfold live at hl ⊢; rw [AHeap.push_old _ _ hj'] at hl; exact hl
  · intro i ei hi hnone
    unfold ext at hi
    split at hi
    · cases hi; exact h3.fresh b e he hrb
    · rw [hnone] at hi; cases hi
  · intro i ei hi hw
    have hi' := hr.lt _ _ hi
    unfold writable at hw ⊢; rw [AHeap.push_old _ _ hi'] at hw; exact hw
  · intro i ei hi hnone
    unfold ext at hi
    split at hi
    · omega
    · rw [hnone] at hi; cases hi

end Go.AB
