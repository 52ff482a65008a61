/-
  Steps of the abstract heap: a new block, a row that is written, a map that is changed.
-/
import Derived.Test.YtcbmjgagbfhigaaXA1
namespace Go.AB
open Go
set_option linter.unusedSimpArgs false
set_option linter.unusedVariables false

theorem OR.mono {ρ ρ' : Rho} {H H' : Array Obj} {e : Ent} {o : AObj} (h : OR ρ H e o) (hs : Sub ρ ρ') (hb : H'[e.blk]? = H[e.blk]?) : OR ρ' H' e o := by
  cases o with
  | dead => trivial
  | row cs k =>
    obtain ⟨c, t, fz, h1, h2, h3⟩ := h
    refine ⟨c, t, fz, hb.trans h1, ?_, h3⟩
    intro i v hv
    obtain ⟨v', a, b⟩ := h2 i v hv
    exact ⟨v', a, b.mono hs⟩
  | map es clock =>
    obtain ⟨ents, h1, h2⟩ := h
    refine ⟨ents, hb.trans h1, h2.size, ?_, h2.keys, h2.born, h2.clock, h2.self⟩
    intro i a en hk hen
    obtain ⟨x, y, z⟩ := h2.each i a en hk hen
    exact ⟨x, y, z.mono hs⟩
  | iter m since seen last =>
    obtain ⟨em, h1, h2, h3⟩ := h
    exact ⟨em, hs _ _ h1, hb.trans h2, h3⟩
  | siter s p => exact ⟨hb.trans h.1, h.2⟩

def ext (ρ : Rho) (i : Nat) (e : Ent) : Rho := fun j => if j = i then some e else ρ j
theorem ext_same (ρ : Rho) (i : Nat) (e : Ent) : ext ρ i e i = some e := by simp [ext]
theorem ext_sub {ρ : Rho} {i : Nat} (e : Ent) (h : ρ i = none) : Sub ρ (ext ρ i e) := by
  intro j e' hj
  unfold ext
  split
  · rename_i hji; subst hji; rw [h] at hj; cases hj
  · exact hj

theorem Rel.none_n {ρ : Rho} {A : AHeap} {w : World} (h : Rel ρ A w) : ρ A.n = none := by
  cases hc : ρ A.n with
  | none => rfl
  | some e => exact absurd (h.lt _ _ hc) (Nat.lt_irrefl _)

/-- a new block -/
theorem Step.push {ρ : Rho} {A : AHeap} {w : World} (h : Rel ρ A w) (o : AObj) (O : Obj) (esz rsz : Nat)
    (ho : OR (ext ρ A.n ⟨w.heap.size, 0, esz, rsz⟩) (w.heap.push O) ⟨w.heap.size, 0, esz, rsz⟩ o) (hz : fzOf (some O) = (0, 0) := by rfl) :
    Step ρ A w (ext ρ A.n ⟨w.heap.size, 0, esz, rsz⟩) (A.push o) { w with heap := w.heap.push O } := by
  have hnone := h.none_n
  have hsub : Sub ρ (ext ρ A.n ⟨w.heap.size, 0, esz, rsz⟩) := ext_sub _ hnone
  have hold : ∀ B, B < w.heap.size → (w.heap.push O)[B]? = w.heap[B]? := fun B hB => by rw [Array.getElem?_push, if_neg (by omega)]
  refine ⟨hsub, ⟨?_, ?_, ?_, ?_⟩, rfl, ⟨rfl, frozen_push hz⟩, rfl, by simp, fun B hB _ => hold B hB, ?_, ?_, by simp, ?_⟩
  · intro i e hi
    unfold ext at hi
    split at hi
    · rename_i hin; subst hin; simp
    · have := h.lt _ _ hi; simp; omega
  · intro i e hi
    unfold ext at hi
    split at hi
    · rename_i hin; subst hin; cases hi
      exact ⟨o, AHeap.push_new _ _, ho⟩
    · obtain ⟨o', h1, h2⟩ := h.obj _ _ hi
      refine ⟨o', by rw [AHeap.push_old _ _ (h.lt _ _ hi)]; exact h1, h2.mono hsub (hold _ (h.bnd _ _ hi))⟩
  · intro i e hi
    unfold ext at hi
    split at hi
    · cases hi; simp
    · have := h.bnd _ _ hi; simp; omega
  · intro i j e e' hi hj hb hw hl
    unfold ext at hi hj
    split at hi <;> split at hj
    · omega
    · cases hi; have := h.bnd _ _ hj; simp at hb; omega
    · cases hj; have := h.bnd _ _ hi; simp at hb; omega
    · have hi' := h.lt _ _ hi
      have hj' := h.lt _ _ hj
      refine h.inj i j e e' hi hj hb ?_ ?_
      · unfold writable at hw ⊢; rw [AHeap.push_old _ _ hi'] at hw; exact hw
      · unfold live at hl ⊢; rw [AHeap.push_old _ _ hj'] at hl; exact hl
  · intro i e hi ho'
    unfold ext at hi
    split at hi
    · cases hi; exact .inl (Nat.le_refl _)
    · rw [ho'] at hi; cases hi
  · intro i e hi hw
    have hi' := h.lt _ _ hi
    unfold writable at hw ⊢; rw [AHeap.push_old _ _ hi'] at hw; exact hw
  · intro i e hi ho'
    unfold ext at hi
    split at hi
    · rename_i hin; omega
    · rw [ho'] at hi; cases hi

/-- a block that may be written is written; iterators over it fall behind -/
theorem Step.set {ρ : Rho} {A : AHeap} {w : World} (h : Rel ρ A w) {i : Nat} {e : Ent} (hi : ρ i = some e) (o : AObj) (O : Obj)
    (hw : writable A i)
    (ho : OR ρ (w.heap.setIfInBounds e.blk O) e o) (hz : fzOf (some O) = (0, 0) := by rfl) :
    Step ρ A w ρ (A.set i o) { w with heap := w.heap.setIfInBounds e.blk O } := by
  have hother : ∀ B, B ≠ e.blk → (w.heap.setIfInBounds e.blk O)[B]? = w.heap[B]? := fun B hB => by
    rw [Array.getElem?_setIfInBounds_ne (by omega)]
  have hlive : live A i := by
    unfold live; unfold writable at hw; intro hd; rw [hd] at hw; exact hw
  refine ⟨Sub.refl _, ⟨?_, ?_, ?_, ?_⟩, rfl, ⟨rfl, frozen_set (by rw [hz, fz_writable h hi hw])⟩, rfl, by simp, ?_, ?_, ?_, Nat.le_refl _, fun j e' h1 h2 => by rw [h1] at h2; cases h2⟩
  · intro j e' hj; exact h.lt _ _ hj
  · intro j e' hj
    by_cases hji : j = i
    · subst hji; rw [hi] at hj; cases hj
      exact ⟨o, AHeap.set_same _ _ _, ho⟩
    · obtain ⟨o', h1, h2⟩ := h.obj _ _ hj
      refine ⟨o', by rw [AHeap.set_other _ _ hji]; exact h1, ?_⟩
      by_cases hlj : live A j
      · have hne : e'.blk ≠ e.blk := fun hb => hji (h.inj i j e e' hi hj hb.symm hw hlj).symm
        exact h2.mono (Sub.refl _) (hother _ hne)
      · have : o' = .dead := by
          unfold live at hlj
          have : A.f j = some .dead := Classical.byContradiction hlj
          rw [h1] at this; cases this; rfl
        subst this; trivial
  · intro j e' hj; have := h.bnd _ _ hj; simpa using this
  · intro j k e1 e2 hj hk hb hwj hlk
    have key : ∀ x, live (A.set i o) x → live A x := by
      intro x hx
      by_cases hxi : x = i
      · subst hxi; exact hlive
      · unfold live at hx ⊢; rw [AHeap.set_other _ _ hxi] at hx; exact hx
    have keyw : ∀ x, writable (A.set i o) x → writable A x := by
      intro x hx
      by_cases hxi : x = i
      · subst hxi; exact hw
      · unfold writable at hx ⊢; rw [AHeap.set_other _ _ hxi] at hx; exact hx
    exact h.inj j k e1 e2 hj hk hb (keyw _ hwj) (key _ hlk)
  · intro B hB hn
    exact hother B fun hb => hn i e hi hw hb.symm
  · intro j e' h1 h2; rw [h1] at h2; cases h2
  · intro j e' hj hwj
    by_cases hji : j = i
    · subst hji; exact hw
    · unfold writable at hwj ⊢; rw [AHeap.set_other _ _ hji] at hwj; exact hwj

end Go.AB
