/-
  Slices written out, and appending.
-/
import Derived.Test.YtcbmjgagbfhigaaXA7
namespace Go.AB
open Go
set_option linter.unusedSimpArgs false
set_option linter.unusedVariables false

/-! ### a slice written out element by element -/
def seqCells (size : Nat) : Nat → List (Nat × Value) → Option (List Value)
  | _, [] => some []
  | k, (i, v) :: rest => if i = k then match acells v with
    | some vs => if vs.length = size then (seqCells size (k + 1) rest).map (vs ++ ·) else none
    | none => none
    else none

theorem seq_fill (size : Nat) : ∀ (parts : List (Nat × Value)) (k : Nat) (cs pre post : List Value), seqCells size k parts = some cs → pre.length = k * size →
    post.length = parts.length * size → afill (fun i => some (i * size, size)) (pre ++ post) parts = some (pre ++ cs) ∧ cs.all scalar = true ∧ cs.length = parts.length * size
  | [], k, cs, pre, post, h, _, hp => by
    simp [seqCells] at h; subst h
    simp at hp; subst hp
    simp [afill]
  | (i, v) :: rest, k, cs, pre, post, h, hpre, hp => by
    simp only [seqCells] at h
    split at h
    · rename_i hik
      subst hik
      split at h
      · rename_i vs hv
        split at h
        · rename_i hsz
          cases hr : seqCells size (i + 1) rest with
          | none => rw [hr] at h; cases h
          | some cr =>
            rw [hr] at h; cases h
            have hsc : vs.all scalar = true := by
              unfold acells at hv
              split at hv
              · split at hv
                · rename_i hh; cases hv; exact hh
                · cases hv
              · split at hv
                · rename_i hh; cases hv; simpa using hh
                · cases hv
            simp only [List.length_cons, Nat.add_mul, Nat.one_mul] at hp
            obtain ⟨h1, h2, h3⟩ := seq_fill size rest (i + 1) cr (pre ++ vs) (post.drop size) hr (by simp [hpre, hsz, Nat.add_mul]) (by simp; omega)
            have hput : putCells (pre ++ post) (i * size) vs = some (pre ++ vs ++ post.drop size) := by
              unfold putCells
              rw [if_pos (by simp; omega)]
              congr 1
              rw [← hpre, List.take_left, hsz, List.drop_append, List.drop_of_length_le (by omega), show pre.length + size - pre.length = size by omega]
              simp
            refine ⟨?_, by rw [List.all_append, hsc, h2]; rfl, by simp [h3, hsz, Nat.add_mul]; omega⟩
            simp only [afill, hv, hsz, if_true, hput, Option.bind_some, h1]
            simp only [List.append_assoc]
        · cases h
      · cases h
    · cases h

def abuildSlice (P : Program) (A : AHeap) (t : TypeId) (len : Nat) (parts : List (Nat × Value)) : Option (Value × AHeap) :=
  match sliceOf P t with
  | none => none
  | some e => match szOf P e, zcells P e with
    | some size, some z => if parts.length = len ∧ len * size ≤ 16777216 ∧ len ≤ 16777216 then
        (seqCells size 0 parts).map fun cs => (.slice (some ⟨A.n, 0, none⟩) len len, A.push (.row cs .fix)) else none
    | _, _ => none

theorem top_VL (ρ : Rho) (rs : List Value) : VL ρ (List.replicate rs.length top) rs := by
  refine ⟨by simp, fun i v v' h1 h2 => ?_⟩
  have := List.mem_of_getElem? h1
  rw [List.mem_replicate] at this
  rw [this.2]; exact .top _

theorem buildSlice_sound {P : Program} {ρ : Rho} {A A' : AHeap} {w : World} {t : TypeId} {len : Nat} {parts parts' : List (Nat × Value)} {v : Value} (hr : Rel ρ A w)
    (hl : parts.length = parts'.length) (hp : ∀ (i : Nat) p p', parts[i]? = some p → parts'[i]? = some p' → p.1 = p'.1 ∧ VR ρ p.2 p'.2)
    (h : abuildSlice P A t len parts = some (v, A')) : ∃ ρ' r w', (Instr.buildSlice t len ⟨parts'⟩).run P w = .ok r w' ∧ VR ρ' v r ∧ Step ρ A w ρ' A' w' := by
  unfold abuildSlice at h
  split at h
  · cases h
  · rename_i e he
    split at h
    · rename_i size z hsz hz
      split at h
      · rename_i hc
        cases hs : seqCells size 0 parts with
        | none => rw [hs] at h; cases h
        | some cs =>
          rw [hs] at h; cases h
          obtain ⟨zv, h1, h2, _, _⟩ := zcells_run hz w
          let rs : List Value := ((Array.range (len * size)).map (zv.cells[· % zv.cells.size]!)).toList
          have hrl : rs.length = len * size := by simp [rs]
          obtain ⟨g1, g2, g3⟩ := seq_fill size parts 0 cs [] (List.replicate rs.length top) hs (by simp) (by rw [List.length_replicate, hrl, hc.1])
          simp only [List.nil_append] at g1
          obtain ⟨us, k1, k2⟩ := fill_sound (top_VL ρ rs) hl hp g1
          obtain ⟨m1, m2⟩ := run_newRow (P := P) hr e k2 g2 ⟨us⟩ rfl
          refine ⟨_, .slice (some ⟨w.heap.size, 0, none⟩) len len, _, ?_, ?_, m2⟩
          · simp only [Instr.buildSlice, Sem.run_bind, run_und (sliceOf_some he), run_szOf hsz, Result.andThen_ok]
            rw [if_neg (by have := hc.2.1; simp; omega)]
            by_cases h0 : len * size = 0
            · rw [if_pos h0]
              have hus : us = [] := by
                have : us.length = 0 := by rw [← k2.1, g3, hc.1, h0]
                exact List.eq_nil_of_length_eq_zero this
              have hrs : rs = [] := List.eq_nil_of_length_eq_zero (by omega)
              have : (Array.map (fun x => (#[] : Array Value)[x % (#[] : Array Value).size]!) (Array.range (len * size))) = ⟨rs⟩ := by
                apply Array.ext'; rw [hrs]; simp [h0]
              simp only [Sem.run_pure, Result.andThen_ok, this, k1, Sem.run_bind, m1]
            · rw [if_neg h0]
              have : (Array.map (fun x => zv.cells[x % zv.cells.size]!) (Array.range (len * size))) = ⟨rs⟩ := by apply Array.ext'; rfl
              simp only [Sem.run_bind, h1, Sem.run_pure, Result.andThen_ok, this, k1, m1]
          · exact .slice _ _ _ _ _ _ (ext_same _ _ _) rfl (by unfold ucap; omega)
      · cases h
    · cases h

/-! ### what may be in place -/
theorem Step.kill {ρ : Rho} {A : AHeap} {w : World} (h : Rel ρ A w) (i : Nat) (hl : live A i) (hw : writable A i) : Step ρ A w ρ (A.set i .dead) w := by
  have key : ∀ j, live (A.set i .dead) j → live A j ∧ j ≠ i := by
    intro j hj
    by_cases hji : j = i
    · subst hji; exact absurd (AHeap.set_same _ _ _) hj
    · exact ⟨by unfold live at hj ⊢; rwa [AHeap.set_other _ _ hji] at hj, hji⟩
  have keyw : ∀ j, writable (A.set i .dead) j → writable A j := by
    intro j hj
    by_cases hji : j = i
    · subst hji; exact hw
    · unfold writable at hj ⊢; rwa [AHeap.set_other _ _ hji] at hj
  refine ⟨Sub.refl _, ⟨h.lt, ?_, h.bnd, ?_⟩, rfl, ⟨rfl, fun _ => rfl⟩, rfl, Nat.le_refl _, fun _ _ _ => rfl, fun j e h1 h2 => (by rw [h1] at h2; cases h2), fun j e _ hj => keyw j hj, Nat.le_refl _, fun j e h1 h2 => (by rw [h1] at h2; cases h2)⟩
  · intro j e hj
    by_cases hji : j = i
    · subst hji; exact ⟨.dead, AHeap.set_same _ _ _, trivial⟩
    · obtain ⟨o, h1, h2⟩ := h.obj j e hj
      refine ⟨o, by rw [AHeap.set_other _ _ hji]; exact h1, h2.mono (Sub.refl _) rfl⟩
  · intro j k e e' hj hk hb hwj hlk
    exact h.inj j k e e' hj hk hb (keyw _ hwj) (key _ hlk).1

theorem Step.regrow {ρ : Rho} {A : AHeap} {w : World} (h : Rel ρ A w) {i : Nat} {e : Ent} (hi : ρ i = some e) (hw : writable A i) (hl : live A i) (o : AObj) (O : Obj)
    (ho : OR (ext ρ A.n e) (w.heap.setIfInBounds e.blk O) e o) (hz : fzOf (some O) = (0, 0) := by rfl) :
    Step ρ A w (ext ρ A.n e) ((A.set i .dead).push o) { w with heap := w.heap.setIfInBounds e.blk O } := by
  have hnone := h.none_n
  have hsub : Sub ρ (ext ρ A.n e) := ext_sub _ hnone
  have hother : ∀ B, B ≠ e.blk → (w.heap.setIfInBounds e.blk O)[B]? = w.heap[B]? := fun B hB => by
    rw [Array.getElem?_setIfInBounds_ne (by omega)]
  have hin : i < A.n := h.lt _ _ hi
  have fold : ∀ j, j < A.n → j ≠ i → ((A.set i .dead).push o).f j = A.f j := by
    intro j hj hji
    rw [AHeap.push_old _ _ (by simpa using hj), AHeap.set_other _ _ hji]
  have fi : ((A.set i .dead).push o).f i = some .dead := by
    rw [AHeap.push_old _ _ (by simpa using hin), AHeap.set_same]
  have keyl : ∀ j, j < A.n → live ((A.set i .dead).push o) j → live A j ∧ j ≠ i := by
    intro j hj hlj
    by_cases hji : j = i
    · subst hji; exact absurd fi hlj
    · exact ⟨by unfold live at hlj ⊢; rwa [fold j hj hji] at hlj, hji⟩
  have keyw : ∀ j, j < A.n → writable ((A.set i .dead).push o) j → writable A j ∧ j ≠ i := by
    intro j hj hwj
    by_cases hji : j = i
    · subst hji; unfold writable at hwj; rw [fi] at hwj; exact hwj.elim
    · exact ⟨by unfold writable at hwj ⊢; rwa [fold j hj hji] at hwj, hji⟩
  refine ⟨hsub, ⟨?_, ?_, ?_, ?_⟩, rfl, ⟨rfl, frozen_set (by rw [hz, fz_writable h hi hw])⟩, rfl, by simp, ?_, ?_, ?_, by simp, ?_⟩
  · intro j ej hj
    unfold ext at hj
    split at hj
    · rename_i hjn; subst hjn; simp
    · have := h.lt _ _ hj; simp; omega
  · intro j ej hj
    unfold ext at hj
    split at hj
    · rename_i hjn; subst hjn; cases hj
      exact ⟨o, AHeap.push_new _ _, ho⟩
    · have hjn := h.lt _ _ hj
      by_cases hji : j = i
      · subst hji; exact ⟨.dead, fi, trivial⟩
      · obtain ⟨o', h1, h2⟩ := h.obj _ _ hj
        refine ⟨o', by rw [fold j hjn hji]; exact h1, ?_⟩
        by_cases hlj : live A j
        · have hne : ej.blk ≠ e.blk := fun hb => hji (h.inj i j e ej hi hj hb.symm hw hlj).symm
          exact h2.mono hsub (hother _ hne)
        · have hd : A.f j = some .dead := Classical.byContradiction hlj
          rw [h1] at hd; cases hd; trivial
  · intro j ej hj
    unfold ext at hj
    split at hj
    · cases hj; have := h.bnd _ _ hi; simpa using this
    · have := h.bnd _ _ hj; simpa using this
  · intro j k ej ek hj hk hb hwj hlk
    unfold ext at hj hk
    split at hj <;> split at hk
    · omega
    · cases hj
      have hkn := h.lt _ _ hk
      obtain ⟨g1, g2⟩ := keyl k hkn hlk
      exact absurd (h.inj i k e ek hi hk hb hw g1).symm g2
    · cases hk
      have hjn := h.lt _ _ hj
      obtain ⟨g1, g2⟩ := keyw j hjn hwj
      exact absurd (h.inj j i ej e hj hi hb g1 hl) g2
    · exact h.inj j k ej ek hj hk hb (keyw j (h.lt _ _ hj) hwj).1 (keyl k (h.lt _ _ hk) hlk).1
  · intro B hB hn
    exact hother B fun hb => hn i e hi hw hb.symm
  · intro j ej hj ho'
    unfold ext at hj
    split at hj
    · cases hj; exact .inr ⟨i, e, hi, hw, rfl⟩
    · rw [ho'] at hj; cases hj
  · intro j ej hj hwj
    exact (keyw j (h.lt _ _ hj) hwj).1
  · intro j ej hj ho'
    unfold ext at hj
    split at hj
    · omega
    · rw [ho'] at hj; cases hj

theorem growBy_le (newLen : Nat) : ∀ (rounds c : Nat), c ≤ newLen + (newLen + 768) / 4 → Builtin.growBy newLen rounds c ≤ newLen + (newLen + 768) / 4
  | 0, c, h => h
  | r + 1, c, h => by
    unfold Builtin.growBy
    split
    · exact h
    · exact growBy_le newLen r _ (by omega)

theorem nextcap_le (need cap : Nat) (h : cap < need) : Builtin.nextslicecap need cap ≤ 2 * need + 192 := by
  unfold Builtin.nextslicecap
  split
  · omega
  · split
    · omega
    · have := growBy_le need 4 cap (by omega); omega

end Go.AB
