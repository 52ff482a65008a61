/-
  (*Graph).Lines.
-/
import Derived.Test.YtcbmjgagbfhigaaW9
namespace Go.AB.Try
open Go Go.AB Go.Proofs Go.IntWalk
set_option linter.unusedSimpArgs false
set_option linter.unusedVariables false
set_option maxRecDepth 10000
attribute [local irreducible] aops adrawn awp SimW

theorem edges_mem {x : NE} : ∀ {G : List NE}, x ∈ G → x.next.length ≤ edges G
  | [], h => by simp at h
  | y :: G, h => by
    unfold edges
    rcases List.mem_cons.1 h with rfl | h
    · omega
    · have := edges_mem h; omega

theorem outs_len (G : List NE) : ∀ (l dec W : List (List Int)), (outs G dec W l).1.length = dec.length + l.length ∧ (outs G dec W l).2.length ≤ W.length + l.length
  | [], dec, W => ⟨rfl, Nat.le_refl _⟩
  | w :: l, dec, W => by
    rw [outs_cons]
    have := outs_len G l (w :: dec) (if w ≠ vend ∧ cntG w G = cntL w (w :: dec) then w :: W else W)
    refine ⟨by rw [this.1]; simp; omega, Nat.le_trans this.2 ?_⟩
    split <;> simp <;> omega

theorem lineCells (v : List Int) (hv : vok v = true) (t : ByteArray) (a : Bool) :
    putCells (List.replicate 32 (Value.int .u8 0) ++ [Value.int .i64 0, Value.string ⟨#[]⟩, Value.bool false]) 0 (vcells v) = some (vcells v ++ [Value.string ⟨#[]⟩, Value.bool false]) ∧
    putCells (vcells v ++ [Value.string ⟨#[]⟩, Value.bool false]) 33 [Value.string t] = some (vcells v ++ [Value.string t, Value.bool false]) ∧
    putCells (vcells v ++ [Value.string t, Value.bool false]) 34 [Value.bool a] = some (vcells v ++ [Value.string t, Value.bool a]) ∧
    (vcells v ++ [Value.string t, Value.bool a]).all scalar = true ∧ (vcells v ++ [Value.string t, Value.bool a]).length = 35 := by
  have hl := vcells_len hv
  refine ⟨?_, ?_, ?_, ?_, by simp [hl]⟩
  · unfold putCells
    rw [hl, if_pos (by simp), List.take_zero, List.nil_append]
    rfl
  · unfold putCells
    rw [if_pos (by simp [hl]), ← hl, List.take_left, ← List.length_append, List.drop_append]
    simp
  · unfold putCells
    have e1 : (vcells v ++ [Value.string t]).length = 34 := by simp [hl]
    have e2 : vcells v ++ [Value.string t, Value.bool false] = (vcells v ++ [Value.string t]) ++ [Value.bool false] := by simp
    rw [if_pos (by simp [hl]), e2, ← e1, List.take_left, ← List.length_append, List.drop_append]
    simp
  · rw [List.all_append, vcells_scalar]; rfl
end Go.AB.Try
