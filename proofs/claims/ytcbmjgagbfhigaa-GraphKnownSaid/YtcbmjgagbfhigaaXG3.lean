/-
  Slices that grow: what they hold, one element appended.
-/
import Derived.Test.YtcbmjgagbfhigaaXG2
namespace Go.AB
open Go
set_option linter.unusedSimpArgs false
set_option linter.unusedVariables false

/-- the block of a slice -/
def own : Value → Option Nat
  | .slice (some a) _ _ => some a.block
  | _ => none

/-- a slice of one's own: nil, empty, or grown by append; 'junk' is what lies behind it -/
inductive Held (A : AHeap) (sz : Nat) : Value → List (List Value) → List (List Value) → Prop
  | nil : Held A sz (.slice none 0 0) [] []
  | zero (b : Nat) (cs : List Value) (k : Kind) (hb : b < A.n) (h : A.f b = some (.row cs k)) : Held A sz (.slice (some ⟨b, 0, none⟩) 0 0) [] []
  | grown (b : Nat) (ls junk : List (List Value)) (hb : b < A.n) (h : A.f b = some (.row (ls ++ junk).flatten (.grown sz))) (hall : ∀ x ∈ ls ++ junk, x.length = sz) :
      Held A sz (.slice (some ⟨b, 0, none⟩) ls.length ucap) ls junk

theorem Held.mono {A A' : AHeap} {sz : Nat} {s : Value} {ls junk : List (List Value)} (h : Held A sz s ls junk) (hn : A.n ≤ A'.n) (hf : ∀ b, own s = some b → A'.f b = A.f b) : Held A' sz s ls junk := by
  cases h with
  | nil => exact .nil
  | zero b cs k hb h => exact .zero b cs k (Nat.lt_of_lt_of_le hb hn) (by rw [hf b rfl]; exact h)
  | grown b ls junk hb h hall => exact .grown b ls junk (Nat.lt_of_lt_of_le hb hn) (by rw [hf b rfl]; exact h) hall

theorem Held.own_lt {A : AHeap} {sz : Nat} {s : Value} {ls junk : List (List Value)} (h : Held A sz s ls junk) {b : Nat} (hb : own s = some b) : b < A.n := by
  cases h with
  | nil => cases hb
  | zero b' cs k hb' h => cases hb; exact hb'
  | grown b' ls junk hb' h hall => cases hb; exact hb'

/-- what append does to a slice of one's own -/
structure Grew (A A' : AHeap) (s s' : Value) : Prop where
  n : A.n ≤ A'.n
  own : own s' = own s ∨ ∃ b, own s' = some b ∧ A.n ≤ b
  is : ∃ b, AB.own s' = some b
  frame : ∀ i, i < A.n → AB.own s ≠ some i → A'.f i = A.f i

theorem append1 {P : Program} {A : AHeap} {st xt : TypeId} {s x : Value} {sz bytes : Nat} {ls junk : List (List Value)} {y : List Value} (ht : appType P st xt = some (sz, bytes)) (hx : appCells A sz x = some (1, y))
    (hy : y.length = sz) (hsz : 0 < sz) (h : Held A sz s ls junk) (hbig : (ls.length + 1) * bytes ≤ room) :
    ∃ s' A', aappend P A st xt s x = some (s', A') ∧ Held A' sz s' (ls ++ [y]) (junk.drop 1) ∧ Grew A A' s s' := by
  unfold aappend
  simp only [ht, hx]
  have huc : ¬ ucap < ucap := Nat.lt_irrefl _
  cases h with
  | nil =>
    simp only [List.length_nil] at hbig
    simp only [if_neg Nat.one_ne_zero, show 1 * bytes ≤ room from by simpa using hbig, if_true]
    refine ⟨_, _, rfl, ?_, ⟨Nat.le_succ _, .inr ⟨A.n, rfl, Nat.le_refl _⟩, ⟨_, rfl⟩, fun i hi _ => AHeap.push_old _ _ hi⟩⟩
    exact .grown (A := A.push (.row y (.grown sz))) A.n [y] [] (Nat.lt_succ_self _) (by rw [AHeap.push_new]; simp) (by simp [hy])
  | zero b cs k hb h =>
    simp only [List.length_nil] at hbig
    simp only [show (0 : Nat) < ucap from by decide, if_true, show ¬ (0 + 1 ≤ 0) from by decide, if_false, Nat.zero_mul, show getCells cs 0 0 = some [] from by unfold getCells; simp, h,
      show (0 + 1) * bytes ≤ room from by simpa using hbig, Option.map_some, List.nil_append]
    refine ⟨_, _, rfl, ?_, ⟨Nat.le_succ _, .inr ⟨A.n, rfl, Nat.le_refl _⟩, ⟨_, rfl⟩, fun i hi _ => AHeap.push_old _ _ hi⟩⟩
    exact .grown (A := A.push (.row y (.grown sz))) A.n [y] [] (Nat.lt_succ_self _) (by rw [AHeap.push_new]; simp) (by simp [hy])
  | grown b ls junk hb h hall =>
    have hlen := flat_len hall
    have hav : avail A b 0 sz = some (ls ++ junk).length := by
      unfold avail
      simp only [h]
      rw [if_pos (by simp [hsz]), hlen, Nat.sub_zero, Nat.mul_div_cancel _ hsz]
    simp only [huc, if_false, if_true, hav]
    cases junk with
    | nil =>
      have e1 : ¬ (ls.length + 1 ≤ (ls ++ []).length) := by simp
      simp only [List.append_nil] at h hlen
      simp only [e1, if_false, h]
      rw [if_pos (by simp [hlen, hbig])]
      refine ⟨_, _, rfl, ?_, ⟨Nat.le_succ _, .inr ⟨A.n, rfl, Nat.le_refl _⟩, ⟨_, rfl⟩, fun i hi hne => ?_⟩⟩
      · have := Held.grown (A := (A.set b .dead).push (.row (ls.flatten ++ y) (.grown sz))) (sz := sz) A.n (ls ++ [y]) [] (Nat.lt_succ_self _) (by
          rw [show A.n = (A.set b .dead).n from rfl, AHeap.push_new]; simp) (by
          intro z hz
          simp only [List.append_nil, List.mem_append, List.mem_singleton] at hz
          rcases hz with hz | rfl
          · exact hall z (by simpa using hz)
          · exact hy)
        simpa using this
      · rw [AHeap.push_old _ _ (by exact hi), AHeap.set_other _ _ (fun e => hne (by rw [e]; rfl))]
    | cons z junk =>
      have e1 : ls.length + 1 ≤ (ls ++ z :: junk).length := by simp
      simp only [e1, if_true]
      unfold inPlace
      rw [if_neg Nat.one_ne_zero]
      simp only [h, reduceCtorEq, if_false, Nat.zero_add]
      rw [flat_put hall (by simp) hy]
      refine ⟨_, _, rfl, ?_, ⟨Nat.le_refl _, .inl rfl, ⟨_, rfl⟩, fun i hi hne => AHeap.set_other _ _ (fun e => hne (by rw [e]; rfl))⟩⟩
      have hset : (ls ++ z :: junk).set ls.length y = (ls ++ [y]) ++ junk := by
        rw [List.set_append_right _ _ (Nat.le_refl _)]; simp
      have := Held.grown (A := A.set b (.row ((ls ++ z :: junk).set ls.length y).flatten (.grown sz))) (sz := sz) b (ls ++ [y]) junk hb (by rw [AHeap.set_same, hset]) (by
        intro w hw
        simp only [List.mem_append, List.mem_singleton] at hw
        rcases hw with (hw | rfl) | hw
        · exact hall w (by simp [hw])
        · exact hy
        · exact hall w (by simp [hw]))
      simpa using this

/-- one element written out -/
theorem appCells_one {A : AHeap} {b sz : Nat} {y : List Value} {k : Kind} (h : A.f b = some (.row y k)) (hy : y.length = sz) : appCells A sz (.slice (some ⟨b, 0, none⟩) 1 1) = some (1, y) := by
  unfold appCells
  simp only [show ¬ (1 : Nat) = ecap from by decide, if_false, h, getCells, Nat.one_mul, Nat.zero_add, hy, Nat.le_refl, if_true, List.drop_zero, Option.map_some]
  rw [← hy, List.take_length]

theorem putCells_full {cs vs : List Value} (h : vs.length = cs.length) : putCells cs 0 vs = some vs := by
  unfold putCells
  rw [if_pos (by omega), List.take_zero, List.nil_append, Nat.zero_add, h, List.drop_length, List.append_nil]

theorem own_slice {s : Value} {b : Nat} (h : own s = some b) : ∃ a n c, s = .slice (some a) n c ∧ a.block = b := by
  unfold own at h
  split at h
  · rename_i a n c; cases h; exact ⟨a, n, c, rfl, rfl⟩
  · cases h

end Go.AB
