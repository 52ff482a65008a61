/-
  (*Graph).Lines as an operation of the machine.
-/
import Derived.Test.YtcbmjgagbfhigaaW11
import Derived.Test.YtcbmjgagbfhigaaXD4
import Derived.Test.YtcbmjgagbfhigaaXF3
import Derived.Test.YtcbmjgagbfhigaaXG6
namespace Go.AB.Try
open Go Go.AB Go.Proofs Go.IntWalk
set_option linter.unusedSimpArgs false
set_option linter.unusedVariables false
set_option maxRecDepth 10000

def lrow (out : List LE) : List Value := (out.map lcells).flatten

theorem lcells_plain (x : LE) : (lcells x).all plain1 = true := by
  unfold lcells; rw [List.all_append, vcells_plain]; rfl

theorem lrow_plain (out : List LE) : (lrow out).all plain1 = true := by
  unfold lrow
  rw [List.all_flatten, List.all_map, List.all_eq_true]
  intro x _
  exact lcells_plain x

/-- the value that Lines tells, and memory behind it -/
def linesV (A : AHeap) (out : List LE) : Value := match out with
  | [] => .slice none 0 0
  | _ :: _ => .slice (some ⟨A.n, 0, none⟩) out.length ucap
def linesA (A : AHeap) (out : List LE) : AHeap := match out with
  | [] => A
  | _ :: _ => A.push (.row (lrow out) (.grown 35))

theorem t22x {A : AHeap} {g m c : Nat} {pm first0 : Value} {k : Kind} {G : List NE} {out : List LE} (hg : A.f g = some (.row [.bool true, pm, .map (some m), first0] k)) (hgn : g < A.n) (hN : NodesA A m c G)
    (hbig : (G.length + 1) * (edges G + 1) ≤ 1000000000) (hout : linesOf G = some out) :
    SimW Try.prog 22 [.pointer (some ⟨g, 0, none⟩)] A (fun v A' => v = linesV A out ∧ A' = linesA A out) := by
  have h := t22 hg hgn hN hbig hout
  cases out with
  | nil =>
    refine h.dropK (v := .slice none 0 0) ?_ rfl
    rintro v A' ⟨h1, h2, h3, h4, h5⟩
    exact ⟨h5 rfl, h2⟩
  | cons x l =>
    refine h.fresh (n := (x :: l).length) (sz := 35) (cs := lrow (x :: l)) ?_ (lrow_plain _)
    rintro v A' ⟨h1, h2, h3, h4, h5⟩
    refine ⟨h2, ?_⟩
    have hl : ((x :: l).map lcells).length = (x :: l).length := List.length_map _
    rw [← hl]
    have hne : (x :: l).map lcells ≠ [] := by simp
    unfold lrow
    generalize (x :: l).map lcells = ls at h1 hne
    generalize hj : ([] : List (List Value)) = js at h1
    cases h1 with
    | nil => exact absurd rfl hne
    | zero => exact absurd rfl hne
    | grown b ls junk hb hf hall => subst hj; exact ⟨b, rfl, h4 b rfl, by rw [List.append_nil] at hf; exact hf⟩

/-- Lines, for the machine -/
noncomputable def linesF (H : CH) (args : List Value) : Option (Value × CH × Nat) :=
  match args with
  | [.pointer (some ⟨g, 0, none⟩)] => match Nat.blt g H.n && Nat.blt H.n 1048576 with
    | false => none
    | true => match H.t.get g with
      | some (.row [.bool true, pm, .map (some m), first0] k) => match dgraph H m with
        | none => none
        | some G => match linesOf G with
          | none => none
          | some out => match out with
            | [] => some (.slice none 0 0, H, H.n)
            | x :: l => fNat (qlen (x :: l)) fun n => fNat H.n fun h => fObj (.row (lrow (x :: l)) (.grown 35)) fun o => Tr.putK 21 H.t h o fun t => fNat (h + 1) fun h' => some (.slice (some ⟨h, 0, none⟩) n ucap, ⟨h', t⟩, h)
      | _ => none
  | _ => none

noncomputable def linesOv : CallF := fun f args H => match Nat.beq f 22 with
  | true => linesF H args
  | false => none

theorem linesOv_ok : CallOk Try.prog linesOv := by
  intro f args H v H' l h
  unfold linesOv at h
  split at h
  · rename_i hf
    have hf := Nat.eq_of_beq_eq_true hf
    subst hf
    unfold linesF at h
    split at h
    · rename_i g
      split at h
      · cases h
      · rename_i hb
        rw [Bool.and_eq_true] at hb
        have hg := blt_of hb.1
        have hn := blt_of hb.2
        split at h
        · rename_i pm m first0 k hrow
          split at h
          · cases h
          · rename_i G hG
            obtain ⟨⟨c, hN⟩, hbig⟩ := dgraph_ok hG
            split at h
            · cases h
            · rename_i out hout
              have hs := t22x (A := H.abs) (by rw [CH.abs_f, if_pos hg, hrow]) hg hN hbig hout
              cases out with
              | nil =>
                simp only [Option.some.injEq, Prod.mk.injEq] at h
                obtain ⟨rfl, rfl, rfl⟩ := h
                exact ⟨Ran.refl, hs⟩
              | cons x l0 =>
                simp only [fNat_eq, fObj_eq, Tr.putK_eq, qlen_eq, Option.some.injEq, Prod.mk.injEq] at h
                obtain ⟨rfl, rfl, rfl⟩ := h
                have hp : (⟨H.n + 1, H.t.put 21 H.n (.row (lrow (x :: l0)) (.grown 35))⟩ : CH).abs = H.abs.push (.row (lrow (x :: l0)) (.grown 35)) := CH.abs_push H _ hn
                refine ⟨⟨Nat.le_refl _, fun i hi => ?_, Nat.le_succ _⟩, ?_⟩
                · rw [hp]; exact AHeap.push_old _ _ hi
                · rw [hp]; exact hs
        · cases h
    · cases h
  · cases h
end Go.AB.Try
