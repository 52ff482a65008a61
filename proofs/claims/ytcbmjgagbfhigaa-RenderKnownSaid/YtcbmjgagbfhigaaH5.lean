/-
  (*Graph).Lines as an operation of the machine.
-/
import Derived.Test.YtcbmjgagbfhigaaW11
import Derived.Test.YtcbmjgagbfhigaaGD
import Derived.Test.YtcbmjgagbfhigaaGF
namespace Go.AB.Try
open Go Go.AB Go.Proofs Go.IntWalk
set_option linter.unusedSimpArgs false
set_option linter.unusedVariables false
set_option maxRecDepth 10000

def lrow (out : List LE) : List Value := (out.map lcells).flatten

theorem lcells_plain (x : LE) : (lcells x).all plain1 = true := by
  unfold lcells; rw [List.all_append, vcells_plain]; rfl

theorem lrow_plain (out : List LE) : (lrow out).all plain1 = true := by
  unfold lrow
  rw [List.all_flatten, List.all_map, List.all_eq_true]
  intro x _
  exact lcells_plain x

/-- the value that Lines tells, and memory behind it -/
def linesV (A : AHeap) (out : List LE) : Value := match out with
  | [] => .slice none 0 0
  | _ :: _ => .slice (some ⟨A.n, 0, none⟩) out.length ucap
def linesA (A : AHeap) (out : List LE) : AHeap := match out with
  | [] => A
  | _ :: _ => A.push (.row (lrow out) (.grown 35))

theorem t22x {A : AHeap} {g m c : Nat} {pm first0 : Value} {k : Kind} {G : List NE} {out : List LE} (hg : A.f g = some (.row [.bool true, pm, .map (some m), first0] k)) (hgn : g < A.n) (hN : NodesA A m c G)
    (hbig : (G.length + 1) * (edges G + 1) ≤ 1000000000) (hout : linesOf G = some out) :
    SimW Try.prog 22 [.pointer (some ⟨g, 0, none⟩)] A (fun v A' => v = linesV A out ∧ A' = linesA A out) := by
  have h := t22 hg hgn hN hbig hout
  cases out with
  | nil =>
    refine h.dropK (v := .slice none 0 0) ?_ rfl
    rintro v A' ⟨h1, h2, h3, h4, h5⟩
    exact ⟨h5 rfl, h2⟩
  | cons x l =>
    refine h.fresh (n := (x :: l).length) (sz := 35) (cs := lrow (x :: l)) ?_ (lrow_plain _)
    rintro v A' ⟨h1, h2, h3, h4, h5⟩
    refine ⟨h2, ?_⟩
    have hl : ((x :: l).map lcells).length = (x :: l).length := List.length_map _
    rw [← hl]
    have hne : (x :: l).map lcells ≠ [] := by simp
    unfold lrow
    generalize (x :: l).map lcells = ls at h1 hne
    generalize hj : ([] : List (List Value)) = js at h1
    cases h1 with
    | nil => exact absurd rfl hne
    | zero => exact absurd rfl hne
    | grown b ls junk hb hf hall => subst hj; exact ⟨b, rfl, h4 b rfl, by rw [List.append_nil] at hf; exact hf⟩

/-- Lines, for the machine -/
noncomputable def linesF (H : CH) (args : List Value) : Option (Value × CH × Nat) :=
  match args with
  | [.pointer (some ⟨g, 0, none⟩)] => match Nat.blt g H.n && Nat.blt H.n 1048576 with
    | false => none
    | true => match H.t.get g with
      | some (.row [.bool true, pm, .map (some m), first0] k) => match dgraph H m with
        | none => none
        | some G => match linesOf G with
          | none => none
          | some out => match out with
            | [] => some (.slice none 0 0, H, H.n)
            | x :: l => fNat (qlen (x :: l)) fun n => fNat H.n fun h => fObj (.row (lrow (x :: l)) (.grown 35)) fun o => Tr.putK 21 H.t h o fun t => fNat (h + 1) fun h' => some (.slice (some ⟨h, 0, none⟩) n ucap, ⟨h', t⟩, h)
      | _ => none
  | _ => none

noncomputable def linesOv : CallF := fun f args H => match Nat.beq f 22 with
  | true => linesF H args
  | false => none

theorem linesOv_ok : CallOk Try.prog linesOv := by
  intro f args H v H' l h
  unfold linesOv at h
  split at h
  · rename_i hf
    have hf := Nat.eq_of_beq_eq_true hf
    subst hf
    unfold linesF at h
    split at h
    · rename_i g
      split at h
      · cases h
      · rename_i hb
        rw [Bool.and_eq_true] at hb
        have hg := blt_of hb.1
        have hn := blt_of hb.2
        split at h
        · rename_i pm m first0 k hrow
          split at h
          · cases h
          · rename_i G hG
            obtain ⟨⟨c, hN⟩, hbig⟩ := dgraph_ok hG
            split at h
            · cases h
            · rename_i out hout
              have hs := t22x (A := H.abs) (by rw [CH.abs_f, if_pos hg, hrow]) hg hN hbig hout
              cases out with
              | nil =>
                simp only [Option.some.injEq, Prod.mk.injEq] at h
                obtain ⟨rfl, rfl, rfl⟩ := h
                exact ⟨Ran.refl, hs⟩
              | cons x l0 =>
                simp only [fNat_eq, fObj_eq, Tr.putK_eq, qlen_eq, Option.some.injEq, Prod.mk.injEq] at h
                obtain ⟨rfl, rfl, rfl⟩ := h
                have hp : (⟨H.n + 1, H.t.put 21 H.n (.row (lrow (x :: l0)) (.grown 35))⟩ : CH).abs = H.abs.push (.row (lrow (x :: l0)) (.grown 35)) := CH.abs_push H _ hn
                refine ⟨⟨Nat.le_refl _, fun i hi => ?_, Nat.le_succ _⟩, ?_⟩
                · rw [hp]; exact AHeap.push_old _ _ hi
                · rw [hp]; exact hs
        · cases h
    · cases h
  · cases h
end Go.AB.Try

/-
  line, Has, behind.
-/
namespace Go.AB.Try
open Go Go.AB Go.Proofs Go.IntWalk
set_option linter.unusedSimpArgs false
set_option linter.unusedVariables false
set_option maxRecDepth 10000
attribute [local irreducible] aops adrawn awp SimW

/-- a graph in memory -/
structure GA (A : AHeap) (g m c : Nat) (pm first0 : Value) (k : Kind) (G : List NE) (F : List (List Int)) : Prop where
  hg : A.f g = some (.row [.bool true, pm, .map (some m), first0] k)
  hgn : g < A.n
  hN : NodesA A m c G
  hF : ReadsV A first0 F
  hFv : ∀ v ∈ F, vok v = true

theorem GA.mono {A A' : AHeap} {g m c : Nat} {pm first0 : Value} {k : Kind} {G : List NE} {F : List (List Int)} (h : GA A g m c pm first0 k G F) (hu : Unch A A') (hn : A.n ≤ A'.n) : GA A' g m c pm first0 k G F :=
  ⟨by rw [hu g h.hgn]; exact h.hg, Nat.lt_of_lt_of_le h.hgn hn, h.hN.mono hu hn, h.hF.mono hu hn, h.hFv⟩

theorem NE.val (x : NE) : x.ve.v = .agg ⟨[.string x.text, .int .i64 x.gone, .int .i64 x.named, x.s]⟩ := rfl
theorem s_scalar {A : AHeap} {s : Value} {ls : List (List Int)} (h : ReadsV A s ls) : scalar s = true := by
  obtain ⟨a, c, rfl, _⟩ := h; rfl

theorem t46 {A : AHeap} {g m c : Nat} {pm first0 : Value} {k : Kind} {G : List NE} {F : List (List Int)} (h : GA A g m c pm first0 k G F) {v : List Int} (hv : vok v = true) :
    SimW Try.prog 46 [.pointer (some ⟨g, 0, none⟩), vagg v] A (fun r A' => r = .bool (findN v G).isSome ∧ A' = A) := by
  refine SimW.dropK (K := fun r A' => r = .bool (findN v G).isSome ∧ Unch A A') ?_ (fun v' A' h => h) rfl
  have hg := h.hg
  have hgn := h.hgn
  have hgn' : (g = A.n) = False := by simp; omega
  have hmn := h.hN.lt
  have l1 := vcells_len hv
  have gf : getCells (vcells v) 0 33 = some (vcells v) := by
    unfold getCells; rw [if_pos (by omega), List.drop_zero, ← l1, List.take_length]
  have hun : Unch A (A.push (.row (vcells v) .fix)) := Unch.push _ _
  have hlk := lookup_v (P := Try.prog) (A := A.push (.row (vcells v) .fix)) (t := 35) mp35 lay27 (by rw [hun m hmn]; exact h.hN.f) h.hN.vm hv true
  rw [findN_vfind] at hlk
  have hun3 : ∀ (o o' : AObj), Unch A (((A.push (.row (vcells v) .fix)).push o).set (A.n + 1) o') := fun o o' => hun.trans (by show A.n ≤ A.n + 1; omega) (tmp_unch (A.push (.row (vcells v) .fix)) o o')
  
  cases hf : findN v G with
  | some x =>
    rw [hf] at hlk
    simp only [Option.map_some, if_true, NE.val] at hlk
    obtain ⟨sa, sc, hs, _⟩ := h.hN.reads x (findN_mem hf).1
    rw [hs] at hlk
    
    refine simW_of_awp fine mixed Try.func46 rfl rfl (Nat.le_of_ble_eq_true rfl) ?_
    refine awp_seq fun N1 hN1 => ?_
    refine awp_region ?_
    (repeat ((with_reducible show aops _ _ _ _ _ _ _); first | (with_reducible refine aops_nil ?_) | (refine aops_do rfl rfl (by (try (conv => (lhs; simp only [-List.reduceReplicate, ↓reduceIte, Nat.reduceEqDiff, Nat.reduceLT, Nat.reduceAdd, Nat.reduceMul, Nat.reduceLeDiff, Int.reduceLT, Int.reduceLE, Int.reduceToNat, reduceCtorEq, go_sem]))); try exact rfl) ?_; first | refine aput_some rfl (Nat.le_of_ble_eq_true rfl) ?_ | refine aput_none rfl ?_) | (refine aops_skip rfl rfl (Nat.le_of_ble_eq_true rfl) ?_) | (refine aops_skip0 rfl rfl ?_)))
    refine then_normal (hN1 _ _ ?_); try clear hN1 N1
    refine awp_seq fun N2 hN2 => ?_
    refine awp_drawn [] (by kernel_rfl) ?_
    (repeat ((with_reducible show adrawn _ _ _ _ _ _ _ _ _ _ _); first | (with_reducible refine adrawn_nil ?_) | (refine adrawn_do rfl rfl rfl (by (try (conv => (lhs; simp only [-List.reduceReplicate, ↓reduceIte, Nat.reduceEqDiff, Nat.reduceLT, Nat.reduceAdd, Nat.reduceMul, Nat.reduceLeDiff, Int.reduceLT, Int.reduceLE, Int.reduceToNat, reduceCtorEq, go_sem, AHeap.push_f, hgn', hg, gf, hlk, acells_agg, scalar, putCells_full]))); try exact rfl) (by first | exact Nat.le_refl _ | exact Nat.le_succ _) (by first | exact .inl (Unch.refl _) | exact .inl (Unch.push _ _) | exact .inr (by decide)) ?_; first | refine aput_some rfl (Nat.le_of_ble_eq_true rfl) ?_ | refine aput_none rfl ?_) | (refine adrawn_skip rfl rfl (Nat.le_of_ble_eq_true rfl) ?_) | (refine adrawn_skip0 rfl rfl ?_)))
    refine then_normal (hN2 _ _ ?_); try clear hN2 N2
    refine awp_seq fun N3 hN3 => ?_
    refine awp_region ?_
    (repeat ((with_reducible show aops _ _ _ _ _ _ _); first | (with_reducible refine aops_nil ?_) | (refine aops_do rfl rfl (by (try (conv => (lhs; simp only [-List.reduceReplicate, ↓reduceIte, Nat.reduceEqDiff, Nat.reduceLT, Nat.reduceAdd, Nat.reduceMul, Nat.reduceLeDiff, Int.reduceLT, Int.reduceLE, Int.reduceToNat, reduceCtorEq, go_sem]))); try exact rfl) ?_; first | refine aput_some rfl (Nat.le_of_ble_eq_true rfl) ?_ | refine aput_none rfl ?_) | (refine aops_skip rfl rfl (Nat.le_of_ble_eq_true rfl) ?_) | (refine aops_skip0 rfl rfl ?_)))
    refine then_normal (hN3 _ _ ?_); try clear hN3 N3
    refine awp_ret ?_; (repeat (first | (with_reducible refine then_ret ?_) | (with_reducible refine block_ret ?_)))
    exact end_ret rfl ⟨rfl, hun3 _ _⟩
    
  | none =>
    rw [hf] at hlk
    simp only [Option.map_none, if_true, zv89, Option.map_some] at hlk
    refine simW_of_awp fine mixed Try.func46 rfl rfl (Nat.le_of_ble_eq_true rfl) ?_
    refine awp_seq fun N4 hN4 => ?_
    refine awp_region ?_
    (repeat ((with_reducible show aops _ _ _ _ _ _ _); first | (with_reducible refine aops_nil ?_) | (refine aops_do rfl rfl (by (try (conv => (lhs; simp only [-List.reduceReplicate, ↓reduceIte, Nat.reduceEqDiff, Nat.reduceLT, Nat.reduceAdd, Nat.reduceMul, Nat.reduceLeDiff, Int.reduceLT, Int.reduceLE, Int.reduceToNat, reduceCtorEq, go_sem]))); try exact rfl) ?_; first | refine aput_some rfl (Nat.le_of_ble_eq_true rfl) ?_ | refine aput_none rfl ?_) | (refine aops_skip rfl rfl (Nat.le_of_ble_eq_true rfl) ?_) | (refine aops_skip0 rfl rfl ?_)))
    refine then_normal (hN4 _ _ ?_); try clear hN4 N4
    refine awp_seq fun N5 hN5 => ?_
    refine awp_drawn [] (by kernel_rfl) ?_
    (repeat ((with_reducible show adrawn _ _ _ _ _ _ _ _ _ _ _); first | (with_reducible refine adrawn_nil ?_) | (refine adrawn_do rfl rfl rfl (by (try (conv => (lhs; simp only [-List.reduceReplicate, ↓reduceIte, Nat.reduceEqDiff, Nat.reduceLT, Nat.reduceAdd, Nat.reduceMul, Nat.reduceLeDiff, Int.reduceLT, Int.reduceLE, Int.reduceToNat, reduceCtorEq, go_sem, AHeap.push_f, hgn', hg, gf, hlk, acells_agg, scalar, putCells_full]))); try exact rfl) (by first | exact Nat.le_refl _ | exact Nat.le_succ _) (by first | exact .inl (Unch.refl _) | exact .inl (Unch.push _ _) | exact .inr (by decide)) ?_; first | refine aput_some rfl (Nat.le_of_ble_eq_true rfl) ?_ | refine aput_none rfl ?_) | (refine adrawn_skip rfl rfl (Nat.le_of_ble_eq_true rfl) ?_) | (refine adrawn_skip0 rfl rfl ?_)))
    refine then_normal (hN5 _ _ ?_); try clear hN5 N5
    refine awp_seq fun N6 hN6 => ?_
    refine awp_region ?_
    (repeat ((with_reducible show aops _ _ _ _ _ _ _); first | (with_reducible refine aops_nil ?_) | (refine aops_do rfl rfl (by (try (conv => (lhs; simp only [-List.reduceReplicate, ↓reduceIte, Nat.reduceEqDiff, Nat.reduceLT, Nat.reduceAdd, Nat.reduceMul, Nat.reduceLeDiff, Int.reduceLT, Int.reduceLE, Int.reduceToNat, reduceCtorEq, go_sem]))); try exact rfl) ?_; first | refine aput_some rfl (Nat.le_of_ble_eq_true rfl) ?_ | refine aput_none rfl ?_) | (refine aops_skip rfl rfl (Nat.le_of_ble_eq_true rfl) ?_) | (refine aops_skip0 rfl rfl ?_)))
    refine then_normal (hN6 _ _ ?_); try clear hN6 N6
    refine awp_ret ?_; (repeat (first | (with_reducible refine then_ret ?_) | (with_reducible refine block_ret ?_)))
    exact end_ret rfl ⟨rfl, hun3 _ _⟩

theorem vok_root : vok vroot = true := by decide

theorem t23 {A : AHeap} {g m c : Nat} {pm first0 : Value} {k : Kind} {G : List NE} {F : List (List Int)} (h : GA A g m c pm first0 k G F) {v : List Int} (hv : vok v = true) :
    SimW Try.prog 23 [.pointer (some ⟨g, 0, none⟩), vagg v] A (fun r A' => r = .bool (hasB G v) ∧ A' = A) := by
  refine SimW.dropK (K := fun r A' => r = .bool (hasB G v) ∧ Unch A A') ?_ (fun v' A' h => h) rfl
  have l1 := vcells_len hv
  have gf : getCells (vcells v) 0 33 = some (vcells v) := by
    unfold getCells; rw [if_pos (by omega), List.drop_zero, ← l1, List.take_length]
  have hun : Unch A (A.push (.row (vcells v) .fix)) := Unch.push _ _
  have h1 := h.mono hun (Nat.le_succ _)
  have hr := veql hv vok_root
  have he := veql hv vok_end
  unfold hasB
  rw [leq_eq, leq_eq]
  
  by_cases hvr : v = vroot
  · 
    rw [decide_eq_true hvr] at hr ⊢
    refine simW_of_awp fine mixed Try.func23 rfl rfl (Nat.le_of_ble_eq_true rfl) ?_
    refine awp_seq fun N7 hN7 => ?_
    refine awp_region ?_
    (repeat ((with_reducible show aops _ _ _ _ _ _ _); first | (with_reducible refine aops_nil ?_) | (refine aops_do rfl rfl (by (try (conv => (lhs; simp only [-List.reduceReplicate, ↓reduceIte, Nat.reduceEqDiff, Nat.reduceLT, Nat.reduceAdd, Nat.reduceMul, Nat.reduceLeDiff, Int.reduceLT, Int.reduceLE, Int.reduceToNat, reduceCtorEq, go_sem]))); try exact rfl) ?_; first | refine aput_some rfl (Nat.le_of_ble_eq_true rfl) ?_ | refine aput_none rfl ?_) | (refine aops_skip rfl rfl (Nat.le_of_ble_eq_true rfl) ?_) | (refine aops_skip0 rfl rfl ?_)))
    refine then_normal (hN7 _ _ ?_); try clear hN7 N7
    refine awp_seq fun N8 hN8 => ?_
    refine awp_drawn [] (by kernel_rfl) ?_
    (repeat ((with_reducible show adrawn _ _ _ _ _ _ _ _ _ _ _); first | (with_reducible refine adrawn_nil ?_) | (refine adrawn_do rfl rfl rfl (by (try (conv => (lhs; simp only [-List.reduceReplicate, ↓reduceIte, Nat.reduceEqDiff, Nat.reduceLT, Nat.reduceAdd, Nat.reduceMul, Nat.reduceLeDiff, Int.reduceLT, Int.reduceLE, Int.reduceToNat, reduceCtorEq, go_sem]))); try exact rfl) (by first | exact Nat.le_refl _ | exact Nat.le_succ _) (by first | exact .inl (Unch.refl _) | exact .inl (Unch.push _ _) | exact .inr (by decide)) ?_; first | refine aput_some rfl (Nat.le_of_ble_eq_true rfl) ?_ | refine aput_none rfl ?_) | (refine adrawn_skip rfl rfl (Nat.le_of_ble_eq_true rfl) ?_) | (refine adrawn_skip0 rfl rfl ?_)))
    refine adrawn_call (hs := t41 h1.hg) rfl rfl rfl rfl (Nat.le_of_ble_eq_true rfl) rfl (Nat.le_refl _) (.inl (Unch.refl _)) (by intro p hp; cases hp) ?_
    (repeat ((with_reducible show adrawn _ _ _ _ _ _ _ _ _ _ _); first | (with_reducible refine adrawn_nil ?_) | (refine adrawn_do rfl rfl rfl (by (try (conv => (lhs; simp only [-List.reduceReplicate, ↓reduceIte, Nat.reduceEqDiff, Nat.reduceLT, Nat.reduceAdd, Nat.reduceMul, Nat.reduceLeDiff, Int.reduceLT, Int.reduceLE, Int.reduceToNat, reduceCtorEq, go_sem, AHeap.push_f, gf]))); try exact rfl) (by first | exact Nat.le_refl _ | exact Nat.le_succ _) (by first | exact .inl (Unch.refl _) | exact .inl (Unch.push _ _) | exact .inr (by decide)) ?_; first | refine aput_some rfl (Nat.le_of_ble_eq_true rfl) ?_ | refine aput_none rfl ?_) | (refine adrawn_skip rfl rfl (Nat.le_of_ble_eq_true rfl) ?_) | (refine adrawn_skip0 rfl rfl ?_)))
    refine adrawn_call (hs := t39 _) rfl rfl rfl rfl (Nat.le_of_ble_eq_true rfl) rfl (Nat.le_refl _) (.inl (Unch.refl _)) (by intro p hp; cases hp) ?_
    (repeat ((with_reducible show adrawn _ _ _ _ _ _ _ _ _ _ _); first | (with_reducible refine adrawn_nil ?_) | (refine adrawn_do rfl rfl rfl (by (try (conv => (lhs; simp only [-List.reduceReplicate, ↓reduceIte, Nat.reduceEqDiff, Nat.reduceLT, Nat.reduceAdd, Nat.reduceMul, Nat.reduceLeDiff, Int.reduceLT, Int.reduceLE, Int.reduceToNat, reduceCtorEq, go_sem, hr]))); try exact rfl) (by first | exact Nat.le_refl _ | exact Nat.le_succ _) (by first | exact .inl (Unch.refl _) | exact .inl (Unch.push _ _) | exact .inr (by decide)) ?_; first | refine aput_some rfl (Nat.le_of_ble_eq_true rfl) ?_ | refine aput_none rfl ?_) | (refine adrawn_skip rfl rfl (Nat.le_of_ble_eq_true rfl) ?_) | (refine adrawn_skip0 rfl rfl ?_)))
    refine then_normal (hN8 _ _ ?_); try clear hN8 N8
    refine awp_ret ?_; (repeat (first | (with_reducible refine then_ret ?_) | (with_reducible refine block_ret ?_)))
    exact end_ret rfl ⟨rfl, hun⟩
    
  · rw [decide_eq_false hvr] at hr ⊢
    by_cases hve : v = vend
    · 
      rw [decide_eq_true hve] at he ⊢
      refine simW_of_awp fine mixed Try.func23 rfl rfl (Nat.le_of_ble_eq_true rfl) ?_
      refine awp_seq fun N9 hN9 => ?_
      refine awp_region ?_
      (repeat ((with_reducible show aops _ _ _ _ _ _ _); first | (with_reducible refine aops_nil ?_) | (refine aops_do rfl rfl (by (try (conv => (lhs; simp only [-List.reduceReplicate, ↓reduceIte, Nat.reduceEqDiff, Nat.reduceLT, Nat.reduceAdd, Nat.reduceMul, Nat.reduceLeDiff, Int.reduceLT, Int.reduceLE, Int.reduceToNat, reduceCtorEq, go_sem]))); try exact rfl) ?_; first | refine aput_some rfl (Nat.le_of_ble_eq_true rfl) ?_ | refine aput_none rfl ?_) | (refine aops_skip rfl rfl (Nat.le_of_ble_eq_true rfl) ?_) | (refine aops_skip0 rfl rfl ?_)))
      refine then_normal (hN9 _ _ ?_); try clear hN9 N9
      refine awp_seq fun N10 hN10 => ?_
      refine awp_drawn [] (by kernel_rfl) ?_
      (repeat ((with_reducible show adrawn _ _ _ _ _ _ _ _ _ _ _); first | (with_reducible refine adrawn_nil ?_) | (refine adrawn_do rfl rfl rfl (by (try (conv => (lhs; simp only [-List.reduceReplicate, ↓reduceIte, Nat.reduceEqDiff, Nat.reduceLT, Nat.reduceAdd, Nat.reduceMul, Nat.reduceLeDiff, Int.reduceLT, Int.reduceLE, Int.reduceToNat, reduceCtorEq, go_sem]))); try exact rfl) (by first | exact Nat.le_refl _ | exact Nat.le_succ _) (by first | exact .inl (Unch.refl _) | exact .inl (Unch.push _ _) | exact .inr (by decide)) ?_; first | refine aput_some rfl (Nat.le_of_ble_eq_true rfl) ?_ | refine aput_none rfl ?_) | (refine adrawn_skip rfl rfl (Nat.le_of_ble_eq_true rfl) ?_) | (refine adrawn_skip0 rfl rfl ?_)))
      refine adrawn_call (hs := t41 h1.hg) rfl rfl rfl rfl (Nat.le_of_ble_eq_true rfl) rfl (Nat.le_refl _) (.inl (Unch.refl _)) (by intro p hp; cases hp) ?_
      (repeat ((with_reducible show adrawn _ _ _ _ _ _ _ _ _ _ _); first | (with_reducible refine adrawn_nil ?_) | (refine adrawn_do rfl rfl rfl (by (try (conv => (lhs; simp only [-List.reduceReplicate, ↓reduceIte, Nat.reduceEqDiff, Nat.reduceLT, Nat.reduceAdd, Nat.reduceMul, Nat.reduceLeDiff, Int.reduceLT, Int.reduceLE, Int.reduceToNat, reduceCtorEq, go_sem, AHeap.push_f, gf]))); try exact rfl) (by first | exact Nat.le_refl _ | exact Nat.le_succ _) (by first | exact .inl (Unch.refl _) | exact .inl (Unch.push _ _) | exact .inr (by decide)) ?_; first | refine aput_some rfl (Nat.le_of_ble_eq_true rfl) ?_ | refine aput_none rfl ?_) | (refine adrawn_skip rfl rfl (Nat.le_of_ble_eq_true rfl) ?_) | (refine adrawn_skip0 rfl rfl ?_)))
      refine adrawn_call (hs := t39 _) rfl rfl rfl rfl (Nat.le_of_ble_eq_true rfl) rfl (Nat.le_refl _) (.inl (Unch.refl _)) (by intro p hp; cases hp) ?_
      (repeat ((with_reducible show adrawn _ _ _ _ _ _ _ _ _ _ _); first | (with_reducible refine adrawn_nil ?_) | (refine adrawn_do rfl rfl rfl (by (try (conv => (lhs; simp only [-List.reduceReplicate, ↓reduceIte, Nat.reduceEqDiff, Nat.reduceLT, Nat.reduceAdd, Nat.reduceMul, Nat.reduceLeDiff, Int.reduceLT, Int.reduceLE, Int.reduceToNat, reduceCtorEq, go_sem, hr, AHeap.push_f, gf]))); try exact rfl) (by first | exact Nat.le_refl _ | exact Nat.le_succ _) (by first | exact .inl (Unch.refl _) | exact .inl (Unch.push _ _) | exact .inr (by decide)) ?_; first | refine aput_some rfl (Nat.le_of_ble_eq_true rfl) ?_ | refine aput_none rfl ?_) | (refine adrawn_skip rfl rfl (Nat.le_of_ble_eq_true rfl) ?_) | (refine adrawn_skip0 rfl rfl ?_)))
      refine adrawn_call (hs := t38 _) rfl rfl rfl rfl (Nat.le_of_ble_eq_true rfl) rfl (Nat.le_refl _) (.inl (Unch.refl _)) (by intro p hp; cases hp) ?_
      (repeat ((with_reducible show adrawn _ _ _ _ _ _ _ _ _ _ _); first | (with_reducible refine adrawn_nil ?_) | (refine adrawn_do rfl rfl rfl (by (try (conv => (lhs; simp only [-List.reduceReplicate, ↓reduceIte, Nat.reduceEqDiff, Nat.reduceLT, Nat.reduceAdd, Nat.reduceMul, Nat.reduceLeDiff, Int.reduceLT, Int.reduceLE, Int.reduceToNat, reduceCtorEq, go_sem, he]))); try exact rfl) (by first | exact Nat.le_refl _ | exact Nat.le_succ _) (by first | exact .inl (Unch.refl _) | exact .inl (Unch.push _ _) | exact .inr (by decide)) ?_; first | refine aput_some rfl (Nat.le_of_ble_eq_true rfl) ?_ | refine aput_none rfl ?_) | (refine adrawn_skip rfl rfl (Nat.le_of_ble_eq_true rfl) ?_) | (refine adrawn_skip0 rfl rfl ?_)))
      refine then_normal (hN10 _ _ ?_); try clear hN10 N10
      refine awp_ret ?_; (repeat (first | (with_reducible refine then_ret ?_) | (with_reducible refine block_ret ?_)))
      exact end_ret rfl ⟨rfl, hun⟩
      
    · rw [decide_eq_false hve] at he ⊢
      refine simW_of_awp fine mixed Try.func23 rfl rfl (Nat.le_of_ble_eq_true rfl) ?_
      refine awp_seq fun N11 hN11 => ?_
      refine awp_region ?_
      (repeat ((with_reducible show aops _ _ _ _ _ _ _); first | (with_reducible refine aops_nil ?_) | (refine aops_do rfl rfl (by (try (conv => (lhs; simp only [-List.reduceReplicate, ↓reduceIte, Nat.reduceEqDiff, Nat.reduceLT, Nat.reduceAdd, Nat.reduceMul, Nat.reduceLeDiff, Int.reduceLT, Int.reduceLE, Int.reduceToNat, reduceCtorEq, go_sem]))); try exact rfl) ?_; first | refine aput_some rfl (Nat.le_of_ble_eq_true rfl) ?_ | refine aput_none rfl ?_) | (refine aops_skip rfl rfl (Nat.le_of_ble_eq_true rfl) ?_) | (refine aops_skip0 rfl rfl ?_)))
      refine then_normal (hN11 _ _ ?_); try clear hN11 N11
      refine awp_seq fun N12 hN12 => ?_
      refine awp_drawn [] (by kernel_rfl) ?_
      (repeat ((with_reducible show adrawn _ _ _ _ _ _ _ _ _ _ _); first | (with_reducible refine adrawn_nil ?_) | (refine adrawn_do rfl rfl rfl (by (try (conv => (lhs; simp only [-List.reduceReplicate, ↓reduceIte, Nat.reduceEqDiff, Nat.reduceLT, Nat.reduceAdd, Nat.reduceMul, Nat.reduceLeDiff, Int.reduceLT, Int.reduceLE, Int.reduceToNat, reduceCtorEq, go_sem]))); try exact rfl) (by first | exact Nat.le_refl _ | exact Nat.le_succ _) (by first | exact .inl (Unch.refl _) | exact .inl (Unch.push _ _) | exact .inr (by decide)) ?_; first | refine aput_some rfl (Nat.le_of_ble_eq_true rfl) ?_ | refine aput_none rfl ?_) | (refine adrawn_skip rfl rfl (Nat.le_of_ble_eq_true rfl) ?_) | (refine adrawn_skip0 rfl rfl ?_)))
      refine adrawn_call (hs := t41 h1.hg) rfl rfl rfl rfl (Nat.le_of_ble_eq_true rfl) rfl (Nat.le_refl _) (.inl (Unch.refl _)) (by intro p hp; cases hp) ?_
      (repeat ((with_reducible show adrawn _ _ _ _ _ _ _ _ _ _ _); first | (with_reducible refine adrawn_nil ?_) | (refine adrawn_do rfl rfl rfl (by (try (conv => (lhs; simp only [-List.reduceReplicate, ↓reduceIte, Nat.reduceEqDiff, Nat.reduceLT, Nat.reduceAdd, Nat.reduceMul, Nat.reduceLeDiff, Int.reduceLT, Int.reduceLE, Int.reduceToNat, reduceCtorEq, go_sem, AHeap.push_f, gf]))); try exact rfl) (by first | exact Nat.le_refl _ | exact Nat.le_succ _) (by first | exact .inl (Unch.refl _) | exact .inl (Unch.push _ _) | exact .inr (by decide)) ?_; first | refine aput_some rfl (Nat.le_of_ble_eq_true rfl) ?_ | refine aput_none rfl ?_) | (refine adrawn_skip rfl rfl (Nat.le_of_ble_eq_true rfl) ?_) | (refine adrawn_skip0 rfl rfl ?_)))
      refine adrawn_call (hs := t39 _) rfl rfl rfl rfl (Nat.le_of_ble_eq_true rfl) rfl (Nat.le_refl _) (.inl (Unch.refl _)) (by intro p hp; cases hp) ?_
      (repeat ((with_reducible show adrawn _ _ _ _ _ _ _ _ _ _ _); first | (with_reducible refine adrawn_nil ?_) | (refine adrawn_do rfl rfl rfl (by (try (conv => (lhs; simp only [-List.reduceReplicate, ↓reduceIte, Nat.reduceEqDiff, Nat.reduceLT, Nat.reduceAdd, Nat.reduceMul, Nat.reduceLeDiff, Int.reduceLT, Int.reduceLE, Int.reduceToNat, reduceCtorEq, go_sem, hr, AHeap.push_f, gf]))); try exact rfl) (by first | exact Nat.le_refl _ | exact Nat.le_succ _) (by first | exact .inl (Unch.refl _) | exact .inl (Unch.push _ _) | exact .inr (by decide)) ?_; first | refine aput_some rfl (Nat.le_of_ble_eq_true rfl) ?_ | refine aput_none rfl ?_) | (refine adrawn_skip rfl rfl (Nat.le_of_ble_eq_true rfl) ?_) | (refine adrawn_skip0 rfl rfl ?_)))
      refine adrawn_call (hs := t38 _) rfl rfl rfl rfl (Nat.le_of_ble_eq_true rfl) rfl (Nat.le_refl _) (.inl (Unch.refl _)) (by intro p hp; cases hp) ?_
      (repeat ((with_reducible show adrawn _ _ _ _ _ _ _ _ _ _ _); first | (with_reducible refine adrawn_nil ?_) | (refine adrawn_do rfl rfl rfl (by (try (conv => (lhs; simp only [-List.reduceReplicate, ↓reduceIte, Nat.reduceEqDiff, Nat.reduceLT, Nat.reduceAdd, Nat.reduceMul, Nat.reduceLeDiff, Int.reduceLT, Int.reduceLE, Int.reduceToNat, reduceCtorEq, go_sem, he, AHeap.push_f, gf]))); try exact rfl) (by first | exact Nat.le_refl _ | exact Nat.le_succ _) (by first | exact .inl (Unch.refl _) | exact .inl (Unch.push _ _) | exact .inr (by decide)) ?_; first | refine aput_some rfl (Nat.le_of_ble_eq_true rfl) ?_ | refine aput_none rfl ?_) | (refine adrawn_skip rfl rfl (Nat.le_of_ble_eq_true rfl) ?_) | (refine adrawn_skip0 rfl rfl ?_)))
      refine adrawn_call (hs := t46 h1 hv) rfl rfl rfl rfl (Nat.le_of_ble_eq_true rfl) rfl (Nat.le_refl _) (.inl (Unch.refl _)) (by intro p hp; cases hp) ?_
      (repeat ((with_reducible show adrawn _ _ _ _ _ _ _ _ _ _ _); first | (with_reducible refine adrawn_nil ?_) | (refine adrawn_do rfl rfl rfl (by (try (conv => (lhs; simp only [-List.reduceReplicate, ↓reduceIte, Nat.reduceEqDiff, Nat.reduceLT, Nat.reduceAdd, Nat.reduceMul, Nat.reduceLeDiff, Int.reduceLT, Int.reduceLE, Int.reduceToNat, reduceCtorEq, go_sem]))); try exact rfl) (by first | exact Nat.le_refl _ | exact Nat.le_succ _) (by first | exact .inl (Unch.refl _) | exact .inl (Unch.push _ _) | exact .inr (by decide)) ?_; first | refine aput_some rfl (Nat.le_of_ble_eq_true rfl) ?_ | refine aput_none rfl ?_) | (refine adrawn_skip rfl rfl (Nat.le_of_ble_eq_true rfl) ?_) | (refine adrawn_skip0 rfl rfl ?_)))
      refine then_normal (hN12 _ _ ?_); try clear hN12 N12
      refine awp_ret ?_; (repeat (first | (with_reducible refine then_ret ?_) | (with_reducible refine block_ret ?_)))
      exact end_ret rfl ⟨rfl, hun⟩

theorem t40 {A0 A : AHeap} {g m c : Nat} {pm first0 : Value} {k : Kind} {G : List NE} {F : List (List Int)} (h0 : GA A0 g m c pm first0 k G F) (hu0 : Unch A0 A) (hn0 : A0.n ≤ A.n) {v : List Int} (hv : vok v = true) :
    SimW Try.prog 40 [.pointer (some ⟨g, 0, none⟩), vagg v] A (fun r A' => ReadsV A0 r (nextB G F v) ∧ (∀ w ∈ nextB G F v, vok w = true) ∧ Unch A A' ∧ A.n ≤ A'.n) := by
  have h := h0.mono hu0 hn0
  have hg := h.hg
  have hgn := h.hgn
  have hgn' : (g = A.n) = False := by simp; omega
  have hmn := h.hN.lt
  have l1 := vcells_len hv
  have gf : getCells (vcells v) 0 33 = some (vcells v) := by
    unfold getCells; rw [if_pos (by omega), List.drop_zero, ← l1, List.take_length]
  have hun : Unch A (A.push (.row (vcells v) .fix)) := Unch.push _ _
  have hr := veql hv vok_root
  have hlk := lookup_v (P := Try.prog) (A := A.push (.row (vcells v) .fix)) (t := 35) mp35 lay27 (by rw [hun m hmn]; exact h.hN.f) h.hN.vm hv false
  rw [findN_vfind] at hlk
  have hnb : nextB G F v = match decide (v = vroot) with | true => F | false => match findN v G with | some x => x.next | none => [] := by unfold nextB; rw [leq_eq]; rfl
  
  by_cases hvr : v = vroot
  · 
    rw [decide_eq_true hvr] at hr hnb
    have hnb : nextB G F v = F := hnb
    rw [hnb]
    refine simW_of_awp fine mixed Try.func40 rfl rfl (Nat.le_of_ble_eq_true rfl) ?_
    refine awp_seq fun N13 hN13 => ?_
    refine awp_region ?_
    (repeat ((with_reducible show aops _ _ _ _ _ _ _); first | (with_reducible refine aops_nil ?_) | (refine aops_do rfl rfl (by (try (conv => (lhs; simp only [-List.reduceReplicate, ↓reduceIte, Nat.reduceEqDiff, Nat.reduceLT, Nat.reduceAdd, Nat.reduceMul, Nat.reduceLeDiff, Int.reduceLT, Int.reduceLE, Int.reduceToNat, reduceCtorEq, go_sem]))); try exact rfl) ?_; first | refine aput_some rfl (Nat.le_of_ble_eq_true rfl) ?_ | refine aput_none rfl ?_) | (refine aops_skip rfl rfl (Nat.le_of_ble_eq_true rfl) ?_) | (refine aops_skip0 rfl rfl ?_)))
    refine then_normal (hN13 _ _ ?_); try clear hN13 N13
    refine awp_seq fun N14 hN14 => ?_
    refine awp_seq fun N15 hN15 => ?_
    refine awp_drawn [] (by kernel_rfl) ?_
    (repeat ((with_reducible show adrawn _ _ _ _ _ _ _ _ _ _ _); first | (with_reducible refine adrawn_nil ?_) | (refine adrawn_do rfl rfl rfl (by (try (conv => (lhs; simp only [-List.reduceReplicate, ↓reduceIte, Nat.reduceEqDiff, Nat.reduceLT, Nat.reduceAdd, Nat.reduceMul, Nat.reduceLeDiff, Int.reduceLT, Int.reduceLE, Int.reduceToNat, reduceCtorEq, go_sem, gf]))); try exact rfl) (by first | exact Nat.le_refl _ | exact Nat.le_succ _) (by first | exact .inl (Unch.refl _) | exact .inl (Unch.push _ _) | exact .inr (by decide)) ?_; first | refine aput_some rfl (Nat.le_of_ble_eq_true rfl) ?_ | refine aput_none rfl ?_) | (refine adrawn_skip rfl rfl (Nat.le_of_ble_eq_true rfl) ?_) | (refine adrawn_skip0 rfl rfl ?_)))
    refine adrawn_call (hs := t39 _) rfl rfl rfl rfl (Nat.le_of_ble_eq_true rfl) rfl (Nat.le_refl _) (.inl (Unch.refl _)) (by intro p hp; cases hp) ?_
    (repeat ((with_reducible show adrawn _ _ _ _ _ _ _ _ _ _ _); first | (with_reducible refine adrawn_nil ?_) | (refine adrawn_do rfl rfl rfl (by (try (conv => (lhs; simp only [-List.reduceReplicate, ↓reduceIte, Nat.reduceEqDiff, Nat.reduceLT, Nat.reduceAdd, Nat.reduceMul, Nat.reduceLeDiff, Int.reduceLT, Int.reduceLE, Int.reduceToNat, reduceCtorEq, go_sem, hr]))); try exact rfl) (by first | exact Nat.le_refl _ | exact Nat.le_succ _) (by first | exact .inl (Unch.refl _) | exact .inl (Unch.push _ _) | exact .inr (by decide)) ?_; first | refine aput_some rfl (Nat.le_of_ble_eq_true rfl) ?_ | refine aput_none rfl ?_) | (refine adrawn_skip rfl rfl (Nat.le_of_ble_eq_true rfl) ?_) | (refine adrawn_skip0 rfl rfl ?_)))
    refine then_normal (hN15 _ _ ?_); try clear hN15 N15
    refine awp_true rfl ?_
    refine awp_seq fun N16 hN16 => ?_
    refine awp_region ?_
    (repeat ((with_reducible show aops _ _ _ _ _ _ _); first | (with_reducible refine aops_nil ?_) | (refine aops_do rfl rfl (by (try (conv => (lhs; simp only [-List.reduceReplicate, ↓reduceIte, Nat.reduceEqDiff, Nat.reduceLT, Nat.reduceAdd, Nat.reduceMul, Nat.reduceLeDiff, Int.reduceLT, Int.reduceLE, Int.reduceToNat, reduceCtorEq, go_sem, AHeap.push_f, hgn', hg]))); try exact rfl) ?_; first | refine aput_some rfl (Nat.le_of_ble_eq_true rfl) ?_ | refine aput_none rfl ?_) | (refine aops_skip rfl rfl (Nat.le_of_ble_eq_true rfl) ?_) | (refine aops_skip0 rfl rfl ?_)))
    refine then_normal (hN16 _ _ ?_); try clear hN16 N16
    refine awp_ret ?_; (repeat (first | (with_reducible refine then_ret ?_) | (with_reducible refine block_ret ?_)))
    exact end_ret rfl ⟨h0.hF, h0.hFv, hun, Nat.le_succ _⟩
    
  · rw [decide_eq_false hvr] at hr hnb
    refine simW_of_awp fine mixed Try.func40 rfl rfl (Nat.le_of_ble_eq_true rfl) ?_
    refine awp_seq fun N17 hN17 => ?_
    refine awp_region ?_
    (repeat ((with_reducible show aops _ _ _ _ _ _ _); first | (with_reducible refine aops_nil ?_) | (refine aops_do rfl rfl (by (try (conv => (lhs; simp only [-List.reduceReplicate, ↓reduceIte, Nat.reduceEqDiff, Nat.reduceLT, Nat.reduceAdd, Nat.reduceMul, Nat.reduceLeDiff, Int.reduceLT, Int.reduceLE, Int.reduceToNat, reduceCtorEq, go_sem]))); try exact rfl) ?_; first | refine aput_some rfl (Nat.le_of_ble_eq_true rfl) ?_ | refine aput_none rfl ?_) | (refine aops_skip rfl rfl (Nat.le_of_ble_eq_true rfl) ?_) | (refine aops_skip0 rfl rfl ?_)))
    refine then_normal (hN17 _ _ ?_); try clear hN17 N17
    refine awp_seq fun N18 hN18 => ?_
    refine awp_seq fun N19 hN19 => ?_
    refine awp_drawn [] (by kernel_rfl) ?_
    (repeat ((with_reducible show adrawn _ _ _ _ _ _ _ _ _ _ _); first | (with_reducible refine adrawn_nil ?_) | (refine adrawn_do rfl rfl rfl (by (try (conv => (lhs; simp only [-List.reduceReplicate, ↓reduceIte, Nat.reduceEqDiff, Nat.reduceLT, Nat.reduceAdd, Nat.reduceMul, Nat.reduceLeDiff, Int.reduceLT, Int.reduceLE, Int.reduceToNat, reduceCtorEq, go_sem, gf]))); try exact rfl) (by first | exact Nat.le_refl _ | exact Nat.le_succ _) (by first | exact .inl (Unch.refl _) | exact .inl (Unch.push _ _) | exact .inr (by decide)) ?_; first | refine aput_some rfl (Nat.le_of_ble_eq_true rfl) ?_ | refine aput_none rfl ?_) | (refine adrawn_skip rfl rfl (Nat.le_of_ble_eq_true rfl) ?_) | (refine adrawn_skip0 rfl rfl ?_)))
    refine adrawn_call (hs := t39 _) rfl rfl rfl rfl (Nat.le_of_ble_eq_true rfl) rfl (Nat.le_refl _) (.inl (Unch.refl _)) (by intro p hp; cases hp) ?_
    (repeat ((with_reducible show adrawn _ _ _ _ _ _ _ _ _ _ _); first | (with_reducible refine adrawn_nil ?_) | (refine adrawn_do rfl rfl rfl (by (try (conv => (lhs; simp only [-List.reduceReplicate, ↓reduceIte, Nat.reduceEqDiff, Nat.reduceLT, Nat.reduceAdd, Nat.reduceMul, Nat.reduceLeDiff, Int.reduceLT, Int.reduceLE, Int.reduceToNat, reduceCtorEq, go_sem, hr]))); try exact rfl) (by first | exact Nat.le_refl _ | exact Nat.le_succ _) (by first | exact .inl (Unch.refl _) | exact .inl (Unch.push _ _) | exact .inr (by decide)) ?_; first | refine aput_some rfl (Nat.le_of_ble_eq_true rfl) ?_ | refine aput_none rfl ?_) | (refine adrawn_skip rfl rfl (Nat.le_of_ble_eq_true rfl) ?_) | (refine adrawn_skip0 rfl rfl ?_)))
    refine then_normal (hN19 _ _ ?_); try clear hN19 N19
    refine awp_false rfl ?_
    refine awp_skip ?_
    refine then_normal (hN18 _ _ ?_); try clear hN18 N18
    refine awp_seq fun N20 hN20 => ?_
    refine awp_drawn [] (by kernel_rfl) ?_
    cases hf : findN v G with
    | some x =>
      rw [hf] at hlk
      simp only [Option.map_some, Bool.false_eq_true, if_false, NE.val] at hlk
      
      (repeat ((with_reducible show adrawn _ _ _ _ _ _ _ _ _ _ _); first | (with_reducible refine adrawn_nil ?_) | (refine adrawn_do rfl rfl rfl (by (try (conv => (lhs; simp only [-List.reduceReplicate, ↓reduceIte, Nat.reduceEqDiff, Nat.reduceLT, Nat.reduceAdd, Nat.reduceMul, Nat.reduceLeDiff, Int.reduceLT, Int.reduceLE, Int.reduceToNat, reduceCtorEq, go_sem, AHeap.push_f, hgn', hg, gf, hlk]))); try exact rfl) (by first | exact Nat.le_refl _ | exact Nat.le_succ _) (by first | exact .inl (Unch.refl _) | exact .inl (Unch.push _ _) | exact .inr (by decide)) ?_; first | refine aput_some rfl (Nat.le_of_ble_eq_true rfl) ?_ | refine aput_none rfl ?_) | (refine adrawn_skip rfl rfl (Nat.le_of_ble_eq_true rfl) ?_) | (refine adrawn_skip0 rfl rfl ?_)))
      refine then_normal (hN20 _ _ ?_); try clear hN20 N20
      refine awp_ret ?_; (repeat (first | (with_reducible refine then_ret ?_) | (with_reducible refine block_ret ?_)))
      have hnb : nextB G F v = x.next := by rw [hnb]; simp only [hf]
      exact end_ret rfl ⟨by rw [hnb]; exact h0.hN.reads x (findN_mem hf).1, by rw [hnb]; exact h.hN.vok x (findN_mem hf).1, hun, Nat.le_succ _⟩
      
    | none =>
      rw [hf] at hlk
      simp only [Option.map_none, Bool.false_eq_true, if_false, zv89, Option.map_some] at hlk
      (repeat ((with_reducible show adrawn _ _ _ _ _ _ _ _ _ _ _); first | (with_reducible refine adrawn_nil ?_) | (refine adrawn_do rfl rfl rfl (by (try (conv => (lhs; simp only [-List.reduceReplicate, ↓reduceIte, Nat.reduceEqDiff, Nat.reduceLT, Nat.reduceAdd, Nat.reduceMul, Nat.reduceLeDiff, Int.reduceLT, Int.reduceLE, Int.reduceToNat, reduceCtorEq, go_sem, AHeap.push_f, hgn', hg, gf, hlk]))); try exact rfl) (by first | exact Nat.le_refl _ | exact Nat.le_succ _) (by first | exact .inl (Unch.refl _) | exact .inl (Unch.push _ _) | exact .inr (by decide)) ?_; first | refine aput_some rfl (Nat.le_of_ble_eq_true rfl) ?_ | refine aput_none rfl ?_) | (refine adrawn_skip rfl rfl (Nat.le_of_ble_eq_true rfl) ?_) | (refine adrawn_skip0 rfl rfl ?_)))
      refine then_normal (hN20 _ _ ?_); try clear hN20 N20
      refine awp_ret ?_; (repeat (first | (with_reducible refine then_ret ?_) | (with_reducible refine block_ret ?_)))
      have hnb : nextB G F v = [] := by rw [hnb]; simp only [hf]
      exact end_ret rfl ⟨by rw [hnb]; exact ⟨none, 0, rfl, fun i hi => by simp at hi⟩, fun w hw => (by rw [hnb] at hw; simp at hw), hun, Nat.le_succ _⟩
end Go.AB.Try
