/-
  (*Graph).Before.
-/
import Derived.Test.YtcbmjgagbfhigaaH5
namespace Go.AB.Try
open Go Go.AB Go.Proofs Go.IntWalk
set_option linter.unusedSimpArgs false
set_option linter.unusedVariables false
set_option maxRecDepth 10000
set_option maxHeartbeats 1000000
attribute [local irreducible] aops adrawn awp SimW

theorem app29 : appType Try.prog 29 29 = some (33, 40) := by
  unfold appType; simp only [sl29, sz27, by27, zc27, Try.underlying29]; rfl

theorem scanB_cons (b w : List Int) (ws seen stack : List (List Int)) : scanB b (w :: ws) seen stack = match leq w b with
    | true => none
    | false => match memL w seen with
      | true => scanB b ws seen stack
      | false => scanB b ws (w :: seen) (w :: stack) := rfl

theorem scan_len (b : List Int) : ∀ (l seen stack : List (List Int)) {s' t' : List (List Int)}, scanB b l seen stack = some (s', t') → t'.length ≤ stack.length + l.length
  | [], seen, stack, s', t', h => by unfold scanB at h; cases h; exact Nat.le_refl _
  | w :: l, seen, stack, s', t', h => by
    unfold scanB at h
    split at h
    · cases h
    · split at h
      · have := scan_len b l _ _ h; simp only [List.length_cons]; omega
      · have := scan_len b l _ _ h; simp only [List.length_cons] at this ⊢; omega

/-- the state of Before: the seen ones at q, the stack -/
structure BSt (A0 A : AHeap) (q : Nat) (s : Value) (st : List (List Int)) (L : List VE) (cl : Nat) (seen : List (List Int)) : Prop where
  unch : Unch A0 A
  n : A0.n ≤ A.n
  q0 : A0.n ≤ q
  qn : q < A.n
  fq : A.f q = some (.map (vents L) cl)
  vm : VM L cl
  seen : ∀ w, (vfind w L).isSome = memL w seen
  stk : Stk A s st
  s0 : ∀ b, own s = some b → A0.n ≤ b ∧ b ≠ q
  vals : ∀ x ∈ L, x.v = .agg ⟨[]⟩

section
variable {A0 A A' : AHeap} {q cl : Nat} {s s' : Value} {st st' seen : List (List Int)} {L : List VE}
theorem BSt.more (h : BSt A0 A q s st L cl seen) (hu : Unch A A') (hn : A.n ≤ A'.n) : BSt A0 A' q s st L cl seen :=
  ⟨h.unch.trans h.n hu, Nat.le_trans h.n hn, h.q0, Nat.lt_of_lt_of_le h.qn hn, by rw [hu q h.qn]; exact h.fq, h.vm, h.seen, h.stk.mono hn (fun b hb => hu b (h.stk.own_lt hb)), h.s0, h.vals⟩
theorem BSt.pop (h : BSt A0 A q s st L cl seen) (hk : Stk A s' st') (ho : own s' = own s) : BSt A0 A q s' st' L cl seen :=
  ⟨h.unch, h.n, h.q0, h.qn, h.fq, h.vm, h.seen, hk, fun b hb => h.s0 b (by rw [← ho]; exact hb), h.vals⟩
theorem BSt.push (h : BSt A0 A q s st L cl seen) (hk : Stk A' s' st') (hg : Grew A A' s s') : BSt A0 A' q s' st' L cl seen := by
  have hq0 := h.q0
  have hqn := h.qn
  have hn := h.n
  refine ⟨fun i hi => ?_, Nat.le_trans h.n hg.n, h.q0, Nat.lt_of_lt_of_le h.qn hg.n, ?_, h.vm, h.seen, hk, fun b hb => ?_, h.vals⟩
  · rw [hg.frame i (by omega) (fun e => by have := (h.s0 i e).1; omega)]; exact h.unch i hi
  · rw [hg.frame q h.qn (fun e => (h.s0 q e).2 rfl)]; exact h.fq
  · rcases hg.own with e | ⟨b', e, hb'⟩
    · rw [e] at hb; exact h.s0 b hb
    · rw [e] at hb; cases hb; exact ⟨by omega, by omega⟩
theorem BSt.put (h : BSt A0 A q s st L cl seen) {w : List Int} (hw : vok w = true) : BSt A0 (A.set q (.map (vents (vput w (.agg ⟨[]⟩) cl L)) (vclock w L cl))) q s st (vput w (.agg ⟨[]⟩) cl L) (vclock w L cl) (w :: seen) := by
  have hq0 := h.q0
  refine ⟨fun i hi => by rw [AHeap.set_other _ _ (by omega)]; exact h.unch i hi, h.n, h.q0, h.qn, AHeap.set_same _ _ _, h.vm.put hw _, fun u => ?_, h.stk.mono (Nat.le_refl _) (fun b hb => AHeap.set_other _ _ (h.s0 b hb).2), h.s0, fun x hx => ?_⟩
  rotate_left
  · rcases vput_mem hx with ⟨_, e⟩ | e
    · exact e
    · exact h.vals x e
  have := vfind_put (k := w) (k' := u) (v := .agg ⟨[]⟩) (c := cl) (L := L)
  have e1 : (vfind u (vput w (.agg ⟨[]⟩) cl L)).isSome = ((vfind u (vput w (.agg ⟨[]⟩) cl L)).map (·.v)).isSome := by cases vfind u (vput w (.agg ⟨[]⟩) cl L) <;> rfl
  rw [e1, this]
  unfold memL
  rw [leq_eq]
  by_cases hu : u = w
  · subst hu; simp
  · have hu' : ¬ w = u := fun e => hu e.symm
    rw [if_neg hu, decide_eq_false hu']
    have e2 : ((vfind u L).map (·.v)).isSome = (vfind u L).isSome := by cases vfind u L <;> rfl
    rw [e2, h.seen u]
end

theorem next_len {G : List NE} {F : List (List Int)} (hF : F.length ≤ 1000) (hG : edges G ≤ 1000) (v : List Int) : (nextB G F v).length ≤ 1000 := by
  unfold nextB
  split
  · exact hF
  · split
    · rename_i x hx; exact Nat.le_trans (edges_mem (findN_mem hx).1) hG
    · simp

theorem t16 {A : AHeap} {g m c : Nat} {pm first0 : Value} {k : Kind} {G : List NE} {F : List (List Int)} (h : GA A g m c pm first0 k G F) {a b : List Int} (ha : vok a = true) (hb : vok b = true)
    {fuel : Nat} {r : Bool} (hF : F.length ≤ 1000) (hG : edges G ≤ 1000) (hfu : fuel ≤ 100000) (hr : beforeB G F fuel a b = some r) :
    SimW Try.prog 16 [.pointer (some ⟨g, 0, none⟩), vagg a, vagg b] A (fun v A' => v = .bool r ∧ A' = A) := by
  refine SimW.dropK (K := fun v A' => v = .bool r ∧ Unch A A') ?_ (fun v' A' h => h) rfl
  have la := vcells_len ha
  have lb := vcells_len hb
  have ga : getCells (vcells a) 0 33 = some (vcells a) := by
    unfold getCells; rw [if_pos (by omega), List.drop_zero, ← la, List.take_length]
  have gb : getCells (vcells b) 0 33 = some (vcells b) := by
    unfold getCells; rw [if_pos (by omega), List.drop_zero, ← lb, List.take_length]
  have hun : Unch A ((A.push (.row (vcells a) .fix)).push (.row (vcells b) .fix)) := (Unch.push _ _).trans (Nat.le_succ _) (Unch.push _ _)
  have h1 := h.mono hun (by simp only [AHeap.push_n]; omega)
  have ta := t23 h1 ha
  have tb := t23 h1 hb
  have qab := veql ha hb
  have qae := veql ha vok_end
  have qbr := veql hb vok_root
  have qar := veql ha vok_root
  have qbe := veql hb vok_end
  unfold beforeB at hr
  rw [leq_eq, leq_eq, leq_eq, leq_eq, leq_eq] at hr
  
  cases hha : hasB G a with
  | false =>
    rw [hha] at ta hr
    cases hr
    
    refine simW_of_awp fine mixed Try.func16 rfl rfl (Nat.le_of_ble_eq_true rfl) ?_
    refine awp_seq fun N1 hN1 => ?_
    refine awp_region ?_
    (repeat ((with_reducible show aops _ _ _ _ _ _ _); first | (with_reducible refine aops_nil ?_) | (refine aops_do rfl rfl (by (try (conv => (lhs; simp only [-List.reduceReplicate, ↓reduceIte, Nat.reduceEqDiff, Nat.reduceLT, Nat.reduceAdd, Nat.reduceMul, Nat.reduceLeDiff, Int.reduceLT, Int.reduceLE, Int.reduceToNat, reduceCtorEq, go_sem]))); try exact rfl) ?_; first | refine aput_some rfl (Nat.le_of_ble_eq_true rfl) ?_ | refine aput_none rfl ?_) | (refine aops_skip rfl rfl (Nat.le_of_ble_eq_true rfl) ?_) | (refine aops_skip0 rfl rfl ?_)))
    refine then_normal (hN1 _ _ ?_); try clear hN1 N1
    refine awp_seq fun NM hNM => ?_
    refine awp_block ?_
    refine awp_seq fun N3 hN3 => ?_
    refine awp_drawn [] (by kernel_rfl) ?_
    (repeat ((with_reducible show adrawn _ _ _ _ _ _ _ _ _ _ _); first | (with_reducible refine adrawn_nil ?_) | (refine adrawn_do rfl rfl rfl (by (try (conv => (lhs; simp only [-List.reduceReplicate, ↓reduceIte, Nat.reduceEqDiff, Nat.reduceLT, Nat.reduceAdd, Nat.reduceMul, Nat.reduceLeDiff, Int.reduceLT, Int.reduceLE, Int.reduceToNat, reduceCtorEq, go_sem, AHeap.push_f, ga]))); try exact rfl) (by first | exact Nat.le_refl _ | exact Nat.le_succ _) (by first | exact .inl (Unch.refl _) | exact .inl (Unch.push _ _) | exact .inr (by decide)) ?_; first | refine aput_some rfl (Nat.le_of_ble_eq_true rfl) ?_ | refine aput_none rfl ?_) | (refine adrawn_skip rfl rfl (Nat.le_of_ble_eq_true rfl) ?_) | (refine adrawn_skip0 rfl rfl ?_)))
    refine adrawn_call (hs := ta) rfl rfl rfl rfl (Nat.le_of_ble_eq_true rfl) rfl (Nat.le_refl _) (.inl (Unch.refl _)) (by intro p hp; cases hp) ?_
    (repeat ((with_reducible show adrawn _ _ _ _ _ _ _ _ _ _ _); first | (with_reducible refine adrawn_nil ?_) | (refine adrawn_do rfl rfl rfl (by (try (conv => (lhs; simp only [-List.reduceReplicate, ↓reduceIte, Nat.reduceEqDiff, Nat.reduceLT, Nat.reduceAdd, Nat.reduceMul, Nat.reduceLeDiff, Int.reduceLT, Int.reduceLE, Int.reduceToNat, reduceCtorEq, go_sem]))); try exact rfl) (by first | exact Nat.le_refl _ | exact Nat.le_succ _) (by first | exact .inl (Unch.refl _) | exact .inl (Unch.push _ _) | exact .inr (by decide)) ?_; first | refine aput_some rfl (Nat.le_of_ble_eq_true rfl) ?_ | refine aput_none rfl ?_) | (refine adrawn_skip rfl rfl (Nat.le_of_ble_eq_true rfl) ?_) | (refine adrawn_skip0 rfl rfl ?_)))
    refine then_normal (hN3 _ _ ?_); try clear hN3 N3
    refine awp_true rfl ?_
    refine awp_seq fun N4 hN4 => ?_
    refine awp_region ?_
    (repeat ((with_reducible show aops _ _ _ _ _ _ _); first | (with_reducible refine aops_nil ?_) | (refine aops_do rfl rfl (by (try (conv => (lhs; simp only [-List.reduceReplicate, ↓reduceIte, Nat.reduceEqDiff, Nat.reduceLT, Nat.reduceAdd, Nat.reduceMul, Nat.reduceLeDiff, Int.reduceLT, Int.reduceLE, Int.reduceToNat, reduceCtorEq, go_sem]))); try exact rfl) ?_; first | refine aput_some rfl (Nat.le_of_ble_eq_true rfl) ?_ | refine aput_none rfl ?_) | (refine aops_skip rfl rfl (Nat.le_of_ble_eq_true rfl) ?_) | (refine aops_skip0 rfl rfl ?_)))
    refine then_normal (hN4 _ _ ?_); try clear hN4 N4
    refine awp_ret ?_; (repeat (first | (with_reducible refine then_ret ?_) | (with_reducible refine block_ret ?_)))
    exact end_ret rfl ⟨rfl, hun⟩
    
  | true =>
   rw [hha] at ta hr
   cases hhb : hasB G b with
   | false =>
    rw [hhb] at tb hr
    cases hr
    
    refine simW_of_awp fine mixed Try.func16 rfl rfl (Nat.le_of_ble_eq_true rfl) ?_
    refine awp_seq fun N5 hN5 => ?_
    refine awp_region ?_
    (repeat ((with_reducible show aops _ _ _ _ _ _ _); first | (with_reducible refine aops_nil ?_) | (refine aops_do rfl rfl (by (try (conv => (lhs; simp only [-List.reduceReplicate, ↓reduceIte, Nat.reduceEqDiff, Nat.reduceLT, Nat.reduceAdd, Nat.reduceMul, Nat.reduceLeDiff, Int.reduceLT, Int.reduceLE, Int.reduceToNat, reduceCtorEq, go_sem]))); try exact rfl) ?_; first | refine aput_some rfl (Nat.le_of_ble_eq_true rfl) ?_ | refine aput_none rfl ?_) | (refine aops_skip rfl rfl (Nat.le_of_ble_eq_true rfl) ?_) | (refine aops_skip0 rfl rfl ?_)))
    refine then_normal (hN5 _ _ ?_); try clear hN5 N5
    refine awp_seq fun NM hNM => ?_
    refine awp_block ?_
    refine awp_seq fun N7 hN7 => ?_
    refine awp_drawn [] (by kernel_rfl) ?_
    (repeat ((with_reducible show adrawn _ _ _ _ _ _ _ _ _ _ _); first | (with_reducible refine adrawn_nil ?_) | (refine adrawn_do rfl rfl rfl (by (try (conv => (lhs; simp only [-List.reduceReplicate, ↓reduceIte, Nat.reduceEqDiff, Nat.reduceLT, Nat.reduceAdd, Nat.reduceMul, Nat.reduceLeDiff, Int.reduceLT, Int.reduceLE, Int.reduceToNat, reduceCtorEq, go_sem, AHeap.push_f, ga]))); try exact rfl) (by first | exact Nat.le_refl _ | exact Nat.le_succ _) (by first | exact .inl (Unch.refl _) | exact .inl (Unch.push _ _) | exact .inr (by decide)) ?_; first | refine aput_some rfl (Nat.le_of_ble_eq_true rfl) ?_ | refine aput_none rfl ?_) | (refine adrawn_skip rfl rfl (Nat.le_of_ble_eq_true rfl) ?_) | (refine adrawn_skip0 rfl rfl ?_)))
    refine adrawn_call (hs := ta) rfl rfl rfl rfl (Nat.le_of_ble_eq_true rfl) rfl (Nat.le_refl _) (.inl (Unch.refl _)) (by intro p hp; cases hp) ?_
    (repeat ((with_reducible show adrawn _ _ _ _ _ _ _ _ _ _ _); first | (with_reducible refine adrawn_nil ?_) | (refine adrawn_do rfl rfl rfl (by (try (conv => (lhs; simp only [-List.reduceReplicate, ↓reduceIte, Nat.reduceEqDiff, Nat.reduceLT, Nat.reduceAdd, Nat.reduceMul, Nat.reduceLeDiff, Int.reduceLT, Int.reduceLE, Int.reduceToNat, reduceCtorEq, go_sem, AHeap.push_f, gb]))); try exact rfl) (by first | exact Nat.le_refl _ | exact Nat.le_succ _) (by first | exact .inl (Unch.refl _) | exact .inl (Unch.push _ _) | exact .inr (by decide)) ?_; first | refine aput_some rfl (Nat.le_of_ble_eq_true rfl) ?_ | refine aput_none rfl ?_) | (refine adrawn_skip rfl rfl (Nat.le_of_ble_eq_true rfl) ?_) | (refine adrawn_skip0 rfl rfl ?_)))
    refine adrawn_call (hs := tb) rfl rfl rfl rfl (Nat.le_of_ble_eq_true rfl) rfl (Nat.le_refl _) (.inl (Unch.refl _)) (by intro p hp; cases hp) ?_
    (repeat ((with_reducible show adrawn _ _ _ _ _ _ _ _ _ _ _); first | (with_reducible refine adrawn_nil ?_) | (refine adrawn_do rfl rfl rfl (by (try (conv => (lhs; simp only [-List.reduceReplicate, ↓reduceIte, Nat.reduceEqDiff, Nat.reduceLT, Nat.reduceAdd, Nat.reduceMul, Nat.reduceLeDiff, Int.reduceLT, Int.reduceLE, Int.reduceToNat, reduceCtorEq, go_sem]))); try exact rfl) (by first | exact Nat.le_refl _ | exact Nat.le_succ _) (by first | exact .inl (Unch.refl _) | exact .inl (Unch.push _ _) | exact .inr (by decide)) ?_; first | refine aput_some rfl (Nat.le_of_ble_eq_true rfl) ?_ | refine aput_none rfl ?_) | (refine adrawn_skip rfl rfl (Nat.le_of_ble_eq_true rfl) ?_) | (refine adrawn_skip0 rfl rfl ?_)))
    refine then_normal (hN7 _ _ ?_); try clear hN7 N7
    refine awp_true rfl ?_
    refine awp_seq fun N8 hN8 => ?_
    refine awp_region ?_
    (repeat ((with_reducible show aops _ _ _ _ _ _ _); first | (with_reducible refine aops_nil ?_) | (refine aops_do rfl rfl (by (try (conv => (lhs; simp only [-List.reduceReplicate, ↓reduceIte, Nat.reduceEqDiff, Nat.reduceLT, Nat.reduceAdd, Nat.reduceMul, Nat.reduceLeDiff, Int.reduceLT, Int.reduceLE, Int.reduceToNat, reduceCtorEq, go_sem]))); try exact rfl) ?_; first | refine aput_some rfl (Nat.le_of_ble_eq_true rfl) ?_ | refine aput_none rfl ?_) | (refine aops_skip rfl rfl (Nat.le_of_ble_eq_true rfl) ?_) | (refine aops_skip0 rfl rfl ?_)))
    refine then_normal (hN8 _ _ ?_); try clear hN8 N8
    refine awp_ret ?_; (repeat (first | (with_reducible refine then_ret ?_) | (with_reducible refine block_ret ?_)))
    exact end_ret rfl ⟨rfl, hun⟩
    
   | true =>
    rw [hhb] at tb hr
    by_cases hab : a = b
    · rw [decide_eq_true hab] at qab hr
      cases hr
      
      refine simW_of_awp fine mixed Try.func16 rfl rfl (Nat.le_of_ble_eq_true rfl) ?_
      refine awp_seq fun N9 hN9 => ?_
      refine awp_region ?_
      (repeat ((with_reducible show aops _ _ _ _ _ _ _); first | (with_reducible refine aops_nil ?_) | (refine aops_do rfl rfl (by (try (conv => (lhs; simp only [-List.reduceReplicate, ↓reduceIte, Nat.reduceEqDiff, Nat.reduceLT, Nat.reduceAdd, Nat.reduceMul, Nat.reduceLeDiff, Int.reduceLT, Int.reduceLE, Int.reduceToNat, reduceCtorEq, go_sem]))); try exact rfl) ?_; first | refine aput_some rfl (Nat.le_of_ble_eq_true rfl) ?_ | refine aput_none rfl ?_) | (refine aops_skip rfl rfl (Nat.le_of_ble_eq_true rfl) ?_) | (refine aops_skip0 rfl rfl ?_)))
      refine then_normal (hN9 _ _ ?_); try clear hN9 N9
      refine awp_seq fun NM hNM => ?_
      refine awp_block ?_
      refine awp_seq fun N11 hN11 => ?_
      refine awp_drawn [] (by kernel_rfl) ?_
      (repeat ((with_reducible show adrawn _ _ _ _ _ _ _ _ _ _ _); first | (with_reducible refine adrawn_nil ?_) | (refine adrawn_do rfl rfl rfl (by (try (conv => (lhs; simp only [-List.reduceReplicate, ↓reduceIte, Nat.reduceEqDiff, Nat.reduceLT, Nat.reduceAdd, Nat.reduceMul, Nat.reduceLeDiff, Int.reduceLT, Int.reduceLE, Int.reduceToNat, reduceCtorEq, go_sem, AHeap.push_f, ga]))); try exact rfl) (by first | exact Nat.le_refl _ | exact Nat.le_succ _) (by first | exact .inl (Unch.refl _) | exact .inl (Unch.push _ _) | exact .inr (by decide)) ?_; first | refine aput_some rfl (Nat.le_of_ble_eq_true rfl) ?_ | refine aput_none rfl ?_) | (refine adrawn_skip rfl rfl (Nat.le_of_ble_eq_true rfl) ?_) | (refine adrawn_skip0 rfl rfl ?_)))
      refine adrawn_call (hs := ta) rfl rfl rfl rfl (Nat.le_of_ble_eq_true rfl) rfl (Nat.le_refl _) (.inl (Unch.refl _)) (by intro p hp; cases hp) ?_
      (repeat ((with_reducible show adrawn _ _ _ _ _ _ _ _ _ _ _); first | (with_reducible refine adrawn_nil ?_) | (refine adrawn_do rfl rfl rfl (by (try (conv => (lhs; simp only [-List.reduceReplicate, ↓reduceIte, Nat.reduceEqDiff, Nat.reduceLT, Nat.reduceAdd, Nat.reduceMul, Nat.reduceLeDiff, Int.reduceLT, Int.reduceLE, Int.reduceToNat, reduceCtorEq, go_sem, AHeap.push_f, gb]))); try exact rfl) (by first | exact Nat.le_refl _ | exact Nat.le_succ _) (by first | exact .inl (Unch.refl _) | exact .inl (Unch.push _ _) | exact .inr (by decide)) ?_; first | refine aput_some rfl (Nat.le_of_ble_eq_true rfl) ?_ | refine aput_none rfl ?_) | (refine adrawn_skip rfl rfl (Nat.le_of_ble_eq_true rfl) ?_) | (refine adrawn_skip0 rfl rfl ?_)))
      refine adrawn_call (hs := tb) rfl rfl rfl rfl (Nat.le_of_ble_eq_true rfl) rfl (Nat.le_refl _) (.inl (Unch.refl _)) (by intro p hp; cases hp) ?_
      (repeat ((with_reducible show adrawn _ _ _ _ _ _ _ _ _ _ _); first | (with_reducible refine adrawn_nil ?_) | (refine adrawn_do rfl rfl rfl (by (try (conv => (lhs; simp only [-List.reduceReplicate, ↓reduceIte, Nat.reduceEqDiff, Nat.reduceLT, Nat.reduceAdd, Nat.reduceMul, Nat.reduceLeDiff, Int.reduceLT, Int.reduceLE, Int.reduceToNat, reduceCtorEq, go_sem, AHeap.push_f, ga, gb, qab]))); try exact rfl) (by first | exact Nat.le_refl _ | exact Nat.le_succ _) (by first | exact .inl (Unch.refl _) | exact .inl (Unch.push _ _) | exact .inr (by decide)) ?_; first | refine aput_some rfl (Nat.le_of_ble_eq_true rfl) ?_ | refine aput_none rfl ?_) | (refine adrawn_skip rfl rfl (Nat.le_of_ble_eq_true rfl) ?_) | (refine adrawn_skip0 rfl rfl ?_)))
      refine then_normal (hN11 _ _ ?_); try clear hN11 N11
      refine awp_true rfl ?_
      refine awp_seq fun N12 hN12 => ?_
      refine awp_region ?_
      (repeat ((with_reducible show aops _ _ _ _ _ _ _); first | (with_reducible refine aops_nil ?_) | (refine aops_do rfl rfl (by (try (conv => (lhs; simp only [-List.reduceReplicate, ↓reduceIte, Nat.reduceEqDiff, Nat.reduceLT, Nat.reduceAdd, Nat.reduceMul, Nat.reduceLeDiff, Int.reduceLT, Int.reduceLE, Int.reduceToNat, reduceCtorEq, go_sem]))); try exact rfl) ?_; first | refine aput_some rfl (Nat.le_of_ble_eq_true rfl) ?_ | refine aput_none rfl ?_) | (refine aops_skip rfl rfl (Nat.le_of_ble_eq_true rfl) ?_) | (refine aops_skip0 rfl rfl ?_)))
      refine then_normal (hN12 _ _ ?_); try clear hN12 N12
      refine awp_ret ?_; (repeat (first | (with_reducible refine then_ret ?_) | (with_reducible refine block_ret ?_)))
      exact end_ret rfl ⟨rfl, hun⟩
      
    rw [decide_eq_false hab] at qab hr
    by_cases hae : a = vend
    · rw [decide_eq_true hae] at qae hr
      cases hr
      
      refine simW_of_awp fine mixed Try.func16 rfl rfl (Nat.le_of_ble_eq_true rfl) ?_
      refine awp_seq fun N13 hN13 => ?_
      refine awp_region ?_
      (repeat ((with_reducible show aops _ _ _ _ _ _ _); first | (with_reducible refine aops_nil ?_) | (refine aops_do rfl rfl (by (try (conv => (lhs; simp only [-List.reduceReplicate, ↓reduceIte, Nat.reduceEqDiff, Nat.reduceLT, Nat.reduceAdd, Nat.reduceMul, Nat.reduceLeDiff, Int.reduceLT, Int.reduceLE, Int.reduceToNat, reduceCtorEq, go_sem]))); try exact rfl) ?_; first | refine aput_some rfl (Nat.le_of_ble_eq_true rfl) ?_ | refine aput_none rfl ?_) | (refine aops_skip rfl rfl (Nat.le_of_ble_eq_true rfl) ?_) | (refine aops_skip0 rfl rfl ?_)))
      refine then_normal (hN13 _ _ ?_); try clear hN13 N13
      refine awp_seq fun NM hNM => ?_
      refine awp_block ?_
      refine awp_seq fun N15 hN15 => ?_
      refine awp_drawn [] (by kernel_rfl) ?_
      (repeat ((with_reducible show adrawn _ _ _ _ _ _ _ _ _ _ _); first | (with_reducible refine adrawn_nil ?_) | (refine adrawn_do rfl rfl rfl (by (try (conv => (lhs; simp only [-List.reduceReplicate, ↓reduceIte, Nat.reduceEqDiff, Nat.reduceLT, Nat.reduceAdd, Nat.reduceMul, Nat.reduceLeDiff, Int.reduceLT, Int.reduceLE, Int.reduceToNat, reduceCtorEq, go_sem, AHeap.push_f, ga]))); try exact rfl) (by first | exact Nat.le_refl _ | exact Nat.le_succ _) (by first | exact .inl (Unch.refl _) | exact .inl (Unch.push _ _) | exact .inr (by decide)) ?_; first | refine aput_some rfl (Nat.le_of_ble_eq_true rfl) ?_ | refine aput_none rfl ?_) | (refine adrawn_skip rfl rfl (Nat.le_of_ble_eq_true rfl) ?_) | (refine adrawn_skip0 rfl rfl ?_)))
      refine adrawn_call (hs := ta) rfl rfl rfl rfl (Nat.le_of_ble_eq_true rfl) rfl (Nat.le_refl _) (.inl (Unch.refl _)) (by intro p hp; cases hp) ?_
      (repeat ((with_reducible show adrawn _ _ _ _ _ _ _ _ _ _ _); first | (with_reducible refine adrawn_nil ?_) | (refine adrawn_do rfl rfl rfl (by (try (conv => (lhs; simp only [-List.reduceReplicate, ↓reduceIte, Nat.reduceEqDiff, Nat.reduceLT, Nat.reduceAdd, Nat.reduceMul, Nat.reduceLeDiff, Int.reduceLT, Int.reduceLE, Int.reduceToNat, reduceCtorEq, go_sem, AHeap.push_f, gb]))); try exact rfl) (by first | exact Nat.le_refl _ | exact Nat.le_succ _) (by first | exact .inl (Unch.refl _) | exact .inl (Unch.push _ _) | exact .inr (by decide)) ?_; first | refine aput_some rfl (Nat.le_of_ble_eq_true rfl) ?_ | refine aput_none rfl ?_) | (refine adrawn_skip rfl rfl (Nat.le_of_ble_eq_true rfl) ?_) | (refine adrawn_skip0 rfl rfl ?_)))
      refine adrawn_call (hs := tb) rfl rfl rfl rfl (Nat.le_of_ble_eq_true rfl) rfl (Nat.le_refl _) (.inl (Unch.refl _)) (by intro p hp; cases hp) ?_
      (repeat ((with_reducible show adrawn _ _ _ _ _ _ _ _ _ _ _); first | (with_reducible refine adrawn_nil ?_) | (refine adrawn_do rfl rfl rfl (by (try (conv => (lhs; simp only [-List.reduceReplicate, ↓reduceIte, Nat.reduceEqDiff, Nat.reduceLT, Nat.reduceAdd, Nat.reduceMul, Nat.reduceLeDiff, Int.reduceLT, Int.reduceLE, Int.reduceToNat, reduceCtorEq, go_sem, AHeap.push_f, ga, gb, qab]))); try exact rfl) (by first | exact Nat.le_refl _ | exact Nat.le_succ _) (by first | exact .inl (Unch.refl _) | exact .inl (Unch.push _ _) | exact .inr (by decide)) ?_; first | refine aput_some rfl (Nat.le_of_ble_eq_true rfl) ?_ | refine aput_none rfl ?_) | (refine adrawn_skip rfl rfl (Nat.le_of_ble_eq_true rfl) ?_) | (refine adrawn_skip0 rfl rfl ?_)))
      refine adrawn_call (hs := t38 _) rfl rfl rfl rfl (Nat.le_of_ble_eq_true rfl) rfl (Nat.le_refl _) (.inl (Unch.refl _)) (by intro p hp; cases hp) ?_
      (repeat ((with_reducible show adrawn _ _ _ _ _ _ _ _ _ _ _); first | (with_reducible refine adrawn_nil ?_) | (refine adrawn_do rfl rfl rfl (by (try (conv => (lhs; simp only [-List.reduceReplicate, ↓reduceIte, Nat.reduceEqDiff, Nat.reduceLT, Nat.reduceAdd, Nat.reduceMul, Nat.reduceLeDiff, Int.reduceLT, Int.reduceLE, Int.reduceToNat, reduceCtorEq, go_sem, qae, AHeap.push_f, gb]))); try exact rfl) (by first | exact Nat.le_refl _ | exact Nat.le_succ _) (by first | exact .inl (Unch.refl _) | exact .inl (Unch.push _ _) | exact .inr (by decide)) ?_; first | refine aput_some rfl (Nat.le_of_ble_eq_true rfl) ?_ | refine aput_none rfl ?_) | (refine adrawn_skip rfl rfl (Nat.le_of_ble_eq_true rfl) ?_) | (refine adrawn_skip0 rfl rfl ?_)))
      refine then_normal (hN15 _ _ ?_); try clear hN15 N15
      refine awp_true rfl ?_
      refine awp_seq fun N16 hN16 => ?_
      refine awp_region ?_
      (repeat ((with_reducible show aops _ _ _ _ _ _ _); first | (with_reducible refine aops_nil ?_) | (refine aops_do rfl rfl (by (try (conv => (lhs; simp only [-List.reduceReplicate, ↓reduceIte, Nat.reduceEqDiff, Nat.reduceLT, Nat.reduceAdd, Nat.reduceMul, Nat.reduceLeDiff, Int.reduceLT, Int.reduceLE, Int.reduceToNat, reduceCtorEq, go_sem]))); try exact rfl) ?_; first | refine aput_some rfl (Nat.le_of_ble_eq_true rfl) ?_ | refine aput_none rfl ?_) | (refine aops_skip rfl rfl (Nat.le_of_ble_eq_true rfl) ?_) | (refine aops_skip0 rfl rfl ?_)))
      refine then_normal (hN16 _ _ ?_); try clear hN16 N16
      refine awp_ret ?_; (repeat (first | (with_reducible refine then_ret ?_) | (with_reducible refine block_ret ?_)))
      exact end_ret rfl ⟨rfl, hun⟩
      
    rw [decide_eq_false hae] at qae hr
    by_cases hbr : b = vroot
    · rw [decide_eq_true hbr] at qbr hr
      cases hr
      
      refine simW_of_awp fine mixed Try.func16 rfl rfl (Nat.le_of_ble_eq_true rfl) ?_
      refine awp_seq fun N17 hN17 => ?_
      refine awp_region ?_
      (repeat ((with_reducible show aops _ _ _ _ _ _ _); first | (with_reducible refine aops_nil ?_) | (refine aops_do rfl rfl (by (try (conv => (lhs; simp only [-List.reduceReplicate, ↓reduceIte, Nat.reduceEqDiff, Nat.reduceLT, Nat.reduceAdd, Nat.reduceMul, Nat.reduceLeDiff, Int.reduceLT, Int.reduceLE, Int.reduceToNat, reduceCtorEq, go_sem]))); try exact rfl) ?_; first | refine aput_some rfl (Nat.le_of_ble_eq_true rfl) ?_ | refine aput_none rfl ?_) | (refine aops_skip rfl rfl (Nat.le_of_ble_eq_true rfl) ?_) | (refine aops_skip0 rfl rfl ?_)))
      refine then_normal (hN17 _ _ ?_); try clear hN17 N17
      refine awp_seq fun NM hNM => ?_
      refine awp_block ?_
      refine awp_seq fun N19 hN19 => ?_
      refine awp_drawn [] (by kernel_rfl) ?_
      (repeat ((with_reducible show adrawn _ _ _ _ _ _ _ _ _ _ _); first | (with_reducible refine adrawn_nil ?_) | (refine adrawn_do rfl rfl rfl (by (try (conv => (lhs; simp only [-List.reduceReplicate, ↓reduceIte, Nat.reduceEqDiff, Nat.reduceLT, Nat.reduceAdd, Nat.reduceMul, Nat.reduceLeDiff, Int.reduceLT, Int.reduceLE, Int.reduceToNat, reduceCtorEq, go_sem, AHeap.push_f, ga]))); try exact rfl) (by first | exact Nat.le_refl _ | exact Nat.le_succ _) (by first | exact .inl (Unch.refl _) | exact .inl (Unch.push _ _) | exact .inr (by decide)) ?_; first | refine aput_some rfl (Nat.le_of_ble_eq_true rfl) ?_ | refine aput_none rfl ?_) | (refine adrawn_skip rfl rfl (Nat.le_of_ble_eq_true rfl) ?_) | (refine adrawn_skip0 rfl rfl ?_)))
      refine adrawn_call (hs := ta) rfl rfl rfl rfl (Nat.le_of_ble_eq_true rfl) rfl (Nat.le_refl _) (.inl (Unch.refl _)) (by intro p hp; cases hp) ?_
      (repeat ((with_reducible show adrawn _ _ _ _ _ _ _ _ _ _ _); first | (with_reducible refine adrawn_nil ?_) | (refine adrawn_do rfl rfl rfl (by (try (conv => (lhs; simp only [-List.reduceReplicate, ↓reduceIte, Nat.reduceEqDiff, Nat.reduceLT, Nat.reduceAdd, Nat.reduceMul, Nat.reduceLeDiff, Int.reduceLT, Int.reduceLE, Int.reduceToNat, reduceCtorEq, go_sem, AHeap.push_f, gb]))); try exact rfl) (by first | exact Nat.le_refl _ | exact Nat.le_succ _) (by first | exact .inl (Unch.refl _) | exact .inl (Unch.push _ _) | exact .inr (by decide)) ?_; first | refine aput_some rfl (Nat.le_of_ble_eq_true rfl) ?_ | refine aput_none rfl ?_) | (refine adrawn_skip rfl rfl (Nat.le_of_ble_eq_true rfl) ?_) | (refine adrawn_skip0 rfl rfl ?_)))
      refine adrawn_call (hs := tb) rfl rfl rfl rfl (Nat.le_of_ble_eq_true rfl) rfl (Nat.le_refl _) (.inl (Unch.refl _)) (by intro p hp; cases hp) ?_
      (repeat ((with_reducible show adrawn _ _ _ _ _ _ _ _ _ _ _); first | (with_reducible refine adrawn_nil ?_) | (refine adrawn_do rfl rfl rfl (by (try (conv => (lhs; simp only [-List.reduceReplicate, ↓reduceIte, Nat.reduceEqDiff, Nat.reduceLT, Nat.reduceAdd, Nat.reduceMul, Nat.reduceLeDiff, Int.reduceLT, Int.reduceLE, Int.reduceToNat, reduceCtorEq, go_sem, AHeap.push_f, ga, gb, qab]))); try exact rfl) (by first | exact Nat.le_refl _ | exact Nat.le_succ _) (by first | exact .inl (Unch.refl _) | exact .inl (Unch.push _ _) | exact .inr (by decide)) ?_; first | refine aput_some rfl (Nat.le_of_ble_eq_true rfl) ?_ | refine aput_none rfl ?_) | (refine adrawn_skip rfl rfl (Nat.le_of_ble_eq_true rfl) ?_) | (refine adrawn_skip0 rfl rfl ?_)))
      refine adrawn_call (hs := t38 _) rfl rfl rfl rfl (Nat.le_of_ble_eq_true rfl) rfl (Nat.le_refl _) (.inl (Unch.refl _)) (by intro p hp; cases hp) ?_
      (repeat ((with_reducible show adrawn _ _ _ _ _ _ _ _ _ _ _); first | (with_reducible refine adrawn_nil ?_) | (refine adrawn_do rfl rfl rfl (by (try (conv => (lhs; simp only [-List.reduceReplicate, ↓reduceIte, Nat.reduceEqDiff, Nat.reduceLT, Nat.reduceAdd, Nat.reduceMul, Nat.reduceLeDiff, Int.reduceLT, Int.reduceLE, Int.reduceToNat, reduceCtorEq, go_sem, qae, AHeap.push_f, gb]))); try exact rfl) (by first | exact Nat.le_refl _ | exact Nat.le_succ _) (by first | exact .inl (Unch.refl _) | exact .inl (Unch.push _ _) | exact .inr (by decide)) ?_; first | refine aput_some rfl (Nat.le_of_ble_eq_true rfl) ?_ | refine aput_none rfl ?_) | (refine adrawn_skip rfl rfl (Nat.le_of_ble_eq_true rfl) ?_) | (refine adrawn_skip0 rfl rfl ?_)))
      refine adrawn_call (hs := t39 _) rfl rfl rfl rfl (Nat.le_of_ble_eq_true rfl) rfl (Nat.le_refl _) (.inl (Unch.refl _)) (by intro p hp; cases hp) ?_
      (repeat ((with_reducible show adrawn _ _ _ _ _ _ _ _ _ _ _); first | (with_reducible refine adrawn_nil ?_) | (refine adrawn_do rfl rfl rfl (by (try (conv => (lhs; simp only [-List.reduceReplicate, ↓reduceIte, Nat.reduceEqDiff, Nat.reduceLT, Nat.reduceAdd, Nat.reduceMul, Nat.reduceLeDiff, Int.reduceLT, Int.reduceLE, Int.reduceToNat, reduceCtorEq, go_sem, qbr]))); try exact rfl) (by first | exact Nat.le_refl _ | exact Nat.le_succ _) (by first | exact .inl (Unch.refl _) | exact .inl (Unch.push _ _) | exact .inr (by decide)) ?_; first | refine aput_some rfl (Nat.le_of_ble_eq_true rfl) ?_ | refine aput_none rfl ?_) | (refine adrawn_skip rfl rfl (Nat.le_of_ble_eq_true rfl) ?_) | (refine adrawn_skip0 rfl rfl ?_)))
      refine then_normal (hN19 _ _ ?_); try clear hN19 N19
      refine awp_true rfl ?_
      refine awp_seq fun N20 hN20 => ?_
      refine awp_region ?_
      (repeat ((with_reducible show aops _ _ _ _ _ _ _); first | (with_reducible refine aops_nil ?_) | (refine aops_do rfl rfl (by (try (conv => (lhs; simp only [-List.reduceReplicate, ↓reduceIte, Nat.reduceEqDiff, Nat.reduceLT, Nat.reduceAdd, Nat.reduceMul, Nat.reduceLeDiff, Int.reduceLT, Int.reduceLE, Int.reduceToNat, reduceCtorEq, go_sem]))); try exact rfl) ?_; first | refine aput_some rfl (Nat.le_of_ble_eq_true rfl) ?_ | refine aput_none rfl ?_) | (refine aops_skip rfl rfl (Nat.le_of_ble_eq_true rfl) ?_) | (refine aops_skip0 rfl rfl ?_)))
      refine then_normal (hN20 _ _ ?_); try clear hN20 N20
      refine awp_ret ?_; (repeat (first | (with_reducible refine then_ret ?_) | (with_reducible refine block_ret ?_)))
      exact end_ret rfl ⟨rfl, hun⟩
      
    rw [decide_eq_false hbr] at qbr hr
    simp only [Bool.and_self, Bool.not_false] at hr
    by_cases har : a = vroot
    · rw [decide_eq_true har] at qar hr
      cases hr
      
      refine simW_of_awp fine mixed Try.func16 rfl rfl (Nat.le_of_ble_eq_true rfl) ?_
      refine awp_seq fun N21 hN21 => ?_
      refine awp_region ?_
      (repeat ((with_reducible show aops _ _ _ _ _ _ _); first | (with_reducible refine aops_nil ?_) | (refine aops_do rfl rfl (by (try (conv => (lhs; simp only [-List.reduceReplicate, ↓reduceIte, Nat.reduceEqDiff, Nat.reduceLT, Nat.reduceAdd, Nat.reduceMul, Nat.reduceLeDiff, Int.reduceLT, Int.reduceLE, Int.reduceToNat, reduceCtorEq, go_sem]))); try exact rfl) ?_; first | refine aput_some rfl (Nat.le_of_ble_eq_true rfl) ?_ | refine aput_none rfl ?_) | (refine aops_skip rfl rfl (Nat.le_of_ble_eq_true rfl) ?_) | (refine aops_skip0 rfl rfl ?_)))
      refine then_normal (hN21 _ _ ?_); try clear hN21 N21
      refine awp_seq fun NM hNM => ?_
      refine awp_block ?_
      refine awp_seq fun N23 hN23 => ?_
      refine awp_drawn [] (by kernel_rfl) ?_
      (repeat ((with_reducible show adrawn _ _ _ _ _ _ _ _ _ _ _); first | (with_reducible refine adrawn_nil ?_) | (refine adrawn_do rfl rfl rfl (by (try (conv => (lhs; simp only [-List.reduceReplicate, ↓reduceIte, Nat.reduceEqDiff, Nat.reduceLT, Nat.reduceAdd, Nat.reduceMul, Nat.reduceLeDiff, Int.reduceLT, Int.reduceLE, Int.reduceToNat, reduceCtorEq, go_sem, AHeap.push_f, ga]))); try exact rfl) (by first | exact Nat.le_refl _ | exact Nat.le_succ _) (by first | exact .inl (Unch.refl _) | exact .inl (Unch.push _ _) | exact .inr (by decide)) ?_; first | refine aput_some rfl (Nat.le_of_ble_eq_true rfl) ?_ | refine aput_none rfl ?_) | (refine adrawn_skip rfl rfl (Nat.le_of_ble_eq_true rfl) ?_) | (refine adrawn_skip0 rfl rfl ?_)))
      refine adrawn_call (hs := ta) rfl rfl rfl rfl (Nat.le_of_ble_eq_true rfl) rfl (Nat.le_refl _) (.inl (Unch.refl _)) (by intro p hp; cases hp) ?_
      (repeat ((with_reducible show adrawn _ _ _ _ _ _ _ _ _ _ _); first | (with_reducible refine adrawn_nil ?_) | (refine adrawn_do rfl rfl rfl (by (try (conv => (lhs; simp only [-List.reduceReplicate, ↓reduceIte, Nat.reduceEqDiff, Nat.reduceLT, Nat.reduceAdd, Nat.reduceMul, Nat.reduceLeDiff, Int.reduceLT, Int.reduceLE, Int.reduceToNat, reduceCtorEq, go_sem, AHeap.push_f, gb]))); try exact rfl) (by first | exact Nat.le_refl _ | exact Nat.le_succ _) (by first | exact .inl (Unch.refl _) | exact .inl (Unch.push _ _) | exact .inr (by decide)) ?_; first | refine aput_some rfl (Nat.le_of_ble_eq_true rfl) ?_ | refine aput_none rfl ?_) | (refine adrawn_skip rfl rfl (Nat.le_of_ble_eq_true rfl) ?_) | (refine adrawn_skip0 rfl rfl ?_)))
      refine adrawn_call (hs := tb) rfl rfl rfl rfl (Nat.le_of_ble_eq_true rfl) rfl (Nat.le_refl _) (.inl (Unch.refl _)) (by intro p hp; cases hp) ?_
      (repeat ((with_reducible show adrawn _ _ _ _ _ _ _ _ _ _ _); first | (with_reducible refine adrawn_nil ?_) | (refine adrawn_do rfl rfl rfl (by (try (conv => (lhs; simp only [-List.reduceReplicate, ↓reduceIte, Nat.reduceEqDiff, Nat.reduceLT, Nat.reduceAdd, Nat.reduceMul, Nat.reduceLeDiff, Int.reduceLT, Int.reduceLE, Int.reduceToNat, reduceCtorEq, go_sem, AHeap.push_f, ga, gb, qab]))); try exact rfl) (by first | exact Nat.le_refl _ | exact Nat.le_succ _) (by first | exact .inl (Unch.refl _) | exact .inl (Unch.push _ _) | exact .inr (by decide)) ?_; first | refine aput_some rfl (Nat.le_of_ble_eq_true rfl) ?_ | refine aput_none rfl ?_) | (refine adrawn_skip rfl rfl (Nat.le_of_ble_eq_true rfl) ?_) | (refine adrawn_skip0 rfl rfl ?_)))
      refine adrawn_call (hs := t38 _) rfl rfl rfl rfl (Nat.le_of_ble_eq_true rfl) rfl (Nat.le_refl _) (.inl (Unch.refl _)) (by intro p hp; cases hp) ?_
      (repeat ((with_reducible show adrawn _ _ _ _ _ _ _ _ _ _ _); first | (with_reducible refine adrawn_nil ?_) | (refine adrawn_do rfl rfl rfl (by (try (conv => (lhs; simp only [-List.reduceReplicate, ↓reduceIte, Nat.reduceEqDiff, Nat.reduceLT, Nat.reduceAdd, Nat.reduceMul, Nat.reduceLeDiff, Int.reduceLT, Int.reduceLE, Int.reduceToNat, reduceCtorEq, go_sem, qae, AHeap.push_f, gb]))); try exact rfl) (by first | exact Nat.le_refl _ | exact Nat.le_succ _) (by first | exact .inl (Unch.refl _) | exact .inl (Unch.push _ _) | exact .inr (by decide)) ?_; first | refine aput_some rfl (Nat.le_of_ble_eq_true rfl) ?_ | refine aput_none rfl ?_) | (refine adrawn_skip rfl rfl (Nat.le_of_ble_eq_true rfl) ?_) | (refine adrawn_skip0 rfl rfl ?_)))
      refine adrawn_call (hs := t39 _) rfl rfl rfl rfl (Nat.le_of_ble_eq_true rfl) rfl (Nat.le_refl _) (.inl (Unch.refl _)) (by intro p hp; cases hp) ?_
      (repeat ((with_reducible show adrawn _ _ _ _ _ _ _ _ _ _ _); first | (with_reducible refine adrawn_nil ?_) | (refine adrawn_do rfl rfl rfl (by (try (conv => (lhs; simp only [-List.reduceReplicate, ↓reduceIte, Nat.reduceEqDiff, Nat.reduceLT, Nat.reduceAdd, Nat.reduceMul, Nat.reduceLeDiff, Int.reduceLT, Int.reduceLE, Int.reduceToNat, reduceCtorEq, go_sem, qbr]))); try exact rfl) (by first | exact Nat.le_refl _ | exact Nat.le_succ _) (by first | exact .inl (Unch.refl _) | exact .inl (Unch.push _ _) | exact .inr (by decide)) ?_; first | refine aput_some rfl (Nat.le_of_ble_eq_true rfl) ?_ | refine aput_none rfl ?_) | (refine adrawn_skip rfl rfl (Nat.le_of_ble_eq_true rfl) ?_) | (refine adrawn_skip0 rfl rfl ?_)))
      refine then_normal (hN23 _ _ ?_); try clear hN23 N23
      refine awp_false rfl ?_
      refine awp_seq fun N24 hN24 => ?_
      refine awp_drawn [] (by kernel_rfl) ?_
      (repeat ((with_reducible show adrawn _ _ _ _ _ _ _ _ _ _ _); first | (with_reducible refine adrawn_nil ?_) | (refine adrawn_do rfl rfl rfl (by (try (conv => (lhs; simp only [-List.reduceReplicate, ↓reduceIte, Nat.reduceEqDiff, Nat.reduceLT, Nat.reduceAdd, Nat.reduceMul, Nat.reduceLeDiff, Int.reduceLT, Int.reduceLE, Int.reduceToNat, reduceCtorEq, go_sem, AHeap.push_f, ga]))); try exact rfl) (by first | exact Nat.le_refl _ | exact Nat.le_succ _) (by first | exact .inl (Unch.refl _) | exact .inl (Unch.push _ _) | exact .inr (by decide)) ?_; first | refine aput_some rfl (Nat.le_of_ble_eq_true rfl) ?_ | refine aput_none rfl ?_) | (refine adrawn_skip rfl rfl (Nat.le_of_ble_eq_true rfl) ?_) | (refine adrawn_skip0 rfl rfl ?_)))
      refine adrawn_call (hs := t39 _) rfl rfl rfl rfl (Nat.le_of_ble_eq_true rfl) rfl (Nat.le_refl _) (.inl (Unch.refl _)) (by intro p hp; cases hp) ?_
      (repeat ((with_reducible show adrawn _ _ _ _ _ _ _ _ _ _ _); first | (with_reducible refine adrawn_nil ?_) | (refine adrawn_do rfl rfl rfl (by (try (conv => (lhs; simp only [-List.reduceReplicate, ↓reduceIte, Nat.reduceEqDiff, Nat.reduceLT, Nat.reduceAdd, Nat.reduceMul, Nat.reduceLeDiff, Int.reduceLT, Int.reduceLE, Int.reduceToNat, reduceCtorEq, go_sem, qar, AHeap.push_f, gb]))); try exact rfl) (by first | exact Nat.le_refl _ | exact Nat.le_succ _) (by first | exact .inl (Unch.refl _) | exact .inl (Unch.push _ _) | exact .inr (by decide)) ?_; first | refine aput_some rfl (Nat.le_of_ble_eq_true rfl) ?_ | refine aput_none rfl ?_) | (refine adrawn_skip rfl rfl (Nat.le_of_ble_eq_true rfl) ?_) | (refine adrawn_skip0 rfl rfl ?_)))
      refine then_normal (hN24 _ _ ?_); try clear hN24 N24
      refine awp_true rfl ?_
      refine awp_seq fun N25 hN25 => ?_
      refine awp_region ?_
      (repeat ((with_reducible show aops _ _ _ _ _ _ _); first | (with_reducible refine aops_nil ?_) | (refine aops_do rfl rfl (by (try (conv => (lhs; simp only [-List.reduceReplicate, ↓reduceIte, Nat.reduceEqDiff, Nat.reduceLT, Nat.reduceAdd, Nat.reduceMul, Nat.reduceLeDiff, Int.reduceLT, Int.reduceLE, Int.reduceToNat, reduceCtorEq, go_sem]))); try exact rfl) ?_; first | refine aput_some rfl (Nat.le_of_ble_eq_true rfl) ?_ | refine aput_none rfl ?_) | (refine aops_skip rfl rfl (Nat.le_of_ble_eq_true rfl) ?_) | (refine aops_skip0 rfl rfl ?_)))
      refine then_normal (hN25 _ _ ?_); try clear hN25 N25
      refine awp_ret ?_; (repeat (first | (with_reducible refine then_ret ?_) | (with_reducible refine block_ret ?_)))
      exact end_ret rfl ⟨rfl, hun⟩
      
    rw [decide_eq_false har] at qar hr
    by_cases hbe : b = vend
    · rw [decide_eq_true hbe] at qbe hr
      cases hr
      
      refine simW_of_awp fine mixed Try.func16 rfl rfl (Nat.le_of_ble_eq_true rfl) ?_
      refine awp_seq fun N26 hN26 => ?_
      refine awp_region ?_
      (repeat ((with_reducible show aops _ _ _ _ _ _ _); first | (with_reducible refine aops_nil ?_) | (refine aops_do rfl rfl (by (try (conv => (lhs; simp only [-List.reduceReplicate, ↓reduceIte, Nat.reduceEqDiff, Nat.reduceLT, Nat.reduceAdd, Nat.reduceMul, Nat.reduceLeDiff, Int.reduceLT, Int.reduceLE, Int.reduceToNat, reduceCtorEq, go_sem]))); try exact rfl) ?_; first | refine aput_some rfl (Nat.le_of_ble_eq_true rfl) ?_ | refine aput_none rfl ?_) | (refine aops_skip rfl rfl (Nat.le_of_ble_eq_true rfl) ?_) | (refine aops_skip0 rfl rfl ?_)))
      refine then_normal (hN26 _ _ ?_); try clear hN26 N26
      refine awp_seq fun NM hNM => ?_
      refine awp_block ?_
      refine awp_seq fun N28 hN28 => ?_
      refine awp_drawn [] (by kernel_rfl) ?_
      (repeat ((with_reducible show adrawn _ _ _ _ _ _ _ _ _ _ _); first | (with_reducible refine adrawn_nil ?_) | (refine adrawn_do rfl rfl rfl (by (try (conv => (lhs; simp only [-List.reduceReplicate, ↓reduceIte, Nat.reduceEqDiff, Nat.reduceLT, Nat.reduceAdd, Nat.reduceMul, Nat.reduceLeDiff, Int.reduceLT, Int.reduceLE, Int.reduceToNat, reduceCtorEq, go_sem, AHeap.push_f, ga]))); try exact rfl) (by first | exact Nat.le_refl _ | exact Nat.le_succ _) (by first | exact .inl (Unch.refl _) | exact .inl (Unch.push _ _) | exact .inr (by decide)) ?_; first | refine aput_some rfl (Nat.le_of_ble_eq_true rfl) ?_ | refine aput_none rfl ?_) | (refine adrawn_skip rfl rfl (Nat.le_of_ble_eq_true rfl) ?_) | (refine adrawn_skip0 rfl rfl ?_)))
      refine adrawn_call (hs := ta) rfl rfl rfl rfl (Nat.le_of_ble_eq_true rfl) rfl (Nat.le_refl _) (.inl (Unch.refl _)) (by intro p hp; cases hp) ?_
      (repeat ((with_reducible show adrawn _ _ _ _ _ _ _ _ _ _ _); first | (with_reducible refine adrawn_nil ?_) | (refine adrawn_do rfl rfl rfl (by (try (conv => (lhs; simp only [-List.reduceReplicate, ↓reduceIte, Nat.reduceEqDiff, Nat.reduceLT, Nat.reduceAdd, Nat.reduceMul, Nat.reduceLeDiff, Int.reduceLT, Int.reduceLE, Int.reduceToNat, reduceCtorEq, go_sem, AHeap.push_f, gb]))); try exact rfl) (by first | exact Nat.le_refl _ | exact Nat.le_succ _) (by first | exact .inl (Unch.refl _) | exact .inl (Unch.push _ _) | exact .inr (by decide)) ?_; first | refine aput_some rfl (Nat.le_of_ble_eq_true rfl) ?_ | refine aput_none rfl ?_) | (refine adrawn_skip rfl rfl (Nat.le_of_ble_eq_true rfl) ?_) | (refine adrawn_skip0 rfl rfl ?_)))
      refine adrawn_call (hs := tb) rfl rfl rfl rfl (Nat.le_of_ble_eq_true rfl) rfl (Nat.le_refl _) (.inl (Unch.refl _)) (by intro p hp; cases hp) ?_
      (repeat ((with_reducible show adrawn _ _ _ _ _ _ _ _ _ _ _); first | (with_reducible refine adrawn_nil ?_) | (refine adrawn_do rfl rfl rfl (by (try (conv => (lhs; simp only [-List.reduceReplicate, ↓reduceIte, Nat.reduceEqDiff, Nat.reduceLT, Nat.reduceAdd, Nat.reduceMul, Nat.reduceLeDiff, Int.reduceLT, Int.reduceLE, Int.reduceToNat, reduceCtorEq, go_sem, AHeap.push_f, ga, gb, qab]))); try exact rfl) (by first | exact Nat.le_refl _ | exact Nat.le_succ _) (by first | exact .inl (Unch.refl _) | exact .inl (Unch.push _ _) | exact .inr (by decide)) ?_; first | refine aput_some rfl (Nat.le_of_ble_eq_true rfl) ?_ | refine aput_none rfl ?_) | (refine adrawn_skip rfl rfl (Nat.le_of_ble_eq_true rfl) ?_) | (refine adrawn_skip0 rfl rfl ?_)))
      refine adrawn_call (hs := t38 _) rfl rfl rfl rfl (Nat.le_of_ble_eq_true rfl) rfl (Nat.le_refl _) (.inl (Unch.refl _)) (by intro p hp; cases hp) ?_
      (repeat ((with_reducible show adrawn _ _ _ _ _ _ _ _ _ _ _); first | (with_reducible refine adrawn_nil ?_) | (refine adrawn_do rfl rfl rfl (by (try (conv => (lhs; simp only [-List.reduceReplicate, ↓reduceIte, Nat.reduceEqDiff, Nat.reduceLT, Nat.reduceAdd, Nat.reduceMul, Nat.reduceLeDiff, Int.reduceLT, Int.reduceLE, Int.reduceToNat, reduceCtorEq, go_sem, qae, AHeap.push_f, gb]))); try exact rfl) (by first | exact Nat.le_refl _ | exact Nat.le_succ _) (by first | exact .inl (Unch.refl _) | exact .inl (Unch.push _ _) | exact .inr (by decide)) ?_; first | refine aput_some rfl (Nat.le_of_ble_eq_true rfl) ?_ | refine aput_none rfl ?_) | (refine adrawn_skip rfl rfl (Nat.le_of_ble_eq_true rfl) ?_) | (refine adrawn_skip0 rfl rfl ?_)))
      refine adrawn_call (hs := t39 _) rfl rfl rfl rfl (Nat.le_of_ble_eq_true rfl) rfl (Nat.le_refl _) (.inl (Unch.refl _)) (by intro p hp; cases hp) ?_
      (repeat ((with_reducible show adrawn _ _ _ _ _ _ _ _ _ _ _); first | (with_reducible refine adrawn_nil ?_) | (refine adrawn_do rfl rfl rfl (by (try (conv => (lhs; simp only [-List.reduceReplicate, ↓reduceIte, Nat.reduceEqDiff, Nat.reduceLT, Nat.reduceAdd, Nat.reduceMul, Nat.reduceLeDiff, Int.reduceLT, Int.reduceLE, Int.reduceToNat, reduceCtorEq, go_sem, qbr]))); try exact rfl) (by first | exact Nat.le_refl _ | exact Nat.le_succ _) (by first | exact .inl (Unch.refl _) | exact .inl (Unch.push _ _) | exact .inr (by decide)) ?_; first | refine aput_some rfl (Nat.le_of_ble_eq_true rfl) ?_ | refine aput_none rfl ?_) | (refine adrawn_skip rfl rfl (Nat.le_of_ble_eq_true rfl) ?_) | (refine adrawn_skip0 rfl rfl ?_)))
      refine then_normal (hN28 _ _ ?_); try clear hN28 N28
      refine awp_false rfl ?_
      refine awp_seq fun N29 hN29 => ?_
      refine awp_drawn [] (by kernel_rfl) ?_
      (repeat ((with_reducible show adrawn _ _ _ _ _ _ _ _ _ _ _); first | (with_reducible refine adrawn_nil ?_) | (refine adrawn_do rfl rfl rfl (by (try (conv => (lhs; simp only [-List.reduceReplicate, ↓reduceIte, Nat.reduceEqDiff, Nat.reduceLT, Nat.reduceAdd, Nat.reduceMul, Nat.reduceLeDiff, Int.reduceLT, Int.reduceLE, Int.reduceToNat, reduceCtorEq, go_sem, AHeap.push_f, ga]))); try exact rfl) (by first | exact Nat.le_refl _ | exact Nat.le_succ _) (by first | exact .inl (Unch.refl _) | exact .inl (Unch.push _ _) | exact .inr (by decide)) ?_; first | refine aput_some rfl (Nat.le_of_ble_eq_true rfl) ?_ | refine aput_none rfl ?_) | (refine adrawn_skip rfl rfl (Nat.le_of_ble_eq_true rfl) ?_) | (refine adrawn_skip0 rfl rfl ?_)))
      refine adrawn_call (hs := t39 _) rfl rfl rfl rfl (Nat.le_of_ble_eq_true rfl) rfl (Nat.le_refl _) (.inl (Unch.refl _)) (by intro p hp; cases hp) ?_
      (repeat ((with_reducible show adrawn _ _ _ _ _ _ _ _ _ _ _); first | (with_reducible refine adrawn_nil ?_) | (refine adrawn_do rfl rfl rfl (by (try (conv => (lhs; simp only [-List.reduceReplicate, ↓reduceIte, Nat.reduceEqDiff, Nat.reduceLT, Nat.reduceAdd, Nat.reduceMul, Nat.reduceLeDiff, Int.reduceLT, Int.reduceLE, Int.reduceToNat, reduceCtorEq, go_sem, qar, AHeap.push_f, gb]))); try exact rfl) (by first | exact Nat.le_refl _ | exact Nat.le_succ _) (by first | exact .inl (Unch.refl _) | exact .inl (Unch.push _ _) | exact .inr (by decide)) ?_; first | refine aput_some rfl (Nat.le_of_ble_eq_true rfl) ?_ | refine aput_none rfl ?_) | (refine adrawn_skip rfl rfl (Nat.le_of_ble_eq_true rfl) ?_) | (refine adrawn_skip0 rfl rfl ?_)))
      refine adrawn_call (hs := t38 _) rfl rfl rfl rfl (Nat.le_of_ble_eq_true rfl) rfl (Nat.le_refl _) (.inl (Unch.refl _)) (by intro p hp; cases hp) ?_
      (repeat ((with_reducible show adrawn _ _ _ _ _ _ _ _ _ _ _); first | (with_reducible refine adrawn_nil ?_) | (refine adrawn_do rfl rfl rfl (by (try (conv => (lhs; simp only [-List.reduceReplicate, ↓reduceIte, Nat.reduceEqDiff, Nat.reduceLT, Nat.reduceAdd, Nat.reduceMul, Nat.reduceLeDiff, Int.reduceLT, Int.reduceLE, Int.reduceToNat, reduceCtorEq, go_sem, qbe]))); try exact rfl) (by first | exact Nat.le_refl _ | exact Nat.le_succ _) (by first | exact .inl (Unch.refl _) | exact .inl (Unch.push _ _) | exact .inr (by decide)) ?_; first | refine aput_some rfl (Nat.le_of_ble_eq_true rfl) ?_ | refine aput_none rfl ?_) | (refine adrawn_skip rfl rfl (Nat.le_of_ble_eq_true rfl) ?_) | (refine adrawn_skip0 rfl rfl ?_)))
      refine then_normal (hN29 _ _ ?_); try clear hN29 N29
      refine awp_true rfl ?_
      refine awp_seq fun N30 hN30 => ?_
      refine awp_region ?_
      (repeat ((with_reducible show aops _ _ _ _ _ _ _); first | (with_reducible refine aops_nil ?_) | (refine aops_do rfl rfl (by (try (conv => (lhs; simp only [-List.reduceReplicate, ↓reduceIte, Nat.reduceEqDiff, Nat.reduceLT, Nat.reduceAdd, Nat.reduceMul, Nat.reduceLeDiff, Int.reduceLT, Int.reduceLE, Int.reduceToNat, reduceCtorEq, go_sem]))); try exact rfl) ?_; first | refine aput_some rfl (Nat.le_of_ble_eq_true rfl) ?_ | refine aput_none rfl ?_) | (refine aops_skip rfl rfl (Nat.le_of_ble_eq_true rfl) ?_) | (refine aops_skip0 rfl rfl ?_)))
      refine then_normal (hN30 _ _ ?_); try clear hN30 N30
      refine awp_ret ?_; (repeat (first | (with_reducible refine then_ret ?_) | (with_reducible refine block_ret ?_)))
      exact end_ret rfl ⟨rfl, hun⟩
      
    rw [decide_eq_false hbe] at qbe hr
    simp only [Bool.or_self] at hr
    refine simW_of_awp fine mixed Try.func16 rfl rfl (Nat.le_of_ble_eq_true rfl) ?_
    refine awp_seq fun N31 hN31 => ?_
    refine awp_region ?_
    (repeat ((with_reducible show aops _ _ _ _ _ _ _); first | (with_reducible refine aops_nil ?_) | (refine aops_do rfl rfl (by (try (conv => (lhs; simp only [-List.reduceReplicate, ↓reduceIte, Nat.reduceEqDiff, Nat.reduceLT, Nat.reduceAdd, Nat.reduceMul, Nat.reduceLeDiff, Int.reduceLT, Int.reduceLE, Int.reduceToNat, reduceCtorEq, go_sem]))); try exact rfl) ?_; first | refine aput_some rfl (Nat.le_of_ble_eq_true rfl) ?_ | refine aput_none rfl ?_) | (refine aops_skip rfl rfl (Nat.le_of_ble_eq_true rfl) ?_) | (refine aops_skip0 rfl rfl ?_)))
    refine then_normal (hN31 _ _ ?_); try clear hN31 N31
    refine awp_seq fun NM hNM => ?_
    refine awp_block ?_
    refine awp_seq fun N33 hN33 => ?_
    refine awp_drawn [] (by kernel_rfl) ?_
    (repeat ((with_reducible show adrawn _ _ _ _ _ _ _ _ _ _ _); first | (with_reducible refine adrawn_nil ?_) | (refine adrawn_do rfl rfl rfl (by (try (conv => (lhs; simp only [-List.reduceReplicate, ↓reduceIte, Nat.reduceEqDiff, Nat.reduceLT, Nat.reduceAdd, Nat.reduceMul, Nat.reduceLeDiff, Int.reduceLT, Int.reduceLE, Int.reduceToNat, reduceCtorEq, go_sem, AHeap.push_f, ga]))); try exact rfl) (by first | exact Nat.le_refl _ | exact Nat.le_succ _) (by first | exact .inl (Unch.refl _) | exact .inl (Unch.push _ _) | exact .inr (by decide)) ?_; first | refine aput_some rfl (Nat.le_of_ble_eq_true rfl) ?_ | refine aput_none rfl ?_) | (refine adrawn_skip rfl rfl (Nat.le_of_ble_eq_true rfl) ?_) | (refine adrawn_skip0 rfl rfl ?_)))
    refine adrawn_call (hs := ta) rfl rfl rfl rfl (Nat.le_of_ble_eq_true rfl) rfl (Nat.le_refl _) (.inl (Unch.refl _)) (by intro p hp; cases hp) ?_
    (repeat ((with_reducible show adrawn _ _ _ _ _ _ _ _ _ _ _); first | (with_reducible refine adrawn_nil ?_) | (refine adrawn_do rfl rfl rfl (by (try (conv => (lhs; simp only [-List.reduceReplicate, ↓reduceIte, Nat.reduceEqDiff, Nat.reduceLT, Nat.reduceAdd, Nat.reduceMul, Nat.reduceLeDiff, Int.reduceLT, Int.reduceLE, Int.reduceToNat, reduceCtorEq, go_sem, AHeap.push_f, gb]))); try exact rfl) (by first | exact Nat.le_refl _ | exact Nat.le_succ _) (by first | exact .inl (Unch.refl _) | exact .inl (Unch.push _ _) | exact .inr (by decide)) ?_; first | refine aput_some rfl (Nat.le_of_ble_eq_true rfl) ?_ | refine aput_none rfl ?_) | (refine adrawn_skip rfl rfl (Nat.le_of_ble_eq_true rfl) ?_) | (refine adrawn_skip0 rfl rfl ?_)))
    refine adrawn_call (hs := tb) rfl rfl rfl rfl (Nat.le_of_ble_eq_true rfl) rfl (Nat.le_refl _) (.inl (Unch.refl _)) (by intro p hp; cases hp) ?_
    (repeat ((with_reducible show adrawn _ _ _ _ _ _ _ _ _ _ _); first | (with_reducible refine adrawn_nil ?_) | (refine adrawn_do rfl rfl rfl (by (try (conv => (lhs; simp only [-List.reduceReplicate, ↓reduceIte, Nat.reduceEqDiff, Nat.reduceLT, Nat.reduceAdd, Nat.reduceMul, Nat.reduceLeDiff, Int.reduceLT, Int.reduceLE, Int.reduceToNat, reduceCtorEq, go_sem, AHeap.push_f, ga, gb, qab]))); try exact rfl) (by first | exact Nat.le_refl _ | exact Nat.le_succ _) (by first | exact .inl (Unch.refl _) | exact .inl (Unch.push _ _) | exact .inr (by decide)) ?_; first | refine aput_some rfl (Nat.le_of_ble_eq_true rfl) ?_ | refine aput_none rfl ?_) | (refine adrawn_skip rfl rfl (Nat.le_of_ble_eq_true rfl) ?_) | (refine adrawn_skip0 rfl rfl ?_)))
    refine adrawn_call (hs := t38 _) rfl rfl rfl rfl (Nat.le_of_ble_eq_true rfl) rfl (Nat.le_refl _) (.inl (Unch.refl _)) (by intro p hp; cases hp) ?_
    (repeat ((with_reducible show adrawn _ _ _ _ _ _ _ _ _ _ _); first | (with_reducible refine adrawn_nil ?_) | (refine adrawn_do rfl rfl rfl (by (try (conv => (lhs; simp only [-List.reduceReplicate, ↓reduceIte, Nat.reduceEqDiff, Nat.reduceLT, Nat.reduceAdd, Nat.reduceMul, Nat.reduceLeDiff, Int.reduceLT, Int.reduceLE, Int.reduceToNat, reduceCtorEq, go_sem, qae, AHeap.push_f, gb]))); try exact rfl) (by first | exact Nat.le_refl _ | exact Nat.le_succ _) (by first | exact .inl (Unch.refl _) | exact .inl (Unch.push _ _) | exact .inr (by decide)) ?_; first | refine aput_some rfl (Nat.le_of_ble_eq_true rfl) ?_ | refine aput_none rfl ?_) | (refine adrawn_skip rfl rfl (Nat.le_of_ble_eq_true rfl) ?_) | (refine adrawn_skip0 rfl rfl ?_)))
    refine adrawn_call (hs := t39 _) rfl rfl rfl rfl (Nat.le_of_ble_eq_true rfl) rfl (Nat.le_refl _) (.inl (Unch.refl _)) (by intro p hp; cases hp) ?_
    (repeat ((with_reducible show adrawn _ _ _ _ _ _ _ _ _ _ _); first | (with_reducible refine adrawn_nil ?_) | (refine adrawn_do rfl rfl rfl (by (try (conv => (lhs; simp only [-List.reduceReplicate, ↓reduceIte, Nat.reduceEqDiff, Nat.reduceLT, Nat.reduceAdd, Nat.reduceMul, Nat.reduceLeDiff, Int.reduceLT, Int.reduceLE, Int.reduceToNat, reduceCtorEq, go_sem, qbr]))); try exact rfl) (by first | exact Nat.le_refl _ | exact Nat.le_succ _) (by first | exact .inl (Unch.refl _) | exact .inl (Unch.push _ _) | exact .inr (by decide)) ?_; first | refine aput_some rfl (Nat.le_of_ble_eq_true rfl) ?_ | refine aput_none rfl ?_) | (refine adrawn_skip rfl rfl (Nat.le_of_ble_eq_true rfl) ?_) | (refine adrawn_skip0 rfl rfl ?_)))
    refine then_normal (hN33 _ _ ?_); try clear hN33 N33
    refine awp_false rfl ?_
    refine awp_seq fun N34 hN34 => ?_
    refine awp_drawn [] (by kernel_rfl) ?_
    (repeat ((with_reducible show adrawn _ _ _ _ _ _ _ _ _ _ _); first | (with_reducible refine adrawn_nil ?_) | (refine adrawn_do rfl rfl rfl (by (try (conv => (lhs; simp only [-List.reduceReplicate, ↓reduceIte, Nat.reduceEqDiff, Nat.reduceLT, Nat.reduceAdd, Nat.reduceMul, Nat.reduceLeDiff, Int.reduceLT, Int.reduceLE, Int.reduceToNat, reduceCtorEq, go_sem, AHeap.push_f, ga]))); try exact rfl) (by first | exact Nat.le_refl _ | exact Nat.le_succ _) (by first | exact .inl (Unch.refl _) | exact .inl (Unch.push _ _) | exact .inr (by decide)) ?_; first | refine aput_some rfl (Nat.le_of_ble_eq_true rfl) ?_ | refine aput_none rfl ?_) | (refine adrawn_skip rfl rfl (Nat.le_of_ble_eq_true rfl) ?_) | (refine adrawn_skip0 rfl rfl ?_)))
    refine adrawn_call (hs := t39 _) rfl rfl rfl rfl (Nat.le_of_ble_eq_true rfl) rfl (Nat.le_refl _) (.inl (Unch.refl _)) (by intro p hp; cases hp) ?_
    (repeat ((with_reducible show adrawn _ _ _ _ _ _ _ _ _ _ _); first | (with_reducible refine adrawn_nil ?_) | (refine adrawn_do rfl rfl rfl (by (try (conv => (lhs; simp only [-List.reduceReplicate, ↓reduceIte, Nat.reduceEqDiff, Nat.reduceLT, Nat.reduceAdd, Nat.reduceMul, Nat.reduceLeDiff, Int.reduceLT, Int.reduceLE, Int.reduceToNat, reduceCtorEq, go_sem, qar, AHeap.push_f, gb]))); try exact rfl) (by first | exact Nat.le_refl _ | exact Nat.le_succ _) (by first | exact .inl (Unch.refl _) | exact .inl (Unch.push _ _) | exact .inr (by decide)) ?_; first | refine aput_some rfl (Nat.le_of_ble_eq_true rfl) ?_ | refine aput_none rfl ?_) | (refine adrawn_skip rfl rfl (Nat.le_of_ble_eq_true rfl) ?_) | (refine adrawn_skip0 rfl rfl ?_)))
    refine adrawn_call (hs := t38 _) rfl rfl rfl rfl (Nat.le_of_ble_eq_true rfl) rfl (Nat.le_refl _) (.inl (Unch.refl _)) (by intro p hp; cases hp) ?_
    (repeat ((with_reducible show adrawn _ _ _ _ _ _ _ _ _ _ _); first | (with_reducible refine adrawn_nil ?_) | (refine adrawn_do rfl rfl rfl (by (try (conv => (lhs; simp only [-List.reduceReplicate, ↓reduceIte, Nat.reduceEqDiff, Nat.reduceLT, Nat.reduceAdd, Nat.reduceMul, Nat.reduceLeDiff, Int.reduceLT, Int.reduceLE, Int.reduceToNat, reduceCtorEq, go_sem, qbe]))); try exact rfl) (by first | exact Nat.le_refl _ | exact Nat.le_succ _) (by first | exact .inl (Unch.refl _) | exact .inl (Unch.push _ _) | exact .inr (by decide)) ?_; first | refine aput_some rfl (Nat.le_of_ble_eq_true rfl) ?_ | refine aput_none rfl ?_) | (refine adrawn_skip rfl rfl (Nat.le_of_ble_eq_true rfl) ?_) | (refine adrawn_skip0 rfl rfl ?_)))
    refine then_normal (hN34 _ _ ?_); try clear hN34 N34
    refine awp_false rfl ?_
    refine awp_skip ?_
    refine block_normal ?_
    refine then_normal (hNM _ _ ?_); try clear hNM NM
    generalize hA2 : (A.push (.row (vcells a) .fix)).push (.row (vcells b) .fix) = A2 at *
    have hb5 : A2.f (A.n + 1) = some (.row (vcells b) .fix) := by rw [← hA2]; exact AHeap.push_new (A.push (.row (vcells a) .fix)) _
    have ha4 : A2.f A.n = some (.row (vcells a) .fix) := by rw [← hA2, AHeap.push_old _ _ (Nat.lt_succ_self _), AHeap.push_new]
    have hn2 : A2.n = A.n + 2 := by rw [← hA2]; rfl
    clear hA2
    have hbn : A.n + 1 < A2.n := by omega
    refine awp_seq fun NI hNI => ?_
    have loop : ∀ (tt : Tm) (A3 : AHeap) (q : Nat) (L : List VE) (cl : Nat), tt 0 = .pointer (some ⟨g, 0, none⟩) → tt 4 = .pointer (some ⟨A.n, 0, none⟩) → tt 5 = .pointer (some ⟨A.n + 1, 0, none⟩) → tt 6 = .bool false → tt 7 = .map (some q) →
        Unch A2 A3 → A2.n ≤ q → q < A3.n → A3.f q = some (.map (vents L) cl) → VM L cl → (∀ w, (vfind w L).isSome = memL w [a]) → (∀ x ∈ L, x.v = .agg ⟨[]⟩) → NI tt A3 := by
      intro tt A3 q L cl h0 h4 h5 h6 h7 hu hq0 hqn hfq hvm hseen hvals
      refine hNI _ _ ?_
      clear hNI
      
      
      refine awp_seq fun NJ hNJ => ?_
      have loop2 : ∀ (tt : Tm) (A4 : AHeap) (s : Value), tt 0 = .pointer (some ⟨g, 0, none⟩) → tt 5 = .pointer (some ⟨A.n + 1, 0, none⟩) → tt 7 = .map (some q) → tt 8 = s → BSt A2 A4 q s [a] L cl [a] → NJ tt A4 := by
        intro tt A4 s h0 h5 h7 h8 hB
        refine hNJ _ _ ?_
        clear hNJ hu hq0 hqn hfq hvm hseen hvals h4 h6
        
        
        refine awp_seq fun NX hNX => ?_
        have fin : ∀ (tt : Tm) (A5 : AHeap), Unch A2 A5 → r = false → NX tt A5 := by
          intro tt A5 hu hrf
          refine hNX _ _ ?_
          
          
          refine awp_seq fun N38 hN38 => ?_
          refine awp_region ?_
          (repeat ((with_reducible show aops _ _ _ _ _ _ _); first | (with_reducible refine aops_nil ?_) | (refine aops_do rfl rfl (by (try (conv => (lhs; simp only [-List.reduceReplicate, ↓reduceIte, Nat.reduceEqDiff, Nat.reduceLT, Nat.reduceAdd, Nat.reduceMul, Nat.reduceLeDiff, Int.reduceLT, Int.reduceLE, Int.reduceToNat, reduceCtorEq, go_sem]))); try exact rfl) ?_; first | refine aput_some rfl (Nat.le_of_ble_eq_true rfl) ?_ | refine aput_none rfl ?_) | (refine aops_skip rfl rfl (Nat.le_of_ble_eq_true rfl) ?_) | (refine aops_skip0 rfl rfl ?_)))
          refine then_normal (hN38 _ _ ?_); try clear hN38 N38
          refine awp_ret ?_; (repeat (first | (with_reducible refine then_ret ?_) | (with_reducible refine block_ret ?_)))
          exact end_ret rfl ⟨by rw [hrf]; rfl, hun.trans (by omega) hu⟩
          
        clear hNX
        refine awp_block ?_
        
        refine awp_loop (fun f t A5 => ∃ s st L cl seen, t 0 = .pointer (some ⟨g, 0, none⟩) ∧ t 5 = .pointer (some ⟨A.n + 1, 0, none⟩) ∧ t 7 = .map (some q) ∧ t 8 = s ∧ BSt A2 A5 q s st L cl seen ∧ dfsB G F b f seen st.reverse = some r ∧ st.length + f * 1000 ≤ fuel * 1000 + 1)
          fuel ⟨s, [a], L, cl, [a], h0, h5, h7, h8, hB, hr, by simp; omega⟩ fun f t A5 hI N hN' => ?_
        clear hB h0 h5 h7 h8
        obtain ⟨s, st, L, cl, seen, h0, h5, h7, h8, hB, hd, hl⟩ := hI
        have hb5' : A5.f (A.n + 1) = some (.row (vcells b) .fix) := by rw [hB.unch _ hbn]; exact hb5
        refine awp_seq fun N39 hN39 => ?_
        refine awp_seq fun N40 hN40 => ?_
        refine awp_region ?_
        rcases (show st = [] ∨ ∃ l x, st = l ++ [x] from by
          rcases List.eq_nil_or_concat st with e | ⟨l, x, e⟩
          · exact .inl e
          · exact .inr ⟨l, x, by rw [e, List.concat_eq_append]⟩) with rfl | ⟨st0, v, rfl⟩
        · 
          obtain ⟨sa, sc, rfl⟩ := hB.stk.len
          (repeat ((with_reducible show aops _ _ _ _ _ _ _); first | (with_reducible refine aops_nil ?_) | (refine aops_do rfl rfl (by (try (conv => (lhs; simp only [-List.reduceReplicate, ↓reduceIte, Nat.reduceEqDiff, Nat.reduceLT, Nat.reduceAdd, Nat.reduceMul, Nat.reduceLeDiff, Int.reduceLT, Int.reduceLE, Int.reduceToNat, reduceCtorEq, go_sem, h8, goInt]))); try exact rfl) ?_; first | refine aput_some rfl (Nat.le_of_ble_eq_true rfl) ?_ | refine aput_none rfl ?_) | (refine aops_skip rfl rfl (Nat.le_of_ble_eq_true rfl) ?_) | (refine aops_skip0 rfl rfl ?_)))
          refine then_normal (hN40 _ _ ?_); try clear hN40 N40
          refine awp_false (by rfl) ?_
          refine awp_exit ?_; (repeat (first | (with_reducible refine then_exit ?_) | ((with_reducible refine block_there ?hne ?_); case hne => rfl))); with_reducible refine block_here ?_
          refine then_normal (fin _ _ hB.unch ?_)
          cases f with
          | zero => simp [dfsB] at hd
          | succ f => simp [dfsB] at hd; simp [hd]
          
        obtain ⟨b', sc, cs, kk, rfl, hsc, hb', hfb', hget⟩ := hB.stk.form (by simp)
        obtain ⟨f', rfl⟩ : ∃ f', f = f' + 1 := by
          cases f with
          | zero => simp [dfsB] at hd
          | succ f' => exact ⟨f', rfl⟩
        rw [List.reverse_append, List.reverse_singleton, List.singleton_append] at hd
        unfold dfsB at hd
        have hv : vok v = true := hB.stk.ok v (by simp)
        have lv := vcells_len hv
        have gv : getCells (vcells v) 0 33 = some (vcells v) := by
          unfold getCells; rw [if_pos (by omega), List.drop_zero, ← lv, List.take_length]
        have zf := putCells_full (cs := List.replicate 32 (Value.int .u8 0) ++ [Value.int .i64 0]) (vs := vcells v) (by rw [lv]; rfl)
        have hlen : (st0 ++ [v]).length = st0.length + 1 := by simp
        have hst9 : st0.length ≤ 100000000 := by rw [hlen] at hl; omega
        have w1 : IntKind.i64.wrap (((st0 ++ [v]).length : Nat) - 1 : Int) = (st0.length : Int) := by
          rw [hlen, i64_in _ (by omega)]; omega
        have b1 : (0 ≤ (st0.length : Int) ∧ (st0.length : Int) < (((st0 ++ [v]).length : Nat) : Int)) = True := by rw [hlen]; simp <;> omega
        have g1 : getCells cs (st0.length * 33) 33 = some (vcells v) := by
          rw [hget _ (by rw [hlen]; omega)]
          simp [at', List.getD_eq_getElem?_getD]
        (repeat ((with_reducible show aops _ _ _ _ _ _ _); first | (with_reducible refine aops_nil ?_) | (refine aops_do rfl rfl (by (try (conv => (lhs; simp only [-List.reduceReplicate, ↓reduceIte, Nat.reduceEqDiff, Nat.reduceLT, Nat.reduceAdd, Nat.reduceMul, Nat.reduceLeDiff, Int.reduceLT, Int.reduceLE, Int.reduceToNat, reduceCtorEq, go_sem, h8, goInt]))); try exact rfl) ?_; first | refine aput_some rfl (Nat.le_of_ble_eq_true rfl) ?_ | refine aput_none rfl ?_) | (refine aops_skip rfl rfl (Nat.le_of_ble_eq_true rfl) ?_) | (refine aops_skip0 rfl rfl ?_)))
        refine then_normal (hN40 _ _ ?_); try clear hN40 N40
        have hz : decide ((((st0 ++ [v]).length : Nat) : Int) > 0) = true := by rw [hlen]; simp <;> omega
        refine awp_true (by show Value.bool _ = _; rw [hz]) ?_
        refine awp_skip ?_
        refine then_normal (hN39 _ _ ?_); try clear hN39 N39
        refine awp_block ?_
        refine awp_seq fun NP hNP => ?_
        have cut1 : ∀ (tt : Tm) (A6 : AHeap) (av : Nat), tt 0 = .pointer (some ⟨g, 0, none⟩) → tt 5 = .pointer (some ⟨A.n + 1, 0, none⟩) → tt 7 = .map (some q) → tt 8 = .slice (some ⟨b', 0, none⟩) (st0 ++ [v]).length sc → tt 9 = .pointer (some ⟨av, 0, none⟩) →
            BSt A2 A6 q (.slice (some ⟨b', 0, none⟩) (st0 ++ [v]).length sc) (st0 ++ [v]) L cl seen → A6.f av = some (.row (vcells v) .fix) → NP tt A6 := by
          clear h0 h5 h7 h8 hB hfb' hget g1 hb5' fin
          intro tt A6 av h0 h5 h7 h8 h9 hB hrow
          refine hNP _ _ ?_
          clear hNP
          
          
          obtain ⟨s', hpop, hstk, hown⟩ := hB.stk.pop Try.underlying29 sz27
          have hB1 := hB.pop hstk hown
          refine awp_seq fun N42 hN42 => ?_
          refine awp_region ?_
          (repeat ((with_reducible show aops _ _ _ _ _ _ _); first | (with_reducible refine aops_nil ?_) | (refine aops_do rfl rfl (by (try (conv => (lhs; simp only [-List.reduceReplicate, ↓reduceIte, Nat.reduceEqDiff, Nat.reduceLT, Nat.reduceAdd, Nat.reduceMul, Nat.reduceLeDiff, Int.reduceLT, Int.reduceLE, Int.reduceToNat, reduceCtorEq, go_sem, h8, goInt, w1]))); try exact rfl) ?_; first | refine aput_some rfl (Nat.le_of_ble_eq_true rfl) ?_ | refine aput_none rfl ?_) | (refine aops_skip rfl rfl (Nat.le_of_ble_eq_true rfl) ?_) | (refine aops_skip0 rfl rfl ?_)))
          refine aops_do rfl rfl (v := s') (A' := A6) ?_ (aput_some rfl (Nat.le_of_ble_eq_true rfl) ?_)
          · show (aslice Try.prog A6 29 _ none (some _) none).map _ = _
            have e1 : ∀ x, x = some s' → x.map (fun y => (y, A6)) = some (s', A6) := fun x e => by rw [e]; rfl
            exact e1 _ hpop
          (repeat ((with_reducible show aops _ _ _ _ _ _ _); first | (with_reducible refine aops_nil ?_) | (refine aops_do rfl rfl (by (try (conv => (lhs; simp only [-List.reduceReplicate, ↓reduceIte, Nat.reduceEqDiff, Nat.reduceLT, Nat.reduceAdd, Nat.reduceMul, Nat.reduceLeDiff, Int.reduceLT, Int.reduceLE, Int.reduceToNat, reduceCtorEq, go_sem]))); try exact rfl) ?_; first | refine aput_some rfl (Nat.le_of_ble_eq_true rfl) ?_ | refine aput_none rfl ?_) | (refine aops_skip rfl rfl (Nat.le_of_ble_eq_true rfl) ?_) | (refine aops_skip0 rfl rfl ?_)))
          refine then_normal (hN42 _ _ ?_); try clear hN42 N42
          refine awp_seq fun N43 hN43 => ?_
          refine awp_region ?_
          (repeat ((with_reducible show aops _ _ _ _ _ _ _); first | (with_reducible refine aops_nil ?_) | (refine aops_do rfl rfl (by (try (conv => (lhs; simp only [-List.reduceReplicate, ↓reduceIte, Nat.reduceEqDiff, Nat.reduceLT, Nat.reduceAdd, Nat.reduceMul, Nat.reduceLeDiff, Int.reduceLT, Int.reduceLE, Int.reduceToNat, reduceCtorEq, go_sem, h0, h9, hrow, gv]))); try exact rfl) ?_; first | refine aput_some rfl (Nat.le_of_ble_eq_true rfl) ?_ | refine aput_none rfl ?_) | (refine aops_skip rfl rfl (Nat.le_of_ble_eq_true rfl) ?_) | (refine aops_skip0 rfl rfl ?_)))
          refine aops_call (hs := t40 h1 hB1.unch hB1.n hv) rfl rfl rfl (Nat.le_of_ble_eq_true rfl) rfl ?_
          rintro sl A7 ⟨hsl, hslv, hu7, hn7⟩
          have hB2 := hB1.more hu7 hn7
          obtain ⟨sla, slc, rfl, hslr⟩ := hsl
          (repeat ((with_reducible show aops _ _ _ _ _ _ _); first | (with_reducible refine aops_nil ?_) | (refine aops_do rfl rfl (by (try (conv => (lhs; simp only [-List.reduceReplicate, ↓reduceIte, Nat.reduceEqDiff, Nat.reduceLT, Nat.reduceAdd, Nat.reduceMul, Nat.reduceLeDiff, Int.reduceLT, Int.reduceLE, Int.reduceToNat, reduceCtorEq, go_sem, goInt]))); try exact rfl) ?_; first | refine aput_some rfl (Nat.le_of_ble_eq_true rfl) ?_ | refine aput_none rfl ?_) | (refine aops_skip rfl rfl (Nat.le_of_ble_eq_true rfl) ?_) | (refine aops_skip0 rfl rfl ?_)))
          refine then_normal (hN43 _ _ ?_); try clear hN43 N43
          have hnx := next_len hF hG v
          generalize hnxt : nextB G F v = nx at *
          generalize hseen0 : seen = seen0 at hd
          clear hB hrow hpop hstk hB1 hu7 hn7 h8 h9
          refine awp_block ?_
          
          refine awp_loop (fun m' t A8 => ∃ j s st L cl seen, t 0 = .pointer (some ⟨g, 0, none⟩) ∧ t 5 = .pointer (some ⟨A.n + 1, 0, none⟩) ∧ t 7 = .map (some q) ∧ t 8 = s ∧ t 71 = .slice sla nx.length slc ∧ t 72 = .int .i64 (nx.length : Nat) ∧ t 73 = .int .i64 (j : Nat) ∧
            j + m' = nx.length ∧ BSt A2 A8 q s st L cl seen ∧ scanB b (nx.drop j) seen st.reverse = scanB b nx seen0 st0.reverse ∧ st.length ≤ st0.length + j)
            nx.length ⟨0, s', st0, L, cl, seen, h0, h5, h7, rfl, rfl, rfl, rfl, by omega, hB2, (by rw [hseen0]; rfl), by omega⟩ fun m' t A8 hI N2 hN2 => ?_
          clear hB2 h0 h5 h7
          obtain ⟨j, s, st, L, cl, seen, h0, h5, h7, h8, h71, h72, h73, hjm, hB, hsc0, hsl⟩ := hI
          have hb5' : A8.f (A.n + 1) = some (.row (vcells b) .fix) := by rw [hB.unch _ hbn]; exact hb5
          refine awp_seq fun N44 hN44 => ?_
          refine awp_region ?_
          (repeat ((with_reducible show aops _ _ _ _ _ _ _); first | (with_reducible refine aops_nil ?_) | (refine aops_do rfl rfl (by (try (conv => (lhs; simp only [-List.reduceReplicate, ↓reduceIte, Nat.reduceEqDiff, Nat.reduceLT, Nat.reduceAdd, Nat.reduceMul, Nat.reduceLeDiff, Int.reduceLT, Int.reduceLE, Int.reduceToNat, reduceCtorEq, go_sem, h72, h73]))); try exact rfl) ?_; first | refine aput_some rfl (Nat.le_of_ble_eq_true rfl) ?_ | refine aput_none rfl ?_) | (refine aops_skip rfl rfl (Nat.le_of_ble_eq_true rfl) ?_) | (refine aops_skip0 rfl rfl ?_)))
          refine then_normal (hN44 _ _ ?_); try clear hN44 N44
          refine awp_seq fun N45 hN45 => ?_
          by_cases hj : j < nx.length
          · 
            have hdj : decide ((j : Int) < (nx.length : Int)) = true := by simp; omega
            refine awp_true (by show Value.bool _ = _; rw [hdj]) ?_
            refine awp_skip ?_
            refine then_normal (hN45 _ _ ?_); try clear hN45 N45
            refine awp_seq fun NH hNH => ?_
            refine awp_block ?_
            obtain ⟨bb, o, cs2, kk2, rfl, hbb, hcc, hfbb, hgbb⟩ := hslr j hj
            have hvw : vok (at' [] nx j) = true := hslv _ (by rw [at_eq [] hj]; exact List.getElem_mem _)
            rw [List.drop_eq_getElem_cons hj, ← at_eq [] hj] at hsc0
            generalize hw : at' [] nx j = w at *
            have l1 := vcells_len hvw
            have zf := putCells_full (cs := List.replicate 32 (Value.int .u8 0) ++ [Value.int .i64 0]) (vs := vcells w) (by rw [l1]; rfl)
            have gf : getCells (vcells w) 0 33 = some (vcells w) := by
              unfold getCells; rw [if_pos (by omega), List.drop_zero, ← l1, List.take_length]
            have hfb' : A8.f bb = some (.row cs2 kk2) := by rw [hB.unch bb hbb]; exact hfbb
            have hjj : (0 ≤ (j : Int) ∧ (j : Int) < (nx.length : Int)) = True := by simp; omega
            have w1 : IntKind.i64.wrap ((j : Int) + 1) = ((j + 1 : Nat) : Int) := by rw [i64_in _ (by omega)]; omega
            have stepN : ∀ (tt : Tm) (A12 : AHeap) (s : Value) (st seen : List (List Int)) (L : List VE) (cl : Nat), tt 0 = .pointer (some ⟨g, 0, none⟩) → tt 5 = .pointer (some ⟨A.n + 1, 0, none⟩) → tt 7 = .map (some q) → tt 8 = s → tt 71 = .slice (some ⟨bb, o, none⟩) nx.length slc → tt 72 = .int .i64 (nx.length : Nat) → tt 73 = .int .i64 (j : Nat) →
                BSt A2 A12 q s st L cl seen → scanB b (nx.drop (j + 1)) seen st.reverse = scanB b nx seen0 st0.reverse → st.length ≤ st0.length + (j + 1) → NH tt A12 := by
              intro tt A12 s st seen L cl h0 h5 h7 h8 h71 h72 h73 hB hsc hsl
              refine hNH _ _ ?_
              
              
              refine awp_region ?_
              (repeat ((with_reducible show aops _ _ _ _ _ _ _); first | (with_reducible refine aops_nil ?_) | (refine aops_do rfl rfl (by (try (conv => (lhs; simp only [-List.reduceReplicate, ↓reduceIte, Nat.reduceEqDiff, Nat.reduceLT, Nat.reduceAdd, Nat.reduceMul, Nat.reduceLeDiff, Int.reduceLT, Int.reduceLE, Int.reduceToNat, reduceCtorEq, go_sem, h73, w1]))); try exact rfl) ?_; first | refine aput_some rfl (Nat.le_of_ble_eq_true rfl) ?_ | refine aput_none rfl ?_) | (refine aops_skip rfl rfl (Nat.le_of_ble_eq_true rfl) ?_) | (refine aops_skip0 rfl rfl ?_)))
              exact then_normal (hN2 _ _ _ (show m' - 1 < m' by omega) ⟨j + 1, s, st, L, cl, seen, h0, h5, h7, h8, h71, h72, rfl, by omega, hB, hsc, hsl⟩)
              
            clear hNH
            refine awp_seq fun NQ hNQ => ?_
            have cut2 : ∀ (tt : Tm) (A9 : AHeap) (wv : Nat), tt 0 = .pointer (some ⟨g, 0, none⟩) → tt 5 = .pointer (some ⟨A.n + 1, 0, none⟩) → tt 7 = .map (some q) → tt 8 = s → tt 71 = .slice (some ⟨bb, o, none⟩) nx.length slc → tt 72 = .int .i64 (nx.length : Nat) → tt 73 = .int .i64 (j : Nat) → tt 11 = .pointer (some ⟨wv, 0, none⟩) →
                BSt A2 A9 q s st L cl seen → wv < A9.n → wv ≠ q → own s ≠ some wv → A9.f wv = some (.row (vcells w) .fix) → NQ tt A9 := by
              clear h0 h5 h7 h8 h71 h72 h73 hB hb5' hfb'
              intro tt A9 wv h0 h5 h7 h8 h71 h72 h73 h11 hB hwn hwq hws hrow
              have hb9 : A9.f (A.n + 1) = some (.row (vcells b) .fix) := by rw [hB.unch _ hbn]; exact hb5
              refine hNQ _ _ ?_
              clear hNQ
              
              
              have qwb := veql hvw hb
              rw [scanB_cons, leq_eq] at hsc0
              refine awp_seq fun N48 hN48 => ?_
              refine awp_seq fun N49 hN49 => ?_
              refine awp_region ?_
              by_cases hwb : w = b
              · 
                rw [decide_eq_true hwb] at qwb hsc0
                (repeat ((with_reducible show aops _ _ _ _ _ _ _); first | (with_reducible refine aops_nil ?_) | (refine aops_do rfl rfl (by (try (conv => (lhs; simp only [-List.reduceReplicate, ↓reduceIte, Nat.reduceEqDiff, Nat.reduceLT, Nat.reduceAdd, Nat.reduceMul, Nat.reduceLeDiff, Int.reduceLT, Int.reduceLE, Int.reduceToNat, reduceCtorEq, go_sem, h5, h11, hrow, hb9, gf, gb, qwb]))); try exact rfl) ?_; first | refine aput_some rfl (Nat.le_of_ble_eq_true rfl) ?_ | refine aput_none rfl ?_) | (refine aops_skip rfl rfl (Nat.le_of_ble_eq_true rfl) ?_) | (refine aops_skip0 rfl rfl ?_)))
                refine then_normal (hN49 _ _ ?_); try clear hN49 N49
                refine awp_true rfl ?_
                refine awp_seq fun N50 hN50 => ?_
                refine awp_region ?_
                (repeat ((with_reducible show aops _ _ _ _ _ _ _); first | (with_reducible refine aops_nil ?_) | (refine aops_do rfl rfl (by (try (conv => (lhs; simp only [-List.reduceReplicate, ↓reduceIte, Nat.reduceEqDiff, Nat.reduceLT, Nat.reduceAdd, Nat.reduceMul, Nat.reduceLeDiff, Int.reduceLT, Int.reduceLE, Int.reduceToNat, reduceCtorEq, go_sem]))); try exact rfl) ?_; first | refine aput_some rfl (Nat.le_of_ble_eq_true rfl) ?_ | refine aput_none rfl ?_) | (refine aops_skip rfl rfl (Nat.le_of_ble_eq_true rfl) ?_) | (refine aops_skip0 rfl rfl ?_)))
                refine then_normal (hN50 _ _ ?_); try clear hN50 N50
                refine awp_ret ?_; (repeat (first | (with_reducible refine then_ret ?_) | (with_reducible refine block_ret ?_)))
                have hsc1 : scanB b nx seen0 st0.reverse = none := hsc0.symm
                rw [hsc1] at hd
                simp only [Option.some.injEq] at hd
                exact end_ret rfl ⟨by rw [← hd]; rfl, hun.trans (by omega) hB.unch⟩
                
              rw [decide_eq_false hwb] at qwb hsc0
              (repeat ((with_reducible show aops _ _ _ _ _ _ _); first | (with_reducible refine aops_nil ?_) | (refine aops_do rfl rfl (by (try (conv => (lhs; simp only [-List.reduceReplicate, ↓reduceIte, Nat.reduceEqDiff, Nat.reduceLT, Nat.reduceAdd, Nat.reduceMul, Nat.reduceLeDiff, Int.reduceLT, Int.reduceLE, Int.reduceToNat, reduceCtorEq, go_sem, h5, h11, hrow, hb9, gf, gb, qwb]))); try exact rfl) ?_; first | refine aput_some rfl (Nat.le_of_ble_eq_true rfl) ?_ | refine aput_none rfl ?_) | (refine aops_skip rfl rfl (Nat.le_of_ble_eq_true rfl) ?_) | (refine aops_skip0 rfl rfl ?_)))
              refine then_normal (hN49 _ _ ?_); try clear hN49 N49
              refine awp_false rfl ?_
              refine awp_skip ?_
              refine then_normal (hN48 _ _ ?_); try clear hN48 N48
              have hlk := lookup_v (P := Try.prog) (A := A9) (t := 79) mp79 lay27 hB.fq hB.vm hvw true
              have hsn := hB.seen w
              have hun3 := tmp_unch A9 (.row [] .fix) (.row [] .fix)
              have hB10 := hB.more hun3 (Nat.le_succ _)
              have hrow10 := hun3 wv hwn
              rw [hrow] at hrow10
              cases hvf : vfind w L with
              | some x =>
                rw [hvf] at hlk hsn
                have hxv := hB.vals x (vfind_some hvf).1
                simp only [if_true, hxv] at hlk
                rw [← hsn] at hsc0
                
                refine awp_seq fun N51 hN51 => ?_
                refine awp_region ?_
                (repeat ((with_reducible show aops _ _ _ _ _ _ _); first | (with_reducible refine aops_nil ?_) | (refine aops_do rfl rfl (by (try (conv => (lhs; simp only [-List.reduceReplicate, ↓reduceIte, Nat.reduceEqDiff, Nat.reduceLT, Nat.reduceAdd, Nat.reduceMul, Nat.reduceLeDiff, Int.reduceLT, Int.reduceLE, Int.reduceToNat, reduceCtorEq, go_sem, h7, h11, hrow, gf, hlk, acells_agg, putCells_full]))); try exact rfl) ?_; first | refine aput_some rfl (Nat.le_of_ble_eq_true rfl) ?_ | refine aput_none rfl ?_) | (refine aops_skip rfl rfl (Nat.le_of_ble_eq_true rfl) ?_) | (refine aops_skip0 rfl rfl ?_)))
                refine then_normal (hN51 _ _ ?_); try clear hN51 N51
                refine awp_seq fun N52 hN52 => ?_
                refine awp_region ?_
                (repeat ((with_reducible show aops _ _ _ _ _ _ _); first | (with_reducible refine aops_nil ?_) | (refine aops_do rfl rfl (by (try (conv => (lhs; simp only [-List.reduceReplicate, ↓reduceIte, Nat.reduceEqDiff, Nat.reduceLT, Nat.reduceAdd, Nat.reduceMul, Nat.reduceLeDiff, Int.reduceLT, Int.reduceLE, Int.reduceToNat, reduceCtorEq, go_sem]))); try exact rfl) ?_; first | refine aput_some rfl (Nat.le_of_ble_eq_true rfl) ?_ | refine aput_none rfl ?_) | (refine aops_skip rfl rfl (Nat.le_of_ble_eq_true rfl) ?_) | (refine aops_skip0 rfl rfl ?_)))
                refine then_normal (hN52 _ _ ?_); try clear hN52 N52
                refine awp_false rfl ?_
                refine awp_skip ?_
                refine block_normal ?_
                exact then_normal (stepN _ _ s st seen L cl h0 h5 h7 h8 h71 h72 h73 hB10 hsc0 (by omega))
                
              | none =>
                rw [hvf] at hlk hsn
                simp only [zv78, Option.map_some, if_true] at hlk
                have hns : memL w seen = false := hsn.symm
                rw [hns] at hsc0
                have hup := update_v (P := Try.prog) (t := 79) mp79 lay27 hB10.fq hB10.vm hvw (.agg ⟨[]⟩)
                have hB11 := hB10.put hvw
                refine awp_seq fun N53 hN53 => ?_
                refine awp_region ?_
                (repeat ((with_reducible show aops _ _ _ _ _ _ _); first | (with_reducible refine aops_nil ?_) | (refine aops_do rfl rfl (by (try (conv => (lhs; simp only [-List.reduceReplicate, ↓reduceIte, Nat.reduceEqDiff, Nat.reduceLT, Nat.reduceAdd, Nat.reduceMul, Nat.reduceLeDiff, Int.reduceLT, Int.reduceLE, Int.reduceToNat, reduceCtorEq, go_sem, h7, h11, hrow, gf, hlk, acells_agg, putCells_full]))); try exact rfl) ?_; first | refine aput_some rfl (Nat.le_of_ble_eq_true rfl) ?_ | refine aput_none rfl ?_) | (refine aops_skip rfl rfl (Nat.le_of_ble_eq_true rfl) ?_) | (refine aops_skip0 rfl rfl ?_)))
                refine then_normal (hN53 _ _ ?_); try clear hN53 N53
                refine awp_seq fun N54 hN54 => ?_
                refine awp_region ?_
                (repeat ((with_reducible show aops _ _ _ _ _ _ _); first | (with_reducible refine aops_nil ?_) | (refine aops_do rfl rfl (by (try (conv => (lhs; simp only [-List.reduceReplicate, ↓reduceIte, Nat.reduceEqDiff, Nat.reduceLT, Nat.reduceAdd, Nat.reduceMul, Nat.reduceLeDiff, Int.reduceLT, Int.reduceLE, Int.reduceToNat, reduceCtorEq, go_sem]))); try exact rfl) ?_; first | refine aput_some rfl (Nat.le_of_ble_eq_true rfl) ?_ | refine aput_none rfl ?_) | (refine aops_skip rfl rfl (Nat.le_of_ble_eq_true rfl) ?_) | (refine aops_skip0 rfl rfl ?_)))
                refine then_normal (hN54 _ _ ?_); try clear hN54 N54
                refine awp_true rfl ?_
                refine awp_seq fun NY hNY => ?_
                have cut3 : ∀ (tt : Tm) (A11 : AHeap) (L : List VE) (cl : Nat), tt 0 = .pointer (some ⟨g, 0, none⟩) → tt 5 = .pointer (some ⟨A.n + 1, 0, none⟩) → tt 7 = .map (some q) → tt 8 = s → tt 71 = .slice (some ⟨bb, o, none⟩) nx.length slc → tt 72 = .int .i64 (nx.length : Nat) → tt 73 = .int .i64 (j : Nat) → tt 11 = .pointer (some ⟨wv, 0, none⟩) →
                    BSt A2 A11 q s st L cl (w :: seen) → A11.f wv = some (.row (vcells w) .fix) → NY tt A11 := by
                  clear h0 h5 h7 h8 h71 h72 h73 h11 hB hB10 hB11 hup hlk hsn hvf hrow hrow10 hun3 hwn
                  intro tt A11 L cl h0 h5 h7 h8 h71 h72 h73 h11 hB hrow
                  refine hNY _ _ ?_
                  clear hNY
                  
                  
                  obtain ⟨s', A12, happ, hstk, hgrew⟩ := (hB.stk.mono (A' := A11.push (.row (vcells w) .fix)) (Nat.le_succ _) (fun b hb => AHeap.push_old _ _ (hB.stk.own_lt hb))).push (P := Try.prog) (xs := .slice (some ⟨A11.n, 0, none⟩) 1 1) app29 (appCells_one (k := .fix) (AHeap.push_new _ _) l1) hvw (by omega)
                  have hB12 := (hB.more (Unch.push A11 (.row (vcells w) .fix)) (Nat.le_succ _)).push hstk hgrew
                  refine awp_region ?_
                  (repeat ((with_reducible show aops _ _ _ _ _ _ _); first | (with_reducible refine aops_nil ?_) | (refine aops_do rfl rfl (by (try (conv => (lhs; simp only [-List.reduceReplicate, ↓reduceIte, Nat.reduceEqDiff, Nat.reduceLT, Nat.reduceAdd, Nat.reduceMul, Nat.reduceLeDiff, Int.reduceLT, Int.reduceLE, Int.reduceToNat, reduceCtorEq, go_sem, h8, h11, hrow, gf, seqCells, l1, happ]))); try exact rfl) ?_; first | refine aput_some rfl (Nat.le_of_ble_eq_true rfl) ?_ | refine aput_none rfl ?_) | (refine aops_skip rfl rfl (Nat.le_of_ble_eq_true rfl) ?_) | (refine aops_skip0 rfl rfl ?_)))
                  refine block_normal ?_
                  refine then_normal (stepN _ _ s' (st ++ [w]) (w :: seen) L cl h0 h5 h7 rfl h71 h72 h73 hB12 ?_ (by simp; omega))
                  rw [List.reverse_append, List.reverse_singleton, List.singleton_append]
                  exact hsc0
                  
                refine awp_region ?_
                (repeat ((with_reducible show aops _ _ _ _ _ _ _); first | (with_reducible refine aops_nil ?_) | (refine aops_do rfl rfl (by (try (conv => (lhs; simp only [-List.reduceReplicate, ↓reduceIte, Nat.reduceEqDiff, Nat.reduceLT, Nat.reduceAdd, Nat.reduceMul, Nat.reduceLeDiff, Int.reduceLT, Int.reduceLE, Int.reduceToNat, reduceCtorEq, go_sem, h7, h11, hrow10, gf, afill, hup]))); try exact rfl) ?_; first | refine aput_some rfl (Nat.le_of_ble_eq_true rfl) ?_ | refine aput_none rfl ?_) | (refine aops_skip rfl rfl (Nat.le_of_ble_eq_true rfl) ?_) | (refine aops_skip0 rfl rfl ?_)))
                exact then_normal (cut3 _ _ _ _ h0 h5 h7 h8 h71 h72 h73 h11 hB11 (by rw [AHeap.set_other _ _ hwq]; exact hrow10))
              
            refine awp_region ?_
            (repeat ((with_reducible show aops _ _ _ _ _ _ _); first | (with_reducible refine aops_nil ?_) | (refine aops_do rfl rfl (by (try (conv => (lhs; simp only [-List.reduceReplicate, ↓reduceIte, Nat.reduceEqDiff, Nat.reduceLT, Nat.reduceAdd, Nat.reduceMul, Nat.reduceLeDiff, Int.reduceLT, Int.reduceLE, Int.reduceToNat, reduceCtorEq, go_sem, h71, h73, hcc, hfb', hjj, Int.toNat_natCast, hgbb, zf, l1, AHeap.push_f, AHeap.set_f]))); try exact rfl) ?_; first | refine aput_some rfl (Nat.le_of_ble_eq_true rfl) ?_ | refine aput_none rfl ?_) | (refine aops_skip rfl rfl (Nat.le_of_ble_eq_true rfl) ?_) | (refine aops_skip0 rfl rfl ?_)))
            refine then_normal (cut2 _ _ A8.n h0 h5 h7 h8 h71 h72 h73 rfl (hB.more (tmp_unch _ _ _) (Nat.le_succ _)) (Nat.lt_succ_self _) ?_ ?_ (AHeap.set_same _ _ _))
            · have := hB.qn; omega
            · intro e; have := hB.stk.own_lt e; omega
            
          · have hdj : decide ((j : Int) < (nx.length : Int)) = false := by simp; omega
            refine awp_false (by show Value.bool _ = _; rw [hdj]) ?_
            refine awp_exit ?_; (repeat (first | (with_reducible refine then_exit ?_) | ((with_reducible refine block_there ?hne ?_); case hne => rfl))); with_reducible refine block_here ?_
            refine block_normal ?_
            rw [List.drop_of_length_le (by omega)] at hsc0
            rw [← hsc0] at hd
            simp only [scanB] at hd
            refine then_normal (hN' _ _ f' (Nat.lt_succ_self _) ⟨s, st, L, cl, seen, h0, h5, h7, h8, hB, hd, ?_⟩)
            rw [hlen] at hl
            omega
          
        refine awp_region ?_
        (repeat ((with_reducible show aops _ _ _ _ _ _ _); first | (with_reducible refine aops_nil ?_) | (refine aops_do rfl rfl (by (try (conv => (lhs; simp only [-List.reduceReplicate, ↓reduceIte, Nat.reduceEqDiff, Nat.reduceLT, Nat.reduceAdd, Nat.reduceMul, Nat.reduceLeDiff, Int.reduceLT, Int.reduceLE, Int.reduceToNat, reduceCtorEq, go_sem, h8, goInt, w1, b1, Int.toNat_natCast, hsc, hfb', g1, zf, lv]))); try exact rfl) ?_; first | refine aput_some rfl (Nat.le_of_ble_eq_true rfl) ?_ | refine aput_none rfl ?_) | (refine aops_skip rfl rfl (Nat.le_of_ble_eq_true rfl) ?_) | (refine aops_skip0 rfl rfl ?_)))
        exact then_normal (cut1 _ _ A5.n h0 h5 h7 h8 rfl (hB.more (tmp_unch _ _ _) (Nat.le_succ _)) (AHeap.set_same _ _ _))
        
      have hB0 : ∀ A4 : AHeap, Unch A3 A4 → A3.n < A4.n → (∃ junk, A4.f A3.n = some (.row (vrows ([a] ++ junk)) .fix) ∧ ([a] ++ junk).length = 1 ∧ ∀ v ∈ [a] ++ junk, vok v = true) → BSt A2 A4 q (.slice (some ⟨A3.n, 0, none⟩) 1 1) [a] L cl [a] := by
        rintro A4 hu4 hn4 ⟨junk, k1, k2, k3⟩
        have hn3 : A2.n ≤ A3.n := by omega
        exact ⟨hu.trans hn3 hu4, by omega, hq0, by omega, by rw [hu4 q hqn]; exact hfq, hvm, hseen, .cap A3.n [a] junk hn4 k1 k2 k3, fun b hb => (by cases hb; exact ⟨hn3, by show A3.n ≠ q; omega⟩), hvals⟩
      have ha4' : A3.f A.n = some (.row (vcells a) .fix) := by rw [hu _ (by omega)]; exact ha4
      refine awp_region ?_
      (repeat ((with_reducible show aops _ _ _ _ _ _ _); first | (with_reducible refine aops_nil ?_) | (refine aops_do rfl rfl (by (try (conv => (lhs; simp only [-List.reduceReplicate, ↓reduceIte, Nat.reduceEqDiff, Nat.reduceLT, Nat.reduceAdd, Nat.reduceMul, Nat.reduceLeDiff, Int.reduceLT, Int.reduceLE, Int.reduceToNat, reduceCtorEq, go_sem, h4, ha4', ga, seqCells, la]))); try exact rfl) ?_; first | refine aput_some rfl (Nat.le_of_ble_eq_true rfl) ?_ | refine aput_none rfl ?_) | (refine aops_skip rfl rfl (Nat.le_of_ble_eq_true rfl) ?_) | (refine aops_skip0 rfl rfl ?_)))
      exact then_normal (loop2 _ _ _ h0 h5 h7 rfl (hB0 _ (Unch.push _ _) (Nat.lt_succ_self _) ⟨[], by rw [AHeap.push_new]; simp [vrows], rfl, by simpa using ha⟩))
      
    refine awp_region ?_
    have hup : amapUpdate Try.prog (A2.push (.map [] 0)) 79 (.map (some A2.n)) (vagg a) (.agg ⟨[]⟩) = some ((A2.push (.map [] 0)).set A2.n (.map (vents [⟨a, .agg ⟨[]⟩, 0⟩]) 1)) :=
      update_v (L := []) (c := 0) mp79 lay27 (AHeap.push_new A2 (.map [] 0)) ⟨fun x hx => by simp at hx, by simp, by simp, fun x hx => by simp at hx⟩ ha _
    have hn4 : (A.n = A2.n) = False := by simp; omega
    (repeat ((with_reducible show aops _ _ _ _ _ _ _); first | (with_reducible refine aops_nil ?_) | (refine aops_do rfl rfl (by (try (conv => (lhs; simp only [-List.reduceReplicate, ↓reduceIte, Nat.reduceEqDiff, Nat.reduceLT, Nat.reduceAdd, Nat.reduceMul, Nat.reduceLeDiff, Int.reduceLT, Int.reduceLE, Int.reduceToNat, reduceCtorEq, go_sem, amakeMap, AHeap.push_f, hn4, ha4, ga, afill, hup]))); try exact rfl) ?_; first | refine aput_some rfl (Nat.le_of_ble_eq_true rfl) ?_ | refine aput_none rfl ?_) | (refine aops_skip rfl rfl (Nat.le_of_ble_eq_true rfl) ?_) | (refine aops_skip0 rfl rfl ?_)))
    refine then_normal (loop _ _ A2.n _ _ rfl rfl rfl rfl rfl (tmp_unch _ _ _) (Nat.le_refl _) (Nat.lt_succ_self _) (AHeap.set_same _ _ _) ?_ ?_ ?_)
    · exact VM.put (L := []) (c := 0) ⟨fun x hx => by simp at hx, by simp, by simp, fun x hx => by simp at hx⟩ ha (.agg ⟨[]⟩)
    · intro w
      unfold vfind memL
      rw [leq_eq]
      by_cases e : a = w <;> simp [e, vfind, memL]
    · intro x hx
      simp at hx; rw [hx]
end Go.AB.Try
