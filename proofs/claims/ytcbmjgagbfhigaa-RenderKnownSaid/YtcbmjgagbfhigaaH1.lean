/-
  The order of vertices: bytes.Compare, cmp.Compare, cmp.Or, graph.Order, and the heap's Less and Swap.
-/
import Derived.Test.YtcbmjgagbfhigaaYF
import Derived.Test.YtcbmjgagbfhigaaGF
namespace Go.AB.Try
open Go Go.AB Go.Proofs
set_option linter.unusedSimpArgs false
set_option linter.unusedVariables false
set_option maxRecDepth 10000
attribute [local irreducible] aops adrawn awp SimW

theorem t115 {A : AHeap} {x y : Value} {a b : List UInt8} (hx : aBytes A x = some a) (hy : aBytes A y = some b) :
    SimW Try.prog 115 [x, y] A (fun v A' => v = goInt (Extern.BytealgCompare.cmp ⟨a.toArray⟩ ⟨b.toArray⟩) ∧ A' = A) :=
  compare_simW (fn := Try.f115) rfl (by kernel_rfl) rfl (by kernel_rfl) (by kernel_rfl) hx hy

theorem t113 {A : AHeap} {x y : Value} {a b : List UInt8} (hx : aBytes A x = some a) (hy : aBytes A y = some b) :
    SimW Try.prog 113 [x, y] A (fun v A' => v = goInt (Extern.BytealgCompare.cmp ⟨a.toArray⟩ ⟨b.toArray⟩) ∧ A' = A) := by
  have h115 := t115 hx hy
  generalize Extern.BytealgCompare.cmp ⟨a.toArray⟩ ⟨b.toArray⟩ = c at h115 ⊢
  refine simW_of_awp fine mixed Try.func113 rfl rfl (Nat.le_of_ble_eq_true rfl) ?_
  refine awp_seq fun N1 hN1 => ?_
  refine awp_region ?_
  (repeat ((with_reducible show aops _ _ _ _ _ _ _); first | (with_reducible refine aops_nil ?_) | (refine aops_do rfl rfl (by (try (conv => (lhs; simp only [-List.reduceReplicate, ↓reduceIte, Nat.reduceEqDiff, Nat.reduceLT, Nat.reduceAdd, Nat.reduceMul, Nat.reduceLeDiff, Int.reduceLT, Int.reduceLE, Int.reduceToNat, reduceCtorEq, go_sem]))); try exact rfl) ?_; first | refine aput_some rfl (Nat.le_of_ble_eq_true rfl) ?_ | refine aput_none rfl ?_) | (refine aops_skip rfl rfl (Nat.le_of_ble_eq_true rfl) ?_) | (refine aops_skip0 rfl rfl ?_)))
  refine then_normal (hN1 _ _ ?_); try clear hN1 N1
  refine awp_seq fun N2 hN2 => ?_
  refine awp_region ?_
  (repeat ((with_reducible show aops _ _ _ _ _ _ _); first | (with_reducible refine aops_nil ?_) | (refine aops_do rfl rfl (by (try (conv => (lhs; simp only [-List.reduceReplicate, ↓reduceIte, Nat.reduceEqDiff, Nat.reduceLT, Nat.reduceAdd, Nat.reduceMul, Nat.reduceLeDiff, Int.reduceLT, Int.reduceLE, Int.reduceToNat, reduceCtorEq, go_sem]))); try exact rfl) ?_; first | refine aput_some rfl (Nat.le_of_ble_eq_true rfl) ?_ | refine aput_none rfl ?_) | (refine aops_skip rfl rfl (Nat.le_of_ble_eq_true rfl) ?_) | (refine aops_skip0 rfl rfl ?_)))
  refine aops_call (hs := h115) rfl rfl rfl (Nat.le_of_ble_eq_true rfl) rfl ?_
  rintro _ _ ⟨rfl, rfl⟩
  (repeat ((with_reducible show aops _ _ _ _ _ _ _); first | (with_reducible refine aops_nil ?_) | (refine aops_do rfl rfl (by (try (conv => (lhs; simp only [-List.reduceReplicate, ↓reduceIte, Nat.reduceEqDiff, Nat.reduceLT, Nat.reduceAdd, Nat.reduceMul, Nat.reduceLeDiff, Int.reduceLT, Int.reduceLE, Int.reduceToNat, reduceCtorEq, go_sem]))); try exact rfl) ?_; first | refine aput_some rfl (Nat.le_of_ble_eq_true rfl) ?_ | refine aput_none rfl ?_) | (refine aops_skip rfl rfl (Nat.le_of_ble_eq_true rfl) ?_) | (refine aops_skip0 rfl rfl ?_)))
  refine then_normal (hN2 _ _ ?_); try clear hN2 N2
  refine awp_ret ?_; (repeat (first | (with_reducible refine then_ret ?_) | (with_reducible refine block_ret ?_)))
  exact end_ret rfl ⟨rfl, rfl⟩

theorem t116 (a : Int) (A : AHeap) : SimW Try.prog 116 [.int .i64 a] A (fun v A' => v = .bool false ∧ A' = A) := by
  refine simW_of_awp fine mixed Try.func116 rfl rfl (Nat.le_of_ble_eq_true rfl) ?_
  refine awp_seq fun N3 hN3 => ?_
  refine awp_region ?_
  (repeat ((with_reducible show aops _ _ _ _ _ _ _); first | (with_reducible refine aops_nil ?_) | (refine aops_do rfl rfl (by (try (conv => (lhs; simp only [-List.reduceReplicate, ↓reduceIte, Nat.reduceEqDiff, Nat.reduceLT, Nat.reduceAdd, Nat.reduceMul, Nat.reduceLeDiff, Int.reduceLT, Int.reduceLE, Int.reduceToNat, reduceCtorEq, go_sem]))); try exact rfl) ?_; first | refine aput_some rfl (Nat.le_of_ble_eq_true rfl) ?_ | refine aput_none rfl ?_) | (refine aops_skip rfl rfl (Nat.le_of_ble_eq_true rfl) ?_) | (refine aops_skip0 rfl rfl ?_)))
  refine then_normal (hN3 _ _ ?_); try clear hN3 N3
  refine awp_seq fun N4 hN4 => ?_
  refine awp_region ?_
  (repeat ((with_reducible show aops _ _ _ _ _ _ _); first | (with_reducible refine aops_nil ?_) | (refine aops_do rfl rfl (by (try (conv => (lhs; simp only [-List.reduceReplicate, ↓reduceIte, Nat.reduceEqDiff, Nat.reduceLT, Nat.reduceAdd, Nat.reduceMul, Nat.reduceLeDiff, Int.reduceLT, Int.reduceLE, Int.reduceToNat, reduceCtorEq, go_sem, bne_self_eq_false]))); try exact rfl) ?_; first | refine aput_some rfl (Nat.le_of_ble_eq_true rfl) ?_ | refine aput_none rfl ?_) | (refine aops_skip rfl rfl (Nat.le_of_ble_eq_true rfl) ?_) | (refine aops_skip0 rfl rfl ?_)))
  refine then_normal (hN4 _ _ ?_); try clear hN4 N4
  refine awp_ret ?_; (repeat (first | (with_reducible refine then_ret ?_) | (with_reducible refine block_ret ?_)))
  exact end_ret (v := .bool false) rfl ⟨rfl, rfl⟩

theorem t114 (a b : Int) (A : AHeap) : SimW Try.prog 114 [.int .i64 a, .int .i64 b] A (fun v A' => v = .int .i64 (if a < b then -1 else if b < a then 1 else 0) ∧ A' = A) := by
  refine simW_of_awp fine mixed Try.func114 rfl rfl (Nat.le_of_ble_eq_true rfl) ?_
  refine awp_seq fun N5 hN5 => ?_
  refine awp_region ?_
  (repeat ((with_reducible show aops _ _ _ _ _ _ _); first | (with_reducible refine aops_nil ?_) | (refine aops_do rfl rfl (by (try (conv => (lhs; simp only [-List.reduceReplicate, ↓reduceIte, Nat.reduceEqDiff, Nat.reduceLT, Nat.reduceAdd, Nat.reduceMul, Nat.reduceLeDiff, Int.reduceLT, Int.reduceLE, Int.reduceToNat, reduceCtorEq, go_sem]))); try exact rfl) ?_; first | refine aput_some rfl (Nat.le_of_ble_eq_true rfl) ?_ | refine aput_none rfl ?_) | (refine aops_skip rfl rfl (Nat.le_of_ble_eq_true rfl) ?_) | (refine aops_skip0 rfl rfl ?_)))
  refine then_normal (hN5 _ _ ?_); try clear hN5 N5
  refine awp_seq fun N6 hN6 => ?_
  refine awp_region ?_
  (repeat ((with_reducible show aops _ _ _ _ _ _ _); first | (with_reducible refine aops_nil ?_) | (refine aops_do rfl rfl (by (try (conv => (lhs; simp only [-List.reduceReplicate, ↓reduceIte, Nat.reduceEqDiff, Nat.reduceLT, Nat.reduceAdd, Nat.reduceMul, Nat.reduceLeDiff, Int.reduceLT, Int.reduceLE, Int.reduceToNat, reduceCtorEq, go_sem]))); try exact rfl) ?_; first | refine aput_some rfl (Nat.le_of_ble_eq_true rfl) ?_ | refine aput_none rfl ?_) | (refine aops_skip rfl rfl (Nat.le_of_ble_eq_true rfl) ?_) | (refine aops_skip0 rfl rfl ?_)))
  refine aops_call (hs := t116 _ _) rfl rfl rfl (Nat.le_of_ble_eq_true rfl) rfl ?_
  rintro _ _ ⟨rfl, rfl⟩
  (repeat ((with_reducible show aops _ _ _ _ _ _ _); first | (with_reducible refine aops_nil ?_) | (refine aops_do rfl rfl (by (try (conv => (lhs; simp only [-List.reduceReplicate, ↓reduceIte, Nat.reduceEqDiff, Nat.reduceLT, Nat.reduceAdd, Nat.reduceMul, Nat.reduceLeDiff, Int.reduceLT, Int.reduceLE, Int.reduceToNat, reduceCtorEq, go_sem]))); try exact rfl) ?_; first | refine aput_some rfl (Nat.le_of_ble_eq_true rfl) ?_ | refine aput_none rfl ?_) | (refine aops_skip rfl rfl (Nat.le_of_ble_eq_true rfl) ?_) | (refine aops_skip0 rfl rfl ?_)))
  refine then_normal (hN6 _ _ ?_); try clear hN6 N6
  refine awp_seq fun N7 hN7 => ?_
  refine awp_region ?_
  (repeat ((with_reducible show aops _ _ _ _ _ _ _); first | (with_reducible refine aops_nil ?_) | (refine aops_do rfl rfl (by (try (conv => (lhs; simp only [-List.reduceReplicate, ↓reduceIte, Nat.reduceEqDiff, Nat.reduceLT, Nat.reduceAdd, Nat.reduceMul, Nat.reduceLeDiff, Int.reduceLT, Int.reduceLE, Int.reduceToNat, reduceCtorEq, go_sem]))); try exact rfl) ?_; first | refine aput_some rfl (Nat.le_of_ble_eq_true rfl) ?_ | refine aput_none rfl ?_) | (refine aops_skip rfl rfl (Nat.le_of_ble_eq_true rfl) ?_) | (refine aops_skip0 rfl rfl ?_)))
  refine aops_call (hs := t116 _ _) rfl rfl rfl (Nat.le_of_ble_eq_true rfl) rfl ?_
  rintro _ _ ⟨rfl, rfl⟩
  (repeat ((with_reducible show aops _ _ _ _ _ _ _); first | (with_reducible refine aops_nil ?_) | (refine aops_do rfl rfl (by (try (conv => (lhs; simp only [-List.reduceReplicate, ↓reduceIte, Nat.reduceEqDiff, Nat.reduceLT, Nat.reduceAdd, Nat.reduceMul, Nat.reduceLeDiff, Int.reduceLT, Int.reduceLE, Int.reduceToNat, reduceCtorEq, go_sem]))); try exact rfl) ?_; first | refine aput_some rfl (Nat.le_of_ble_eq_true rfl) ?_ | refine aput_none rfl ?_) | (refine aops_skip rfl rfl (Nat.le_of_ble_eq_true rfl) ?_) | (refine aops_skip0 rfl rfl ?_)))
  refine then_normal (hN7 _ _ ?_); try clear hN7 N7
  refine awp_seq fun N8 hN8 => ?_
  refine awp_seq fun N9 hN9 => ?_
  refine awp_region ?_
  (repeat ((with_reducible show aops _ _ _ _ _ _ _); first | (with_reducible refine aops_nil ?_) | (refine aops_do rfl rfl (by (try (conv => (lhs; simp only [-List.reduceReplicate, ↓reduceIte, Nat.reduceEqDiff, Nat.reduceLT, Nat.reduceAdd, Nat.reduceMul, Nat.reduceLeDiff, Int.reduceLT, Int.reduceLE, Int.reduceToNat, reduceCtorEq, go_sem]))); try exact rfl) ?_; first | refine aput_some rfl (Nat.le_of_ble_eq_true rfl) ?_ | refine aput_none rfl ?_) | (refine aops_skip rfl rfl (Nat.le_of_ble_eq_true rfl) ?_) | (refine aops_skip0 rfl rfl ?_)))
  refine then_normal (hN9 _ _ ?_); try clear hN9 N9
  refine awp_false rfl ?_
  refine awp_skip ?_
  refine then_normal (hN8 _ _ ?_); try clear hN8 N8
  refine awp_seq fun N10 hN10 => ?_
  refine awp_seq fun N11 hN11 => ?_
  refine awp_region ?_
  (repeat ((with_reducible show aops _ _ _ _ _ _ _); first | (with_reducible refine aops_nil ?_) | (refine aops_do rfl rfl (by (try (conv => (lhs; simp only [-List.reduceReplicate, ↓reduceIte, Nat.reduceEqDiff, Nat.reduceLT, Nat.reduceAdd, Nat.reduceMul, Nat.reduceLeDiff, Int.reduceLT, Int.reduceLE, Int.reduceToNat, reduceCtorEq, go_sem]))); try exact rfl) ?_; first | refine aput_some rfl (Nat.le_of_ble_eq_true rfl) ?_ | refine aput_none rfl ?_) | (refine aops_skip rfl rfl (Nat.le_of_ble_eq_true rfl) ?_) | (refine aops_skip0 rfl rfl ?_)))
  refine then_normal (hN11 _ _ ?_); try clear hN11 N11
  refine awp_false rfl ?_
  refine awp_skip ?_
  refine then_normal (hN10 _ _ ?_); try clear hN10 N10
  refine awp_seq fun N12 hN12 => ?_
  refine awp_seq fun N13 hN13 => ?_
  refine awp_region ?_
  (repeat ((with_reducible show aops _ _ _ _ _ _ _); first | (with_reducible refine aops_nil ?_) | (refine aops_do rfl rfl (by (try (conv => (lhs; simp only [-List.reduceReplicate, ↓reduceIte, Nat.reduceEqDiff, Nat.reduceLT, Nat.reduceAdd, Nat.reduceMul, Nat.reduceLeDiff, Int.reduceLT, Int.reduceLE, Int.reduceToNat, reduceCtorEq, go_sem]))); try exact rfl) ?_; first | refine aput_some rfl (Nat.le_of_ble_eq_true rfl) ?_ | refine aput_none rfl ?_) | (refine aops_skip rfl rfl (Nat.le_of_ble_eq_true rfl) ?_) | (refine aops_skip0 rfl rfl ?_)))
  refine then_normal (hN13 _ _ ?_); try clear hN13 N13
  refine awp_split (x := decide (a < b)) rfl (fun h => ?_) (fun h => ?_)
  
  · have h : a < b := of_decide_eq_true h
    refine awp_seq fun N14 hN14 => ?_
    refine awp_region ?_
    (repeat ((with_reducible show aops _ _ _ _ _ _ _); first | (with_reducible refine aops_nil ?_) | (refine aops_do rfl rfl (by (try (conv => (lhs; simp only [-List.reduceReplicate, ↓reduceIte, Nat.reduceEqDiff, Nat.reduceLT, Nat.reduceAdd, Nat.reduceMul, Nat.reduceLeDiff, Int.reduceLT, Int.reduceLE, Int.reduceToNat, reduceCtorEq, go_sem]))); try exact rfl) ?_; first | refine aput_some rfl (Nat.le_of_ble_eq_true rfl) ?_ | refine aput_none rfl ?_) | (refine aops_skip rfl rfl (Nat.le_of_ble_eq_true rfl) ?_) | (refine aops_skip0 rfl rfl ?_)))
    refine then_normal (hN14 _ _ ?_); try clear hN14 N14
    refine awp_ret ?_; (repeat (first | (with_reducible refine then_ret ?_) | (with_reducible refine block_ret ?_)))
    refine end_ret rfl ⟨?_, rfl⟩
    rw [if_pos h]; rfl
  
  have h : ¬ a < b := of_decide_eq_false h
  refine awp_skip ?_
  refine then_normal (hN12 _ _ ?_); try clear hN12 N12
  refine awp_seq fun N15 hN15 => ?_
  refine awp_seq fun N16 hN16 => ?_
  refine awp_region ?_
  (repeat ((with_reducible show aops _ _ _ _ _ _ _); first | (with_reducible refine aops_nil ?_) | (refine aops_do rfl rfl (by (try (conv => (lhs; simp only [-List.reduceReplicate, ↓reduceIte, Nat.reduceEqDiff, Nat.reduceLT, Nat.reduceAdd, Nat.reduceMul, Nat.reduceLeDiff, Int.reduceLT, Int.reduceLE, Int.reduceToNat, reduceCtorEq, go_sem]))); try exact rfl) ?_; first | refine aput_some rfl (Nat.le_of_ble_eq_true rfl) ?_ | refine aput_none rfl ?_) | (refine aops_skip rfl rfl (Nat.le_of_ble_eq_true rfl) ?_) | (refine aops_skip0 rfl rfl ?_)))
  refine then_normal (hN16 _ _ ?_); try clear hN16 N16
  refine awp_split (x := decide (a > b)) rfl (fun h2 => ?_) (fun h2 => ?_)
  
  · have h2 : b < a := of_decide_eq_true h2
    refine awp_seq fun N17 hN17 => ?_
    refine awp_region ?_
    (repeat ((with_reducible show aops _ _ _ _ _ _ _); first | (with_reducible refine aops_nil ?_) | (refine aops_do rfl rfl (by (try (conv => (lhs; simp only [-List.reduceReplicate, ↓reduceIte, Nat.reduceEqDiff, Nat.reduceLT, Nat.reduceAdd, Nat.reduceMul, Nat.reduceLeDiff, Int.reduceLT, Int.reduceLE, Int.reduceToNat, reduceCtorEq, go_sem]))); try exact rfl) ?_; first | refine aput_some rfl (Nat.le_of_ble_eq_true rfl) ?_ | refine aput_none rfl ?_) | (refine aops_skip rfl rfl (Nat.le_of_ble_eq_true rfl) ?_) | (refine aops_skip0 rfl rfl ?_)))
    refine then_normal (hN17 _ _ ?_); try clear hN17 N17
    refine awp_ret ?_; (repeat (first | (with_reducible refine then_ret ?_) | (with_reducible refine block_ret ?_)))
    refine end_ret rfl ⟨?_, rfl⟩
    rw [if_neg h, if_pos h2]; rfl
  
  have h2 : ¬ b < a := of_decide_eq_false h2
  refine awp_skip ?_
  refine then_normal (hN15 _ _ ?_); try clear hN15 N15
  refine awp_seq fun N18 hN18 => ?_
  refine awp_region ?_
  (repeat ((with_reducible show aops _ _ _ _ _ _ _); first | (with_reducible refine aops_nil ?_) | (refine aops_do rfl rfl (by (try (conv => (lhs; simp only [-List.reduceReplicate, ↓reduceIte, Nat.reduceEqDiff, Nat.reduceLT, Nat.reduceAdd, Nat.reduceMul, Nat.reduceLeDiff, Int.reduceLT, Int.reduceLE, Int.reduceToNat, reduceCtorEq, go_sem]))); try exact rfl) ?_; first | refine aput_some rfl (Nat.le_of_ble_eq_true rfl) ?_ | refine aput_none rfl ?_) | (refine aops_skip rfl rfl (Nat.le_of_ble_eq_true rfl) ?_) | (refine aops_skip0 rfl rfl ?_)))
  refine then_normal (hN18 _ _ ?_); try clear hN18 N18
  refine awp_ret ?_; (repeat (first | (with_reducible refine then_ret ?_) | (with_reducible refine block_ret ?_)))
  refine end_ret rfl ⟨?_, rfl⟩
  rw [if_neg h, if_neg h2]; rfl
end Go.AB.Try

/-
  cmp.Or, graph.Order, and the heap's Less and Swap.
-/
namespace Go.AB.Try
open Go Go.AB Go.Proofs
set_option linter.unusedSimpArgs false
set_option linter.unusedVariables false
set_option maxRecDepth 10000
attribute [local irreducible] aops adrawn awp SimW

theorem t112 {b : Nat} {k : Kind} {c1 c2 : Int} {A : AHeap} (hb : A.f b = some (.row [.int .i64 c1, .int .i64 c2] k)) :
    SimW Try.prog 112 [.slice (some ⟨b, 0, none⟩) 2 2] A (fun v A' => v = .int .i64 (if c1 ≠ 0 then c1 else c2) ∧ A' = A) := by
  
  refine simW_of_awp fine mixed Try.func112 rfl rfl (Nat.le_of_ble_eq_true rfl) ?_
  refine awp_seq fun N1 hN1 => ?_
  refine awp_region ?_
  (repeat ((with_reducible show aops _ _ _ _ _ _ _); first | (with_reducible refine aops_nil ?_) | (refine aops_do rfl rfl (by (try (conv => (lhs; simp only [-List.reduceReplicate, ↓reduceIte, Nat.reduceEqDiff, Nat.reduceLT, Nat.reduceAdd, Nat.reduceMul, Nat.reduceLeDiff, Int.reduceLT, Int.reduceLE, Int.reduceToNat, reduceCtorEq, go_sem]))); try exact rfl) ?_; first | refine aput_some rfl (Nat.le_of_ble_eq_true rfl) ?_ | refine aput_none rfl ?_) | (refine aops_skip rfl rfl (Nat.le_of_ble_eq_true rfl) ?_) | (refine aops_skip0 rfl rfl ?_)))
  refine then_normal (hN1 _ _ ?_); try clear hN1 N1
  refine awp_seq fun N2 hN2 => ?_
  refine awp_region ?_
  (repeat ((with_reducible show aops _ _ _ _ _ _ _); first | (with_reducible refine aops_nil ?_) | (refine aops_do rfl rfl (by (try (conv => (lhs; simp only [-List.reduceReplicate, ↓reduceIte, Nat.reduceEqDiff, Nat.reduceLT, Nat.reduceAdd, Nat.reduceMul, Nat.reduceLeDiff, Int.reduceLT, Int.reduceLE, Int.reduceToNat, reduceCtorEq, go_sem]))); try exact rfl) ?_; first | refine aput_some rfl (Nat.le_of_ble_eq_true rfl) ?_ | refine aput_none rfl ?_) | (refine aops_skip rfl rfl (Nat.le_of_ble_eq_true rfl) ?_) | (refine aops_skip0 rfl rfl ?_)))
  refine then_normal (hN2 _ _ ?_); try clear hN2 N2
  refine awp_seq fun N3 hN3 => ?_
  refine awp_seq fun N4 hN4 => ?_
  refine awp_region ?_
  (repeat ((with_reducible show aops _ _ _ _ _ _ _); first | (with_reducible refine aops_nil ?_) | (refine aops_do rfl rfl (by (try (conv => (lhs; simp only [-List.reduceReplicate, ↓reduceIte, Nat.reduceEqDiff, Nat.reduceLT, Nat.reduceAdd, Nat.reduceMul, Nat.reduceLeDiff, Int.reduceLT, Int.reduceLE, Int.reduceToNat, reduceCtorEq, go_sem, goInt]))); try exact rfl) ?_; first | refine aput_some rfl (Nat.le_of_ble_eq_true rfl) ?_ | refine aput_none rfl ?_) | (refine aops_skip rfl rfl (Nat.le_of_ble_eq_true rfl) ?_) | (refine aops_skip0 rfl rfl ?_)))
  refine then_normal (hN4 _ _ ?_); try clear hN4 N4
  refine awp_block ?_
  
  refine awp_loop (fun m t A' => A' = A ∧ t 3 = .int .i64 0 ∧ t 6 = .slice (some ⟨b, 0, none⟩) 2 2 ∧ t 7 = .int .i64 2 ∧
    ((t 8 = .int .i64 0 ∧ m = 2) ∨ (t 8 = .int .i64 1 ∧ m = 1 ∧ c1 = 0) ∨ (t 8 = .int .i64 2 ∧ m = 0 ∧ c1 = 0 ∧ c2 = 0))) 2 ⟨rfl, rfl, rfl, rfl, .inl ⟨rfl, rfl⟩⟩ fun m t A' hI N hN => ?_
  obtain ⟨rfl, h3, h6, h7, hI⟩ := hI
  rcases hI with ⟨h8, rfl⟩ | ⟨h8, rfl, rfl⟩ | ⟨h8, rfl, rfl, rfl⟩
  
  · refine awp_seq fun N5 hN5 => ?_
    refine awp_region ?_
    (repeat ((with_reducible show aops _ _ _ _ _ _ _); first | (with_reducible refine aops_nil ?_) | (refine aops_do rfl rfl (by (try (conv => (lhs; simp only [-List.reduceReplicate, ↓reduceIte, Nat.reduceEqDiff, Nat.reduceLT, Nat.reduceAdd, Nat.reduceMul, Nat.reduceLeDiff, Int.reduceLT, Int.reduceLE, Int.reduceToNat, reduceCtorEq, go_sem, h7, h8]))); try exact rfl) ?_; first | refine aput_some rfl (Nat.le_of_ble_eq_true rfl) ?_ | refine aput_none rfl ?_) | (refine aops_skip rfl rfl (Nat.le_of_ble_eq_true rfl) ?_) | (refine aops_skip0 rfl rfl ?_)))
    refine then_normal (hN5 _ _ ?_); try clear hN5 N5
    refine awp_seq fun N6 hN6 => ?_
    refine awp_true rfl ?_
    refine awp_skip ?_
    refine then_normal (hN6 _ _ ?_); try clear hN6 N6
    refine awp_seq fun N7 hN7 => ?_
    refine awp_block ?_
    refine awp_seq fun N8 hN8 => ?_
    refine awp_region ?_
    (repeat ((with_reducible show aops _ _ _ _ _ _ _); first | (with_reducible refine aops_nil ?_) | (refine aops_do rfl rfl (by (try (conv => (lhs; simp only [-List.reduceReplicate, ↓reduceIte, Nat.reduceEqDiff, Nat.reduceLT, Nat.reduceAdd, Nat.reduceMul, Nat.reduceLeDiff, Int.reduceLT, Int.reduceLE, Int.reduceToNat, reduceCtorEq, go_sem, h6, h8, hb, ecap]))); try exact rfl) ?_; first | refine aput_some rfl (Nat.le_of_ble_eq_true rfl) ?_ | refine aput_none rfl ?_) | (refine aops_skip rfl rfl (Nat.le_of_ble_eq_true rfl) ?_) | (refine aops_skip0 rfl rfl ?_)))
    refine then_normal (hN8 _ _ ?_); try clear hN8 N8
    refine awp_seq fun N9 hN9 => ?_
    refine awp_region ?_
    (repeat ((with_reducible show aops _ _ _ _ _ _ _); first | (with_reducible refine aops_nil ?_) | (refine aops_do rfl rfl (by (try (conv => (lhs; simp only [-List.reduceReplicate, ↓reduceIte, Nat.reduceEqDiff, Nat.reduceLT, Nat.reduceAdd, Nat.reduceMul, Nat.reduceLeDiff, Int.reduceLT, Int.reduceLE, Int.reduceToNat, reduceCtorEq, go_sem, h3]))); try exact rfl) ?_; first | refine aput_some rfl (Nat.le_of_ble_eq_true rfl) ?_ | refine aput_none rfl ?_) | (refine aops_skip rfl rfl (Nat.le_of_ble_eq_true rfl) ?_) | (refine aops_skip0 rfl rfl ?_)))
    refine then_normal (hN9 _ _ ?_); try clear hN9 N9
    refine awp_split (x := c1 != 0) rfl (fun h => ?_) (fun h => ?_)
    
    · refine awp_seq fun N10 hN10 => ?_
      refine awp_region ?_
      (repeat ((with_reducible show aops _ _ _ _ _ _ _); first | (with_reducible refine aops_nil ?_) | (refine aops_do rfl rfl (by (try (conv => (lhs; simp only [-List.reduceReplicate, ↓reduceIte, Nat.reduceEqDiff, Nat.reduceLT, Nat.reduceAdd, Nat.reduceMul, Nat.reduceLeDiff, Int.reduceLT, Int.reduceLE, Int.reduceToNat, reduceCtorEq, go_sem]))); try exact rfl) ?_; first | refine aput_some rfl (Nat.le_of_ble_eq_true rfl) ?_ | refine aput_none rfl ?_) | (refine aops_skip rfl rfl (Nat.le_of_ble_eq_true rfl) ?_) | (refine aops_skip0 rfl rfl ?_)))
      refine then_normal (hN10 _ _ ?_); try clear hN10 N10
      refine awp_ret ?_; (repeat (first | (with_reducible refine then_ret ?_) | (with_reducible refine block_ret ?_)))
      refine end_ret rfl ⟨?_, rfl⟩
      have h : c1 ≠ 0 := by simpa using h
      rw [if_pos h]; rfl
    
    refine awp_skip ?_
    refine block_normal ?_
    refine then_normal (hN7 _ _ ?_); try clear hN7 N7
    refine awp_region ?_
    (repeat ((with_reducible show aops _ _ _ _ _ _ _); first | (with_reducible refine aops_nil ?_) | (refine aops_do rfl rfl (by (try (conv => (lhs; simp only [-List.reduceReplicate, ↓reduceIte, Nat.reduceEqDiff, Nat.reduceLT, Nat.reduceAdd, Nat.reduceMul, Nat.reduceLeDiff, Int.reduceLT, Int.reduceLE, Int.reduceToNat, reduceCtorEq, go_sem, h8]))); try exact rfl) ?_; first | refine aput_some rfl (Nat.le_of_ble_eq_true rfl) ?_ | refine aput_none rfl ?_) | (refine aops_skip rfl rfl (Nat.le_of_ble_eq_true rfl) ?_) | (refine aops_skip0 rfl rfl ?_)))
    have h : c1 = 0 := by simpa using h
    exact then_normal (hN _ _ 1 (by omega) ⟨rfl, h3, h6, h7, .inr (.inl ⟨rfl, rfl, h⟩)⟩)
  
  
  · refine awp_seq fun N11 hN11 => ?_
    refine awp_region ?_
    (repeat ((with_reducible show aops _ _ _ _ _ _ _); first | (with_reducible refine aops_nil ?_) | (refine aops_do rfl rfl (by (try (conv => (lhs; simp only [-List.reduceReplicate, ↓reduceIte, Nat.reduceEqDiff, Nat.reduceLT, Nat.reduceAdd, Nat.reduceMul, Nat.reduceLeDiff, Int.reduceLT, Int.reduceLE, Int.reduceToNat, reduceCtorEq, go_sem, h7, h8]))); try exact rfl) ?_; first | refine aput_some rfl (Nat.le_of_ble_eq_true rfl) ?_ | refine aput_none rfl ?_) | (refine aops_skip rfl rfl (Nat.le_of_ble_eq_true rfl) ?_) | (refine aops_skip0 rfl rfl ?_)))
    refine then_normal (hN11 _ _ ?_); try clear hN11 N11
    refine awp_seq fun N12 hN12 => ?_
    refine awp_true rfl ?_
    refine awp_skip ?_
    refine then_normal (hN12 _ _ ?_); try clear hN12 N12
    refine awp_seq fun N13 hN13 => ?_
    refine awp_block ?_
    refine awp_seq fun N14 hN14 => ?_
    refine awp_region ?_
    (repeat ((with_reducible show aops _ _ _ _ _ _ _); first | (with_reducible refine aops_nil ?_) | (refine aops_do rfl rfl (by (try (conv => (lhs; simp only [-List.reduceReplicate, ↓reduceIte, Nat.reduceEqDiff, Nat.reduceLT, Nat.reduceAdd, Nat.reduceMul, Nat.reduceLeDiff, Int.reduceLT, Int.reduceLE, Int.reduceToNat, reduceCtorEq, go_sem, h6, h8, hb, ecap]))); try exact rfl) ?_; first | refine aput_some rfl (Nat.le_of_ble_eq_true rfl) ?_ | refine aput_none rfl ?_) | (refine aops_skip rfl rfl (Nat.le_of_ble_eq_true rfl) ?_) | (refine aops_skip0 rfl rfl ?_)))
    refine then_normal (hN14 _ _ ?_); try clear hN14 N14
    refine awp_seq fun N15 hN15 => ?_
    refine awp_region ?_
    (repeat ((with_reducible show aops _ _ _ _ _ _ _); first | (with_reducible refine aops_nil ?_) | (refine aops_do rfl rfl (by (try (conv => (lhs; simp only [-List.reduceReplicate, ↓reduceIte, Nat.reduceEqDiff, Nat.reduceLT, Nat.reduceAdd, Nat.reduceMul, Nat.reduceLeDiff, Int.reduceLT, Int.reduceLE, Int.reduceToNat, reduceCtorEq, go_sem, h3]))); try exact rfl) ?_; first | refine aput_some rfl (Nat.le_of_ble_eq_true rfl) ?_ | refine aput_none rfl ?_) | (refine aops_skip rfl rfl (Nat.le_of_ble_eq_true rfl) ?_) | (refine aops_skip0 rfl rfl ?_)))
    refine then_normal (hN15 _ _ ?_); try clear hN15 N15
    refine awp_split (x := c2 != 0) rfl (fun h => ?_) (fun h => ?_)
    
    · refine awp_seq fun N16 hN16 => ?_
      refine awp_region ?_
      (repeat ((with_reducible show aops _ _ _ _ _ _ _); first | (with_reducible refine aops_nil ?_) | (refine aops_do rfl rfl (by (try (conv => (lhs; simp only [-List.reduceReplicate, ↓reduceIte, Nat.reduceEqDiff, Nat.reduceLT, Nat.reduceAdd, Nat.reduceMul, Nat.reduceLeDiff, Int.reduceLT, Int.reduceLE, Int.reduceToNat, reduceCtorEq, go_sem]))); try exact rfl) ?_; first | refine aput_some rfl (Nat.le_of_ble_eq_true rfl) ?_ | refine aput_none rfl ?_) | (refine aops_skip rfl rfl (Nat.le_of_ble_eq_true rfl) ?_) | (refine aops_skip0 rfl rfl ?_)))
      refine then_normal (hN16 _ _ ?_); try clear hN16 N16
      refine awp_ret ?_; (repeat (first | (with_reducible refine then_ret ?_) | (with_reducible refine block_ret ?_)))
      exact end_ret rfl ⟨rfl, rfl⟩
    
    refine awp_skip ?_
    refine block_normal ?_
    refine then_normal (hN13 _ _ ?_); try clear hN13 N13
    refine awp_region ?_
    (repeat ((with_reducible show aops _ _ _ _ _ _ _); first | (with_reducible refine aops_nil ?_) | (refine aops_do rfl rfl (by (try (conv => (lhs; simp only [-List.reduceReplicate, ↓reduceIte, Nat.reduceEqDiff, Nat.reduceLT, Nat.reduceAdd, Nat.reduceMul, Nat.reduceLeDiff, Int.reduceLT, Int.reduceLE, Int.reduceToNat, reduceCtorEq, go_sem, h8]))); try exact rfl) ?_; first | refine aput_some rfl (Nat.le_of_ble_eq_true rfl) ?_ | refine aput_none rfl ?_) | (refine aops_skip rfl rfl (Nat.le_of_ble_eq_true rfl) ?_) | (refine aops_skip0 rfl rfl ?_)))
    have h : c2 = 0 := by simpa using h
    exact then_normal (hN _ _ 0 (by omega) ⟨rfl, h3, h6, h7, .inr (.inr ⟨rfl, rfl, rfl, h⟩)⟩)
  
  refine awp_seq fun N17 hN17 => ?_
  refine awp_region ?_
  (repeat ((with_reducible show aops _ _ _ _ _ _ _); first | (with_reducible refine aops_nil ?_) | (refine aops_do rfl rfl (by (try (conv => (lhs; simp only [-List.reduceReplicate, ↓reduceIte, Nat.reduceEqDiff, Nat.reduceLT, Nat.reduceAdd, Nat.reduceMul, Nat.reduceLeDiff, Int.reduceLT, Int.reduceLE, Int.reduceToNat, reduceCtorEq, go_sem, h7, h8]))); try exact rfl) ?_; first | refine aput_some rfl (Nat.le_of_ble_eq_true rfl) ?_ | refine aput_none rfl ?_) | (refine aops_skip rfl rfl (Nat.le_of_ble_eq_true rfl) ?_) | (refine aops_skip0 rfl rfl ?_)))
  refine then_normal (hN17 _ _ ?_); try clear hN17 N17
  refine awp_seq fun N18 hN18 => ?_
  refine awp_false rfl ?_
  refine awp_exit ?_; (repeat (first | (with_reducible refine then_exit ?_) | ((with_reducible refine block_there ?hne ?_); case hne => rfl))); with_reducible refine block_here ?_
  refine then_normal (hN3 _ _ ?_); try clear hN3 N3
  refine awp_seq fun N19 hN19 => ?_
  refine awp_region ?_
  (repeat ((with_reducible show aops _ _ _ _ _ _ _); first | (with_reducible refine aops_nil ?_) | (refine aops_do rfl rfl (by (try (conv => (lhs; simp only [-List.reduceReplicate, ↓reduceIte, Nat.reduceEqDiff, Nat.reduceLT, Nat.reduceAdd, Nat.reduceMul, Nat.reduceLeDiff, Int.reduceLT, Int.reduceLE, Int.reduceToNat, reduceCtorEq, go_sem, h3]))); try exact rfl) ?_; first | refine aput_some rfl (Nat.le_of_ble_eq_true rfl) ?_ | refine aput_none rfl ?_) | (refine aops_skip rfl rfl (Nat.le_of_ble_eq_true rfl) ?_) | (refine aops_skip0 rfl rfl ?_)))
  refine then_normal (hN19 _ _ ?_); try clear hN19 N19
  refine awp_ret ?_; (repeat (first | (with_reducible refine then_ret ?_) | (with_reducible refine block_ret ?_)))
  exact end_ret rfl ⟨rfl, rfl⟩

theorem t111a {a b : List Int} (ha : vok a = true) (hb : vok b = true) {A : AHeap} : SimW Try.prog 111 [vagg a, vagg b] A (fun v A' => v = .int .i64 (ordI a b) ∧
    A' = ((A.push (.row (vcells a) .fix)).push (.row (vcells b) .fix)).push (.row [.int .i64 (Lib.compareBytes ((a.take 32).map ub) ((b.take 32).map ub)), .int .i64 (if vn a < vn b then -1 else if vn b < vn a then 1 else 0)] .fix)) := by
  rw [ordI_eq ha hb]
  have la : 32 ≤ (vcells a).length := by rw [vcells_len ha]; omega
  have lb : 32 ≤ (vcells b).length := by rw [vcells_len hb]; omega
  have ga : (vcells a)[32]? = some (.int .i64 (vn a)) := by
    unfold vcells; rw [List.getElem?_append_right (by simp [vok_len ha]), drop32 ha]; simp [vok_len ha]
  have gb : (vcells b)[32]? = some (.int .i64 (vn b)) := by
    unfold vcells; rw [List.getElem?_append_right (by simp [vok_len hb]), drop32 hb]; simp [vok_len hb]
  have h113 : ∀ (A' : AHeap), A'.f A.n = some (.row (vcells a) .fix) → A'.f (A.n + 1) = some (.row (vcells b) .fix) → SimW Try.prog 113 [.slice (some ⟨A.n, 0, none⟩) 32 32, .slice (some ⟨A.n + 1, 0, none⟩) 32 32] A' (fun v A'' => v = .int .i64 (Lib.compareBytes ((a.take 32).map ub) ((b.take 32).map ub)) ∧ A'' = A') := by
    intro A' h1 h2
    have e : ∀ {i : Nat} {v : List Int}, vok v = true → A'.f i = some (.row (vcells v) .fix) → aBytes A' (.slice (some ⟨i, 0, none⟩) 32 32) = some ((v.take 32).map ub) := by
      intro i v hv h
      unfold aBytes
      simp only [show ¬ (32 : Nat) = ecap from by decide, if_false, h, getCells, vcells_len hv, show 0 + 32 ≤ 33 from by decide, if_true, List.drop_zero]
      have : (vcells v).take 32 = (v.take 32).map (Value.int .u8 ·) := by
        unfold vcells; rw [List.take_append_of_le_length (by simp [vok_len hv]), List.map_take, List.take_take]; rfl
      rw [this, byteV_ints]
    have := t113 (e ha h1) (e hb h2)
    rw [Lib.cmp_eq] at this
    exact this
  generalize Lib.compareBytes ((a.take 32).map ub) ((b.take 32).map ub) = c1 at *
  
  refine simW_of_awp fine mixed Try.func111 rfl rfl (Nat.le_of_ble_eq_true rfl) ?_
  refine awp_seq fun N20 hN20 => ?_
  refine awp_region ?_
  (repeat ((with_reducible show aops _ _ _ _ _ _ _); first | (with_reducible refine aops_nil ?_) | (refine aops_do rfl rfl (by (try (conv => (lhs; simp only [-List.reduceReplicate, ↓reduceIte, Nat.reduceEqDiff, Nat.reduceLT, Nat.reduceAdd, Nat.reduceMul, Nat.reduceLeDiff, Int.reduceLT, Int.reduceLE, Int.reduceToNat, reduceCtorEq, go_sem, acells_vagg]))); try exact rfl) ?_; first | refine aput_some rfl (Nat.le_of_ble_eq_true rfl) ?_ | refine aput_none rfl ?_) | (refine aops_skip rfl rfl (Nat.le_of_ble_eq_true rfl) ?_) | (refine aops_skip0 rfl rfl ?_)))
  refine then_normal (hN20 _ _ ?_); try clear hN20 N20
  refine awp_seq fun N21 hN21 => ?_
  refine awp_drawn [] (by kernel_rfl) ?_
  (repeat ((with_reducible show adrawn _ _ _ _ _ _ _ _ _ _ _); first | (with_reducible refine adrawn_nil ?_) | (refine adrawn_do rfl rfl rfl (by (try (conv => (lhs; simp only [-List.reduceReplicate, ↓reduceIte, Nat.reduceEqDiff, Nat.reduceLT, Nat.reduceAdd, Nat.reduceMul, Nat.reduceLeDiff, Int.reduceLT, Int.reduceLE, Int.reduceToNat, reduceCtorEq, go_sem, ucap, abounds_0]))); try exact rfl) (by first | exact Nat.le_refl _ | exact Nat.le_succ _) (by first | exact .inl (Unch.refl _) | exact .inl (Unch.push _ _) | exact .inr (by decide)) ?_; first | refine aput_some rfl (Nat.le_of_ble_eq_true rfl) ?_ | refine aput_none rfl ?_) | (refine adrawn_skip rfl rfl (Nat.le_of_ble_eq_true rfl) ?_) | (refine adrawn_skip0 rfl rfl ?_)))
  refine adrawn_call (hs := h113 _ (by simp [AHeap.push_f]) (by simp [AHeap.push_f])) rfl rfl rfl rfl (Nat.le_of_ble_eq_true rfl) rfl (Nat.le_refl _) (.inl (Unch.refl _)) (by intro p hp; cases hp) ?_
  (repeat ((with_reducible show adrawn _ _ _ _ _ _ _ _ _ _ _); first | (with_reducible refine adrawn_nil ?_) | (refine adrawn_do rfl rfl rfl (by (try (conv => (lhs; simp only [-List.reduceReplicate, ↓reduceIte, Nat.reduceEqDiff, Nat.reduceLT, Nat.reduceAdd, Nat.reduceMul, Nat.reduceLeDiff, Int.reduceLT, Int.reduceLE, Int.reduceToNat, reduceCtorEq, go_sem, AHeap.push_f, ga, gb]))); try exact rfl) (by first | exact Nat.le_refl _ | exact Nat.le_succ _) (by first | exact .inl (Unch.refl _) | exact .inl (Unch.push _ _) | exact .inr (by decide)) ?_; first | refine aput_some rfl (Nat.le_of_ble_eq_true rfl) ?_ | refine aput_none rfl ?_) | (refine adrawn_skip rfl rfl (Nat.le_of_ble_eq_true rfl) ?_) | (refine adrawn_skip0 rfl rfl ?_)))
  refine adrawn_call (hs := t114 (vn a) (vn b) _) rfl rfl rfl rfl (Nat.le_of_ble_eq_true rfl) rfl (Nat.le_refl _) (.inl (Unch.refl _)) (by intro p hp; cases hp) ?_
  (repeat ((with_reducible show adrawn _ _ _ _ _ _ _ _ _ _ _); first | (with_reducible refine adrawn_nil ?_) | (refine adrawn_do rfl rfl rfl (by (try (conv => (lhs; simp only [-List.reduceReplicate, ↓reduceIte, Nat.reduceEqDiff, Nat.reduceLT, Nat.reduceAdd, Nat.reduceMul, Nat.reduceLeDiff, Int.reduceLT, Int.reduceLE, Int.reduceToNat, reduceCtorEq, go_sem, seqCells, acells, scalar, Nat.reduceMul, Nat.reduceLeDiff]))); try exact rfl) (by first | exact Nat.le_refl _ | exact Nat.le_succ _) (by first | exact .inl (Unch.refl _) | exact .inl (Unch.push _ _) | exact .inr (by decide)) ?_; first | refine aput_some rfl (Nat.le_of_ble_eq_true rfl) ?_ | refine aput_none rfl ?_) | (refine adrawn_skip rfl rfl (Nat.le_of_ble_eq_true rfl) ?_) | (refine adrawn_skip0 rfl rfl ?_)))
  refine adrawn_call (hs := t112 (b := A.n + 2) (c1 := c1) (c2 := if vn a < vn b then -1 else if vn b < vn a then 1 else 0) (k := .fix) (by simp [AHeap.push_f])) rfl rfl rfl rfl (Nat.le_of_ble_eq_true rfl) rfl (Nat.le_refl _) (.inl (Unch.refl _)) (by intro p hp; cases hp) ?_
  (repeat ((with_reducible show adrawn _ _ _ _ _ _ _ _ _ _ _); first | (with_reducible refine adrawn_nil ?_) | (refine adrawn_do rfl rfl rfl (by (try (conv => (lhs; simp only [-List.reduceReplicate, ↓reduceIte, Nat.reduceEqDiff, Nat.reduceLT, Nat.reduceAdd, Nat.reduceMul, Nat.reduceLeDiff, Int.reduceLT, Int.reduceLE, Int.reduceToNat, reduceCtorEq, go_sem]))); try exact rfl) (by first | exact Nat.le_refl _ | exact Nat.le_succ _) (by first | exact .inl (Unch.refl _) | exact .inl (Unch.push _ _) | exact .inr (by decide)) ?_; first | refine aput_some rfl (Nat.le_of_ble_eq_true rfl) ?_ | refine aput_none rfl ?_) | (refine adrawn_skip rfl rfl (Nat.le_of_ble_eq_true rfl) ?_) | (refine adrawn_skip0 rfl rfl ?_)))
  refine then_normal (hN21 _ _ ?_); try clear hN21 N21
  refine awp_ret ?_; (repeat (first | (with_reducible refine then_ret ?_) | (with_reducible refine block_ret ?_)))
  exact end_ret rfl ⟨rfl, rfl⟩

theorem t111 {a b : List Int} (ha : vok a = true) (hb : vok b = true) (A : AHeap) : SimW Try.prog 111 [vagg a, vagg b] A (fun v A' => v = .int .i64 (ordI a b) ∧ A' = A) :=
  (t111a ha hb).drop (((Unch.push _ _).trans (by simp only [AHeap.push_n]; omega) (Unch.push _ _)).trans (by simp only [AHeap.push_n]; omega) (Unch.push _ _)) rfl
end Go.AB.Try

/-
  The heap's Less, Swap and Len.
-/
namespace Go.AB.Try
open Go Go.AB Go.Proofs
set_option linter.unusedSimpArgs false
set_option linter.unusedVariables false
set_option maxRecDepth 10000
attribute [local irreducible] aops adrawn awp SimW

theorem t107 {A : AHeap} {b c n i j : Nat} {k : Kind} {l : List (List Int)} (hb : A.f b = some (.row (vrows l) k)) (hv : ∀ v ∈ l, vok v = true) (hi : i < n) (hj : j < n) (hn : n ≤ l.length) (hc : c ≠ ecap) :
    SimW Try.prog 107 [.slice (some ⟨b, 0, none⟩) n c, .int .i64 i, .int .i64 j] A (fun v A' => v = .bool (llt (at' [] l i) (at' [] l j)) ∧ A' = A) := by
  have g1 : getCells (vrows l) (i * 33) 33 = some (vcells (at' [] l i)) := vrows_get hv (by omega)
  have g2 : getCells (vrows l) (j * 33) 33 = some (vcells (at' [] l j)) := vrows_get hv (by omega)
  have b1 : (0 ≤ (i : Int) ∧ (i : Int) < (n : Int)) = True := by simp; omega
  have b2 : (0 ≤ (j : Int) ∧ (j : Int) < (n : Int)) = True := by simp; omega
  have v1 : vok (at' [] l i) = true := hv _ (by rw [at_eq [] (by omega)]; exact List.getElem_mem _)
  have v2 : vok (at' [] l j) = true := hv _ (by rw [at_eq [] (by omega)]; exact List.getElem_mem _)
  
  refine simW_of_awp fine mixed Try.func107 rfl rfl (Nat.le_of_ble_eq_true rfl) ?_
  refine awp_seq fun N1 hN1 => ?_
  refine awp_region ?_
  (repeat ((with_reducible show aops _ _ _ _ _ _ _); first | (with_reducible refine aops_nil ?_) | (refine aops_do rfl rfl (by (try (conv => (lhs; simp only [-List.reduceReplicate, ↓reduceIte, Nat.reduceEqDiff, Nat.reduceLT, Nat.reduceAdd, Nat.reduceMul, Nat.reduceLeDiff, Int.reduceLT, Int.reduceLE, Int.reduceToNat, reduceCtorEq, go_sem]))); try exact rfl) ?_; first | refine aput_some rfl (Nat.le_of_ble_eq_true rfl) ?_ | refine aput_none rfl ?_) | (refine aops_skip rfl rfl (Nat.le_of_ble_eq_true rfl) ?_) | (refine aops_skip0 rfl rfl ?_)))
  refine then_normal (hN1 _ _ ?_); try clear hN1 N1
  refine awp_seq fun N2 hN2 => ?_
  refine awp_drawn [] (by kernel_rfl) ?_
  (repeat ((with_reducible show adrawn _ _ _ _ _ _ _ _ _ _ _); first | (with_reducible refine adrawn_nil ?_) | (refine adrawn_do rfl rfl rfl (by (try (conv => (lhs; simp only [-List.reduceReplicate, ↓reduceIte, Nat.reduceEqDiff, Nat.reduceLT, Nat.reduceAdd, Nat.reduceMul, Nat.reduceLeDiff, Int.reduceLT, Int.reduceLE, Int.reduceToNat, reduceCtorEq, go_sem, hc, b1, b2, Int.toNat_natCast, hb, g1, g2]))); try exact rfl) (by first | exact Nat.le_refl _ | exact Nat.le_succ _) (by first | exact .inl (Unch.refl _) | exact .inl (Unch.push _ _) | exact .inr (by decide)) ?_; first | refine aput_some rfl (Nat.le_of_ble_eq_true rfl) ?_ | refine aput_none rfl ?_) | (refine adrawn_skip rfl rfl (Nat.le_of_ble_eq_true rfl) ?_) | (refine adrawn_skip0 rfl rfl ?_)))
  refine adrawn_call (hs := t111 v1 v2 _) rfl rfl rfl rfl (Nat.le_of_ble_eq_true rfl) rfl (Nat.le_refl _) (.inl (Unch.refl _)) (by intro p hp; cases hp) ?_
  (repeat ((with_reducible show adrawn _ _ _ _ _ _ _ _ _ _ _); first | (with_reducible refine adrawn_nil ?_) | (refine adrawn_do rfl rfl rfl (by (try (conv => (lhs; simp only [-List.reduceReplicate, ↓reduceIte, Nat.reduceEqDiff, Nat.reduceLT, Nat.reduceAdd, Nat.reduceMul, Nat.reduceLeDiff, Int.reduceLT, Int.reduceLE, Int.reduceToNat, reduceCtorEq, go_sem, ordI_neg]))); try exact rfl) (by first | exact Nat.le_refl _ | exact Nat.le_succ _) (by first | exact .inl (Unch.refl _) | exact .inl (Unch.push _ _) | exact .inr (by decide)) ?_; first | refine aput_some rfl (Nat.le_of_ble_eq_true rfl) ?_ | refine aput_none rfl ?_) | (refine adrawn_skip rfl rfl (Nat.le_of_ble_eq_true rfl) ?_) | (refine adrawn_skip0 rfl rfl ?_)))
  refine then_normal (hN2 _ _ ?_); try clear hN2 N2
  refine awp_ret ?_; (repeat (first | (with_reducible refine then_ret ?_) | (with_reducible refine block_ret ?_)))
  exact end_ret rfl ⟨rfl, rfl⟩

theorem set_set (A : AHeap) (b : Nat) (x y : AObj) : (A.set b x).set b y = A.set b y := by
  refine CH.ext rfl fun i => ?_
  rw [AHeap.set_f, AHeap.set_f, AHeap.set_f]
  by_cases h : i = b <;> simp [h]

theorem t110 {A : AHeap} {b c n i j : Nat} {k : Kind} {l : List (List Int)} (hb : A.f b = some (.row (vrows l) k)) (hk : k ≠ .ro) (hv : ∀ v ∈ l, vok v = true) (hi : i < n) (hj : j < n) (hn : n ≤ l.length) (hc : c ≠ ecap) :
    SimW Try.prog 110 [.slice (some ⟨b, 0, none⟩) n c, .int .i64 i, .int .i64 j] A (fun v A' => A' = A.set b (.row (vrows (swapL [] l i j)) k)) := by
  have g1 : getCells (vrows l) (i * 33) 33 = some (vcells (at' [] l i)) := vrows_get hv (by omega)
  have g2 : getCells (vrows l) (j * 33) 33 = some (vcells (at' [] l j)) := vrows_get hv (by omega)
  have b1 : (0 ≤ (i : Int) ∧ (i : Int) < (n : Int)) = True := by simp; omega
  have b2 : (0 ≤ (j : Int) ∧ (j : Int) < (n : Int)) = True := by simp; omega
  have v1 : vok (at' [] l i) = true := hv _ (by rw [at_eq [] (by omega)]; exact List.getElem_mem _)
  have v2 : vok (at' [] l j) = true := hv _ (by rw [at_eq [] (by omega)]; exact List.getElem_mem _)
  have p1 : putCells (vrows l) (i * 33) (vcells (at' [] l j)) = some (vrows (l.set i (at' [] l j))) := vrows_put hv (by omega) v2
  have hv' : ∀ v ∈ l.set i (at' [] l j), vok v = true := fun v h => by
    rcases List.mem_or_eq_of_mem_set h with h | h
    · exact hv v h
    · rw [h]; exact v2
  have p2 : putCells (vrows (l.set i (at' [] l j))) (j * 33) (vcells (at' [] l i)) = some (vrows (swapL [] l i j)) := vrows_put hv' (by rw [List.length_set]; omega) v1
  have s1 : (vcells (at' [] l i)).all scalar = true := vcells_scalar _
  have s2 : (vcells (at' [] l j)).all scalar = true := vcells_scalar _
  have l1 := vcells_len v1
  have l2 := vcells_len v2
  
  refine simW_of_awp fine mixed Try.func110 rfl rfl (Nat.le_of_ble_eq_true rfl) ?_
  refine awp_drawn [] (by kernel_rfl) ?_
  (repeat ((with_reducible show adrawn _ _ _ _ _ _ _ _ _ _ _); first | (with_reducible refine adrawn_nil ?_) | (refine adrawn_do rfl rfl rfl (by (try (conv => (lhs; simp only [-List.reduceReplicate, ↓reduceIte, Nat.reduceEqDiff, Nat.reduceLT, Nat.reduceAdd, Nat.reduceMul, Nat.reduceLeDiff, Int.reduceLT, Int.reduceLE, Int.reduceToNat, reduceCtorEq, go_sem, hc, b1, b2, Int.toNat_natCast, hb, g1, g2, hk, p1, p2, s1, s2, l1, l2]))); try exact rfl) (by first | exact Nat.le_refl _ | exact Nat.le_succ _) (by first | exact .inl (Unch.refl _) | exact .inl (Unch.push _ _) | exact .inr (by decide)) ?_; first | refine aput_some rfl (Nat.le_of_ble_eq_true rfl) ?_ | refine aput_none rfl ?_) | (refine adrawn_skip rfl rfl (Nat.le_of_ble_eq_true rfl) ?_) | (refine adrawn_skip0 rfl rfl ?_)))
  exact end_normal rfl (set_set _ _ _ _)

theorem t54 {s : Option Addr} {n c : Nat} {A : AHeap} : SimW Try.prog 54 [.slice s n c] A (fun v A' => v = .int .i64 n ∧ A' = A) := by
  
  refine simW_of_awp fine mixed Try.func54 rfl rfl (Nat.le_of_ble_eq_true rfl) ?_
  refine awp_seq fun N3 hN3 => ?_
  refine awp_region ?_
  (repeat ((with_reducible show aops _ _ _ _ _ _ _); first | (with_reducible refine aops_nil ?_) | (refine aops_do rfl rfl (by (try (conv => (lhs; simp only [-List.reduceReplicate, ↓reduceIte, Nat.reduceEqDiff, Nat.reduceLT, Nat.reduceAdd, Nat.reduceMul, Nat.reduceLeDiff, Int.reduceLT, Int.reduceLE, Int.reduceToNat, reduceCtorEq, go_sem]))); try exact rfl) ?_; first | refine aput_some rfl (Nat.le_of_ble_eq_true rfl) ?_ | refine aput_none rfl ?_) | (refine aops_skip rfl rfl (Nat.le_of_ble_eq_true rfl) ?_) | (refine aops_skip0 rfl rfl ?_)))
  refine then_normal (hN3 _ _ ?_); try clear hN3 N3
  refine awp_seq fun N4 hN4 => ?_
  refine awp_region ?_
  (repeat ((with_reducible show aops _ _ _ _ _ _ _); first | (with_reducible refine aops_nil ?_) | (refine aops_do rfl rfl (by (try (conv => (lhs; simp only [-List.reduceReplicate, ↓reduceIte, Nat.reduceEqDiff, Nat.reduceLT, Nat.reduceAdd, Nat.reduceMul, Nat.reduceLeDiff, Int.reduceLT, Int.reduceLE, Int.reduceToNat, reduceCtorEq, go_sem, goInt]))); try exact rfl) ?_; first | refine aput_some rfl (Nat.le_of_ble_eq_true rfl) ?_ | refine aput_none rfl ?_) | (refine aops_skip rfl rfl (Nat.le_of_ble_eq_true rfl) ?_) | (refine aops_skip0 rfl rfl ?_)))
  refine then_normal (hN4 _ _ ?_); try clear hN4 N4
  refine awp_ret ?_; (repeat (first | (with_reducible refine then_ret ?_) | (with_reducible refine block_ret ?_)))
  exact end_ret rfl ⟨rfl, rfl⟩
end Go.AB.Try
