/-
  The heap's up.
-/
import Derived.Test.YtcbmjgagbfhigaaH1
import Derived.IntWalk
import Derived.Test.YtcbmjgagbfhigaaGF
namespace Go.AB.Try
open Go Go.AB Go.Proofs Go.IntWalk
set_option linter.unusedSimpArgs false
set_option linter.unusedVariables false
set_option maxRecDepth 10000
attribute [local irreducible] aops adrawn awp SimW

theorem set_self {A : AHeap} {b : Nat} {o : AObj} (h : A.f b = some o) : A.set b o = A := by
  refine CH.ext rfl fun i => ?_
  rw [AHeap.set_f]
  by_cases hi : i = b
  · subst hi; rw [if_pos rfl, h]
  · rw [if_neg hi]

theorem swap_ok {l : List (List Int)} {i j : Nat} (hv : ∀ v ∈ l, vok v = true) (hi : i < l.length) (hj : j < l.length) : ∀ v ∈ swapL [] l i j, vok v = true :=
  fun v h => hv v ((swapL_perm [] hi hj).mem_iff.1 h)

theorem beq_nat (a b : Nat) : ((a : Int) == (b : Int)) = decide (a = b) := by
  by_cases h : a = b
  · subst h; simp
  · simp [h]; omega

theorem half (j : Nat) : ((j : Int) - 1).tdiv 2 = (((j - 1) / 2 : Nat) : Int) := by
  cases j with
  | zero => rfl
  | succ j =>
    rw [Int.tdiv_eq_ediv_of_nonneg (by omega)]; omega

theorem t73 {A : AHeap} {p b c n j : Nat} {kp k : Kind} {l : List (List Int)} (hp : A.f p = some (.row [.slice (some ⟨b, 0, none⟩) n c] kp)) (hb : A.f b = some (.row (vrows l) k)) (hpb : p ≠ b)
    (hk : k ≠ .ro) (hv : ∀ v ∈ l, vok v = true) (hj : j < n) (hn : n ≤ l.length) (hc : c ≠ ecap) (hbig : n ≤ 1073741824) :
    SimW Try.prog 73 [.iface 96 (.pointer (some ⟨p, 0, none⟩)), .int .i64 j] A (fun v A' => v = .tuple ⟨[]⟩ ∧ A' = A.set b (.row (vrows (upL llt [] (j + 1) l j)) k)) := by
  have hpb' : (p = b) = False := by simpa using hpb
  
  refine simW_of_awp fine mixed Try.func73 rfl rfl (Nat.le_of_ble_eq_true rfl) ?_
  refine awp_block ?_
  
  refine awp_loop (fun m t A' => ∃ l' j', t 0 = .iface 96 (.pointer (some ⟨p, 0, none⟩)) ∧ t 1 = .int .i64 (j' : Nat) ∧ A' = A.set b (.row (vrows l') k) ∧ (∀ v ∈ l', vok v = true) ∧ l'.length = l.length ∧ j' < n ∧ j' < m ∧
    upL llt [] m l' j' = upL llt [] (j + 1) l j) (j + 1) ⟨l, j, rfl, rfl, (set_self hb).symm, hv, rfl, hj, by omega, rfl⟩ fun m t A' hI N hN => ?_
  obtain ⟨l', j', h0, h1, rfl, hv', hl', hj', hm, hu⟩ := hI
  have w1 : IntKind.i64.wrap ((j' : Int) - 1) = (j' : Int) - 1 := i64_in _ (by omega)
  have w2 : IntKind.i64.wrap (((j' : Int) - 1).tdiv 2) = (((j' - 1) / 2 : Nat) : Int) := by
    rw [half, i64_in _ (by omega)]
  have fp : (A.set b (.row (vrows l') k)).f p = some (.row [.slice (some ⟨b, 0, none⟩) n c] kp) := by rw [AHeap.set_other _ _ hpb]; exact hp
  have fb : (A.set b (.row (vrows l') k)).f b = some (.row (vrows l') k) := AHeap.set_same _ _ _
  refine awp_block ?_
  refine awp_seq fun N1 hN1 => ?_
  refine awp_region ?_
  (repeat ((with_reducible show aops _ _ _ _ _ _ _); first | (with_reducible refine aops_nil ?_) | (refine aops_do rfl rfl (by (try (conv => (lhs; simp only [-List.reduceReplicate, ↓reduceIte, Nat.reduceEqDiff, Nat.reduceLT, Nat.reduceAdd, Nat.reduceMul, Nat.reduceLeDiff, Int.reduceLT, Int.reduceLE, Int.reduceToNat, reduceCtorEq, go_sem, h0, h1, bin_quo, w1, w2, Int.reduceEq]))); try exact rfl) ?_; first | refine aput_some rfl (Nat.le_of_ble_eq_true rfl) ?_ | refine aput_none rfl ?_) | (refine aops_skip rfl rfl (Nat.le_of_ble_eq_true rfl) ?_) | (refine aops_skip0 rfl rfl ?_)))
  refine then_normal (hN1 _ _ ?_); try clear hN1 N1
  refine awp_seq fun N2 hN2 => ?_
  refine awp_seq fun N3 hN3 => ?_
  refine awp_region ?_
  obtain ⟨m', rfl⟩ : ∃ m', m = m' + 1 := ⟨m - 1, by omega⟩
  by_cases hij : (j' - 1) / 2 = j'
  
  · have e1 : ((((j' - 1) / 2 : Nat) : Int) == (j' : Int)) = true := by rw [beq_nat]; simpa using hij
    (repeat ((with_reducible show aops _ _ _ _ _ _ _); first | (with_reducible refine aops_nil ?_) | (refine aops_do rfl rfl (by (try (conv => (lhs; simp only [-List.reduceReplicate, ↓reduceIte, Nat.reduceEqDiff, Nat.reduceLT, Nat.reduceAdd, Nat.reduceMul, Nat.reduceLeDiff, Int.reduceLT, Int.reduceLE, Int.reduceToNat, reduceCtorEq, go_sem, h0, h1, e1]))); try exact rfl) ?_; first | refine aput_some rfl (Nat.le_of_ble_eq_true rfl) ?_ | refine aput_none rfl ?_) | (refine aops_skip rfl rfl (Nat.le_of_ble_eq_true rfl) ?_) | (refine aops_skip0 rfl rfl ?_)))
    refine then_normal (hN3 _ _ ?_); try clear hN3 N3
    refine awp_true rfl ?_
    refine awp_exit ?_; (repeat (first | (with_reducible refine then_exit ?_) | ((with_reducible refine block_there ?hne ?_); case hne => rfl))); with_reducible refine block_here ?_
    refine end_normal rfl ⟨rfl, ?_⟩
    rw [← hu]; unfold upL; rw [if_pos hij]
  
  have e1 : ((((j' - 1) / 2 : Nat) : Int) == (j' : Int)) = false := by rw [beq_nat]; simpa using hij
  (repeat ((with_reducible show aops _ _ _ _ _ _ _); first | (with_reducible refine aops_nil ?_) | (refine aops_do rfl rfl (by (try (conv => (lhs; simp only [-List.reduceReplicate, ↓reduceIte, Nat.reduceEqDiff, Nat.reduceLT, Nat.reduceAdd, Nat.reduceMul, Nat.reduceLeDiff, Int.reduceLT, Int.reduceLE, Int.reduceToNat, reduceCtorEq, go_sem, h0, h1, e1]))); try exact rfl) ?_; first | refine aput_some rfl (Nat.le_of_ble_eq_true rfl) ?_ | refine aput_none rfl ?_) | (refine aops_skip rfl rfl (Nat.le_of_ble_eq_true rfl) ?_) | (refine aops_skip0 rfl rfl ?_)))
  refine aops_call (hs := t107 (A := A.set b (.row (vrows l') k)) (b := b) (c := c) (n := n) (i := j') (j := (j' - 1) / 2) (k := k) (l := l') fb hv' hj' (by omega) (by omega) hc) rfl rfl rfl (Nat.le_of_ble_eq_true rfl) (by simp only [-List.reduceReplicate, ↓reduceIte, Nat.reduceEqDiff, Nat.reduceLT, Nat.reduceAdd, Nat.reduceMul, Nat.reduceLeDiff, Int.reduceLT, Int.reduceLE, Int.reduceToNat, reduceCtorEq, go_sem, acallee, amethod, fp, h0, h1]; try exact rfl) ?_
  rintro _ _ ⟨rfl, rfl⟩
  (repeat ((with_reducible show aops _ _ _ _ _ _ _); first | (with_reducible refine aops_nil ?_) | (refine aops_do rfl rfl (by (try (conv => (lhs; simp only [-List.reduceReplicate, ↓reduceIte, Nat.reduceEqDiff, Nat.reduceLT, Nat.reduceAdd, Nat.reduceMul, Nat.reduceLeDiff, Int.reduceLT, Int.reduceLE, Int.reduceToNat, reduceCtorEq, go_sem, h0, h1, e1]))); try exact rfl) ?_; first | refine aput_some rfl (Nat.le_of_ble_eq_true rfl) ?_ | refine aput_none rfl ?_) | (refine aops_skip rfl rfl (Nat.le_of_ble_eq_true rfl) ?_) | (refine aops_skip0 rfl rfl ?_)))
  refine then_normal (hN3 _ _ ?_); try clear hN3 N3
  cases hlt : llt (at' [] l' j') (at' [] l' ((j' - 1) / 2)) with
  | false =>
    
    refine awp_true rfl ?_
    refine awp_exit ?_; (repeat (first | (with_reducible refine then_exit ?_) | ((with_reducible refine block_there ?hne ?_); case hne => rfl))); with_reducible refine block_here ?_
    refine end_normal rfl ⟨rfl, ?_⟩
    rw [← hu]; unfold upL; rw [if_neg hij, hlt, if_neg (by decide)]
    
  | true =>
    refine awp_false rfl ?_
    refine awp_skip ?_
    refine then_normal (hN2 _ _ ?_); try clear hN2 N2
    refine awp_seq fun N4 hN4 => ?_
    refine awp_region ?_
    (repeat ((with_reducible show aops _ _ _ _ _ _ _); first | (with_reducible refine aops_nil ?_) | (refine aops_do rfl rfl (by (try (conv => (lhs; simp only [-List.reduceReplicate, ↓reduceIte, Nat.reduceEqDiff, Nat.reduceLT, Nat.reduceAdd, Nat.reduceMul, Nat.reduceLeDiff, Int.reduceLT, Int.reduceLE, Int.reduceToNat, reduceCtorEq, go_sem, h0, h1]))); try exact rfl) ?_; first | refine aput_some rfl (Nat.le_of_ble_eq_true rfl) ?_ | refine aput_none rfl ?_) | (refine aops_skip rfl rfl (Nat.le_of_ble_eq_true rfl) ?_) | (refine aops_skip0 rfl rfl ?_)))
    refine aops_call (hs := t110 (A := A.set b (.row (vrows l') k)) (b := b) (c := c) (n := n) (i := (j' - 1) / 2) (j := j') (k := k) (l := l') fb hk hv' (by omega) hj' (by omega) hc) rfl rfl rfl (Nat.le_of_ble_eq_true rfl) (by simp only [-List.reduceReplicate, ↓reduceIte, Nat.reduceEqDiff, Nat.reduceLT, Nat.reduceAdd, Nat.reduceMul, Nat.reduceLeDiff, Int.reduceLT, Int.reduceLE, Int.reduceToNat, reduceCtorEq, go_sem, acallee, amethod, fp, h0, h1]; try exact rfl) ?_
    rintro _ _ rfl
    (repeat ((with_reducible show aops _ _ _ _ _ _ _); first | (with_reducible refine aops_nil ?_) | (refine aops_do rfl rfl (by (try (conv => (lhs; simp only [-List.reduceReplicate, ↓reduceIte, Nat.reduceEqDiff, Nat.reduceLT, Nat.reduceAdd, Nat.reduceMul, Nat.reduceLeDiff, Int.reduceLT, Int.reduceLE, Int.reduceToNat, reduceCtorEq, go_sem, h0, h1]))); try exact rfl) ?_; first | refine aput_some rfl (Nat.le_of_ble_eq_true rfl) ?_ | refine aput_none rfl ?_) | (refine aops_skip rfl rfl (Nat.le_of_ble_eq_true rfl) ?_) | (refine aops_skip0 rfl rfl ?_)))
    refine then_normal (hN4 _ _ ?_); try clear hN4 N4
    refine awp_region ?_
    (repeat ((with_reducible show aops _ _ _ _ _ _ _); first | (with_reducible refine aops_nil ?_) | (refine aops_do rfl rfl (by (try (conv => (lhs; simp only [-List.reduceReplicate, ↓reduceIte, Nat.reduceEqDiff, Nat.reduceLT, Nat.reduceAdd, Nat.reduceMul, Nat.reduceLeDiff, Int.reduceLT, Int.reduceLE, Int.reduceToNat, reduceCtorEq, go_sem, h0, h1]))); try exact rfl) ?_; first | refine aput_some rfl (Nat.le_of_ble_eq_true rfl) ?_ | refine aput_none rfl ?_) | (refine aops_skip rfl rfl (Nat.le_of_ble_eq_true rfl) ?_) | (refine aops_skip0 rfl rfl ?_)))
    refine block_normal ?_
    refine then_normal (hN _ _ m' (by omega) ⟨swapL [] l' ((j' - 1) / 2) j', (j' - 1) / 2, h0, rfl, set_set _ _ _ _, swap_ok hv' (by omega) (by omega), (swapL_len _ _ _ _).trans hl', by omega, by omega, ?_⟩)
    rw [← hu]
    conv => rhs; unfold upL
    rw [if_neg hij, hlt, if_pos rfl]
end Go.AB.Try

/-
  The heap's down.
-/
namespace Go.AB.Try
open Go Go.AB Go.Proofs Go.IntWalk
set_option linter.unusedSimpArgs false
set_option linter.unusedVariables false
set_option maxRecDepth 10000
attribute [local irreducible] aops adrawn awp SimW

theorem t74 {A : AHeap} {p b c n N0 i : Nat} {kp k : Kind} {l : List (List Int)} (hp : A.f p = some (.row [.slice (some ⟨b, 0, none⟩) N0 c] kp)) (hb : A.f b = some (.row (vrows l) k)) (hpb : p ≠ b)
    (hk : k ≠ .ro) (hv : ∀ v ∈ l, vok v = true) (hnN : n ≤ N0) (hn : N0 ≤ l.length) (hi : i ≤ n) (hc : c ≠ ecap) (hbig : N0 ≤ 1073741824) :
    SimW Try.prog 74 [.iface 96 (.pointer (some ⟨p, 0, none⟩)), .int .i64 i, .int .i64 n] A (fun v A' => (∃ r, v = .bool r) ∧ A' = A.set b (.row (vrows (downL llt [] n (n + 1) l i)) k)) := by
  have hpb' : (p = b) = False := by simpa using hpb
  
  refine simW_of_awp fine mixed Try.func74 rfl rfl (Nat.le_of_ble_eq_true rfl) ?_
  refine awp_seq fun N1 hN1 => ?_
  refine awp_region ?_
  (repeat ((with_reducible show aops _ _ _ _ _ _ _); first | (with_reducible refine aops_nil ?_) | (refine aops_do rfl rfl (by (try (conv => (lhs; simp only [-List.reduceReplicate, ↓reduceIte, Nat.reduceEqDiff, Nat.reduceLT, Nat.reduceAdd, Nat.reduceMul, Nat.reduceLeDiff, Int.reduceLT, Int.reduceLE, Int.reduceToNat, reduceCtorEq, go_sem]))); try exact rfl) ?_; first | refine aput_some rfl (Nat.le_of_ble_eq_true rfl) ?_ | refine aput_none rfl ?_) | (refine aops_skip rfl rfl (Nat.le_of_ble_eq_true rfl) ?_) | (refine aops_skip0 rfl rfl ?_)))
  refine then_normal (hN1 _ _ ?_); try clear hN1 N1
  refine awp_seq fun N2 hN2 => ?_
  refine awp_region ?_
  (repeat ((with_reducible show aops _ _ _ _ _ _ _); first | (with_reducible refine aops_nil ?_) | (refine aops_do rfl rfl (by (try (conv => (lhs; simp only [-List.reduceReplicate, ↓reduceIte, Nat.reduceEqDiff, Nat.reduceLT, Nat.reduceAdd, Nat.reduceMul, Nat.reduceLeDiff, Int.reduceLT, Int.reduceLE, Int.reduceToNat, reduceCtorEq, go_sem]))); try exact rfl) ?_; first | refine aput_some rfl (Nat.le_of_ble_eq_true rfl) ?_ | refine aput_none rfl ?_) | (refine aops_skip rfl rfl (Nat.le_of_ble_eq_true rfl) ?_) | (refine aops_skip0 rfl rfl ?_)))
  refine then_normal (hN2 _ _ ?_); try clear hN2 N2
  refine awp_seq fun NR hNR => ?_
  have rest : ∀ t A', t 1 = .int .i64 (i : Nat) → (∃ i' : Nat, t 7 = .int .i64 i') → A' = A.set b (.row (vrows (downL llt [] n (n + 1) l i)) k) → NR t A' := by
    intro t A' h1 h7 hA
    obtain ⟨i', h7⟩ := h7
    refine hNR _ _ ?_
    
    refine awp_seq fun N4 hN4 => ?_
    refine awp_region ?_
    (repeat ((with_reducible show aops _ _ _ _ _ _ _); first | (with_reducible refine aops_nil ?_) | (refine aops_do rfl rfl (by (try (conv => (lhs; simp only [-List.reduceReplicate, ↓reduceIte, Nat.reduceEqDiff, Nat.reduceLT, Nat.reduceAdd, Nat.reduceMul, Nat.reduceLeDiff, Int.reduceLT, Int.reduceLE, Int.reduceToNat, reduceCtorEq, go_sem, h1, h7]))); try exact rfl) ?_; first | refine aput_some rfl (Nat.le_of_ble_eq_true rfl) ?_ | refine aput_none rfl ?_) | (refine aops_skip rfl rfl (Nat.le_of_ble_eq_true rfl) ?_) | (refine aops_skip0 rfl rfl ?_)))
    refine then_normal (hN4 _ _ ?_); try clear hN4 N4
    refine awp_ret ?_; (repeat (first | (with_reducible refine then_ret ?_) | (with_reducible refine block_ret ?_)))
    exact end_ret rfl ⟨⟨_, rfl⟩, hA⟩
    
  clear hNR
  refine awp_block ?_
  
  refine awp_loop (fun m t A' => ∃ l' i', t 0 = .iface 96 (.pointer (some ⟨p, 0, none⟩)) ∧ t 1 = .int .i64 (i : Nat) ∧ t 2 = .int .i64 (n : Nat) ∧ t 7 = .int .i64 (i' : Nat) ∧ A' = A.set b (.row (vrows l') k) ∧ (∀ v ∈ l', vok v = true) ∧ l'.length = l.length ∧ i' ≤ n ∧ n + 1 ≤ i' + m ∧
    downL llt [] n m l' i' = downL llt [] n (n + 1) l i) (n + 1) ⟨l, i, rfl, rfl, rfl, rfl, (set_self hb).symm, hv, rfl, hi, by omega, rfl⟩ fun m t A' hI N hN => ?_
  obtain ⟨l', i', h0, h1, h2, h7, rfl, hv', hl', hi', hm, hu⟩ := hI
  obtain ⟨m', rfl⟩ : ∃ m', m = m' + 1 := ⟨m - 1, by omega⟩
  have w1 : IntKind.i64.wrap (2 * (i' : Int)) = 2 * (i' : Int) := i64_in _ (by omega)
  have w2 : IntKind.i64.wrap (2 * (i' : Int) + 1) = ((2 * i' + 1 : Nat) : Int) := by rw [i64_in _ (by omega)]; omega
  have w3 : IntKind.i64.wrap (((2 * i' + 1 : Nat) : Int) + 1) = ((2 * i' + 2 : Nat) : Int) := by rw [i64_in _ (by omega)]; omega
  have fp : (A.set b (.row (vrows l') k)).f p = some (.row [.slice (some ⟨b, 0, none⟩) N0 c] kp) := by rw [AHeap.set_other _ _ hpb]; exact hp
  have fb : (A.set b (.row (vrows l') k)).f b = some (.row (vrows l') k) := AHeap.set_same _ _ _
  refine awp_block ?_
  refine awp_seq fun N5 hN5 => ?_
  refine awp_region ?_
  (repeat ((with_reducible show aops _ _ _ _ _ _ _); first | (with_reducible refine aops_nil ?_) | (refine aops_do rfl rfl (by (try (conv => (lhs; simp only [-List.reduceReplicate, ↓reduceIte, Nat.reduceEqDiff, Nat.reduceLT, Nat.reduceAdd, Nat.reduceMul, Nat.reduceLeDiff, Int.reduceLT, Int.reduceLE, Int.reduceToNat, reduceCtorEq, go_sem, h7, w1, w2]))); try exact rfl) ?_; first | refine aput_some rfl (Nat.le_of_ble_eq_true rfl) ?_ | refine aput_none rfl ?_) | (refine aops_skip rfl rfl (Nat.le_of_ble_eq_true rfl) ?_) | (refine aops_skip0 rfl rfl ?_)))
  refine then_normal (hN5 _ _ ?_); try clear hN5 N5
  refine awp_seq fun N6 hN6 => ?_
  refine awp_seq fun N7 hN7 => ?_
  refine awp_region ?_
  by_cases hge : n ≤ 2 * i' + 1
  
  · have e1 : decide (((2 * i' + 1 : Nat) : Int) ≥ (n : Int)) = true := by simp; omega
    (repeat ((with_reducible show aops _ _ _ _ _ _ _); first | (with_reducible refine aops_nil ?_) | (refine aops_do rfl rfl (by (try (conv => (lhs; simp only [-List.reduceReplicate, ↓reduceIte, Nat.reduceEqDiff, Nat.reduceLT, Nat.reduceAdd, Nat.reduceMul, Nat.reduceLeDiff, Int.reduceLT, Int.reduceLE, Int.reduceToNat, reduceCtorEq, go_sem, h2, h7, e1]))); try exact rfl) ?_; first | refine aput_some rfl (Nat.le_of_ble_eq_true rfl) ?_ | refine aput_none rfl ?_) | (refine aops_skip rfl rfl (Nat.le_of_ble_eq_true rfl) ?_) | (refine aops_skip0 rfl rfl ?_)))
    refine then_normal (hN7 _ _ ?_); try clear hN7 N7
    refine awp_true rfl ?_
    refine awp_exit ?_; (repeat (first | (with_reducible refine then_exit ?_) | ((with_reducible refine block_there ?hne ?_); case hne => rfl))); with_reducible refine block_here ?_
    refine then_normal (rest _ _ h1 ⟨_, h7⟩ ?_)
    rw [← hu]; unfold downL; rw [if_pos hge]
  
  have e1 : decide (((2 * i' + 1 : Nat) : Int) ≥ (n : Int)) = false := by simp; omega
  have e2 : decide (((2 * i' + 1 : Nat) : Int) < 0) = false := by simp; omega
  (repeat ((with_reducible show aops _ _ _ _ _ _ _); first | (with_reducible refine aops_nil ?_) | (refine aops_do rfl rfl (by (try (conv => (lhs; simp only [-List.reduceReplicate, ↓reduceIte, Nat.reduceEqDiff, Nat.reduceLT, Nat.reduceAdd, Nat.reduceMul, Nat.reduceLeDiff, Int.reduceLT, Int.reduceLE, Int.reduceToNat, reduceCtorEq, go_sem, h2, h7, e1, e2]))); try exact rfl) ?_; first | refine aput_some rfl (Nat.le_of_ble_eq_true rfl) ?_ | refine aput_none rfl ?_) | (refine aops_skip rfl rfl (Nat.le_of_ble_eq_true rfl) ?_) | (refine aops_skip0 rfl rfl ?_)))
  refine then_normal (hN7 _ _ ?_); try clear hN7 N7
  refine awp_false rfl ?_
  refine awp_skip ?_
  refine then_normal (hN6 _ _ ?_); try clear hN6 N6
  refine awp_seq fun N8 hN8 => ?_
  refine awp_region ?_
  (repeat ((with_reducible show aops _ _ _ _ _ _ _); first | (with_reducible refine aops_nil ?_) | (refine aops_do rfl rfl (by (try (conv => (lhs; simp only [-List.reduceReplicate, ↓reduceIte, Nat.reduceEqDiff, Nat.reduceLT, Nat.reduceAdd, Nat.reduceMul, Nat.reduceLeDiff, Int.reduceLT, Int.reduceLE, Int.reduceToNat, reduceCtorEq, go_sem]))); try exact rfl) ?_; first | refine aput_some rfl (Nat.le_of_ble_eq_true rfl) ?_ | refine aput_none rfl ?_) | (refine aops_skip rfl rfl (Nat.le_of_ble_eq_true rfl) ?_) | (refine aops_skip0 rfl rfl ?_)))
  refine then_normal (hN8 _ _ ?_); try clear hN8 N8
  have hkid : (kid llt [] l' i' n = 2 * i' + 1 ∨ kid llt [] l' i' n = 2 * i' + 2) := kid_or [] l' i' n
  have hkn : kid llt [] l' i' n < n := kid_lt [] (by omega)
  refine awp_seq fun NK hNK => ?_
  have tail : ∀ t A', t 0 = .iface 96 (.pointer (some ⟨p, 0, none⟩)) → t 1 = .int .i64 (i : Nat) → t 2 = .int .i64 (n : Nat) → t 7 = .int .i64 (i' : Nat) → t 9 = .int .i64 (kid llt [] l' i' n : Nat) → A' = A.set b (.row (vrows l') k) → NK t A' := by
    intro t A' h0 h1 h2 h7 h9 hA
    subst hA
    refine hNK _ _ ?_
    
    refine awp_seq fun N10 hN10 => ?_
    refine awp_seq fun N11 hN11 => ?_
    refine awp_region ?_
    (repeat ((with_reducible show aops _ _ _ _ _ _ _); first | (with_reducible refine aops_nil ?_) | (refine aops_do rfl rfl (by (try (conv => (lhs; simp only [-List.reduceReplicate, ↓reduceIte, Nat.reduceEqDiff, Nat.reduceLT, Nat.reduceAdd, Nat.reduceMul, Nat.reduceLeDiff, Int.reduceLT, Int.reduceLE, Int.reduceToNat, reduceCtorEq, go_sem, h0, h7, h9]))); try exact rfl) ?_; first | refine aput_some rfl (Nat.le_of_ble_eq_true rfl) ?_ | refine aput_none rfl ?_) | (refine aops_skip rfl rfl (Nat.le_of_ble_eq_true rfl) ?_) | (refine aops_skip0 rfl rfl ?_)))
    refine aops_call (hs := t107 (A := A.set b (.row (vrows l') k)) (b := b) (c := c) (n := N0) (i := kid llt [] l' i' n) (j := i') (k := k) (l := l') fb hv' (by omega) (by omega) (by omega) hc) rfl rfl rfl (Nat.le_of_ble_eq_true rfl) (by simp only [-List.reduceReplicate, ↓reduceIte, Nat.reduceEqDiff, Nat.reduceLT, Nat.reduceAdd, Nat.reduceMul, Nat.reduceLeDiff, Int.reduceLT, Int.reduceLE, Int.reduceToNat, reduceCtorEq, go_sem, acallee, amethod, fp, h0, h7, h9]; try exact rfl) ?_
    rintro _ _ ⟨rfl, rfl⟩
    (repeat ((with_reducible show aops _ _ _ _ _ _ _); first | (with_reducible refine aops_nil ?_) | (refine aops_do rfl rfl (by (try (conv => (lhs; simp only [-List.reduceReplicate, ↓reduceIte, Nat.reduceEqDiff, Nat.reduceLT, Nat.reduceAdd, Nat.reduceMul, Nat.reduceLeDiff, Int.reduceLT, Int.reduceLE, Int.reduceToNat, reduceCtorEq, go_sem]))); try exact rfl) ?_; first | refine aput_some rfl (Nat.le_of_ble_eq_true rfl) ?_ | refine aput_none rfl ?_) | (refine aops_skip rfl rfl (Nat.le_of_ble_eq_true rfl) ?_) | (refine aops_skip0 rfl rfl ?_)))
    refine then_normal (hN11 _ _ ?_); try clear hN11 N11
    cases hlt : llt (at' [] l' (kid llt [] l' i' n)) (at' [] l' i') with
    | false =>
      
      refine awp_true rfl ?_
      refine awp_exit ?_; (repeat (first | (with_reducible refine then_exit ?_) | ((with_reducible refine block_there ?hne ?_); case hne => rfl))); with_reducible refine block_here ?_
      refine then_normal (rest _ _ h1 ⟨_, h7⟩ ?_)
      rw [← hu]; unfold downL; rw [if_neg hge, hlt, if_neg (by decide)]
      
    | true =>
      refine awp_false rfl ?_
      refine awp_skip ?_
      refine then_normal (hN10 _ _ ?_); try clear hN10 N10
      refine awp_seq fun N12 hN12 => ?_
      refine awp_region ?_
      (repeat ((with_reducible show aops _ _ _ _ _ _ _); first | (with_reducible refine aops_nil ?_) | (refine aops_do rfl rfl (by (try (conv => (lhs; simp only [-List.reduceReplicate, ↓reduceIte, Nat.reduceEqDiff, Nat.reduceLT, Nat.reduceAdd, Nat.reduceMul, Nat.reduceLeDiff, Int.reduceLT, Int.reduceLE, Int.reduceToNat, reduceCtorEq, go_sem, h0, h7, h9]))); try exact rfl) ?_; first | refine aput_some rfl (Nat.le_of_ble_eq_true rfl) ?_ | refine aput_none rfl ?_) | (refine aops_skip rfl rfl (Nat.le_of_ble_eq_true rfl) ?_) | (refine aops_skip0 rfl rfl ?_)))
      refine aops_call (hs := t110 (A := A.set b (.row (vrows l') k)) (b := b) (c := c) (n := N0) (i := i') (j := kid llt [] l' i' n) (k := k) (l := l') fb hk hv' (by omega) (by omega) (by omega) hc) rfl rfl rfl (Nat.le_of_ble_eq_true rfl) (by simp only [-List.reduceReplicate, ↓reduceIte, Nat.reduceEqDiff, Nat.reduceLT, Nat.reduceAdd, Nat.reduceMul, Nat.reduceLeDiff, Int.reduceLT, Int.reduceLE, Int.reduceToNat, reduceCtorEq, go_sem, acallee, amethod, fp, h0, h7, h9]; try exact rfl) ?_
      rintro _ _ rfl
      (repeat ((with_reducible show aops _ _ _ _ _ _ _); first | (with_reducible refine aops_nil ?_) | (refine aops_do rfl rfl (by (try (conv => (lhs; simp only [-List.reduceReplicate, ↓reduceIte, Nat.reduceEqDiff, Nat.reduceLT, Nat.reduceAdd, Nat.reduceMul, Nat.reduceLeDiff, Int.reduceLT, Int.reduceLE, Int.reduceToNat, reduceCtorEq, go_sem]))); try exact rfl) ?_; first | refine aput_some rfl (Nat.le_of_ble_eq_true rfl) ?_ | refine aput_none rfl ?_) | (refine aops_skip rfl rfl (Nat.le_of_ble_eq_true rfl) ?_) | (refine aops_skip0 rfl rfl ?_)))
      refine then_normal (hN12 _ _ ?_); try clear hN12 N12
      refine awp_region ?_
      (repeat ((with_reducible show aops _ _ _ _ _ _ _); first | (with_reducible refine aops_nil ?_) | (refine aops_do rfl rfl (by (try (conv => (lhs; simp only [-List.reduceReplicate, ↓reduceIte, Nat.reduceEqDiff, Nat.reduceLT, Nat.reduceAdd, Nat.reduceMul, Nat.reduceLeDiff, Int.reduceLT, Int.reduceLE, Int.reduceToNat, reduceCtorEq, go_sem, h9]))); try exact rfl) ?_; first | refine aput_some rfl (Nat.le_of_ble_eq_true rfl) ?_ | refine aput_none rfl ?_) | (refine aops_skip rfl rfl (Nat.le_of_ble_eq_true rfl) ?_) | (refine aops_skip0 rfl rfl ?_)))
      refine block_normal ?_
      refine then_normal (hN _ _ m' (by omega) ⟨swapL [] l' i' (kid llt [] l' i' n), kid llt [] l' i' n, h0, h1, h2, rfl, set_set _ _ _ _, swap_ok hv' (by omega) (by omega), (swapL_len _ _ _ _).trans hl', by omega, by omega, ?_⟩)
      rw [← hu]
      conv => rhs; unfold downL
      rw [if_neg hge, hlt, if_pos rfl]
    
  refine awp_seq fun N13 hN13 => ?_
  refine awp_region ?_
  (repeat ((with_reducible show aops _ _ _ _ _ _ _); first | (with_reducible refine aops_nil ?_) | (refine aops_do rfl rfl (by (try (conv => (lhs; simp only [-List.reduceReplicate, ↓reduceIte, Nat.reduceEqDiff, Nat.reduceLT, Nat.reduceAdd, Nat.reduceMul, Nat.reduceLeDiff, Int.reduceLT, Int.reduceLE, Int.reduceToNat, reduceCtorEq, go_sem, w3]))); try exact rfl) ?_; first | refine aput_some rfl (Nat.le_of_ble_eq_true rfl) ?_ | refine aput_none rfl ?_) | (refine aops_skip rfl rfl (Nat.le_of_ble_eq_true rfl) ?_) | (refine aops_skip0 rfl rfl ?_)))
  refine then_normal (hN13 _ _ ?_); try clear hN13 N13
  refine awp_seq fun N14 hN14 => ?_
  refine awp_region ?_
  by_cases h2n : 2 * i' + 2 < n
  
  · have e3 : decide (((2 * i' + 2 : Nat) : Int) < (n : Int)) = true := by simp; omega
    (repeat ((with_reducible show aops _ _ _ _ _ _ _); first | (with_reducible refine aops_nil ?_) | (refine aops_do rfl rfl (by (try (conv => (lhs; simp only [-List.reduceReplicate, ↓reduceIte, Nat.reduceEqDiff, Nat.reduceLT, Nat.reduceAdd, Nat.reduceMul, Nat.reduceLeDiff, Int.reduceLT, Int.reduceLE, Int.reduceToNat, reduceCtorEq, go_sem, h0, h2, e3]))); try exact rfl) ?_; first | refine aput_some rfl (Nat.le_of_ble_eq_true rfl) ?_ | refine aput_none rfl ?_) | (refine aops_skip rfl rfl (Nat.le_of_ble_eq_true rfl) ?_) | (refine aops_skip0 rfl rfl ?_)))
    refine aops_call (hs := t107 (A := A.set b (.row (vrows l') k)) (b := b) (c := c) (n := N0) (i := 2 * i' + 2) (j := 2 * i' + 1) (k := k) (l := l') fb hv' (by omega) (by omega) (by omega) hc) rfl rfl rfl (Nat.le_of_ble_eq_true rfl) (by simp only [-List.reduceReplicate, ↓reduceIte, Nat.reduceEqDiff, Nat.reduceLT, Nat.reduceAdd, Nat.reduceMul, Nat.reduceLeDiff, Int.reduceLT, Int.reduceLE, Int.reduceToNat, reduceCtorEq, go_sem, acallee, amethod, fp, h0]; try exact rfl) ?_
    rintro _ _ ⟨rfl, rfl⟩
    (repeat ((with_reducible show aops _ _ _ _ _ _ _); first | (with_reducible refine aops_nil ?_) | (refine aops_do rfl rfl (by (try (conv => (lhs; simp only [-List.reduceReplicate, ↓reduceIte, Nat.reduceEqDiff, Nat.reduceLT, Nat.reduceAdd, Nat.reduceMul, Nat.reduceLeDiff, Int.reduceLT, Int.reduceLE, Int.reduceToNat, reduceCtorEq, go_sem]))); try exact rfl) ?_; first | refine aput_some rfl (Nat.le_of_ble_eq_true rfl) ?_ | refine aput_none rfl ?_) | (refine aops_skip rfl rfl (Nat.le_of_ble_eq_true rfl) ?_) | (refine aops_skip0 rfl rfl ?_)))
    refine then_normal (hN14 _ _ ?_); try clear hN14 N14
    cases hlt : llt (at' [] l' (2 * i' + 2)) (at' [] l' (2 * i' + 1)) with
    | true =>
      
      have hk2 : kid llt [] l' i' n = 2 * i' + 2 := by unfold kid; rw [if_pos ⟨h2n, hlt⟩]
      refine awp_true rfl ?_
      refine awp_region ?_
      (repeat ((with_reducible show aops _ _ _ _ _ _ _); first | (with_reducible refine aops_nil ?_) | (refine aops_do rfl rfl (by (try (conv => (lhs; simp only [-List.reduceReplicate, ↓reduceIte, Nat.reduceEqDiff, Nat.reduceLT, Nat.reduceAdd, Nat.reduceMul, Nat.reduceLeDiff, Int.reduceLT, Int.reduceLE, Int.reduceToNat, reduceCtorEq, go_sem]))); try exact rfl) ?_; first | refine aput_some rfl (Nat.le_of_ble_eq_true rfl) ?_ | refine aput_none rfl ?_) | (refine aops_skip rfl rfl (Nat.le_of_ble_eq_true rfl) ?_) | (refine aops_skip0 rfl rfl ?_)))
      exact then_normal (tail _ _ h0 h1 h2 h7 (by rw [hk2]; rfl) rfl)
      
    | false =>
      have hk1 : kid llt [] l' i' n = 2 * i' + 1 := by unfold kid; rw [if_neg (by rw [hlt]; simp)]
      refine awp_false rfl ?_
      refine awp_skip ?_
      exact then_normal (tail _ _ h0 h1 h2 h7 (by rw [hk1]; rfl) rfl)
  
  have hk1 : kid llt [] l' i' n = 2 * i' + 1 := by unfold kid; rw [if_neg (by omega)]
  have e3 : decide (((2 * i' + 2 : Nat) : Int) < (n : Int)) = false := by simp; omega
  (repeat ((with_reducible show aops _ _ _ _ _ _ _); first | (with_reducible refine aops_nil ?_) | (refine aops_do rfl rfl (by (try (conv => (lhs; simp only [-List.reduceReplicate, ↓reduceIte, Nat.reduceEqDiff, Nat.reduceLT, Nat.reduceAdd, Nat.reduceMul, Nat.reduceLeDiff, Int.reduceLT, Int.reduceLE, Int.reduceToNat, reduceCtorEq, go_sem, h0, h2, e3]))); try exact rfl) ?_; first | refine aput_some rfl (Nat.le_of_ble_eq_true rfl) ?_ | refine aput_none rfl ?_) | (refine aops_skip rfl rfl (Nat.le_of_ble_eq_true rfl) ?_) | (refine aops_skip0 rfl rfl ?_)))
  refine then_normal (hN14 _ _ ?_); try clear hN14 N14
  refine awp_false rfl ?_
  refine awp_skip ?_
  exact then_normal (tail _ _ h0 h1 h2 h7 (by rw [hk1]; rfl) rfl)
end Go.AB.Try

/-
  waiting.Push, waiting.Pop, heap.Push, heap.Pop.
-/
namespace Go.AB.Try
open Go Go.AB Go.Proofs Go.IntWalk
set_option linter.unusedSimpArgs false
set_option linter.unusedVariables false
set_option maxRecDepth 10000
attribute [local irreducible] aops adrawn awp SimW

/-- the waiting ones: at p a slice of vertices -/
structure Wt (A : AHeap) (p : Nat) (s : Value) (hs junk : List (List Int)) : Prop where
  lt : p < A.n
  cell : A.f p = some (.row [s] .fix)
  held : Held A 33 s (hs.map vcells) (junk.map vcells)
  ne : own s ≠ some p
  ok : ∀ v ∈ hs ++ junk, vok v = true

/-- what a call may have done -/
structure Chg (A A' : AHeap) (p : Nat) (s s' : Value) : Prop where
  n : A.n ≤ A'.n
  own : own s' = own s ∨ ∃ b, own s' = some b ∧ A.n ≤ b
  frame : ∀ i, i < A.n → i ≠ p → AB.own s ≠ some i → A'.f i = A.f i

theorem app27 : appType Try.prog 97 97 = some (33, 40) := by
  unfold appType; simp only [sl97, sz27, by27, zc27, Try.underlying97]; rfl

theorem t109 {A : AHeap} {p : Nat} {s : Value} {hs junk : List (List Int)} {x : List Int} (h : Wt A p s hs junk) (hx : vok x = true) (hbig : hs.length ≤ 1073741823) :
    SimW Try.prog 109 [.pointer (some ⟨p, 0, none⟩), .iface 27 (vagg x)] A (fun v A' => v = .tuple ⟨[]⟩ ∧ ∃ s', Wt A' p s' (hs ++ [x]) (junk.drop 1) ∧ Chg A A' p s s') := by
  have hp := h.cell
  have hplt := h.lt
  have hpn : (p = A.n) = False := by simp; omega
  have hpn1 : (p = A.n + 1) = False := by simp; omega
  have hpn2 : (A.n = p) = False := by simp; omega
  have l1 := vcells_len hx
  have zf := putCells_full (cs := List.replicate 32 (Value.int .u8 0) ++ [Value.int .i64 0]) (vs := vcells x) (by rw [l1]; rfl)
  have gf : getCells (vcells x) 0 33 = some (vcells x) := by
    unfold getCells; rw [if_pos (by omega), List.drop_zero, ← l1, List.take_length]
  have hA2n : ∀ (o1 o2 o3 : AObj), (((A.push o1).set A.n o2).push o3).n = A.n + 2 := fun _ _ _ => rfl
  obtain ⟨s', A3, happ, hheld, hgrew⟩ := append1 (P := Try.prog) (A := ((A.push (.row (List.replicate 32 (Value.int .u8 0) ++ [Value.int .i64 0]) .fix)).set A.n (.row (vcells x) .fix)).push (.row (vcells x) .fix))
    (st := 97) (xt := 97) (s := s) (x := .slice (some ⟨A.n + 1, 0, none⟩) 1 1) (ls := hs.map vcells) (junk := junk.map vcells) (y := vcells x) app27
    (appCells_one (k := .fix) (by show (if A.n + 1 = A.n + 1 then _ else _) = _; rw [if_pos rfl]) l1) l1 (by decide)
    (h.held.mono (by show A.n ≤ A.n + 2; omega) (fun b hb => by
      have := h.held.own_lt hb
      have e1 : (b = A.n) = False := by simp; omega
      have e2 : (b = A.n + 1) = False := by simp; omega
      simp only [AHeap.push_f, AHeap.set_f, AHeap.push_n, AHeap.set_n, e1, e2, if_false])) (by rw [List.length_map]; unfold room; omega)
  obtain ⟨b', hb'⟩ := hgrew.is
  obtain ⟨a', n', c', rfl, rfl⟩ := own_slice hb'
  have hn3 := hgrew.n
  have f3 : A3.f p = some (.row [s] .fix) := by
    rw [hgrew.frame p (by rw [hA2n]; omega) h.ne]
    simp only [AHeap.push_f, AHeap.set_f, AHeap.push_n, AHeap.set_n, hpn, hpn1, if_false]
    exact hp
  
  refine simW_of_awp fine mixed Try.func109 rfl rfl (Nat.le_of_ble_eq_true rfl) ?_
  refine awp_seq fun N1 hN1 => ?_
  refine awp_region ?_
  (repeat ((with_reducible show aops _ _ _ _ _ _ _); first | (with_reducible refine aops_nil ?_) | (refine aops_do rfl rfl (by (try (conv => (lhs; simp only [-List.reduceReplicate, ↓reduceIte, Nat.reduceEqDiff, Nat.reduceLT, Nat.reduceAdd, Nat.reduceMul, Nat.reduceLeDiff, Int.reduceLT, Int.reduceLE, Int.reduceToNat, reduceCtorEq, go_sem, acells_vagg, zf, l1, AHeap.push_f, AHeap.set_f]))); try exact rfl) ?_; first | refine aput_some rfl (Nat.le_of_ble_eq_true rfl) ?_ | refine aput_none rfl ?_) | (refine aops_skip rfl rfl (Nat.le_of_ble_eq_true rfl) ?_) | (refine aops_skip0 rfl rfl ?_)))
  refine then_normal (hN1 _ _ ?_); try clear hN1 N1
  refine awp_seq fun N2 hN2 => ?_
  refine awp_region ?_
  (repeat ((with_reducible show aops _ _ _ _ _ _ _); first | (with_reducible refine aops_nil ?_) | (refine aops_do rfl rfl (by (try (conv => (lhs; simp only [-List.reduceReplicate, ↓reduceIte, Nat.reduceEqDiff, Nat.reduceLT, Nat.reduceAdd, Nat.reduceMul, Nat.reduceLeDiff, Int.reduceLT, Int.reduceLE, Int.reduceToNat, reduceCtorEq, go_sem]))); try exact rfl) ?_; first | refine aput_some rfl (Nat.le_of_ble_eq_true rfl) ?_ | refine aput_none rfl ?_) | (refine aops_skip rfl rfl (Nat.le_of_ble_eq_true rfl) ?_) | (refine aops_skip0 rfl rfl ?_)))
  refine then_normal (hN2 _ _ ?_); try clear hN2 N2
  refine awp_true rfl ?_
  refine awp_drawn [] (by kernel_rfl) ?_
  (repeat ((with_reducible show adrawn _ _ _ _ _ _ _ _ _ _ _); first | (with_reducible refine adrawn_nil ?_) | (refine adrawn_do rfl rfl rfl (by (try (conv => (lhs; simp only [-List.reduceReplicate, ↓reduceIte, Nat.reduceEqDiff, Nat.reduceLT, Nat.reduceAdd, Nat.reduceMul, Nat.reduceLeDiff, Int.reduceLT, Int.reduceLE, Int.reduceToNat, reduceCtorEq, go_sem, AHeap.push_f, AHeap.set_f, hpn, hp, gf, seqCells, acells_vagg, acells_vc, l1]))); try exact rfl) (by first | exact Nat.le_refl _ | exact Nat.le_succ _) (by first | exact .inl (Unch.refl _) | exact .inl (Unch.push _ _) | exact .inr (by decide)) ?_; first | refine aput_some rfl (Nat.le_of_ble_eq_true rfl) ?_ | refine aput_none rfl ?_) | (refine adrawn_skip rfl rfl (Nat.le_of_ble_eq_true rfl) ?_) | (refine adrawn_skip0 rfl rfl ?_)))
  refine adrawn_step rfl rfl rfl rfl (Nat.le_of_ble_eq_true rfl) (by (try (conv => (lhs; simp only [-List.reduceReplicate, ↓reduceIte, Nat.reduceEqDiff, Nat.reduceLT, Nat.reduceAdd, Nat.reduceMul, Nat.reduceLeDiff, Int.reduceLT, Int.reduceLE, Int.reduceToNat, reduceCtorEq, go_sem, happ]))); try exact rfl) (by exact hn3) (.inr (by decide)) (by intro p hp; cases hp) ?_
  (repeat ((with_reducible show adrawn _ _ _ _ _ _ _ _ _ _ _); first | (with_reducible refine adrawn_nil ?_) | (refine adrawn_do rfl rfl rfl (by (try (conv => (lhs; simp only [-List.reduceReplicate, ↓reduceIte, Nat.reduceEqDiff, Nat.reduceLT, Nat.reduceAdd, Nat.reduceMul, Nat.reduceLeDiff, Int.reduceLT, Int.reduceLE, Int.reduceToNat, reduceCtorEq, go_sem, f3, acells, scalar, putCells_full]))); try exact rfl) (by first | exact Nat.le_refl _ | exact Nat.le_succ _) (by first | exact .inl (Unch.refl _) | exact .inl (Unch.push _ _) | exact .inr (by decide)) ?_; first | refine aput_some rfl (Nat.le_of_ble_eq_true rfl) ?_ | refine aput_none rfl ?_) | (refine adrawn_skip rfl rfl (Nat.le_of_ble_eq_true rfl) ?_) | (refine adrawn_skip0 rfl rfl ?_)))
  refine end_normal rfl ⟨rfl, _, ⟨?_, AHeap.set_same _ _ _, ?_, ?_, ?_⟩, ?_, ?_, ?_⟩
  · show p < A3.n
    rw [hA2n] at hn3; omega
  · have := hheld.mono (A' := A3.set p (.row [.slice (some a') n' c'] .fix)) (Nat.le_refl _) (fun b hb => AHeap.set_other _ _ (fun e => ?_))
    · simpa using this
    · subst e
      rcases hgrew.own with h1 | ⟨b, h1, h2⟩
      · rw [h1] at hb; exact h.ne hb
      · rw [h1] at hb; cases hb; rw [hA2n] at h2; omega
  · intro e
    rcases hgrew.own with h1 | ⟨b, h1, h2⟩
    · rw [h1] at e; exact h.ne e
    · rw [h1] at e; cases e; rw [hA2n] at h2; omega
  · intro v hv
    simp only [List.mem_append, List.mem_singleton] at hv
    rcases hv with (hv | rfl) | hv
    · exact h.ok v (List.mem_append_left _ hv)
    · exact hx
    · exact h.ok v (List.mem_append_right _ (List.mem_of_mem_drop hv))
  · show A.n ≤ A3.n
    rw [hA2n] at hn3; omega
  · rcases hgrew.own with h1 | ⟨b, h1, h2⟩
    · exact .inl h1
    · exact .inr ⟨b, h1, by rw [hA2n] at h2; omega⟩
  · intro i hi hip hio
    rw [AHeap.set_other _ _ hip, hgrew.frame i (by rw [hA2n]; omega) hio]
    have e1 : (i = A.n) = False := by simp; omega
    have e2 : (i = A.n + 1) = False := by simp; omega
    simp only [AHeap.push_f, AHeap.set_f, AHeap.push_n, AHeap.set_n, e1, e2, if_false]
end Go.AB.Try
