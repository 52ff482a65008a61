/-
  is, end, root; the state of Lines.
-/
import Derived.Test.YtcbmjgagbfhigaaW8
import Derived.Test.YtcbmjgagbfhigaaGF
namespace Go.AB.Try
open Go Go.AB Go.Proofs Go.IntWalk
set_option linter.unusedSimpArgs false
set_option linter.unusedVariables false
set_option maxRecDepth 10000
attribute [local irreducible] aops adrawn awp SimW

theorem t41 {A : AHeap} {g : Nat} {b : Bool} {rest : List Value} {k : Kind} (hg : A.f g = some (.row (.bool b :: rest) k)) : SimW Try.prog 41 [.pointer (some ⟨g, 0, none⟩)] A (fun v A' => v = .bool b ∧ A' = A) := by
  
  refine simW_of_awp fine mixed Try.func41 rfl rfl (Nat.le_of_ble_eq_true rfl) ?_
  refine awp_seq fun N1 hN1 => ?_
  refine awp_region ?_
  (repeat ((with_reducible show aops _ _ _ _ _ _ _); first | (with_reducible refine aops_nil ?_) | (refine aops_do rfl rfl (by (try (conv => (lhs; simp only [-List.reduceReplicate, ↓reduceIte, Nat.reduceEqDiff, Nat.reduceLT, Nat.reduceAdd, Nat.reduceMul, Nat.reduceLeDiff, Int.reduceLT, Int.reduceLE, Int.reduceToNat, reduceCtorEq, go_sem]))); try exact rfl) ?_; first | refine aput_some rfl (Nat.le_of_ble_eq_true rfl) ?_ | refine aput_none rfl ?_) | (refine aops_skip rfl rfl (Nat.le_of_ble_eq_true rfl) ?_) | (refine aops_skip0 rfl rfl ?_)))
  refine then_normal (hN1 _ _ ?_); try clear hN1 N1
  refine awp_seq fun N2 hN2 => ?_
  refine awp_region ?_
  (repeat ((with_reducible show aops _ _ _ _ _ _ _); first | (with_reducible refine aops_nil ?_) | (refine aops_do rfl rfl (by (try (conv => (lhs; simp only [-List.reduceReplicate, ↓reduceIte, Nat.reduceEqDiff, Nat.reduceLT, Nat.reduceAdd, Nat.reduceMul, Nat.reduceLeDiff, Int.reduceLT, Int.reduceLE, Int.reduceToNat, reduceCtorEq, go_sem, hg]))); try exact rfl) ?_; first | refine aput_some rfl (Nat.le_of_ble_eq_true rfl) ?_ | refine aput_none rfl ?_) | (refine aops_skip rfl rfl (Nat.le_of_ble_eq_true rfl) ?_) | (refine aops_skip0 rfl rfl ?_)))
  refine then_normal (hN2 _ _ ?_); try clear hN2 N2
  refine awp_ret ?_; (repeat (first | (with_reducible refine then_ret ?_) | (with_reducible refine block_ret ?_)))
  exact end_ret rfl ⟨rfl, rfl⟩

theorem t41n {A : AHeap} : SimW Try.prog 41 [.pointer none] A (fun v A' => v = .bool false ∧ A' = A) := by
  
  refine simW_of_awp fine mixed Try.func41 rfl rfl (Nat.le_of_ble_eq_true rfl) ?_
  refine awp_seq fun N3 hN3 => ?_
  refine awp_region ?_
  (repeat ((with_reducible show aops _ _ _ _ _ _ _); first | (with_reducible refine aops_nil ?_) | (refine aops_do rfl rfl (by (try (conv => (lhs; simp only [-List.reduceReplicate, ↓reduceIte, Nat.reduceEqDiff, Nat.reduceLT, Nat.reduceAdd, Nat.reduceMul, Nat.reduceLeDiff, Int.reduceLT, Int.reduceLE, Int.reduceToNat, reduceCtorEq, go_sem]))); try exact rfl) ?_; first | refine aput_some rfl (Nat.le_of_ble_eq_true rfl) ?_ | refine aput_none rfl ?_) | (refine aops_skip rfl rfl (Nat.le_of_ble_eq_true rfl) ?_) | (refine aops_skip0 rfl rfl ?_)))
  refine then_normal (hN3 _ _ ?_); try clear hN3 N3
  refine awp_seq fun N4 hN4 => ?_
  refine awp_region ?_
  (repeat ((with_reducible show aops _ _ _ _ _ _ _); first | (with_reducible refine aops_nil ?_) | (refine aops_do rfl rfl (by (try (conv => (lhs; simp only [-List.reduceReplicate, ↓reduceIte, Nat.reduceEqDiff, Nat.reduceLT, Nat.reduceAdd, Nat.reduceMul, Nat.reduceLeDiff, Int.reduceLT, Int.reduceLE, Int.reduceToNat, reduceCtorEq, go_sem]))); try exact rfl) ?_; first | refine aput_some rfl (Nat.le_of_ble_eq_true rfl) ?_ | refine aput_none rfl ?_) | (refine aops_skip rfl rfl (Nat.le_of_ble_eq_true rfl) ?_) | (refine aops_skip0 rfl rfl ?_)))
  refine then_normal (hN4 _ _ ?_); try clear hN4 N4
  refine awp_ret ?_; (repeat (first | (with_reducible refine then_ret ?_) | (with_reducible refine block_ret ?_)))
  exact end_ret rfl ⟨rfl, rfl⟩



theorem t38a {A : AHeap} : SimW Try.prog 38 [] A (fun v A' => v = vagg vend ∧ A' = (A.push (.row (List.replicate 32 (Value.int .u8 0) ++ [Value.int .i64 0]) .fix)).set A.n (.row (vcells vend) .fix)) := by
  have pb : putCells (List.replicate 32 (Value.int .u8 0) ++ [Value.int .i64 0]) 32 [Value.int .i64 (-2)] = some (vcells vend) := by rfl
  have gf : getCells (vcells vend) 0 33 = some (vcells vend) := by rfl
  have l1 : (vcells vend).length = 33 := by rfl
  have pf := putCells_full (cs := List.replicate 32 (Value.int .u8 0) ++ [Value.int .i64 0]) (vs := vcells vend) (by rfl)
  
  refine simW_of_awp fine mixed Try.func38 rfl rfl (Nat.le_of_ble_eq_true rfl) ?_
  refine awp_seq fun N5 hN5 => ?_
  refine awp_region ?_
  (repeat ((with_reducible show aops _ _ _ _ _ _ _); first | (with_reducible refine aops_nil ?_) | (refine aops_do rfl rfl (by (try (conv => (lhs; simp only [-List.reduceReplicate, ↓reduceIte, Nat.reduceEqDiff, Nat.reduceLT, Nat.reduceAdd, Nat.reduceMul, Nat.reduceLeDiff, Int.reduceLT, Int.reduceLE, Int.reduceToNat, reduceCtorEq, go_sem]))); try exact rfl) ?_; first | refine aput_some rfl (Nat.le_of_ble_eq_true rfl) ?_ | refine aput_none rfl ?_) | (refine aops_skip rfl rfl (Nat.le_of_ble_eq_true rfl) ?_) | (refine aops_skip0 rfl rfl ?_)))
  refine then_normal (hN5 _ _ ?_); try clear hN5 N5
  refine awp_seq fun N6 hN6 => ?_
  refine awp_region ?_
  (repeat ((with_reducible show aops _ _ _ _ _ _ _); first | (with_reducible refine aops_nil ?_) | (refine aops_do rfl rfl (by (try (conv => (lhs; simp only [-List.reduceReplicate, ↓reduceIte, Nat.reduceEqDiff, Nat.reduceLT, Nat.reduceAdd, Nat.reduceMul, Nat.reduceLeDiff, Int.reduceLT, Int.reduceLE, Int.reduceToNat, reduceCtorEq, go_sem, afill, pb, pf, l1, Option.bind_some]))); try exact rfl) ?_; first | refine aput_some rfl (Nat.le_of_ble_eq_true rfl) ?_ | refine aput_none rfl ?_) | (refine aops_skip rfl rfl (Nat.le_of_ble_eq_true rfl) ?_) | (refine aops_skip0 rfl rfl ?_)))
  refine then_normal (hN6 _ _ ?_); try clear hN6 N6
  refine awp_ret ?_; (repeat (first | (with_reducible refine then_ret ?_) | (with_reducible refine block_ret ?_)))
  refine end_ret (v := vagg vend) ?_ ⟨rfl, rfl⟩
  show aload Try.prog ((A.push (.row (List.replicate 32 (Value.int .u8 0) ++ [Value.int .i64 0]) .fix)).set A.n (.row (vcells vend) .fix)) 27 (.pointer (some ⟨A.n, 0, none⟩)) = some (vagg vend)
  simp only [-List.reduceReplicate, ↓reduceIte, Nat.reduceEqDiff, Nat.reduceLT, Nat.reduceAdd, Nat.reduceMul, Nat.reduceLeDiff, Int.reduceLT, Int.reduceLE, Int.reduceToNat, reduceCtorEq, go_sem, gf]

theorem t38 (A : AHeap) : SimW Try.prog 38 [] A (fun v A' => v = vagg vend ∧ A' = A) :=
  t38a.drop (tmp_unch _ _ _) (by rfl)

theorem t39a {A : AHeap} : SimW Try.prog 39 [] A (fun v A' => v = vagg vroot ∧ A' = (A.push (.row (List.replicate 32 (Value.int .u8 0) ++ [Value.int .i64 0]) .fix)).set A.n (.row (vcells vroot) .fix)) := by
  have pb : putCells (List.replicate 32 (Value.int .u8 0) ++ [Value.int .i64 0]) 32 [Value.int .i64 (-1)] = some (vcells vroot) := by rfl
  have gf : getCells (vcells vroot) 0 33 = some (vcells vroot) := by rfl
  have l1 : (vcells vroot).length = 33 := by rfl
  have pf := putCells_full (cs := List.replicate 32 (Value.int .u8 0) ++ [Value.int .i64 0]) (vs := vcells vroot) (by rfl)
  
  refine simW_of_awp fine mixed Try.func39 rfl rfl (Nat.le_of_ble_eq_true rfl) ?_
  refine awp_seq fun N7 hN7 => ?_
  refine awp_region ?_
  (repeat ((with_reducible show aops _ _ _ _ _ _ _); first | (with_reducible refine aops_nil ?_) | (refine aops_do rfl rfl (by (try (conv => (lhs; simp only [-List.reduceReplicate, ↓reduceIte, Nat.reduceEqDiff, Nat.reduceLT, Nat.reduceAdd, Nat.reduceMul, Nat.reduceLeDiff, Int.reduceLT, Int.reduceLE, Int.reduceToNat, reduceCtorEq, go_sem]))); try exact rfl) ?_; first | refine aput_some rfl (Nat.le_of_ble_eq_true rfl) ?_ | refine aput_none rfl ?_) | (refine aops_skip rfl rfl (Nat.le_of_ble_eq_true rfl) ?_) | (refine aops_skip0 rfl rfl ?_)))
  refine then_normal (hN7 _ _ ?_); try clear hN7 N7
  refine awp_seq fun N8 hN8 => ?_
  refine awp_region ?_
  (repeat ((with_reducible show aops _ _ _ _ _ _ _); first | (with_reducible refine aops_nil ?_) | (refine aops_do rfl rfl (by (try (conv => (lhs; simp only [-List.reduceReplicate, ↓reduceIte, Nat.reduceEqDiff, Nat.reduceLT, Nat.reduceAdd, Nat.reduceMul, Nat.reduceLeDiff, Int.reduceLT, Int.reduceLE, Int.reduceToNat, reduceCtorEq, go_sem, afill, pb, pf, l1, Option.bind_some]))); try exact rfl) ?_; first | refine aput_some rfl (Nat.le_of_ble_eq_true rfl) ?_ | refine aput_none rfl ?_) | (refine aops_skip rfl rfl (Nat.le_of_ble_eq_true rfl) ?_) | (refine aops_skip0 rfl rfl ?_)))
  refine then_normal (hN8 _ _ ?_); try clear hN8 N8
  refine awp_ret ?_; (repeat (first | (with_reducible refine then_ret ?_) | (with_reducible refine block_ret ?_)))
  refine end_ret (v := vagg vroot) ?_ ⟨rfl, rfl⟩
  show aload Try.prog ((A.push (.row (List.replicate 32 (Value.int .u8 0) ++ [Value.int .i64 0]) .fix)).set A.n (.row (vcells vroot) .fix)) 27 (.pointer (some ⟨A.n, 0, none⟩)) = some (vagg vroot)
  simp only [-List.reduceReplicate, ↓reduceIte, Nat.reduceEqDiff, Nat.reduceLT, Nat.reduceAdd, Nat.reduceMul, Nat.reduceLeDiff, Int.reduceLT, Int.reduceLE, Int.reduceToNat, reduceCtorEq, go_sem, gf]

theorem t39 (A : AHeap) : SimW Try.prog 39 [] A (fun v A' => v = vagg vroot ∧ A' = A) :=
  t39a.drop (tmp_unch _ _ _) (by rfl)

theorem Wt.mono {A A' : AHeap} {p : Nat} {s : Value} {hs junk : List (List Int)} (h : Wt A p s hs junk) (hn : A.n ≤ A'.n) (hp : A'.f p = A.f p) (hb : ∀ b, own s = some b → A'.f b = A.f b) : Wt A' p s hs junk :=
  ⟨Nat.lt_of_lt_of_le h.lt hn, by rw [hp]; exact h.cell, h.held.mono hn hb, h.ne, h.ok⟩

/-- the state of Lines -/
structure LSt (A0 A : AHeap) (p q : Nat) (s so : Value) (hs junk : List (List Int)) (acc : List LE) (L : List VE) (cl : Nat) (f : List Int → Int) : Prop where
  unch : Unch A0 A
  n : A0.n ≤ A.n
  q0 : A0.n ≤ q
  qn : q < A.n
  fq : A.f q = some (.map (vents L) cl)
  cnt : Cnt L cl f
  p0 : A0.n ≤ p
  wt : Wt A p s hs junk
  pq : p ≠ q
  s0 : ∀ b, own s = some b → A0.n ≤ b ∧ b ≠ q
  out : Held A 35 so (acc.map lcells) []
  o0 : ∀ b, own so = some b → A0.n ≤ b ∧ b ≠ q ∧ b ≠ p ∧ own s ≠ some b

section
variable {A0 A A' : AHeap} {p q : Nat} {s so s' so' : Value} {hs hs' junk junk' : List (List Int)} {acc acc' : List LE} {L L' : List VE} {cl cl' : Nat} {f f' : List Int → Int}

theorem LSt.more (h : LSt A0 A p q s so hs junk acc L cl f) (hu : Unch A A') (hn : A.n ≤ A'.n) : LSt A0 A' p q s so hs junk acc L cl f :=
  ⟨h.unch.trans h.n hu, Nat.le_trans h.n hn, h.q0, Nat.lt_of_lt_of_le h.qn hn, by rw [hu q h.qn]; exact h.fq, h.cnt, h.p0, h.wt.mono hn (hu p h.wt.lt) (fun b hb => hu b (h.wt.held.own_lt hb)), h.pq, h.s0,
    h.out.mono hn (fun b hb => hu b (h.out.own_lt hb)), h.o0⟩

theorem LSt.chg (h : LSt A0 A p q s so hs junk acc L cl f) (hc : Chg A A' p s s') (hw : Wt A' p s' hs' junk') : LSt A0 A' p q s' so hs' junk' acc L cl f := by
  have hp0 := h.p0
  have hq0 := h.q0
  have hqn := h.qn
  have hn := h.n
  refine ⟨fun i hi => ?_, Nat.le_trans h.n hc.n, h.q0, Nat.lt_of_lt_of_le h.qn hc.n, ?_, h.cnt, h.p0, hw, h.pq, fun b hb => ?_, h.out.mono hc.n (fun b hb => ?_), fun b hb => ?_⟩
  · rw [hc.frame i (by omega) (by omega) (fun e => by have := (h.s0 i e).1; omega)]
    exact h.unch i hi
  · rw [hc.frame q h.qn h.pq.symm (fun e => (h.s0 q e).2 rfl)]; exact h.fq
  · rcases hc.own with e | ⟨b', e, hb'⟩
    · rw [e] at hb; exact h.s0 b hb
    · rw [e] at hb; cases hb; exact ⟨by omega, by omega⟩
  · obtain ⟨_, h2, h3, h4⟩ := h.o0 b hb
    exact hc.frame b (h.out.own_lt hb) h3 h4
  · obtain ⟨h1, h2, h3, h4⟩ := h.o0 b hb
    refine ⟨h1, h2, h3, fun e => ?_⟩
    have hbn := h.out.own_lt hb
    rcases hc.own with e2 | ⟨b', e2, hb'⟩
    · rw [e2] at e; exact h4 e
    · rw [e2] at e; cases e; omega

theorem LSt.put (h : LSt A0 A p q s so hs junk acc L cl f) (hc : Cnt L' cl' f') : LSt A0 (A.set q (.map (vents L') cl')) p q s so hs junk acc L' cl' f' := by
  have hq0 := h.q0
  exact ⟨fun i hi => by rw [AHeap.set_other _ _ (by omega)]; exact h.unch i hi, h.n, h.q0, h.qn, AHeap.set_same _ _ _, hc, h.p0,
    h.wt.mono (Nat.le_refl _) (AHeap.set_other _ _ h.pq) (fun b hb => AHeap.set_other _ _ (h.s0 b hb).2), h.pq, h.s0,
    h.out.mono (Nat.le_refl _) (fun b hb => AHeap.set_other _ _ (h.o0 b hb).2.1), h.o0⟩

theorem LSt.grew (h : LSt A0 A p q s so hs junk acc L cl f) (hg : Grew A A' so so') (ho : Held A' 35 so' (acc'.map lcells) []) : LSt A0 A' p q s so' hs junk acc' L cl f := by
  have hq0 := h.q0
  have hqn := h.qn
  have hn := h.n
  have hpn := h.wt.lt
  refine ⟨fun i hi => ?_, Nat.le_trans h.n hg.n, h.q0, Nat.lt_of_lt_of_le h.qn hg.n, ?_, h.cnt, h.p0, h.wt.mono hg.n ?_ (fun b hb => ?_), h.pq, h.s0, ho, fun b hb => ?_⟩
  · rw [hg.frame i (by omega) (fun e => by have := (h.o0 i e).1; omega)]; exact h.unch i hi
  · rw [hg.frame q h.qn (fun e => (h.o0 q e).2.1 rfl)]; exact h.fq
  · exact hg.frame p h.wt.lt (fun e => (h.o0 p e).2.2.1 rfl)
  · exact hg.frame b (h.wt.held.own_lt hb) (fun e => (h.o0 b e).2.2.2 hb)
  · rcases hg.own with e | ⟨b', e, hb'⟩
    · rw [e] at hb; exact h.o0 b hb
    · rw [e] at hb; cases hb
      exact ⟨by omega, by omega, by omega, fun e => by have := h.wt.held.own_lt e; omega⟩

/-- something aside -/
structure Aside (A0 A : AHeap) (p q : Nat) (s : Value) (r : Nat) (o : AObj) : Prop where
  lt : r < A.n
  f : A.f r = some o
  ge : A0.n ≤ r
  rp : r ≠ p
  rq : r ≠ q
  rs : own s ≠ some r

theorem Aside.more {r : Nat} {o : AObj} (h : Aside A0 A p q s r o) (hu : Unch A A') (hn : A.n ≤ A'.n) : Aside A0 A' p q s r o :=
  ⟨Nat.lt_of_lt_of_le h.lt hn, by rw [hu r h.lt]; exact h.f, h.ge, h.rp, h.rq, h.rs⟩
theorem Aside.chg {r : Nat} {o : AObj} (h : Aside A0 A p q s r o) (hc : Chg A A' p s s') : Aside A0 A' p q s' r o := by
  refine ⟨Nat.lt_of_lt_of_le h.lt hc.n, by rw [hc.frame r h.lt h.rp h.rs]; exact h.f, h.ge, h.rp, h.rq, fun e => ?_⟩
  have := h.lt
  rcases hc.own with e2 | ⟨b', e2, hb'⟩
  · rw [e2] at e; exact h.rs e
  · rw [e2] at e; cases e; omega
theorem LSt.aside {r : Nat} {o o' : AObj} (h : LSt A0 A p q s (.slice none 0 0) hs junk acc L cl f) (k : Aside A0 A p q s r o) : LSt A0 (A.set r o') p q s (.slice none 0 0) hs junk acc L cl f ∧ Aside A0 (A.set r o') p q s r o' := by
  have hge := k.ge
  refine ⟨⟨fun i hi => by rw [AHeap.set_other _ _ (by omega)]; exact h.unch i hi, h.n, h.q0, h.qn, by rw [AHeap.set_other _ _ k.rq.symm]; exact h.fq, h.cnt, h.p0,
    h.wt.mono (Nat.le_refl _) (AHeap.set_other _ _ k.rp.symm) (fun b hb => AHeap.set_other _ _ (fun e => k.rs (by rw [← e]; exact hb))), h.pq, h.s0, h.out.mono (Nat.le_refl _) (fun b hb => by cases hb), h.o0⟩,
    ⟨k.lt, AHeap.set_same _ _ _, k.ge, k.rp, k.rq, k.rs⟩⟩
end

theorem outs_cons (G : List NE) (w : List Int) (dec W l : List (List Int)) : outs G dec W (w :: l) = outs G (w :: dec) (if w ≠ vend ∧ cntG w G = cntL w (w :: dec) then w :: W else W) l := by
  conv => lhs; unfold outs
  rw [leq_eq, natbeq]
  by_cases h1 : w = vend
  · simp [h1]
  · by_cases h2 : cntG w G = cntL w (w :: dec)
    · simp [h1, h2]
    · simp [h1, h2]

theorem outs_one (G : List NE) (w : List Int) (dec W : List (List Int)) : outs G dec W [w] = (w :: dec, if w ≠ vend ∧ cntG w G = cntL w (w :: dec) then w :: W else W) := by
  rw [outs_cons]; rfl

theorem outs_snoc (G : List NE) (w : List Int) : ∀ (l dec W : List (List Int)), outs G dec W (l ++ [w]) = outs G (outs G dec W l).1 (outs G dec W l).2 [w]
  | [], dec, W => rfl
  | x :: l, dec, W => by
    rw [List.cons_append, outs_cons, outs_snoc G w l, outs_cons G x dec W l]

theorem app46 : ∃ bytes, bytes ≤ 1000 ∧ appType Try.prog 46 46 = some (35, bytes) := by
  refine ⟨_, ?_, by unfold appType; simp only [sl46, sz69, by69, zc69, Try.underlying46]; rfl⟩
  decide
end Go.AB.Try

/-
  (*Graph).Lines.
-/
namespace Go.AB.Try
open Go Go.AB Go.Proofs Go.IntWalk
set_option linter.unusedSimpArgs false
set_option linter.unusedVariables false
set_option maxRecDepth 10000
attribute [local irreducible] aops adrawn awp SimW

theorem edges_mem {x : NE} : ∀ {G : List NE}, x ∈ G → x.next.length ≤ edges G
  | [], h => by simp at h
  | y :: G, h => by
    unfold edges
    rcases List.mem_cons.1 h with rfl | h
    · omega
    · have := edges_mem h; omega

theorem outs_len (G : List NE) : ∀ (l dec W : List (List Int)), (outs G dec W l).1.length = dec.length + l.length ∧ (outs G dec W l).2.length ≤ W.length + l.length
  | [], dec, W => ⟨rfl, Nat.le_refl _⟩
  | w :: l, dec, W => by
    rw [outs_cons]
    have := outs_len G l (w :: dec) (if w ≠ vend ∧ cntG w G = cntL w (w :: dec) then w :: W else W)
    refine ⟨by rw [this.1]; simp; omega, Nat.le_trans this.2 ?_⟩
    split <;> simp <;> omega

theorem lineCells (v : List Int) (hv : vok v = true) (t : ByteArray) (a : Bool) :
    putCells (List.replicate 32 (Value.int .u8 0) ++ [Value.int .i64 0, Value.string ⟨#[]⟩, Value.bool false]) 0 (vcells v) = some (vcells v ++ [Value.string ⟨#[]⟩, Value.bool false]) ∧
    putCells (vcells v ++ [Value.string ⟨#[]⟩, Value.bool false]) 33 [Value.string t] = some (vcells v ++ [Value.string t, Value.bool false]) ∧
    putCells (vcells v ++ [Value.string t, Value.bool false]) 34 [Value.bool a] = some (vcells v ++ [Value.string t, Value.bool a]) ∧
    (vcells v ++ [Value.string t, Value.bool a]).all scalar = true ∧ (vcells v ++ [Value.string t, Value.bool a]).length = 35 := by
  have hl := vcells_len hv
  refine ⟨?_, ?_, ?_, ?_, by simp [hl]⟩
  · unfold putCells
    rw [hl, if_pos (by simp), List.take_zero, List.nil_append]
    rfl
  · unfold putCells
    rw [if_pos (by simp [hl]), ← hl, List.take_left, ← List.length_append, List.drop_append]
    simp
  · unfold putCells
    have e1 : (vcells v ++ [Value.string t]).length = 34 := by simp [hl]
    have e2 : vcells v ++ [Value.string t, Value.bool false] = (vcells v ++ [Value.string t]) ++ [Value.bool false] := by simp
    rw [if_pos (by simp [hl]), e2, ← e1, List.take_left, ← List.length_append, List.drop_append]
    simp
  · rw [List.all_append, vcells_scalar]; rfl
end Go.AB.Try
