/-
  (*Graph).ahead.
-/
import Derived.Test.YtcbmjgagbfhigaaH3
import Derived.Test.YtcbmjgagbfhigaaGF
namespace Go.AB.Try
open Go Go.AB Go.Proofs Go.IntWalk
set_option linter.unusedSimpArgs false
set_option linter.unusedVariables false
set_option maxRecDepth 10000
attribute [local irreducible] aops adrawn awp SimW

theorem lay27 : layQ Try.prog 27 = some vlay := by kernel_rfl

/-- a heap that holds what another one held, and a counting map, an iterator -/
structure Ah (A0 A : AHeap) (q r mm c : Nat) (seen : List Nat) (L : List VE) (cl : Nat) (f : List Int → Int) : Prop where
  unch : Unch A0 A
  n : A0.n ≤ A.n
  q0 : A0.n ≤ q
  qr : q < r
  rn : r < A.n
  fq : A.f q = some (.map (vents L) cl)
  cnt : Cnt L cl f
  fr : A.f r = some (.iter mm c seen c)

theorem Ah.more {A0 A A' : AHeap} {q r mm c cl : Nat} {seen : List Nat} {L : List VE} {f : List Int → Int} (h : Ah A0 A q r mm c seen L cl f) (hu : Unch A A') (hn : A.n ≤ A'.n) : Ah A0 A' q r mm c seen L cl f :=
  ⟨h.unch.trans h.n hu, Nat.le_trans h.n hn, h.q0, h.qr, Nat.lt_of_lt_of_le h.rn hn, by rw [hu q (Nat.lt_trans h.qr h.rn)]; exact h.fq, h.cnt, by rw [hu r h.rn]; exact h.fr⟩

theorem Ah.next {A0 A : AHeap} {q r mm c cl : Nat} {seen : List Nat} {L : List VE} {f : List Int → Int} (h : Ah A0 A q r mm c seen L cl f) (b : Nat) : Ah A0 (A.set r (.iter mm c (seen ++ [b]) c)) q r mm c (seen ++ [b]) L cl f := by
  have hq := h.q0
  have hr := h.qr
  exact ⟨fun i hi => by rw [AHeap.set_other _ _ (by omega)]; exact h.unch i hi, h.n, h.q0, h.qr, h.rn, by rw [AHeap.set_other _ _ (by omega)]; exact h.fq, h.cnt, AHeap.set_same _ _ _⟩

theorem Ah.put {A0 A : AHeap} {q r mm c cl cl' : Nat} {seen : List Nat} {L L' : List VE} {f f' : List Int → Int} (h : Ah A0 A q r mm c seen L cl f) (hc : Cnt L' cl' f') : Ah A0 (A.set q (.map (vents L') cl')) q r mm c seen L' cl' f' := by
  have hq := h.q0
  have hr := h.qr
  exact ⟨fun i hi => by rw [AHeap.set_other _ _ (by omega)]; exact h.unch i hi, h.n, h.q0, h.qr, h.rn, AHeap.set_same _ _ _, hc, by rw [AHeap.set_other _ _ (by omega)]; exact h.fr⟩

theorem tmp_unch (A : AHeap) (o o' : AObj) : Unch A ((A.push o).set A.n o') := fun i hi => by
  rw [AHeap.set_other _ _ (by omega), AHeap.push_old _ _ hi]

theorem t52 {A : AHeap} {g m c : Nat} {made pm first : Value} {k : Kind} {G : List NE} (hg : A.f g = some (.row [made, pm, .map (some m), first] k)) (hgn : g < A.n) (hN : NodesA A m c G) (hbig : edges G ≤ 1000000000000) :
    SimW Try.prog 52 [.pointer (some ⟨g, 0, none⟩)] A (fun v A' => ∃ q L cl, v = .map (some q) ∧ A.n ≤ q ∧ q < A'.n ∧ A'.f q = some (.map (vents L) cl) ∧ Cnt L cl (fun w => (cntG w G : Nat)) ∧ Unch A A' ∧ A.n ≤ A'.n) := by
  have hm := hN.f
  have hmn := hN.lt
  have hgn' : (g = A.n) = False := by simp; omega
  have hmn' : (m = A.n) = False := by simp; omega
  have hborn : ((vents (G.map NE.ve)).map (·.born)).Nodup := by rw [vents_born]; exact hN.vm.born
  
  refine simW_of_awp fine mixed Try.func52 rfl rfl (Nat.le_of_ble_eq_true rfl) ?_
  refine awp_seq fun N1 hN1 => ?_
  refine awp_region ?_
  (repeat ((with_reducible show aops _ _ _ _ _ _ _); first | (with_reducible refine aops_nil ?_) | (refine aops_do rfl rfl (by (try (conv => (lhs; simp only [-List.reduceReplicate, ↓reduceIte, Nat.reduceEqDiff, Nat.reduceLT, Nat.reduceAdd, Nat.reduceMul, Nat.reduceLeDiff, Int.reduceLT, Int.reduceLE, Int.reduceToNat, reduceCtorEq, go_sem]))); try exact rfl) ?_; first | refine aput_some rfl (Nat.le_of_ble_eq_true rfl) ?_ | refine aput_none rfl ?_) | (refine aops_skip rfl rfl (Nat.le_of_ble_eq_true rfl) ?_) | (refine aops_skip0 rfl rfl ?_)))
  refine then_normal (hN1 _ _ ?_); try clear hN1 N1
  refine awp_seq fun N2 hN2 => ?_
  refine awp_region ?_
  (repeat ((with_reducible show aops _ _ _ _ _ _ _); first | (with_reducible refine aops_nil ?_) | (refine aops_do rfl rfl (by (try (conv => (lhs; simp only [-List.reduceReplicate, ↓reduceIte, Nat.reduceEqDiff, Nat.reduceLT, Nat.reduceAdd, Nat.reduceMul, Nat.reduceLeDiff, Int.reduceLT, Int.reduceLE, Int.reduceToNat, reduceCtorEq, go_sem, hg, hm, goInt, amakeMap]))); try exact rfl) ?_; first | refine aput_some rfl (Nat.le_of_ble_eq_true rfl) ?_ | refine aput_none rfl ?_) | (refine aops_skip rfl rfl (Nat.le_of_ble_eq_true rfl) ?_) | (refine aops_skip0 rfl rfl ?_)))
  refine then_normal (hN2 _ _ ?_); try clear hN2 N2
  refine awp_seq fun N3 hN3 => ?_
  refine awp_seq fun N4 hN4 => ?_
  refine awp_region ?_
  (repeat ((with_reducible show aops _ _ _ _ _ _ _); first | (with_reducible refine aops_nil ?_) | (refine aops_do rfl rfl (by (try (conv => (lhs; simp only [-List.reduceReplicate, ↓reduceIte, Nat.reduceEqDiff, Nat.reduceLT, Nat.reduceAdd, Nat.reduceMul, Nat.reduceLeDiff, Int.reduceLT, Int.reduceLE, Int.reduceToNat, reduceCtorEq, go_sem, AHeap.push_f, hg, hgn', hmn', hm, arange]))); try exact rfl) ?_; first | refine aput_some rfl (Nat.le_of_ble_eq_true rfl) ?_ | refine aput_none rfl ?_) | (refine aops_skip rfl rfl (Nat.le_of_ble_eq_true rfl) ?_) | (refine aops_skip0 rfl rfl ?_)))
  refine then_normal (hN4 _ _ ?_); try clear hN4 N4
  have hA0 : Ah A ((A.push (.map [] 0)).push (.iter m c [] c)) A.n (A.n + 1) m c [] [] 0 (fun _ => 0) := by
    refine ⟨(Unch.push _ _).trans (by simp only [AHeap.push_n]; omega) (Unch.push _ _), by simp only [AHeap.push_n]; omega, Nat.le_refl _, by omega, by simp only [AHeap.push_n]; omega, ?_, ?_, ?_⟩
    · rw [AHeap.push_old _ _ (by simp only [AHeap.push_n]; omega), AHeap.push_new]; rfl
    · exact ⟨⟨fun x hx => by simp at hx, by simp, by simp, fun x hx => by simp at hx⟩, fun x hx => by simp at hx, fun _ _ => rfl⟩
    · exact AHeap.push_new (A.push (.map [] 0)) _
  refine awp_block ?_
  
  refine awp_loop (fun m' t A' => ∃ seen L cl, t 0 = .pointer (some ⟨g, 0, none⟩) ∧ t 3 = .map (some A.n) ∧ t 19 = .pointer (some ⟨A.n + 1, 0, none⟩) ∧ Ah A A' A.n (A.n + 1) m c seen L cl (fun _ => 0) ∧ m' = (left (vents (G.map NE.ve)) seen).length)
    _ ⟨[], [], 0, rfl, rfl, rfl, hA0, rfl⟩ fun m' t A' hI N hN' => ?_
  obtain ⟨seen, L, cl, h0, h3, h19, hA, rfl⟩ := hI
  clear hA0
  refine awp_seq fun N5 hN5 => ?_
  refine awp_region ?_
  refine aops_next rfl rfl rfl (Nat.le_of_ble_eq_true rfl) (by show anextMap A' (t 19) = _; rw [h19]; exact anext_of hA.fr (by rw [hA.unch m hmn]; exact hm)) ?_
  intro v A2 hv
  cases hv with
  | one e he =>
    
    obtain ⟨x, hx, rfl, hxs⟩ := left_node he
    have hA2 := hA.next x.ve.ent.born
    have hAm := hA2.unch m hmn
    have hok : vok x.k = true := hN.vm.ok x.ve (List.mem_map_of_mem hx)
    have hlt := left_lt he
    have hen1 : aentry (A'.set (A.n + 1) (.iter m c (seen ++ [x.ve.ent.born]) c)) (.pointer (some ⟨A.n + 1, 0, none⟩)) = some (.tuple ⟨[vagg x.k, x.ve.v]⟩) :=
      aentry_of (e := x.ve.ent) hA2.fr (by rw [hAm]; exact hm) hborn (by unfold vents; rw [List.map_map]; exact List.mem_map_of_mem (f := VE.ent ∘ NE.ve) hx)
    have l1 := vcells_len hok
    have zf := putCells_full (cs := List.replicate 32 (Value.int .u8 0) ++ [Value.int .i64 0]) (vs := vcells x.k) (by rw [l1]; rfl)
    have gf : getCells (vcells x.k) 0 33 = some (vcells x.k) := by
      unfold getCells; rw [if_pos (by omega), List.drop_zero, ← l1, List.take_length]
    (repeat ((with_reducible show aops _ _ _ _ _ _ _); first | (with_reducible refine aops_nil ?_) | (refine aops_do rfl rfl (by (try (conv => (lhs; simp only [-List.reduceReplicate, ↓reduceIte, Nat.reduceEqDiff, Nat.reduceLT, Nat.reduceAdd, Nat.reduceMul, Nat.reduceLeDiff, Int.reduceLT, Int.reduceLE, Int.reduceToNat, reduceCtorEq, go_sem]))); try exact rfl) ?_; first | refine aput_some rfl (Nat.le_of_ble_eq_true rfl) ?_ | refine aput_none rfl ?_) | (refine aops_skip rfl rfl (Nat.le_of_ble_eq_true rfl) ?_) | (refine aops_skip0 rfl rfl ?_)))
    refine then_normal (hN5 _ _ ?_); try clear hN5 N5
    refine awp_seq fun N6 hN6 => ?_
    refine awp_true rfl ?_
    refine awp_skip ?_
    refine then_normal (hN6 _ _ ?_); try clear hN6 N6
    refine awp_block ?_
    refine awp_seq fun NB hNB => ?_
    have cut : ∀ (tt : Tm) (A3 : AHeap) (a : Nat), tt 0 = .pointer (some ⟨g, 0, none⟩) → tt 3 = .map (some A.n) → tt 19 = .pointer (some ⟨A.n + 1, 0, none⟩) → tt 4 = .pointer (some ⟨a, 0, none⟩) →
        Ah A A3 A.n (A.n + 1) m c (seen ++ [x.ve.ent.born]) L cl (fun _ => 0) → A3.f a = some (.row (vcells x.k) .fix) → NB tt A3 := by
      intro tt A3 a h0 h3 h19 h4 hA3 hrow
      refine hNB _ _ ?_
      have hlk := hA3.cnt.look (t := 94) mp94 lay27 zv3 hA3.fq hok
      obtain ⟨st, L1, hen, hc1, hst⟩ := hA3.cnt.bump (t := 94) mp94 lay27 zv3 hA3.fq hok
      have hA4 := hA3.put hc1
      have hlk1 := hc1.look (t := 94) mp94 lay27 zv3 hA4.fq hok
      have hst1 := hst _ (.int .i64 0) hA4.fq
      simp only [goInt] at hst1
      have hw0 : IntKind.i64.wrap ((0 : Int) + 0) = 0 := by decide
      (refine awp_drawn [2] (by kernel_rfl) ?_; refine adrawn_pure rfl rfl rfl rfl (Nat.le_of_ble_eq_true rfl) (by (try (conv => (lhs; simp only [-List.reduceReplicate, ↓reduceIte, Nat.reduceEqDiff, Nat.reduceLT, Nat.reduceAdd, Nat.reduceMul, Nat.reduceLeDiff, Int.reduceLT, Int.reduceLE, Int.reduceToNat, reduceCtorEq, go_sem, h3, h4, hrow, gf, hlk, hen, hlk1, hst1, hw0]))); try exact rfl) (by intro p hp; cases hp) ?_; refine adrawn_pure rfl rfl rfl rfl (Nat.le_of_ble_eq_true rfl) (by (try (conv => (lhs; simp only [-List.reduceReplicate, ↓reduceIte, Nat.reduceEqDiff, Nat.reduceLT, Nat.reduceAdd, Nat.reduceMul, Nat.reduceLeDiff, Int.reduceLT, Int.reduceLE, Int.reduceToNat, reduceCtorEq, go_sem, h3, h4, hrow, gf, hlk, hen, hlk1, hst1, hw0]))); try exact rfl) (by intro p hp; cases hp) ?_; refine adrawn_read (v := .int .i64 0) rfl rfl rfl rfl (Nat.le_of_ble_eq_true rfl) (by intro B hB; (obtain rfl : B = _ := (by simpa using hB)); simp only [-List.reduceReplicate, ↓reduceIte, Nat.reduceEqDiff, Nat.reduceLT, Nat.reduceAdd, Nat.reduceMul, Nat.reduceLeDiff, Int.reduceLT, Int.reduceLE, Int.reduceToNat, reduceCtorEq, go_sem, h3, h4, hrow, gf, hlk, hen, hlk1, hst1, hw0]) ⟨fun _ => none, _, fun _ _ => rfl, .int _ _⟩ ?_; refine adrawn_stepR rfl rfl rfl rfl (Nat.le_of_ble_eq_true rfl) (by (try (conv => (lhs; simp only [-List.reduceReplicate, ↓reduceIte, Nat.reduceEqDiff, Nat.reduceLT, Nat.reduceAdd, Nat.reduceMul, Nat.reduceLeDiff, Int.reduceLT, Int.reduceLE, Int.reduceToNat, reduceCtorEq, go_sem, h3, h4, hrow, gf, hlk, hen, hlk1, hst1, hw0]))); try exact rfl) (by exact Nat.le_refl _) (.inl (Unch.refl _)) (keepP_keep (by decide)) (by intro p hp; obtain rfl := List.mem_singleton.1 hp; simp only [-List.reduceReplicate, ↓reduceIte, Nat.reduceEqDiff, Nat.reduceLT, Nat.reduceAdd, Nat.reduceMul, Nat.reduceLeDiff, Int.reduceLT, Int.reduceLE, Int.reduceToNat, reduceCtorEq, go_sem, h3, h4, hrow, gf, hlk, hen, hlk1, hst1, hw0]) ?_; refine adrawn_stepR rfl rfl rfl rfl (Nat.le_of_ble_eq_true rfl) (by (try (conv => (lhs; simp only [-List.reduceReplicate, ↓reduceIte, Nat.reduceEqDiff, Nat.reduceLT, Nat.reduceAdd, Nat.reduceMul, Nat.reduceLeDiff, Int.reduceLT, Int.reduceLE, Int.reduceToNat, reduceCtorEq, go_sem, h3, h4, hrow, gf, hlk, hen, hlk1, hst1, hw0]))); try exact rfl) (by exact Nat.le_refl _) (.inr (by decide)) (keepP_keep (by decide)) (by intro p hp; obtain rfl := List.mem_singleton.1 hp; simp only [-List.reduceReplicate, ↓reduceIte, Nat.reduceEqDiff, Nat.reduceLT, Nat.reduceAdd, Nat.reduceMul, Nat.reduceLeDiff, Int.reduceLT, Int.reduceLE, Int.reduceToNat, reduceCtorEq, go_sem, h3, h4, hrow, gf, hlk, hen, hlk1, hst1, hw0]) ?_; refine adrawn_stepR rfl rfl rfl rfl (Nat.le_of_ble_eq_true rfl) (by (try (conv => (lhs; simp only [-List.reduceReplicate, ↓reduceIte, Nat.reduceEqDiff, Nat.reduceLT, Nat.reduceAdd, Nat.reduceMul, Nat.reduceLeDiff, Int.reduceLT, Int.reduceLE, Int.reduceToNat, reduceCtorEq, go_sem, h3, h4, hrow, gf, hlk, hen, hlk1, hst1, hw0]))); try exact rfl) (by exact Nat.le_refl _) (.inl (Unch.refl _)) (keepP_keep (by decide)) (by intro p hp; obtain rfl := List.mem_singleton.1 hp; simp only [-List.reduceReplicate, ↓reduceIte, Nat.reduceEqDiff, Nat.reduceLT, Nat.reduceAdd, Nat.reduceMul, Nat.reduceLeDiff, Int.reduceLT, Int.reduceLE, Int.reduceToNat, reduceCtorEq, go_sem, h3, h4, hrow, gf, hlk, hen, hlk1, hst1, hw0]) ?_; refine adrawn_stepR0 rfl rfl rfl rfl (by (try (conv => (lhs; simp only [-List.reduceReplicate, ↓reduceIte, Nat.reduceEqDiff, Nat.reduceLT, Nat.reduceAdd, Nat.reduceMul, Nat.reduceLeDiff, Int.reduceLT, Int.reduceLE, Int.reduceToNat, reduceCtorEq, go_sem, h3, h4, hrow, gf, hlk, hen, hlk1, hst1, hw0]))); try exact rfl) (by exact Nat.le_refl _) (.inr (by decide)) (keepP_drop (by decide)) (by intro p hp; cases hp) ?_; refine adrawn_nil ?_)
      refine block_normal ?_
      refine then_normal (hN' _ _ _ hlt ⟨_, _, _, h0, h3, h19, hA4.put (hA3.cnt.put hok (n := 0) (g := fun _ => 0) (fun w => ?_)), rfl⟩)
      split <;> rfl
    refine awp_region ?_
    (repeat ((with_reducible show aops _ _ _ _ _ _ _); first | (with_reducible refine aops_nil ?_) | (refine aops_do rfl rfl (by (try (conv => (lhs; simp only [-List.reduceReplicate, ↓reduceIte, Nat.reduceEqDiff, Nat.reduceLT, Nat.reduceAdd, Nat.reduceMul, Nat.reduceLeDiff, Int.reduceLT, Int.reduceLE, Int.reduceToNat, reduceCtorEq, go_sem, h19, hen1, zf, l1, AHeap.push_f, AHeap.set_f]))); try exact rfl) ?_; first | refine aput_some rfl (Nat.le_of_ble_eq_true rfl) ?_ | refine aput_none rfl ?_) | (refine aops_skip rfl rfl (Nat.le_of_ble_eq_true rfl) ?_) | (refine aops_skip0 rfl rfl ?_)))
    exact then_normal (cut _ _ _ h0 h3 h19 rfl (hA2.more (tmp_unch _ _ _) (Nat.le_succ _)) (AHeap.set_same _ _ _))
    
  | over hl =>
    clear hN'
    (repeat ((with_reducible show aops _ _ _ _ _ _ _); first | (with_reducible refine aops_nil ?_) | (refine aops_do rfl rfl (by (try (conv => (lhs; simp only [-List.reduceReplicate, ↓reduceIte, Nat.reduceEqDiff, Nat.reduceLT, Nat.reduceAdd, Nat.reduceMul, Nat.reduceLeDiff, Int.reduceLT, Int.reduceLE, Int.reduceToNat, reduceCtorEq, go_sem]))); try exact rfl) ?_; first | refine aput_some rfl (Nat.le_of_ble_eq_true rfl) ?_ | refine aput_none rfl ?_) | (refine aops_skip rfl rfl (Nat.le_of_ble_eq_true rfl) ?_) | (refine aops_skip0 rfl rfl ?_)))
    refine then_normal (hN5 _ _ ?_); try clear hN5 N5
    refine awp_seq fun N8 hN8 => ?_
    refine awp_false rfl ?_
    refine awp_exit ?_; (repeat (first | (with_reducible refine then_exit ?_) | ((with_reducible refine block_there ?hne ?_); case hne => rfl))); with_reducible refine block_here ?_
    refine then_normal (hN3 _ _ ?_); try clear hN3 N3
    have hAm := hA.unch m hmn
    have hAg := hA.unch g hgn
    rw [hg] at hAg
    rw [hm] at hAm
    refine awp_seq fun NEr hNEr => ?_
    have rest : ∀ (tt : Tm) (A3 : AHeap) (r : Nat) (seen : List Nat) (L : List VE) (cl : Nat), tt 3 = .map (some A.n) → Ah A A3 A.n r m c seen L cl (fun w => (cntG w G : Nat)) → NEr tt A3 := by
      intro tt A3 r seen L cl h3 hA3
      refine hNEr _ _ ?_
      
      refine awp_seq fun N10 hN10 => ?_
      refine awp_region ?_
      (repeat ((with_reducible show aops _ _ _ _ _ _ _); first | (with_reducible refine aops_nil ?_) | (refine aops_do rfl rfl (by (try (conv => (lhs; simp only [-List.reduceReplicate, ↓reduceIte, Nat.reduceEqDiff, Nat.reduceLT, Nat.reduceAdd, Nat.reduceMul, Nat.reduceLeDiff, Int.reduceLT, Int.reduceLE, Int.reduceToNat, reduceCtorEq, go_sem, h3]))); try exact rfl) ?_; first | refine aput_some rfl (Nat.le_of_ble_eq_true rfl) ?_ | refine aput_none rfl ?_) | (refine aops_skip rfl rfl (Nat.le_of_ble_eq_true rfl) ?_) | (refine aops_skip0 rfl rfl ?_)))
      refine then_normal (hN10 _ _ ?_); try clear hN10 N10
      refine awp_ret ?_; (repeat (first | (with_reducible refine then_ret ?_) | (with_reducible refine block_ret ?_)))
      have h1 := hA3.qr
      have h2 := hA3.rn
      exact end_ret rfl ⟨_, _, _, rfl, Nat.le_refl _, by omega, hA3.fq, hA3.cnt, hA3.unch, hA3.n⟩
      
    clear hNEr
    refine awp_seq fun NF hNF => ?_
    have loop2 : ∀ (tt : Tm) (A3 : AHeap) (r : Nat), tt 0 = .pointer (some ⟨g, 0, none⟩) → tt 3 = .map (some A.n) → tt 34 = .pointer (some ⟨r, 0, none⟩) → Ah A A3 A.n r m c [] L cl (fun _ => 0) → NF tt A3 := by
      intro tt A3 r h0 h3 h34 hA3
      refine hNF _ _ ?_
      clear hNF
      
      refine awp_block ?_
      
      refine awp_loop (fun m' t A' => ∃ seen L cl, t 0 = .pointer (some ⟨g, 0, none⟩) ∧ t 3 = .map (some A.n) ∧ t 34 = .pointer (some ⟨r, 0, none⟩) ∧ Ah A A' A.n r m c seen L cl (fun w => (cntG w (doneN seen G) : Nat)) ∧ m' = (left (vents (G.map NE.ve)) seen).length)
        _ ⟨[], _, _, h0, h3, h34, ⟨hA3.unch, hA3.n, hA3.q0, hA3.qr, hA3.rn, hA3.fq, hA3.cnt.congr (fun w => by rw [doneN_nil]; rfl), hA3.fr⟩, rfl⟩ fun m' t A' hI N hN' => ?_
      clear hA3 h0 h3 h34
      obtain ⟨seen, L, cl, h0, h3, h34, hA, rfl⟩ := hI
      refine awp_seq fun N12 hN12 => ?_
      refine awp_region ?_
      refine aops_next rfl rfl rfl (Nat.le_of_ble_eq_true rfl) (by show anextMap A' (t 34) = _; rw [h34]; exact anext_of hA.fr (by rw [hA.unch m hmn]; exact hm)) ?_
      intro v A2 hv
      cases hv with
      | over hl =>
        
        clear hN'
        (repeat ((with_reducible show aops _ _ _ _ _ _ _); first | (with_reducible refine aops_nil ?_) | (refine aops_do rfl rfl (by (try (conv => (lhs; simp only [-List.reduceReplicate, ↓reduceIte, Nat.reduceEqDiff, Nat.reduceLT, Nat.reduceAdd, Nat.reduceMul, Nat.reduceLeDiff, Int.reduceLT, Int.reduceLE, Int.reduceToNat, reduceCtorEq, go_sem]))); try exact rfl) ?_; first | refine aput_some rfl (Nat.le_of_ble_eq_true rfl) ?_ | refine aput_none rfl ?_) | (refine aops_skip rfl rfl (Nat.le_of_ble_eq_true rfl) ?_) | (refine aops_skip0 rfl rfl ?_)))
        refine then_normal (hN12 _ _ ?_); try clear hN12 N12
        refine awp_seq fun N13 hN13 => ?_
        refine awp_false rfl ?_
        refine awp_exit ?_; (repeat (first | (with_reducible refine then_exit ?_) | ((with_reducible refine block_there ?hne ?_); case hne => rfl))); with_reducible refine block_here ?_
        refine then_normal (rest _ _ r seen L cl h3 ⟨hA.unch, hA.n, hA.q0, hA.qr, hA.rn, hA.fq, hA.cnt.congr (fun w => ?_), hA.fr⟩)
        rw [doneN_all hl]
        
      | one e he =>
        clear rest
        obtain ⟨x, hx, rfl, hxs⟩ := left_node he
        have hA2 := hA.next x.ve.ent.born
        have hAm := hA2.unch m hmn
        have hlt := left_lt he
        have hen1 : aentry (A'.set r (.iter m c (seen ++ [x.ve.ent.born]) c)) (.pointer (some ⟨r, 0, none⟩)) = some (.tuple ⟨[vagg x.k, x.ve.v]⟩) :=
          aentry_of (e := x.ve.ent) hA2.fr (by rw [hAm]; exact hm) hborn (by unfold vents; rw [List.map_map]; exact List.mem_map_of_mem (f := VE.ent ∘ NE.ve) hx)
        obtain ⟨sa, sc, hs, hsr⟩ := (hN.reads x hx)
        have hxv : x.ve.v = .agg ⟨[.string x.text, .int .i64 x.gone, .int .i64 x.named, .slice sa x.next.length sc]⟩ := by rw [← hs]; rfl
        have hnd : (G.map (·.b)).Nodup := by
          have := hN.vm.born
          rw [List.map_map] at this
          exact this
        have hdone : ∀ w, cntG w (doneN (seen ++ [x.ve.ent.born]) G) = cntL w x.next + cntG w (doneN seen G) := fun w => cntG_perm w (doneN_step hnd hx hxs)
        have hbd : ∀ w, cntG w (doneN seen G) ≤ 1000000000000 := fun w => Nat.le_trans (cntG_done_le w seen G) hbig
        have hbx : x.next.length ≤ 1000000000000 := by
          have : ∀ {G : List NE}, x ∈ G → x.next.length ≤ edges G := by
            intro G
            induction G with
            | nil => intro h; simp at h
            | cons y G ih =>
              intro h
              unfold edges
              rcases List.mem_cons.1 h with rfl | h
              · omega
              · have := ih h; omega
          exact Nat.le_trans (this hx) hbig
        (repeat ((with_reducible show aops _ _ _ _ _ _ _); first | (with_reducible refine aops_nil ?_) | (refine aops_do rfl rfl (by (try (conv => (lhs; simp only [-List.reduceReplicate, ↓reduceIte, Nat.reduceEqDiff, Nat.reduceLT, Nat.reduceAdd, Nat.reduceMul, Nat.reduceLeDiff, Int.reduceLT, Int.reduceLE, Int.reduceToNat, reduceCtorEq, go_sem]))); try exact rfl) ?_; first | refine aput_some rfl (Nat.le_of_ble_eq_true rfl) ?_ | refine aput_none rfl ?_) | (refine aops_skip rfl rfl (Nat.le_of_ble_eq_true rfl) ?_) | (refine aops_skip0 rfl rfl ?_)))
        refine then_normal (hN12 _ _ ?_); try clear hN12 N12
        refine awp_seq fun N14 hN14 => ?_
        refine awp_true rfl ?_
        refine awp_skip ?_
        refine then_normal (hN14 _ _ ?_); try clear hN14 N14
        refine awp_block ?_
        refine awp_seq fun NC hNC => ?_
        have cut : ∀ (tt : Tm) (A3 : AHeap) (a : Nat), tt 0 = .pointer (some ⟨g, 0, none⟩) → tt 3 = .map (some A.n) → tt 34 = .pointer (some ⟨r, 0, none⟩) → tt 6 = .pointer (some ⟨a, 0, none⟩) →
            Ah A A3 A.n r m c (seen ++ [x.ve.ent.born]) L cl (fun w => (cntG w (doneN seen G) : Nat)) → A3.f a = some (.row [.string x.text, .int .i64 x.gone, .int .i64 x.named, .slice sa x.next.length sc] .fix) → NC tt A3 := by
          intro tt A3 a h0 h3 h34 h6 hA3 hrow
          refine hNC _ _ ?_
          clear hNC hen1 hAm hA2 hA he
          
          refine awp_seq fun N16 hN16 => ?_
          refine awp_region ?_
          (repeat ((with_reducible show aops _ _ _ _ _ _ _); first | (with_reducible refine aops_nil ?_) | (refine aops_do rfl rfl (by (try (conv => (lhs; simp only [-List.reduceReplicate, ↓reduceIte, Nat.reduceEqDiff, Nat.reduceLT, Nat.reduceAdd, Nat.reduceMul, Nat.reduceLeDiff, Int.reduceLT, Int.reduceLE, Int.reduceToNat, reduceCtorEq, go_sem, h6, hrow, goInt]))); try exact rfl) ?_; first | refine aput_some rfl (Nat.le_of_ble_eq_true rfl) ?_ | refine aput_none rfl ?_) | (refine aops_skip rfl rfl (Nat.le_of_ble_eq_true rfl) ?_) | (refine aops_skip0 rfl rfl ?_)))
          refine then_normal (hN16 _ _ ?_); try clear hN16 N16
          refine awp_block ?_
          
          refine awp_loop (fun m' t A' => ∃ (j : Nat) (L : List VE) (cl : Nat), t 0 = .pointer (some ⟨g, 0, none⟩) ∧ t 3 = .map (some A.n) ∧ t 34 = .pointer (some ⟨r, 0, none⟩) ∧ t 40 = .slice sa x.next.length sc ∧ t 41 = .int .i64 (x.next.length : Nat) ∧ t 42 = .int .i64 (j : Nat) ∧
            j + m' = x.next.length ∧ Ah A A' A.n r m c (seen ++ [x.ve.ent.born]) L cl (fun w => (cntG w (doneN seen G) + cntL w (x.next.take j) : Nat)))
            x.next.length ⟨0, L, cl, h0, h3, h34, rfl, rfl, rfl, by omega, ⟨hA3.unch, hA3.n, hA3.q0, hA3.qr, hA3.rn, hA3.fq, hA3.cnt.congr (fun w => by simp [cntL]), hA3.fr⟩⟩ fun m' t A' hI N2 hN2 => ?_
          clear hA3 hrow h0 h3 h34 h6
          obtain ⟨j, L, cl, h0, h3, h34, h40, h41, h42, hjm, hA⟩ := hI
          refine awp_seq fun N17 hN17 => ?_
          refine awp_region ?_
          (repeat ((with_reducible show aops _ _ _ _ _ _ _); first | (with_reducible refine aops_nil ?_) | (refine aops_do rfl rfl (by (try (conv => (lhs; simp only [-List.reduceReplicate, ↓reduceIte, Nat.reduceEqDiff, Nat.reduceLT, Nat.reduceAdd, Nat.reduceMul, Nat.reduceLeDiff, Int.reduceLT, Int.reduceLE, Int.reduceToNat, reduceCtorEq, go_sem, h41, h42]))); try exact rfl) ?_; first | refine aput_some rfl (Nat.le_of_ble_eq_true rfl) ?_ | refine aput_none rfl ?_) | (refine aops_skip rfl rfl (Nat.le_of_ble_eq_true rfl) ?_) | (refine aops_skip0 rfl rfl ?_)))
          refine then_normal (hN17 _ _ ?_); try clear hN17 N17
          refine awp_seq fun N18 hN18 => ?_
          by_cases hj : j < x.next.length
          · 
            have hdj : decide ((j : Int) < (x.next.length : Int)) = true := by simp; omega
            rw [hdj]
            refine awp_true rfl ?_
            refine awp_skip ?_
            refine then_normal (hN18 _ _ ?_); try clear hN18 N18
            refine awp_seq fun N19 hN19 => ?_
            refine awp_block ?_
            obtain ⟨b, o, cs, kk, rfl, hb, hc, hfb, hgb⟩ := hsr j hj
            have hvw : vok (at' [] x.next j) = true := hN.vok x hx _ (by rw [at_eq [] hj]; exact List.getElem_mem _)
            have l1 := vcells_len hvw
            have zf := putCells_full (cs := List.replicate 32 (Value.int .u8 0) ++ [Value.int .i64 0]) (vs := vcells (at' [] x.next j)) (by rw [l1]; rfl)
            have gf : getCells (vcells (at' [] x.next j)) 0 33 = some (vcells (at' [] x.next j)) := by
              unfold getCells; rw [if_pos (by omega), List.drop_zero, ← l1, List.take_length]
            have hfb' : A'.f b = some (.row cs kk) := by rw [hA.unch b hb]; exact hfb
            have hjj : (0 ≤ (j : Int) ∧ (j : Int) < (x.next.length : Int)) = True := by simp; omega
            have w1 : IntKind.i64.wrap ((j : Int) + 1) = ((j + 1 : Nat) : Int) := by rw [i64_in _ (by omega)]; omega
            refine awp_seq fun ND hND => ?_
            have cut2 : ∀ (tt : Tm) (A3 : AHeap) (a : Nat), tt 0 = .pointer (some ⟨g, 0, none⟩) → tt 3 = .map (some A.n) → tt 34 = .pointer (some ⟨r, 0, none⟩) → tt 40 = .slice (some ⟨b, o, none⟩) x.next.length sc → tt 41 = .int .i64 (x.next.length : Nat) → tt 42 = .int .i64 (j : Nat) → tt 8 = .pointer (some ⟨a, 0, none⟩) →
                Ah A A3 A.n r m c (seen ++ [x.ve.ent.born]) L cl (fun w => (cntG w (doneN seen G) + cntL w (x.next.take j) : Nat)) → A3.f a = some (.row (vcells (at' [] x.next j)) .fix) → ND tt A3 := by
              intro tt A3 a h0 h3 h34 h40 h41 h42 h8 hA3 hrow
              refine hND _ _ ?_
              clear hND
              have hlk := hA3.cnt.look (t := 94) mp94 lay27 zv3 hA3.fq hvw
              obtain ⟨st, L1, hen, hc1, hst⟩ := hA3.cnt.bump (t := 94) mp94 lay27 zv3 hA3.fq hvw
              have hA4 := hA3.put hc1
              have hlk1 := hc1.look (t := 94) mp94 lay27 zv3 hA4.fq hvw
              have hst1 := fun v => hst _ v hA4.fq
              simp only [goInt] at hst1
              have hle : cntL (at' [] x.next j) (x.next.take j) ≤ x.next.length := Nat.le_trans (cntL_le _ _) (by rw [List.length_take]; omega)
              have hbd' := hbd (at' [] x.next j)
              have hw0 : IntKind.i64.wrap (((cntG (at' [] x.next j) (doneN seen G) + cntL (at' [] x.next j) (x.next.take j) : Nat) : Int) + 1) = ((cntG (at' [] x.next j) (doneN seen G) + cntL (at' [] x.next j) (x.next.take j) + 1 : Nat) : Int) := by
                rw [i64_in _ (by omega)]; omega
              
              
              (refine awp_drawn [2] (by kernel_rfl) ?_; refine adrawn_pure rfl rfl rfl rfl (Nat.le_of_ble_eq_true rfl) (by (try (conv => (lhs; simp only [-List.reduceReplicate, ↓reduceIte, Nat.reduceEqDiff, Nat.reduceLT, Nat.reduceAdd, Nat.reduceMul, Nat.reduceLeDiff, Int.reduceLT, Int.reduceLE, Int.reduceToNat, reduceCtorEq, go_sem, h3, h8, hrow, gf, hlk, hen, hlk1, hst1, hw0]))); try exact rfl) (by intro p hp; cases hp) ?_; refine adrawn_pure rfl rfl rfl rfl (Nat.le_of_ble_eq_true rfl) (by (try (conv => (lhs; simp only [-List.reduceReplicate, ↓reduceIte, Nat.reduceEqDiff, Nat.reduceLT, Nat.reduceAdd, Nat.reduceMul, Nat.reduceLeDiff, Int.reduceLT, Int.reduceLE, Int.reduceToNat, reduceCtorEq, go_sem, h3, h8, hrow, gf, hlk, hen, hlk1, hst1, hw0]))); try exact rfl) (by intro p hp; cases hp) ?_; refine adrawn_read (v := .int .i64 ((cntG (at' [] x.next j) (doneN seen G) + cntL (at' [] x.next j) (x.next.take j) : Nat) : Int)) rfl rfl rfl rfl (Nat.le_of_ble_eq_true rfl) (by intro B hB; (obtain rfl : B = _ := (by simpa using hB)); simp only [-List.reduceReplicate, ↓reduceIte, Nat.reduceEqDiff, Nat.reduceLT, Nat.reduceAdd, Nat.reduceMul, Nat.reduceLeDiff, Int.reduceLT, Int.reduceLE, Int.reduceToNat, reduceCtorEq, go_sem, h3, h8, hrow, gf, hlk, hen, hlk1, hst1, hw0]) ⟨fun _ => none, _, fun _ _ => rfl, .int _ _⟩ ?_; refine adrawn_stepR rfl rfl rfl rfl (Nat.le_of_ble_eq_true rfl) (by (try (conv => (lhs; simp only [-List.reduceReplicate, ↓reduceIte, Nat.reduceEqDiff, Nat.reduceLT, Nat.reduceAdd, Nat.reduceMul, Nat.reduceLeDiff, Int.reduceLT, Int.reduceLE, Int.reduceToNat, reduceCtorEq, go_sem, h3, h8, hrow, gf, hlk, hen, hlk1, hst1, hw0]))); try exact rfl) (by exact Nat.le_refl _) (.inl (Unch.refl _)) (keepP_keep (by decide)) (by intro p hp; obtain rfl := List.mem_singleton.1 hp; simp only [-List.reduceReplicate, ↓reduceIte, Nat.reduceEqDiff, Nat.reduceLT, Nat.reduceAdd, Nat.reduceMul, Nat.reduceLeDiff, Int.reduceLT, Int.reduceLE, Int.reduceToNat, reduceCtorEq, go_sem, h3, h8, hrow, gf, hlk, hen, hlk1, hst1, hw0]) ?_; refine adrawn_stepR rfl rfl rfl rfl (Nat.le_of_ble_eq_true rfl) (by (try (conv => (lhs; simp only [-List.reduceReplicate, ↓reduceIte, Nat.reduceEqDiff, Nat.reduceLT, Nat.reduceAdd, Nat.reduceMul, Nat.reduceLeDiff, Int.reduceLT, Int.reduceLE, Int.reduceToNat, reduceCtorEq, go_sem, h3, h8, hrow, gf, hlk, hen, hlk1, hst1, hw0]))); try exact rfl) (by exact Nat.le_refl _) (.inr (by decide)) (keepP_keep (by decide)) (by intro p hp; obtain rfl := List.mem_singleton.1 hp; simp only [-List.reduceReplicate, ↓reduceIte, Nat.reduceEqDiff, Nat.reduceLT, Nat.reduceAdd, Nat.reduceMul, Nat.reduceLeDiff, Int.reduceLT, Int.reduceLE, Int.reduceToNat, reduceCtorEq, go_sem, h3, h8, hrow, gf, hlk, hen, hlk1, hst1, hw0]) ?_; refine adrawn_stepR rfl rfl rfl rfl (Nat.le_of_ble_eq_true rfl) (by (try (conv => (lhs; simp only [-List.reduceReplicate, ↓reduceIte, Nat.reduceEqDiff, Nat.reduceLT, Nat.reduceAdd, Nat.reduceMul, Nat.reduceLeDiff, Int.reduceLT, Int.reduceLE, Int.reduceToNat, reduceCtorEq, go_sem, h3, h8, hrow, gf, hlk, hen, hlk1, hst1, hw0]))); try exact rfl) (by exact Nat.le_refl _) (.inl (Unch.refl _)) (keepP_keep (by decide)) (by intro p hp; obtain rfl := List.mem_singleton.1 hp; simp only [-List.reduceReplicate, ↓reduceIte, Nat.reduceEqDiff, Nat.reduceLT, Nat.reduceAdd, Nat.reduceMul, Nat.reduceLeDiff, Int.reduceLT, Int.reduceLE, Int.reduceToNat, reduceCtorEq, go_sem, h3, h8, hrow, gf, hlk, hen, hlk1, hst1, hw0]) ?_; refine adrawn_stepR0 rfl rfl rfl rfl (by (try (conv => (lhs; simp only [-List.reduceReplicate, ↓reduceIte, Nat.reduceEqDiff, Nat.reduceLT, Nat.reduceAdd, Nat.reduceMul, Nat.reduceLeDiff, Int.reduceLT, Int.reduceLE, Int.reduceToNat, reduceCtorEq, go_sem, h3, h8, hrow, gf, hlk, hen, hlk1, hst1, hw0]))); try exact rfl) (by exact Nat.le_refl _) (.inr (by decide)) (keepP_drop (by decide)) (by intro p hp; cases hp) ?_; refine adrawn_nil ?_)
              refine block_normal ?_
              refine then_normal (hN19 _ _ ?_); try clear hN19 N19
              refine awp_region ?_
              (repeat ((with_reducible show aops _ _ _ _ _ _ _); first | (with_reducible refine aops_nil ?_) | (refine aops_do rfl rfl (by (try (conv => (lhs; simp only [-List.reduceReplicate, ↓reduceIte, Nat.reduceEqDiff, Nat.reduceLT, Nat.reduceAdd, Nat.reduceMul, Nat.reduceLeDiff, Int.reduceLT, Int.reduceLE, Int.reduceToNat, reduceCtorEq, go_sem, h42, w1]))); try exact rfl) ?_; first | refine aput_some rfl (Nat.le_of_ble_eq_true rfl) ?_ | refine aput_none rfl ?_) | (refine aops_skip rfl rfl (Nat.le_of_ble_eq_true rfl) ?_) | (refine aops_skip0 rfl rfl ?_)))
              refine then_normal (hN2 _ _ _ (show m' - 1 < m' by omega) ⟨j + 1, vput (at' [] x.next j) (.int .i64 ((cntG (at' [] x.next j) (doneN seen G) + cntL (at' [] x.next j) (x.next.take j) + 1 : Nat) : Int)) cl L, vclock (at' [] x.next j) L cl, h0, h3, h34, h40, h41, rfl, by omega, ?_⟩)
              rw [set_set]
              refine hA3.put (hA3.cnt.put hvw (n := ((cntG (at' [] x.next j) (doneN seen G) + cntL (at' [] x.next j) (x.next.take j) + 1 : Nat) : Int)) (fun w => ?_))
              rw [List.take_add_one, cntL_append, List.getElem?_eq_getElem hj, at_eq [] hj]
              simp only [Option.toList_some, cntL_cons, cntL]
              by_cases hw : x.next[j] = w
              · subst hw; simp; omega
              · have hw' : ¬ w = x.next[j] := fun e => hw e.symm
                simp [hw, hw']
              
            refine awp_region ?_
            (repeat ((with_reducible show aops _ _ _ _ _ _ _); first | (with_reducible refine aops_nil ?_) | (refine aops_do rfl rfl (by (try (conv => (lhs; simp only [-List.reduceReplicate, ↓reduceIte, Nat.reduceEqDiff, Nat.reduceLT, Nat.reduceAdd, Nat.reduceMul, Nat.reduceLeDiff, Int.reduceLT, Int.reduceLE, Int.reduceToNat, reduceCtorEq, go_sem, h40, h42, hc, hfb', hjj, Int.toNat_natCast, hgb, zf, l1, AHeap.push_f, AHeap.set_f]))); try exact rfl) ?_; first | refine aput_some rfl (Nat.le_of_ble_eq_true rfl) ?_ | refine aput_none rfl ?_) | (refine aops_skip rfl rfl (Nat.le_of_ble_eq_true rfl) ?_) | (refine aops_skip0 rfl rfl ?_)))
            exact then_normal (cut2 _ _ _ h0 h3 h34 h40 h41 h42 rfl (hA.more (tmp_unch _ _ _) (Nat.le_succ _)) (AHeap.set_same _ _ _))
            
          · have hdj : decide ((j : Int) < (x.next.length : Int)) = false := by simp; omega
            rw [hdj]
            refine awp_false rfl ?_
            refine awp_exit ?_; (repeat (first | (with_reducible refine then_exit ?_) | ((with_reducible refine block_there ?hne ?_); case hne => rfl))); with_reducible refine block_here ?_
            refine block_normal ?_
            refine then_normal (hN' _ _ _ hlt ⟨_, _, _, h0, h3, h34, ⟨hA.unch, hA.n, hA.q0, hA.qr, hA.rn, hA.fq, hA.cnt.congr (fun w => ?_), hA.fr⟩, rfl⟩)
            rw [hdone, List.take_of_length_le (by omega), Nat.add_comm]
          
        refine awp_region ?_
        (repeat ((with_reducible show aops _ _ _ _ _ _ _); first | (with_reducible refine aops_nil ?_) | (refine aops_do rfl rfl (by (try (conv => (lhs; simp only [-List.reduceReplicate, ↓reduceIte, Nat.reduceEqDiff, Nat.reduceLT, Nat.reduceAdd, Nat.reduceMul, Nat.reduceLeDiff, Int.reduceLT, Int.reduceLE, Int.reduceToNat, reduceCtorEq, go_sem, h34, hen1, hxv, acells, scalar, putCells_full, AHeap.push_f, AHeap.set_f]))); try exact rfl) ?_; first | refine aput_some rfl (Nat.le_of_ble_eq_true rfl) ?_ | refine aput_none rfl ?_) | (refine aops_skip rfl rfl (Nat.le_of_ble_eq_true rfl) ?_) | (refine aops_skip0 rfl rfl ?_)))
        exact then_normal (cut _ _ _ h0 h3 h34 rfl (hA2.more (tmp_unch _ _ _) (Nat.le_succ _)) (AHeap.set_same _ _ _))
      
    refine awp_region ?_
    (repeat ((with_reducible show aops _ _ _ _ _ _ _); first | (with_reducible refine aops_nil ?_) | (refine aops_do rfl rfl (by (try (conv => (lhs; simp only [-List.reduceReplicate, ↓reduceIte, Nat.reduceEqDiff, Nat.reduceLT, Nat.reduceAdd, Nat.reduceMul, Nat.reduceLeDiff, Int.reduceLT, Int.reduceLE, Int.reduceToNat, reduceCtorEq, go_sem, h0, hAg, hAm, arange]))); try exact rfl) ?_; first | refine aput_some rfl (Nat.le_of_ble_eq_true rfl) ?_ | refine aput_none rfl ?_) | (refine aops_skip rfl rfl (Nat.le_of_ble_eq_true rfl) ?_) | (refine aops_skip0 rfl rfl ?_)))
    refine then_normal (loop2 _ _ _ h0 h3 rfl ?_)
    have h1 := hA.rn
    have h2 := hA.qr
    exact ⟨hA.unch.trans hA.n (Unch.push _ _), Nat.le_succ_of_le hA.n, hA.q0, by omega, Nat.lt_succ_self _, by rw [AHeap.push_old _ _ (by omega)]; exact hA.fq, hA.cnt, AHeap.push_new _ _⟩
end Go.AB.Try
