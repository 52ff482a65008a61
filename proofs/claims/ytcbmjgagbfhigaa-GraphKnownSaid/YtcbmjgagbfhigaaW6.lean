/-
  waiting.Push, waiting.Pop, heap.Push, heap.Pop.
-/
import Derived.Test.YtcbmjgagbfhigaaW5
import Derived.Test.YtcbmjgagbfhigaaXG3
namespace Go.AB.Try
open Go Go.AB Go.Proofs Go.IntWalk
set_option linter.unusedSimpArgs false
set_option linter.unusedVariables false
set_option maxRecDepth 10000
attribute [local irreducible] aops adrawn awp SimW

/-- the waiting ones: at p a slice of vertices -/
structure Wt (A : AHeap) (p : Nat) (s : Value) (hs junk : List (List Int)) : Prop where
  lt : p < A.n
  cell : A.f p = some (.row [s] .fix)
  held : Held A 33 s (hs.map vcells) (junk.map vcells)
  ne : own s ≠ some p
  ok : ∀ v ∈ hs ++ junk, vok v = true

/-- what a call may have done -/
structure Chg (A A' : AHeap) (p : Nat) (s s' : Value) : Prop where
  n : A.n ≤ A'.n
  own : own s' = own s ∨ ∃ b, own s' = some b ∧ A.n ≤ b
  frame : ∀ i, i < A.n → i ≠ p → AB.own s ≠ some i → A'.f i = A.f i

theorem app27 : appType Try.prog 97 97 = some (33, 40) := by
  unfold appType; simp only [sl97, sz27, by27, zc27, Try.underlying97]; rfl

theorem t109 {A : AHeap} {p : Nat} {s : Value} {hs junk : List (List Int)} {x : List Int} (h : Wt A p s hs junk) (hx : vok x = true) (hbig : hs.length ≤ 1073741823) :
    SimW Try.prog 109 [.pointer (some ⟨p, 0, none⟩), .iface 27 (vagg x)] A (fun v A' => v = .tuple ⟨[]⟩ ∧ ∃ s', Wt A' p s' (hs ++ [x]) (junk.drop 1) ∧ Chg A A' p s s') := by
  have hp := h.cell
  have hplt := h.lt
  have hpn : (p = A.n) = False := by simp; omega
  have hpn1 : (p = A.n + 1) = False := by simp; omega
  have hpn2 : (A.n = p) = False := by simp; omega
  have l1 := vcells_len hx
  have zf := putCells_full (cs := List.replicate 32 (Value.int .u8 0) ++ [Value.int .i64 0]) (vs := vcells x) (by rw [l1]; rfl)
  have gf : getCells (vcells x) 0 33 = some (vcells x) := by
    unfold getCells; rw [if_pos (by omega), List.drop_zero, ← l1, List.take_length]
  have hA2n : ∀ (o1 o2 o3 : AObj), (((A.push o1).set A.n o2).push o3).n = A.n + 2 := fun _ _ _ => rfl
  obtain ⟨s', A3, happ, hheld, hgrew⟩ := append1 (P := Try.prog) (A := ((A.push (.row (List.replicate 32 (Value.int .u8 0) ++ [Value.int .i64 0]) .fix)).set A.n (.row (vcells x) .fix)).push (.row (vcells x) .fix))
    (st := 97) (xt := 97) (s := s) (x := .slice (some ⟨A.n + 1, 0, none⟩) 1 1) (ls := hs.map vcells) (junk := junk.map vcells) (y := vcells x) app27
    (appCells_one (k := .fix) (by show (if A.n + 1 = A.n + 1 then _ else _) = _; rw [if_pos rfl]) l1) l1 (by decide)
    (h.held.mono (by show A.n ≤ A.n + 2; omega) (fun b hb => by
      have := h.held.own_lt hb
      have e1 : (b = A.n) = False := by simp; omega
      have e2 : (b = A.n + 1) = False := by simp; omega
      simp only [AHeap.push_f, AHeap.set_f, AHeap.push_n, AHeap.set_n, e1, e2, if_false])) (by rw [List.length_map]; unfold room; omega)
  obtain ⟨b', hb'⟩ := hgrew.is
  obtain ⟨a', n', c', rfl, rfl⟩ := own_slice hb'
  have hn3 := hgrew.n
  have f3 : A3.f p = some (.row [s] .fix) := by
    rw [hgrew.frame p (by rw [hA2n]; omega) h.ne]
    simp only [AHeap.push_f, AHeap.set_f, AHeap.push_n, AHeap.set_n, hpn, hpn1, if_false]
    exact hp
  
  refine simW_of_awp fine mixed Try.func109 rfl rfl (Nat.le_of_ble_eq_true rfl) ?_
  refine awp_seq fun N1 hN1 => ?_
  refine awp_region ?_
  (repeat ((with_reducible show aops _ _ _ _ _ _ _); first | (with_reducible refine aops_nil ?_) | (refine aops_do rfl rfl (by (try (conv => (lhs; simp only [-List.reduceReplicate, aop_move, aop_assign, aop_pick, aop_alloc, aop_box, aop_build, aop_buildSlice, aop_load, aop_store, aop_nilCheck, aop_binOp, aop_unOp, aop_convert, aop_makeInterface, aop_makeFunc, aop_makeMap, aop_slice, aop_fieldAddr, aop_field, aop_indexAddr, aop_index, aop_lookup, aop_mapUpdate, aop_insert, aop_mapEntry, aop_entryStore, aop_range, aop_nextStr, aop_entry, aop_typeAssert, aop_extract, aop_builtin, ev_tmp, ev_const, ev_func, cst_bool, cst_int, cst_string, cst_ptr, cst_slice, cst_map, cst_iface, cst_func, pick_mk, nilCheck_mk, not_mk, bin_add, bin_sub, bin_mul, bin_lss, bin_leq, bin_gtr, bin_geq, bin_eql, bin_neq, str_add, str_eql, str_neq, str_lss, pp0_eql, pp1_eql, pp0_neq, pp1_neq, agg_eql, agg_neq, bool_eql, bool_neq, upd_at, start_at, aload, astore, aalloc, abox, afieldAddr, afield, aindexAddr, aindex, aslice, aextract, amakeInterface, atypeAssert, apart, alen, abuiltin, abuild, abuildSlice, evParts, vagg_fold, acells_vagg, acells_int, acells_bool, acells_str, acells_ptr, acells_sl, acells_map, acells_iface, AHeap.push_n, AHeap.set_n, AHeap.set_same, AHeap.push_new, if_true, if_false, Option.map_some, Option.map_none, ↓reduceIte, Nat.reduceEqDiff, Nat.reduceLT, Nat.reduceAdd, List.getD_cons_zero, List.getD_cons_succ, List.getElem?_cons_zero, List.getElem?_cons_succ, List.map_cons, List.map_nil, Option.map, List.toList_toArray, Nat.zero_add, Nat.add_zero, Nat.sub_zero, Nat.reduceMul, Nat.reduceLeDiff, List.append_nil,  eq_self, Nat.add_eq_left, Nat.left_eq_add, Nat.add_right_cancel_iff,  Bool.not_true, Bool.not_false, Int.reduceLT, Int.reduceLE, Int.reduceToNat, Nat.zero_le, Nat.mul_one, List.length_cons, List.length_nil, List.cons_append, List.nil_append, List.all_cons, List.all_nil, Bool.and_true, Bool.true_and, Bool.and_self, if_pos, true_and, and_true, and_self,  reduceCtorEq, not_false_eq_true, ne_eq, sz96, by96, ag96, zc96, zv96, me96_Len, me96_Less, me96_Pop, me96_Push, me96_Swap, Try.underlying96, sz97, by97, ag97, zc97, zv97, sl97, me97_Len, me97_Less, me97_Swap, Try.underlying97, sz27, by27, ag27, zc27, zv27, fl27_0, fl27_1, pl27, Try.underlying27, sz20, by20, ag20, zc20, zv20, Try.underlying20, acells_vagg, zf, l1, AHeap.push_f, AHeap.set_f]))); try exact rfl) ?_; first | refine aput_some rfl (Nat.le_of_ble_eq_true rfl) ?_ | refine aput_none rfl ?_) | (refine aops_skip rfl rfl (Nat.le_of_ble_eq_true rfl) ?_) | (refine aops_skip0 rfl rfl ?_)))
  refine then_normal (hN1 _ _ ?_); try clear hN1 N1
  refine awp_seq fun N2 hN2 => ?_
  refine awp_region ?_
  (repeat ((with_reducible show aops _ _ _ _ _ _ _); first | (with_reducible refine aops_nil ?_) | (refine aops_do rfl rfl (by (try (conv => (lhs; simp only [-List.reduceReplicate, aop_move, aop_assign, aop_pick, aop_alloc, aop_box, aop_build, aop_buildSlice, aop_load, aop_store, aop_nilCheck, aop_binOp, aop_unOp, aop_convert, aop_makeInterface, aop_makeFunc, aop_makeMap, aop_slice, aop_fieldAddr, aop_field, aop_indexAddr, aop_index, aop_lookup, aop_mapUpdate, aop_insert, aop_mapEntry, aop_entryStore, aop_range, aop_nextStr, aop_entry, aop_typeAssert, aop_extract, aop_builtin, ev_tmp, ev_const, ev_func, cst_bool, cst_int, cst_string, cst_ptr, cst_slice, cst_map, cst_iface, cst_func, pick_mk, nilCheck_mk, not_mk, bin_add, bin_sub, bin_mul, bin_lss, bin_leq, bin_gtr, bin_geq, bin_eql, bin_neq, str_add, str_eql, str_neq, str_lss, pp0_eql, pp1_eql, pp0_neq, pp1_neq, agg_eql, agg_neq, bool_eql, bool_neq, upd_at, start_at, aload, astore, aalloc, abox, afieldAddr, afield, aindexAddr, aindex, aslice, aextract, amakeInterface, atypeAssert, apart, alen, abuiltin, abuild, abuildSlice, evParts, vagg_fold, acells_vagg, acells_int, acells_bool, acells_str, acells_ptr, acells_sl, acells_map, acells_iface, AHeap.push_n, AHeap.set_n, AHeap.set_same, AHeap.push_new, if_true, if_false, Option.map_some, Option.map_none, ↓reduceIte, Nat.reduceEqDiff, Nat.reduceLT, Nat.reduceAdd, List.getD_cons_zero, List.getD_cons_succ, List.getElem?_cons_zero, List.getElem?_cons_succ, List.map_cons, List.map_nil, Option.map, List.toList_toArray, Nat.zero_add, Nat.add_zero, Nat.sub_zero, Nat.reduceMul, Nat.reduceLeDiff, List.append_nil,  eq_self, Nat.add_eq_left, Nat.left_eq_add, Nat.add_right_cancel_iff,  Bool.not_true, Bool.not_false, Int.reduceLT, Int.reduceLE, Int.reduceToNat, Nat.zero_le, Nat.mul_one, List.length_cons, List.length_nil, List.cons_append, List.nil_append, List.all_cons, List.all_nil, Bool.and_true, Bool.true_and, Bool.and_self, if_pos, true_and, and_true, and_self,  reduceCtorEq, not_false_eq_true, ne_eq, sz96, by96, ag96, zc96, zv96, me96_Len, me96_Less, me96_Pop, me96_Push, me96_Swap, Try.underlying96, sz97, by97, ag97, zc97, zv97, sl97, me97_Len, me97_Less, me97_Swap, Try.underlying97, sz27, by27, ag27, zc27, zv27, fl27_0, fl27_1, pl27, Try.underlying27, sz20, by20, ag20, zc20, zv20, Try.underlying20]))); try exact rfl) ?_; first | refine aput_some rfl (Nat.le_of_ble_eq_true rfl) ?_ | refine aput_none rfl ?_) | (refine aops_skip rfl rfl (Nat.le_of_ble_eq_true rfl) ?_) | (refine aops_skip0 rfl rfl ?_)))
  refine then_normal (hN2 _ _ ?_); try clear hN2 N2
  refine awp_true rfl ?_
  refine awp_drawn [] (by kernel_rfl) ?_
  (repeat ((with_reducible show adrawn _ _ _ _ _ _ _ _ _ _ _); first | (with_reducible refine adrawn_nil ?_) | (refine adrawn_do rfl rfl rfl (by (try (conv => (lhs; simp only [-List.reduceReplicate, aop_move, aop_assign, aop_pick, aop_alloc, aop_box, aop_build, aop_buildSlice, aop_load, aop_store, aop_nilCheck, aop_binOp, aop_unOp, aop_convert, aop_makeInterface, aop_makeFunc, aop_makeMap, aop_slice, aop_fieldAddr, aop_field, aop_indexAddr, aop_index, aop_lookup, aop_mapUpdate, aop_insert, aop_mapEntry, aop_entryStore, aop_range, aop_nextStr, aop_entry, aop_typeAssert, aop_extract, aop_builtin, ev_tmp, ev_const, ev_func, cst_bool, cst_int, cst_string, cst_ptr, cst_slice, cst_map, cst_iface, cst_func, pick_mk, nilCheck_mk, not_mk, bin_add, bin_sub, bin_mul, bin_lss, bin_leq, bin_gtr, bin_geq, bin_eql, bin_neq, str_add, str_eql, str_neq, str_lss, pp0_eql, pp1_eql, pp0_neq, pp1_neq, agg_eql, agg_neq, bool_eql, bool_neq, upd_at, start_at, aload, astore, aalloc, abox, afieldAddr, afield, aindexAddr, aindex, aslice, aextract, amakeInterface, atypeAssert, apart, alen, abuiltin, abuild, abuildSlice, evParts, vagg_fold, acells_vagg, acells_int, acells_bool, acells_str, acells_ptr, acells_sl, acells_map, acells_iface, AHeap.push_n, AHeap.set_n, AHeap.set_same, AHeap.push_new, if_true, if_false, Option.map_some, Option.map_none, ↓reduceIte, Nat.reduceEqDiff, Nat.reduceLT, Nat.reduceAdd, List.getD_cons_zero, List.getD_cons_succ, List.getElem?_cons_zero, List.getElem?_cons_succ, List.map_cons, List.map_nil, Option.map, List.toList_toArray, Nat.zero_add, Nat.add_zero, Nat.sub_zero, Nat.reduceMul, Nat.reduceLeDiff, List.append_nil,  eq_self, Nat.add_eq_left, Nat.left_eq_add, Nat.add_right_cancel_iff,  Bool.not_true, Bool.not_false, Int.reduceLT, Int.reduceLE, Int.reduceToNat, Nat.zero_le, Nat.mul_one, List.length_cons, List.length_nil, List.cons_append, List.nil_append, List.all_cons, List.all_nil, Bool.and_true, Bool.true_and, Bool.and_self, if_pos, true_and, and_true, and_self,  reduceCtorEq, not_false_eq_true, ne_eq, sz96, by96, ag96, zc96, zv96, me96_Len, me96_Less, me96_Pop, me96_Push, me96_Swap, Try.underlying96, sz97, by97, ag97, zc97, zv97, sl97, me97_Len, me97_Less, me97_Swap, Try.underlying97, sz27, by27, ag27, zc27, zv27, fl27_0, fl27_1, pl27, Try.underlying27, sz20, by20, ag20, zc20, zv20, Try.underlying20, AHeap.push_f, AHeap.set_f, hpn, hp, gf, seqCells, acells_vagg, acells_vc, l1]))); try exact rfl) (by first | exact Nat.le_refl _ | exact Nat.le_succ _) (by first | exact .inl (Unch.refl _) | exact .inl (Unch.push _ _) | exact .inr (by decide)) ?_; first | refine aput_some rfl (Nat.le_of_ble_eq_true rfl) ?_ | refine aput_none rfl ?_) | (refine adrawn_skip rfl rfl (Nat.le_of_ble_eq_true rfl) ?_) | (refine adrawn_skip0 rfl rfl ?_)))
  refine adrawn_step rfl rfl rfl rfl (Nat.le_of_ble_eq_true rfl) (by (try (conv => (lhs; simp only [-List.reduceReplicate, aop_move, aop_assign, aop_pick, aop_alloc, aop_box, aop_build, aop_buildSlice, aop_load, aop_store, aop_nilCheck, aop_binOp, aop_unOp, aop_convert, aop_makeInterface, aop_makeFunc, aop_makeMap, aop_slice, aop_fieldAddr, aop_field, aop_indexAddr, aop_index, aop_lookup, aop_mapUpdate, aop_insert, aop_mapEntry, aop_entryStore, aop_range, aop_nextStr, aop_entry, aop_typeAssert, aop_extract, aop_builtin, ev_tmp, ev_const, ev_func, cst_bool, cst_int, cst_string, cst_ptr, cst_slice, cst_map, cst_iface, cst_func, pick_mk, nilCheck_mk, not_mk, bin_add, bin_sub, bin_mul, bin_lss, bin_leq, bin_gtr, bin_geq, bin_eql, bin_neq, str_add, str_eql, str_neq, str_lss, pp0_eql, pp1_eql, pp0_neq, pp1_neq, agg_eql, agg_neq, bool_eql, bool_neq, upd_at, start_at, aload, astore, aalloc, abox, afieldAddr, afield, aindexAddr, aindex, aslice, aextract, amakeInterface, atypeAssert, apart, alen, abuiltin, abuild, abuildSlice, evParts, vagg_fold, acells_vagg, acells_int, acells_bool, acells_str, acells_ptr, acells_sl, acells_map, acells_iface, AHeap.push_n, AHeap.set_n, AHeap.set_same, AHeap.push_new, if_true, if_false, Option.map_some, Option.map_none, ↓reduceIte, Nat.reduceEqDiff, Nat.reduceLT, Nat.reduceAdd, List.getD_cons_zero, List.getD_cons_succ, List.getElem?_cons_zero, List.getElem?_cons_succ, List.map_cons, List.map_nil, Option.map, List.toList_toArray, Nat.zero_add, Nat.add_zero, Nat.sub_zero, Nat.reduceMul, Nat.reduceLeDiff, List.append_nil,  eq_self, Nat.add_eq_left, Nat.left_eq_add, Nat.add_right_cancel_iff,  Bool.not_true, Bool.not_false, Int.reduceLT, Int.reduceLE, Int.reduceToNat, Nat.zero_le, Nat.mul_one, List.length_cons, List.length_nil, List.cons_append, List.nil_append, List.all_cons, List.all_nil, Bool.and_true, Bool.true_and, Bool.and_self, if_pos, true_and, and_true, and_self,  reduceCtorEq, not_false_eq_true, ne_eq, sz96, by96, ag96, zc96, zv96, me96_Len, me96_Less, me96_Pop, me96_Push, me96_Swap, Try.underlying96, sz97, by97, ag97, zc97, zv97, sl97, me97_Len, me97_Less, me97_Swap, Try.underlying97, sz27, by27, ag27, zc27, zv27, fl27_0, fl27_1, pl27, Try.underlying27, sz20, by20, ag20, zc20, zv20, Try.underlying20, happ]))); try exact rfl) (by exact hn3) (.inr (by decide)) (by intro p hp; cases hp) ?_
  (repeat ((with_reducible show adrawn _ _ _ _ _ _ _ _ _ _ _); first | (with_reducible refine adrawn_nil ?_) | (refine adrawn_do rfl rfl rfl (by (try (conv => (lhs; simp only [-List.reduceReplicate, aop_move, aop_assign, aop_pick, aop_alloc, aop_box, aop_build, aop_buildSlice, aop_load, aop_store, aop_nilCheck, aop_binOp, aop_unOp, aop_convert, aop_makeInterface, aop_makeFunc, aop_makeMap, aop_slice, aop_fieldAddr, aop_field, aop_indexAddr, aop_index, aop_lookup, aop_mapUpdate, aop_insert, aop_mapEntry, aop_entryStore, aop_range, aop_nextStr, aop_entry, aop_typeAssert, aop_extract, aop_builtin, ev_tmp, ev_const, ev_func, cst_bool, cst_int, cst_string, cst_ptr, cst_slice, cst_map, cst_iface, cst_func, pick_mk, nilCheck_mk, not_mk, bin_add, bin_sub, bin_mul, bin_lss, bin_leq, bin_gtr, bin_geq, bin_eql, bin_neq, str_add, str_eql, str_neq, str_lss, pp0_eql, pp1_eql, pp0_neq, pp1_neq, agg_eql, agg_neq, bool_eql, bool_neq, upd_at, start_at, aload, astore, aalloc, abox, afieldAddr, afield, aindexAddr, aindex, aslice, aextract, amakeInterface, atypeAssert, apart, alen, abuiltin, abuild, abuildSlice, evParts, vagg_fold, acells_vagg, acells_int, acells_bool, acells_str, acells_ptr, acells_sl, acells_map, acells_iface, AHeap.push_n, AHeap.set_n, AHeap.set_same, AHeap.push_new, if_true, if_false, Option.map_some, Option.map_none, ↓reduceIte, Nat.reduceEqDiff, Nat.reduceLT, Nat.reduceAdd, List.getD_cons_zero, List.getD_cons_succ, List.getElem?_cons_zero, List.getElem?_cons_succ, List.map_cons, List.map_nil, Option.map, List.toList_toArray, Nat.zero_add, Nat.add_zero, Nat.sub_zero, Nat.reduceMul, Nat.reduceLeDiff, List.append_nil,  eq_self, Nat.add_eq_left, Nat.left_eq_add, Nat.add_right_cancel_iff,  Bool.not_true, Bool.not_false, Int.reduceLT, Int.reduceLE, Int.reduceToNat, Nat.zero_le, Nat.mul_one, List.length_cons, List.length_nil, List.cons_append, List.nil_append, List.all_cons, List.all_nil, Bool.and_true, Bool.true_and, Bool.and_self, if_pos, true_and, and_true, and_self,  reduceCtorEq, not_false_eq_true, ne_eq, sz96, by96, ag96, zc96, zv96, me96_Len, me96_Less, me96_Pop, me96_Push, me96_Swap, Try.underlying96, sz97, by97, ag97, zc97, zv97, sl97, me97_Len, me97_Less, me97_Swap, Try.underlying97, sz27, by27, ag27, zc27, zv27, fl27_0, fl27_1, pl27, Try.underlying27, sz20, by20, ag20, zc20, zv20, Try.underlying20, f3, acells, scalar, putCells_full]))); try exact rfl) (by first | exact Nat.le_refl _ | exact Nat.le_succ _) (by first | exact .inl (Unch.refl _) | exact .inl (Unch.push _ _) | exact .inr (by decide)) ?_; first | refine aput_some rfl (Nat.le_of_ble_eq_true rfl) ?_ | refine aput_none rfl ?_) | (refine adrawn_skip rfl rfl (Nat.le_of_ble_eq_true rfl) ?_) | (refine adrawn_skip0 rfl rfl ?_)))
  refine end_normal rfl ⟨rfl, _, ⟨?_, AHeap.set_same _ _ _, ?_, ?_, ?_⟩, ?_, ?_, ?_⟩
  · show p < A3.n
    rw [hA2n] at hn3; omega
  · have := hheld.mono (A' := A3.set p (.row [.slice (some a') n' c'] .fix)) (Nat.le_refl _) (fun b hb => AHeap.set_other _ _ (fun e => ?_))
    · simpa using this
    · subst e
      rcases hgrew.own with h1 | ⟨b, h1, h2⟩
      · rw [h1] at hb; exact h.ne hb
      · rw [h1] at hb; cases hb; rw [hA2n] at h2; omega
  · intro e
    rcases hgrew.own with h1 | ⟨b, h1, h2⟩
    · rw [h1] at e; exact h.ne e
    · rw [h1] at e; cases e; rw [hA2n] at h2; omega
  · intro v hv
    simp only [List.mem_append, List.mem_singleton] at hv
    rcases hv with (hv | rfl) | hv
    · exact h.ok v (List.mem_append_left _ hv)
    · exact hx
    · exact h.ok v (List.mem_append_right _ (List.mem_of_mem_drop hv))
  · show A.n ≤ A3.n
    rw [hA2n] at hn3; omega
  · rcases hgrew.own with h1 | ⟨b, h1, h2⟩
    · exact .inl h1
    · exact .inr ⟨b, h1, by rw [hA2n] at h2; omega⟩
  · intro i hi hip hio
    rw [AHeap.set_other _ _ hip, hgrew.frame i (by rw [hA2n]; omega) hio]
    have e1 : (i = A.n) = False := by simp; omega
    have e2 : (i = A.n + 1) = False := by simp; omega
    simp only [AHeap.push_f, AHeap.set_f, AHeap.push_n, AHeap.set_n, e1, e2, if_false]
end Go.AB.Try
