/-
  waiting.Pop, heap.Push, heap.Pop.
-/
import Derived.Test.YtcbmjgagbfhigaaH2
namespace Go.AB.Try
open Go Go.AB Go.Proofs Go.IntWalk
set_option linter.unusedSimpArgs false
set_option linter.unusedVariables false
set_option maxRecDepth 10000
attribute [local irreducible] aops adrawn awp SimW

theorem Wt.grown {A : AHeap} {p : Nat} {s : Value} {hs junk : List (List Int)} (h : Wt A p s hs junk) (hne : hs ≠ []) :
    ∃ b, b < A.n ∧ s = .slice (some ⟨b, 0, none⟩) hs.length ucap ∧ A.f b = some (.row (vrows (hs ++ junk)) (.grown 33)) ∧ b ≠ p := by
  have hh := h.held
  have hn := h.ne
  have hl : hs.map vcells ≠ [] := by simpa using hne
  generalize hL : hs.map vcells = L at hh hl
  generalize hJ : junk.map vcells = J at hh
  cases hh with
  | nil => exact absurd rfl hl
  | zero => exact absurd rfl hl
  | grown b ls junk' hb hf hall =>
    refine ⟨b, hb, by rw [← hL, List.length_map], ?_, fun e => hn (by rw [e]; rfl)⟩
    rw [hf, ← hL, ← hJ, ← List.map_append]; rfl

theorem avail_eq {A : AHeap} {b : Nat} {l : List (List Int)} (h : A.f b = some (.row (vrows l) (.grown 33))) (hv : ∀ v ∈ l, vok v = true) : avail A b 0 33 = some l.length := by
  unfold avail
  simp only [h]
  rw [if_pos (by simp), vrows_len hv, Nat.sub_zero, Nat.mul_div_cancel _ (by decide)]

theorem t108 {A : AHeap} {p : Nat} {s : Value} {hs junk : List (List Int)} {x : List Int} (h : Wt A p s (hs ++ [x]) junk) (hbig : hs.length ≤ 1073741823) :
    SimW Try.prog 108 [.pointer (some ⟨p, 0, none⟩)] A (fun v A' => v = .iface 27 (vagg x) ∧ ∃ s', Wt A' p s' hs (x :: junk) ∧ Chg A A' p s s') := by
  obtain ⟨b, hb, rfl, hfb, hbp⟩ := h.grown (by simp)
  have hp := h.cell
  have hplt := h.lt
  have hok := h.ok
  have hx : vok x = true := hok x (by simp)
  have l1 := vcells_len hx
  have hpn : (p = A.n) = False := by simp; omega
  have hbn : (b = A.n) = False := by simp; omega
  have hbp' : (b = p) = False := by simp; omega
  have hpb' : (p = b) = False := by simp; omega
  have zf := putCells_full (cs := List.replicate 32 (Value.int .u8 0) ++ [Value.int .i64 0]) (vs := vcells x) (by rw [l1]; rfl)
  have gf : getCells (vcells x) 0 33 = some (vcells x) := by
    unfold getCells; rw [if_pos (by omega), List.drop_zero, ← l1, List.take_length]
  have w1 : IntKind.i64.wrap (((hs ++ [x]).length : Nat) - 1 : Int) = (hs.length : Int) := by
    rw [i64_in _ (by simp; omega)]; simp
  have b1 : (0 ≤ (hs.length : Int) ∧ (hs.length : Int) < (((hs ++ [x]).length : Nat) : Int)) = True := by simp; omega
  have g1 : getCells (vrows ((hs ++ [x]) ++ junk)) (hs.length * 33) 33 = some (vcells x) := by
    rw [vrows_get hok (by simp)]
    have : at' [] (hs ++ [x] ++ junk) hs.length = x := by simp [at', List.getD_eq_getElem?_getD]
    rw [this]
  have hav := avail_eq (A := (A.push (.row (List.replicate 32 (Value.int .u8 0) ++ [Value.int .i64 0]) .fix)).set A.n (.row (vcells x) .fix)) (b := b) (l := (hs ++ [x]) ++ junk) (by
    simp only [AHeap.push_f, AHeap.set_f, hbn, if_false]; exact hfb) hok
  have hle : ((hs ++ [x]).length ≤ ((hs ++ [x]) ++ junk).length) = True := by simp
  have hab : abounds (hs ++ [x]).length ((hs ++ [x]) ++ junk).length none (some (.int .i64 (hs.length : Int))) none = some (0, hs.length, ((hs ++ [x]) ++ junk).length) := abounds_nat _ _ _ _ (by simp)
  have nec : (ucap = ecap) = False := by simp [ucap, ecap]
  
  refine simW_of_awp fine mixed Try.func108 rfl rfl (Nat.le_of_ble_eq_true rfl) ?_
  refine awp_seq fun N1 hN1 => ?_
  refine awp_region ?_
  (repeat ((with_reducible show aops _ _ _ _ _ _ _); first | (with_reducible refine aops_nil ?_) | (refine aops_do rfl rfl (by (try (conv => (lhs; simp only [-List.reduceReplicate, ↓reduceIte, Nat.reduceEqDiff, Nat.reduceLT, Nat.reduceAdd, Nat.reduceMul, Nat.reduceLeDiff, Int.reduceLT, Int.reduceLE, Int.reduceToNat, reduceCtorEq, go_sem]))); try exact rfl) ?_; first | refine aput_some rfl (Nat.le_of_ble_eq_true rfl) ?_ | refine aput_none rfl ?_) | (refine aops_skip rfl rfl (Nat.le_of_ble_eq_true rfl) ?_) | (refine aops_skip0 rfl rfl ?_)))
  refine then_normal (hN1 _ _ ?_); try clear hN1 N1
  refine awp_seq fun N2 hN2 => ?_
  refine awp_region ?_
  (repeat ((with_reducible show aops _ _ _ _ _ _ _); first | (with_reducible refine aops_nil ?_) | (refine aops_do rfl rfl (by (try (conv => (lhs; simp only [-List.reduceReplicate, ↓reduceIte, Nat.reduceEqDiff, Nat.reduceLT, Nat.reduceAdd, Nat.reduceMul, Nat.reduceLeDiff, Int.reduceLT, Int.reduceLE, Int.reduceToNat, reduceCtorEq, go_sem, hp, goInt, w1]))); try exact rfl) ?_; first | refine aput_some rfl (Nat.le_of_ble_eq_true rfl) ?_ | refine aput_none rfl ?_) | (refine aops_skip rfl rfl (Nat.le_of_ble_eq_true rfl) ?_) | (refine aops_skip0 rfl rfl ?_)))
  refine then_normal (hN2 _ _ ?_); try clear hN2 N2
  refine awp_seq fun N3 hN3 => ?_
  refine awp_region ?_
  (repeat ((with_reducible show aops _ _ _ _ _ _ _); first | (with_reducible refine aops_nil ?_) | (refine aops_do rfl rfl (by (try (conv => (lhs; simp only [-List.reduceReplicate, ↓reduceIte, Nat.reduceEqDiff, Nat.reduceLT, Nat.reduceAdd, Nat.reduceMul, Nat.reduceLeDiff, Int.reduceLT, Int.reduceLE, Int.reduceToNat, reduceCtorEq, go_sem, hp, b1, Int.toNat_natCast, nec, hfb, g1, acells_vc, zf, l1]))); try exact rfl) ?_; first | refine aput_some rfl (Nat.le_of_ble_eq_true rfl) ?_ | refine aput_none rfl ?_) | (refine aops_skip rfl rfl (Nat.le_of_ble_eq_true rfl) ?_) | (refine aops_skip0 rfl rfl ?_)))
  refine then_normal (hN3 _ _ ?_); try clear hN3 N3
  refine awp_seq fun N4 hN4 => ?_
  refine awp_region ?_
  (repeat ((with_reducible show aops _ _ _ _ _ _ _); first | (with_reducible refine aops_nil ?_) | (refine aops_do rfl rfl (by (try (conv => (lhs; simp only [-List.reduceReplicate, ↓reduceIte, Nat.reduceEqDiff, Nat.reduceLT, Nat.reduceAdd, Nat.reduceMul, Nat.reduceLeDiff, Int.reduceLT, Int.reduceLE, Int.reduceToNat, reduceCtorEq, go_sem, AHeap.push_f, AHeap.set_f, hpn, hp, hav, hle, hab, Nat.lt_irrefl, Option.isSome_none, acells, scalar, Bool.false_eq_true, putCells_full]))); try exact rfl) ?_; first | refine aput_some rfl (Nat.le_of_ble_eq_true rfl) ?_ | refine aput_none rfl ?_) | (refine aops_skip rfl rfl (Nat.le_of_ble_eq_true rfl) ?_) | (refine aops_skip0 rfl rfl ?_)))
  refine then_normal (hN4 _ _ ?_); try clear hN4 N4
  refine awp_seq fun N5 hN5 => ?_
  refine awp_region ?_
  (repeat ((with_reducible show aops _ _ _ _ _ _ _); first | (with_reducible refine aops_nil ?_) | (refine aops_do rfl rfl (by (try (conv => (lhs; simp only [-List.reduceReplicate, ↓reduceIte, Nat.reduceEqDiff, Nat.reduceLT, Nat.reduceAdd, Nat.reduceMul, Nat.reduceLeDiff, Int.reduceLT, Int.reduceLE, Int.reduceToNat, reduceCtorEq, go_sem, AHeap.push_f, AHeap.set_f, eq_comm, hpn, gf]))); try exact rfl) ?_; first | refine aput_some rfl (Nat.le_of_ble_eq_true rfl) ?_ | refine aput_none rfl ?_) | (refine aops_skip rfl rfl (Nat.le_of_ble_eq_true rfl) ?_) | (refine aops_skip0 rfl rfl ?_)))
  refine then_normal (hN5 _ _ ?_); try clear hN5 N5
  refine awp_ret ?_; (repeat (first | (with_reducible refine then_ret ?_) | (with_reducible refine block_ret ?_)))
  refine end_ret rfl ⟨rfl, _, ⟨by show p < A.n + 1; omega, AHeap.set_same _ _ _, ?_, ?_, ?_⟩, ⟨by show A.n ≤ A.n + 1; omega, .inl rfl, ?_⟩⟩
  · have := Held.grown (A := ((A.push (.row (List.replicate 32 (Value.int .u8 0) ++ [Value.int .i64 0]) .fix)).set A.n (.row (vcells x) .fix)).set p (.row [.slice (some ⟨b, 0, none⟩) hs.length ucap] .fix)) (sz := 33) b (hs.map vcells) ((x :: junk).map vcells) (by show b < A.n + 1; omega) (by
      simp only [AHeap.push_f, AHeap.set_f, hbn, hbp', if_false]
      rw [hfb, ← List.map_append]
      simp [vrows]) (by
      intro y hy
      rw [← List.map_append] at hy
      exact vrows_all (l := hs ++ x :: junk) (fun v hv => hok v (by simpa using hv)) y hy)
    simpa using this
  · intro e
    cases e
    exact hbp rfl
  · intro v hv
    exact hok v (by simpa using hv)
  · intro i hi hip hio
    have e1 : (i = A.n) = False := by simp; omega
    simp only [AHeap.push_f, AHeap.set_f, e1, if_false]
    rw [if_neg hip]

theorem Chg.trans {A A1 A2 : AHeap} {p : Nat} {s s1 s2 : Value} (h : Chg A A1 p s s1) (k : Chg A1 A2 p s1 s2) : Chg A A2 p s s2 := by
  refine ⟨Nat.le_trans h.n k.n, ?_, fun i hi hip hio => ?_⟩
  · rcases k.own with h1 | ⟨b, h1, h2⟩
    · rw [h1]; exact h.own
    · exact .inr ⟨b, h1, Nat.le_trans h.n h2⟩
  · rw [k.frame i (Nat.lt_of_lt_of_le hi h.n) hip, h.frame i hi hip hio]
    rcases h.own with h1 | ⟨b, h1, h2⟩
    · rw [h1]; exact hio
    · rw [h1]; intro e; cases e; omega

/-- the row of the waiting ones written anew -/
theorem Wt.set {A : AHeap} {p b n : Nat} {hs hs' junk : List (List Int)} (h : Wt A p (.slice (some ⟨b, 0, none⟩) n ucap) hs junk) (hperm : hs'.Perm hs) :
    Wt (A.set b (.row (vrows (hs' ++ junk)) (.grown 33))) p (.slice (some ⟨b, 0, none⟩) n ucap) hs' junk ∧ Chg A (A.set b (.row (vrows (hs' ++ junk)) (.grown 33))) p (.slice (some ⟨b, 0, none⟩) n ucap) (.slice (some ⟨b, 0, none⟩) n ucap) := by
  have hbp : b ≠ p := fun e => h.ne (by rw [e]; rfl)
  have hlen := hperm.length_eq
  have hok : ∀ v ∈ hs' ++ junk, vok v = true := fun v hv => by
    rcases List.mem_append.1 hv with hv | hv
    · exact h.ok v (List.mem_append_left _ (hperm.mem_iff.1 hv))
    · exact h.ok v (List.mem_append_right _ hv)
  have hblt : b < A.n := h.held.own_lt rfl
  have hn : n = hs'.length := by
    have hh := h.held
    rw [hlen]
    have hL : (hs.map vcells).length = hs.length := List.length_map ..
    rw [← hL]
    generalize hs.map vcells = L at hh
    generalize junk.map vcells = J at hh
    cases hh
    rfl
  refine ⟨⟨h.lt, by rw [AHeap.set_other _ _ (fun e => hbp e.symm)]; exact h.cell, ?_, h.ne, hok⟩, ⟨Nat.le_refl _, .inl rfl, fun i hi hip hio => AHeap.set_other _ _ (fun e => hio (by rw [e]; rfl))⟩⟩
  have := Held.grown (A := A.set b (.row (vrows (hs' ++ junk)) (.grown 33))) (sz := 33) b (hs'.map vcells) (junk.map vcells) hblt (by rw [AHeap.set_same, ← List.map_append]; rfl) (by
    intro y hy
    rw [← List.map_append] at hy
    exact vrows_all hok y hy)
  rw [List.length_map] at this
  rw [hn]; exact this

theorem swapL_app {l m : List (List Int)} {i j : Nat} (hi : i < l.length) (hj : j < l.length) : swapL [] (l ++ m) i j = swapL [] l i j ++ m := by
  unfold swapL
  rw [at_append_left [] hi, at_append_left [] hj, List.set_append_left _ _ hi, List.set_append_left _ _ (by rw [List.length_set]; exact hj)]

theorem upL_app {m : List (List Int)} : ∀ (f : Nat) (l : List (List Int)) (j : Nat), j < l.length → upL llt [] f (l ++ m) j = upL llt [] f l j ++ m
  | 0, l, j, _ => rfl
  | f + 1, l, j, h => by
    unfold upL
    rw [at_append_left [] h, at_append_left [] (show (j - 1) / 2 < l.length by omega)]
    split
    · rfl
    · split
      · rw [swapL_app (by omega) h, upL_app f _ _ (by rw [swapL_len]; omega)]
      · rfl

theorem kid_app {l m : List (List Int)} {i n : Nat} (h : n ≤ l.length) (h2 : 2 * i + 1 < n) : kid llt [] (l ++ m) i n = kid llt [] l i n := by
  unfold kid
  by_cases h3 : 2 * i + 2 < n
  · rw [at_append_left [] (show 2 * i + 2 < l.length by omega), at_append_left [] (show 2 * i + 1 < l.length by omega)]
  · rw [if_neg (fun h => h3 h.1), if_neg (fun h => h3 h.1)]

theorem downL_app {m : List (List Int)} (n : Nat) : ∀ (f : Nat) (l : List (List Int)) (i : Nat), n ≤ l.length → downL llt [] n f (l ++ m) i = downL llt [] n f l i ++ m
  | 0, l, i, _ => rfl
  | f + 1, l, i, h => by
    unfold downL
    by_cases h2 : n ≤ 2 * i + 1
    · rw [if_pos h2, if_pos h2]
    · rw [if_neg h2, if_neg h2, kid_app h (by omega)]
      have hk := kid_lt (lt := llt) [] (l := l) (i := i) (n := n) (by omega)
      rw [at_append_left [] (show kid llt [] l i n < l.length by omega), at_append_left [] (show i < l.length by omega)]
      split
      · rw [swapL_app (by omega) (by omega), downL_app n f _ _ (by rw [swapL_len]; exact h)]
      · rfl

theorem t53 {A : AHeap} {p : Nat} {s : Value} {hs junk : List (List Int)} {x : List Int} (h : Wt A p s hs junk) (hx : vok x = true) (hbig : hs.length ≤ 1000000000) :
    SimW Try.prog 53 [.iface 96 (.pointer (some ⟨p, 0, none⟩)), .iface 27 (vagg x)] A (fun v A' => v = .tuple ⟨[]⟩ ∧ ∃ s', Wt A' p s' (pushL llt [] hs x) (junk.drop 1) ∧ Chg A A' p s s') := by
  
  refine simW_of_awp fine mixed Try.func53 rfl rfl (Nat.le_of_ble_eq_true rfl) ?_
  refine awp_seq fun N6 hN6 => ?_
  refine awp_region ?_
  (repeat ((with_reducible show aops _ _ _ _ _ _ _); first | (with_reducible refine aops_nil ?_) | (refine aops_do rfl rfl (by (try (conv => (lhs; simp only [-List.reduceReplicate, ↓reduceIte, Nat.reduceEqDiff, Nat.reduceLT, Nat.reduceAdd, Nat.reduceMul, Nat.reduceLeDiff, Int.reduceLT, Int.reduceLE, Int.reduceToNat, reduceCtorEq, go_sem]))); try exact rfl) ?_; first | refine aput_some rfl (Nat.le_of_ble_eq_true rfl) ?_ | refine aput_none rfl ?_) | (refine aops_skip rfl rfl (Nat.le_of_ble_eq_true rfl) ?_) | (refine aops_skip0 rfl rfl ?_)))
  refine aops_call (hs := t109 h hx (by omega)) rfl rfl rfl (Nat.le_of_ble_eq_true rfl) (by simp only [-List.reduceReplicate, ↓reduceIte, Nat.reduceEqDiff, Nat.reduceLT, Nat.reduceAdd, Nat.reduceMul, Nat.reduceLeDiff, Int.reduceLT, Int.reduceLE, Int.reduceToNat, reduceCtorEq, go_sem, acallee, amethod,]; try exact rfl) ?_
  rintro _ A1 ⟨rfl, s1, h1, c1⟩
  obtain ⟨b, hb, rfl, hfb, hbp⟩ := h1.grown (by simp)
  have hp := h1.cell
  have w1 : IntKind.i64.wrap (((hs ++ [x]).length : Nat) - 1 : Int) = (hs.length : Int) := by
    rw [i64_in _ (by simp; omega)]; simp
  (repeat ((with_reducible show aops _ _ _ _ _ _ _); first | (with_reducible refine aops_nil ?_) | (refine aops_do rfl rfl (by (try (conv => (lhs; simp only [-List.reduceReplicate, ↓reduceIte, Nat.reduceEqDiff, Nat.reduceLT, Nat.reduceAdd, Nat.reduceMul, Nat.reduceLeDiff, Int.reduceLT, Int.reduceLE, Int.reduceToNat, reduceCtorEq, go_sem]))); try exact rfl) ?_; first | refine aput_some rfl (Nat.le_of_ble_eq_true rfl) ?_ | refine aput_none rfl ?_) | (refine aops_skip rfl rfl (Nat.le_of_ble_eq_true rfl) ?_) | (refine aops_skip0 rfl rfl ?_)))
  refine then_normal (hN6 _ _ ?_); try clear hN6 N6
  refine awp_region ?_
  (repeat ((with_reducible show aops _ _ _ _ _ _ _); first | (with_reducible refine aops_nil ?_) | (refine aops_do rfl rfl (by (try (conv => (lhs; simp only [-List.reduceReplicate, ↓reduceIte, Nat.reduceEqDiff, Nat.reduceLT, Nat.reduceAdd, Nat.reduceMul, Nat.reduceLeDiff, Int.reduceLT, Int.reduceLE, Int.reduceToNat, reduceCtorEq, go_sem]))); try exact rfl) ?_; first | refine aput_some rfl (Nat.le_of_ble_eq_true rfl) ?_ | refine aput_none rfl ?_) | (refine aops_skip rfl rfl (Nat.le_of_ble_eq_true rfl) ?_) | (refine aops_skip0 rfl rfl ?_)))
  refine aops_call (hs := t54 (s := some ⟨b, 0, none⟩) (n := (hs ++ [x]).length) (c := ucap) (A := A1)) rfl rfl rfl (Nat.le_of_ble_eq_true rfl) (by simp only [-List.reduceReplicate, ↓reduceIte, Nat.reduceEqDiff, Nat.reduceLT, Nat.reduceAdd, Nat.reduceMul, Nat.reduceLeDiff, Int.reduceLT, Int.reduceLE, Int.reduceToNat, reduceCtorEq, go_sem, acallee, amethod, hp]; try exact rfl) ?_
  rintro _ _ ⟨rfl, rfl⟩
  (repeat ((with_reducible show aops _ _ _ _ _ _ _); first | (with_reducible refine aops_nil ?_) | (refine aops_do rfl rfl (by (try (conv => (lhs; simp only [-List.reduceReplicate, ↓reduceIte, Nat.reduceEqDiff, Nat.reduceLT, Nat.reduceAdd, Nat.reduceMul, Nat.reduceLeDiff, Int.reduceLT, Int.reduceLE, Int.reduceToNat, reduceCtorEq, go_sem, w1]))); try exact rfl) ?_; first | refine aput_some rfl (Nat.le_of_ble_eq_true rfl) ?_ | refine aput_none rfl ?_) | (refine aops_skip rfl rfl (Nat.le_of_ble_eq_true rfl) ?_) | (refine aops_skip0 rfl rfl ?_)))
  refine aops_call (hs := t73 (p := p) (b := b) (c := ucap) (n := (hs ++ [x]).length) (j := hs.length) (kp := .fix) (k := .grown 33) (l := (hs ++ [x]) ++ junk.drop 1) hp hfb (fun e => hbp e.symm) (by simp) h1.ok (by simp) (by simp) (by simp [ucap, ecap]) (by simp; omega)) rfl rfl rfl (Nat.le_of_ble_eq_true rfl) rfl ?_
  rintro _ _ ⟨rfl, rfl⟩
  (repeat ((with_reducible show aops _ _ _ _ _ _ _); first | (with_reducible refine aops_nil ?_) | (refine aops_do rfl rfl (by (try (conv => (lhs; simp only [-List.reduceReplicate, ↓reduceIte, Nat.reduceEqDiff, Nat.reduceLT, Nat.reduceAdd, Nat.reduceMul, Nat.reduceLeDiff, Int.reduceLT, Int.reduceLE, Int.reduceToNat, reduceCtorEq, go_sem]))); try exact rfl) ?_; first | refine aput_some rfl (Nat.le_of_ble_eq_true rfl) ?_ | refine aput_none rfl ?_) | (refine aops_skip rfl rfl (Nat.le_of_ble_eq_true rfl) ?_) | (refine aops_skip0 rfl rfl ?_)))
  rw [upL_app _ _ _ (by simp)]
  obtain ⟨k1, k2⟩ := h1.set (hs' := pushL llt [] hs x) ((pushL_perm [] hs x).trans (List.perm_append_comm (l₁ := [x]) (l₂ := hs)))
  exact end_normal rfl ⟨rfl, _, k1, c1.trans k2⟩

theorem t55 {A : AHeap} {p : Nat} {s : Value} {hs junk : List (List Int)} (h : Wt A p s hs junk) (hne : hs ≠ []) (hbig : hs.length ≤ 1000000000) :
    SimW Try.prog 55 [.iface 96 (.pointer (some ⟨p, 0, none⟩))] A (fun v A' => v = .iface 27 (vagg (at' [] hs 0)) ∧ ∃ s' junk', Wt A' p s' ((popL llt [] hs).take (hs.length - 1)) junk' ∧ Chg A A' p s s') := by
  obtain ⟨b, hb, rfl, hfb, hbp⟩ := h.grown hne
  have hp := h.cell
  have hl : 0 < hs.length := List.length_pos_iff.2 hne
  have w1 : IntKind.i64.wrap ((hs.length : Int) - 1) = ((hs.length - 1 : Nat) : Int) := by
    rw [i64_in _ (by omega)]; omega
  have hpb : p ≠ b := fun e => hbp e.symm
  have nec : ucap ≠ ecap := by simp [ucap, ecap]
  
  refine simW_of_awp fine mixed Try.func55 rfl rfl (Nat.le_of_ble_eq_true rfl) ?_
  refine awp_seq fun N7 hN7 => ?_
  refine awp_region ?_
  (repeat ((with_reducible show aops _ _ _ _ _ _ _); first | (with_reducible refine aops_nil ?_) | (refine aops_do rfl rfl (by (try (conv => (lhs; simp only [-List.reduceReplicate, ↓reduceIte, Nat.reduceEqDiff, Nat.reduceLT, Nat.reduceAdd, Nat.reduceMul, Nat.reduceLeDiff, Int.reduceLT, Int.reduceLE, Int.reduceToNat, reduceCtorEq, go_sem]))); try exact rfl) ?_; first | refine aput_some rfl (Nat.le_of_ble_eq_true rfl) ?_ | refine aput_none rfl ?_) | (refine aops_skip rfl rfl (Nat.le_of_ble_eq_true rfl) ?_) | (refine aops_skip0 rfl rfl ?_)))
  refine then_normal (hN7 _ _ ?_); try clear hN7 N7
  refine awp_seq fun N8 hN8 => ?_
  refine awp_region ?_
  (repeat ((with_reducible show aops _ _ _ _ _ _ _); first | (with_reducible refine aops_nil ?_) | (refine aops_do rfl rfl (by (try (conv => (lhs; simp only [-List.reduceReplicate, ↓reduceIte, Nat.reduceEqDiff, Nat.reduceLT, Nat.reduceAdd, Nat.reduceMul, Nat.reduceLeDiff, Int.reduceLT, Int.reduceLE, Int.reduceToNat, reduceCtorEq, go_sem]))); try exact rfl) ?_; first | refine aput_some rfl (Nat.le_of_ble_eq_true rfl) ?_ | refine aput_none rfl ?_) | (refine aops_skip rfl rfl (Nat.le_of_ble_eq_true rfl) ?_) | (refine aops_skip0 rfl rfl ?_)))
  refine aops_call (hs := t54 (s := some ⟨b, 0, none⟩) (n := hs.length) (c := ucap) (A := A)) rfl rfl rfl (Nat.le_of_ble_eq_true rfl) (by simp only [-List.reduceReplicate, ↓reduceIte, Nat.reduceEqDiff, Nat.reduceLT, Nat.reduceAdd, Nat.reduceMul, Nat.reduceLeDiff, Int.reduceLT, Int.reduceLE, Int.reduceToNat, reduceCtorEq, go_sem, acallee, amethod, hp]; try exact rfl) ?_
  rintro _ _ ⟨rfl, rfl⟩
  (repeat ((with_reducible show aops _ _ _ _ _ _ _); first | (with_reducible refine aops_nil ?_) | (refine aops_do rfl rfl (by (try (conv => (lhs; simp only [-List.reduceReplicate, ↓reduceIte, Nat.reduceEqDiff, Nat.reduceLT, Nat.reduceAdd, Nat.reduceMul, Nat.reduceLeDiff, Int.reduceLT, Int.reduceLE, Int.reduceToNat, reduceCtorEq, go_sem, w1]))); try exact rfl) ?_; first | refine aput_some rfl (Nat.le_of_ble_eq_true rfl) ?_ | refine aput_none rfl ?_) | (refine aops_skip rfl rfl (Nat.le_of_ble_eq_true rfl) ?_) | (refine aops_skip0 rfl rfl ?_)))
  refine then_normal (hN8 _ _ ?_); try clear hN8 N8
  refine awp_seq fun N9 hN9 => ?_
  refine awp_region ?_
  (repeat ((with_reducible show aops _ _ _ _ _ _ _); first | (with_reducible refine aops_nil ?_) | (refine aops_do rfl rfl (by (try (conv => (lhs; simp only [-List.reduceReplicate, ↓reduceIte, Nat.reduceEqDiff, Nat.reduceLT, Nat.reduceAdd, Nat.reduceMul, Nat.reduceLeDiff, Int.reduceLT, Int.reduceLE, Int.reduceToNat, reduceCtorEq, go_sem]))); try exact rfl) ?_; first | refine aput_some rfl (Nat.le_of_ble_eq_true rfl) ?_ | refine aput_none rfl ?_) | (refine aops_skip rfl rfl (Nat.le_of_ble_eq_true rfl) ?_) | (refine aops_skip0 rfl rfl ?_)))
  refine aops_call (hs := t110 (b := b) (c := ucap) (n := hs.length) (i := 0) (j := hs.length - 1) (k := .grown 33) (l := hs ++ junk) hfb (by simp) h.ok hl (by omega) (by simp) nec) rfl rfl rfl (Nat.le_of_ble_eq_true rfl) (by simp only [-List.reduceReplicate, ↓reduceIte, Nat.reduceEqDiff, Nat.reduceLT, Nat.reduceAdd, Nat.reduceMul, Nat.reduceLeDiff, Int.reduceLT, Int.reduceLE, Int.reduceToNat, reduceCtorEq, go_sem, acallee, amethod, hp]; try exact rfl) ?_
  rintro _ _ rfl
  rw [swapL_app hl (by omega)]
  obtain ⟨k1, k2⟩ := h.set (hs' := swapL [] hs 0 (hs.length - 1)) (swapL_perm [] hl (by omega))
  (repeat ((with_reducible show aops _ _ _ _ _ _ _); first | (with_reducible refine aops_nil ?_) | (refine aops_do rfl rfl (by (try (conv => (lhs; simp only [-List.reduceReplicate, ↓reduceIte, Nat.reduceEqDiff, Nat.reduceLT, Nat.reduceAdd, Nat.reduceMul, Nat.reduceLeDiff, Int.reduceLT, Int.reduceLE, Int.reduceToNat, reduceCtorEq, go_sem]))); try exact rfl) ?_; first | refine aput_some rfl (Nat.le_of_ble_eq_true rfl) ?_ | refine aput_none rfl ?_) | (refine aops_skip rfl rfl (Nat.le_of_ble_eq_true rfl) ?_) | (refine aops_skip0 rfl rfl ?_)))
  refine then_normal (hN9 _ _ ?_); try clear hN9 N9
  refine awp_seq fun N10 hN10 => ?_
  refine awp_region ?_
  (repeat ((with_reducible show aops _ _ _ _ _ _ _); first | (with_reducible refine aops_nil ?_) | (refine aops_do rfl rfl (by (try (conv => (lhs; simp only [-List.reduceReplicate, ↓reduceIte, Nat.reduceEqDiff, Nat.reduceLT, Nat.reduceAdd, Nat.reduceMul, Nat.reduceLeDiff, Int.reduceLT, Int.reduceLE, Int.reduceToNat, reduceCtorEq, go_sem]))); try exact rfl) ?_; first | refine aput_some rfl (Nat.le_of_ble_eq_true rfl) ?_ | refine aput_none rfl ?_) | (refine aops_skip rfl rfl (Nat.le_of_ble_eq_true rfl) ?_) | (refine aops_skip0 rfl rfl ?_)))
  refine aops_call (hs := t74 (p := p) (b := b) (c := ucap) (N0 := hs.length) (n := hs.length - 1) (i := 0) (kp := .fix) (k := .grown 33) (l := swapL [] hs 0 (hs.length - 1) ++ junk) k1.cell (AHeap.set_same _ _ _) hpb (by simp) k1.ok (by omega) (by simp [swapL_len]) (by omega) nec (by omega)) rfl rfl rfl (Nat.le_of_ble_eq_true rfl) rfl ?_
  rintro _ _ ⟨⟨r, rfl⟩, rfl⟩
  rw [downL_app _ _ _ _ (by rw [swapL_len]; omega), show hs.length - 1 + 1 = hs.length by omega]
  have hpop : downL llt [] (hs.length - 1) hs.length (swapL [] hs 0 (hs.length - 1)) 0 = (popL llt [] hs).take (hs.length - 1) ++ [at' [] hs 0] := popL_split [] hne
  obtain ⟨k3, k4⟩ := k1.set (hs' := downL llt [] (hs.length - 1) hs.length (swapL [] hs 0 (hs.length - 1)) 0) (downL_perm [] _ _ _ _ (by rw [swapL_len]; omega))
  rw [hpop] at k3 k4 ⊢
  (repeat ((with_reducible show aops _ _ _ _ _ _ _); first | (with_reducible refine aops_nil ?_) | (refine aops_do rfl rfl (by (try (conv => (lhs; simp only [-List.reduceReplicate, ↓reduceIte, Nat.reduceEqDiff, Nat.reduceLT, Nat.reduceAdd, Nat.reduceMul, Nat.reduceLeDiff, Int.reduceLT, Int.reduceLE, Int.reduceToNat, reduceCtorEq, go_sem]))); try exact rfl) ?_; first | refine aput_some rfl (Nat.le_of_ble_eq_true rfl) ?_ | refine aput_none rfl ?_) | (refine aops_skip rfl rfl (Nat.le_of_ble_eq_true rfl) ?_) | (refine aops_skip0 rfl rfl ?_)))
  refine then_normal (hN10 _ _ ?_); try clear hN10 N10
  refine awp_seq fun N11 hN11 => ?_
  refine awp_region ?_
  (repeat ((with_reducible show aops _ _ _ _ _ _ _); first | (with_reducible refine aops_nil ?_) | (refine aops_do rfl rfl (by (try (conv => (lhs; simp only [-List.reduceReplicate, ↓reduceIte, Nat.reduceEqDiff, Nat.reduceLT, Nat.reduceAdd, Nat.reduceMul, Nat.reduceLeDiff, Int.reduceLT, Int.reduceLE, Int.reduceToNat, reduceCtorEq, go_sem]))); try exact rfl) ?_; first | refine aput_some rfl (Nat.le_of_ble_eq_true rfl) ?_ | refine aput_none rfl ?_) | (refine aops_skip rfl rfl (Nat.le_of_ble_eq_true rfl) ?_) | (refine aops_skip0 rfl rfl ?_)))
  refine aops_call (hs := t108 k3 (by simp; omega)) rfl rfl rfl (Nat.le_of_ble_eq_true rfl) (by simp only [-List.reduceReplicate, ↓reduceIte, Nat.reduceEqDiff, Nat.reduceLT, Nat.reduceAdd, Nat.reduceMul, Nat.reduceLeDiff, Int.reduceLT, Int.reduceLE, Int.reduceToNat, reduceCtorEq, go_sem, acallee, amethod,]; try exact rfl) ?_
  rintro _ _ ⟨rfl, s', k5, k6⟩
  (repeat ((with_reducible show aops _ _ _ _ _ _ _); first | (with_reducible refine aops_nil ?_) | (refine aops_do rfl rfl (by (try (conv => (lhs; simp only [-List.reduceReplicate, ↓reduceIte, Nat.reduceEqDiff, Nat.reduceLT, Nat.reduceAdd, Nat.reduceMul, Nat.reduceLeDiff, Int.reduceLT, Int.reduceLE, Int.reduceToNat, reduceCtorEq, go_sem]))); try exact rfl) ?_; first | refine aput_some rfl (Nat.le_of_ble_eq_true rfl) ?_ | refine aput_none rfl ?_) | (refine aops_skip rfl rfl (Nat.le_of_ble_eq_true rfl) ?_) | (refine aops_skip0 rfl rfl ?_)))
  refine then_normal (hN11 _ _ ?_); try clear hN11 N11
  refine awp_ret ?_; (repeat (first | (with_reducible refine then_ret ?_) | (with_reducible refine block_ret ?_)))
  exact end_ret rfl ⟨rfl, _, _, k5, (k2.trans k4).trans k6⟩
end Go.AB.Try
