/-
  append, sound.
-/
import Derived.Test.YtcbmjgagbfhigaaXA9
namespace Go.AB
open Go
set_option linter.unusedSimpArgs false
set_option linter.unusedVariables false

theorem run_store_nil {P : Program} (a : Addr) (w : World) : (storeCells a []).run P w = .ok () w := rfl

theorem vl_one {ρ : Rho} {cs rs : List Value} (h : VL ρ cs rs) (hs : cs.all scalar = true) : ∀ v ∈ rs, v.oneCell' = true := by
  intro v hv
  obtain ⟨i, hi⟩ := List.getElem?_of_mem hv
  have hlt : i < cs.length := by rw [h.1]; exact (List.getElem?_eq_some_iff.1 hi).1
  exact (h.2 i _ v (List.getElem?_eq_getElem hlt) hi).oneCell (List.all_eq_true.1 hs _ (List.getElem_mem hlt))

theorem inPlace_sound {P : Program} {ρ : Rho} {A A' : AHeap} {w : World} {b o len size n c c' : Nat} {new rs : List Value} {e : Ent} {v : Value}
    (h : Rel ρ A w) (he : ρ b = some e) (hv : VL ρ new rs) (hl : new.length = n * size) (hsc : new.all scalar = true)
    (hc : c' = c ∧ c < ucap ∨ c = ucap ∧ o + c' * e.esz = e.rsz ∧ len + n ≤ c' ∧ 0 < e.esz) (hp : inPlace A b o len size n new c = some (v, A')) :
    ∃ w', (storeCells ((⟨e.blk, e.sh + o, none⟩ : Addr).add (len * size)) rs).run P w = .ok () w' ∧ VR ρ v (.slice (some ⟨e.blk, e.sh + o, none⟩) (len + n) c') ∧ Step ρ A w ρ A' w' := by
  have hval : VR ρ (.slice (some ⟨b, o, none⟩) (len + n) c) (.slice (some ⟨e.blk, e.sh + o, none⟩) (len + n) c') := by
    rcases hc with ⟨rfl, hc⟩ | ⟨rfl, h1, h2, h3⟩
    · exact .slice _ _ _ _ _ _ he rfl hc
    · exact .sliceU _ _ _ _ _ _ he rfl h1 h2 h3
  unfold inPlace at hp
  split at hp
  · rename_i hn
    cases hp
    have : rs = [] := by
      apply List.eq_nil_of_length_eq_zero
      rw [← hv.1, hl, hn, Nat.zero_mul]
    subst this
    exact ⟨w, rfl, hval, Step.refl h⟩
  · split at hp
    · rename_i cs k hf
      split at hp
      · cases hp
      · rename_i hk
        cases hput : putCells cs (o + len * size) new with
        | none => rw [hput] at hp; cases hp
        | some cs' =>
          rw [hput] at hp; cases hp
          obtain ⟨w', h1, h2⟩ := run_put (P := P) h he hf hk hput hv (vl_one hv hsc) hsc
          refine ⟨w', ?_, hval, h2⟩
          rw [add_none, Nat.add_assoc]; exact h1
    · cases hp

theorem zero_size {z : Value} {n size : Nat} (h : z.cells.size = size) : (Builtin.zeroCells z.cells n).size = n * size := by
  unfold Builtin.zeroCells; simp [h]

/-- the new row of an append that grew -/
theorem grow_push {ρ : Rho} {A : AHeap} {w : World} (h : Rel ρ A w) {cells rs : List Value} {rest : Array Value} {size need newCap : Nat} (e : TypeId)
    (hv : VL ρ cells rs) (hsc : cells.all scalar = true) (hl : cells.length = need * size) (hr : rest.size = (newCap - need) * size) (hn : need ≤ newCap) (hs : 0 < size) :
    VR (ext ρ A.n ⟨w.heap.size, 0, size, newCap * size⟩) (.slice (some ⟨A.n, 0, none⟩) need ucap) (.slice (some ⟨w.heap.size, 0, none⟩) need newCap) ∧
    Step ρ A w (ext ρ A.n ⟨w.heap.size, 0, size, newCap * size⟩) (A.push (.row cells (.grown size))) { w with heap := w.heap.push (.cells ((⟨rs⟩ : Array Value) ++ rest) e) } := by
  have hlen : rs.length = need * size := by rw [← hv.1, hl]
  refine ⟨.sliceU _ _ _ _ _ _ (ext_same _ _ _) rfl (by simp) hn hs, Step.push h _ _ _ _ ?_⟩
  refine ⟨_, e, (0, 0), by rw [Array.getElem?_push_size], ?_, hsc, rfl, ?_, rfl, rfl⟩
  · intro i v hi
    obtain ⟨v', h1, h2⟩ := hv.get hi
    refine ⟨v', ?_, h2.mono (ext_sub _ h.none_n)⟩
    have hlt : i < rs.length := (List.getElem?_eq_some_iff.1 h1).1
    rw [Nat.zero_add, Array.getElem?_append_left (by simpa using hlt)]
    simpa using h1
  · simp only [Array.size_append, List.size_toArray, hlen, hr]
    rw [← Nat.add_mul]; congr 1; omega

theorem room_ok {need cap bytes : Nat} (hb : need * bytes ≤ room) (hc : cap < need) : Builtin.nextslicecap need cap * bytes ≤ 2 ^ 48 := by
  have h1 := nextcap_le need cap hc
  have h2 : 0 < need := by omega
  have h3 : bytes ≤ need * bytes := Nat.le_mul_of_pos_left _ h2
  have h4 : Builtin.nextslicecap need cap * bytes ≤ (2 * need + 192) * bytes := Nat.mul_le_mul_right _ h1
  have h5 : (2 * need + 192) * bytes = 2 * (need * bytes) + 192 * bytes := by rw [Nat.add_mul, Nat.mul_assoc]
  unfold room at hb
  omega

theorem cut_cap (need old : Nat) (e : TypeId) (t : Nat) (h : need ≤ need) : ∃ k, (Question.appendCap need old e).cut t = need + k := ⟨_, rfl⟩

/-- the run of an append that must grow -/
theorem run_grow {P : Program} {e : TypeId} {bytes size need sLen sCap n : Nat} {s r z : Value} {w : World} {os us : List Value}
    (h1 : (Builtin.firstCells size sLen s).run P { w with drawn := w.drawn + 1 } = .ok ⟨os⟩ { w with drawn := w.drawn + 1 })
    (h2 : (Builtin.firstCells size n r).run P { w with drawn := w.drawn + 1 } = .ok ⟨us⟩ { w with drawn := w.drawn + 1 }) :
    ∃ k, (do
          let newCap ← choose (.appendCap need sCap e)
          askRoom (newCap * bytes)
          let old ← Builtin.firstCells size sLen s
          let new ← Builtin.firstCells size n r
          let rest := Builtin.zeroCells z.cells (newCap - need)
          pure (.slice (some (← newRow e (old ++ new ++ rest))) need newCap) : Sem Value).run P w =
      .ok (.slice (some ⟨w.heap.size, 0, none⟩) need (need + k)) { w with drawn := w.drawn + 1, heap := w.heap.push (.cells ((⟨os ++ us⟩ : Array Value) ++ Builtin.zeroCells z.cells k) e) } := by
  obtain ⟨k, hk⟩ := cut_cap need sCap e (w.tape w.drawn (.appendCap need sCap e)) (Nat.le_refl _)
  refine ⟨k, ?_⟩
  simp only [Sem.run_bind, run_choose, Question.forced, Bool.false_eq_true, if_false, hk, Result.andThen_ok, run_askRoom, h1, h2, Sem.run_pure, newRow, run_newObj]
  have : need + k - need = k := by omega
  rw [this]
  congr 3
  congr 1
  congr 1
  congr 1
  apply Array.ext'; simp

theorem append_sound {P : Program} {ρ : Rho} {A A' : AHeap} {w : World} {st xt ty : TypeId} {s x rs rx v : Value} (hr : Rel ρ A w) (hs : VR ρ s rs) (hx : VR ρ x rx)
    (h : aappend P A st xt s x = some (v, A')) :
    ∃ ρ' r w', (Builtin.append_ #[st, xt] ty #[rs, rx]).run P w = .ok r w' ∧ VR ρ' v r ∧ Step ρ A w ρ' A' w' := by
  unfold aappend at h
  split at h
  · cases h
  · rename_i size bytes ht
    split at h
    · cases h
    · rename_i n new ha
      obtain ⟨us, f1, f2, f3, f4, f5⟩ := appCells_sound (P := P) hr hx ha
      obtain ⟨us1, d1, _, d3, _, _⟩ := appCells_sound (P := P) (hr.drew (w.drawn + 1)) hx ha
      have hsize : 0 < size := by obtain ⟨_, _, _, _, _, _, _, _, _, _, h, _⟩ := appType_some ht; exact h
      split at h
      · cases hs
        by_cases hn : n = 0
        · rw [if_pos hn] at h
          cases h; subst hn
          obtain ⟨e, i, z, _, _, _, _, _, hrun⟩ := run_append_head (P := P) ht ty none 0 0 0 rx f2 (fun h => absurd (Nat.le_refl 0) h) w
          refine ⟨ρ, .slice none 0 0, w, ?_, .snil _ _, Step.refl hr⟩
          rw [hrun, if_pos (Nat.le_refl _)]
          simp only [Sem.run_bind, f1, Result.andThen_ok, Sem.run_pure]
        · rw [if_neg hn] at h
          split at h
          · rename_i hb
            cases h
            obtain ⟨e, i, z, _, _, _, _, hz, hrun⟩ := run_append_head (P := P) ht ty none 0 0 n rx f2 (fun h => room_ok (by rw [Nat.zero_add]; exact hb) (by omega)) w
            obtain ⟨k, hk⟩ := run_grow (P := P) (e := e) (bytes := bytes) (size := size) (need := 0 + n) (sLen := 0) (sCap := 0) (n := n) (s := .slice none 0 0) (z := z) (os := []) (us := us1) rfl d1
            rw [if_neg (by omega)] at hrun
            rw [hrun, hk]
            obtain ⟨g1, g2⟩ := grow_push (hr.drew (w.drawn + 1)) (rest := Builtin.zeroCells z.cells k) (newCap := 0 + n + k) (need := n) e d3 f5 f4 (by rw [zero_size hz]; congr 1; omega) (by omega) hsize
            refine ⟨_, _, _, rfl, ?_, (Step.drew hr (w.drawn + 1)).trans g2⟩
            rw [Nat.zero_add] at g1 ⊢
            exact g1
          · cases h
      · rename_i b o len c
        split at h
        · rename_i hcu
          obtain ⟨en, c', he, rfl, hcc, _, _⟩ := hs.slice_inv (by unfold ecap; unfold ucap at hcu; omega)
          have hcc := hcc hcu
          subst hcc
          split at h
          · rename_i hfit
            obtain ⟨e, i, z, _, _, _, _, _, hrun⟩ := run_append_head (P := P) ht ty (some ⟨en.blk, en.sh + o, none⟩) len c' n rx f2 (fun h => absurd hfit h) w
            obtain ⟨w', k1, k2, k3⟩ := inPlace_sound (P := P) hr he f3 f4 f5 (.inl ⟨rfl, hcu⟩) h
            refine ⟨ρ, _, w', ?_, k2, k3⟩
            rw [hrun, if_pos hfit]
            simp only [Sem.run_bind, f1, Result.andThen_ok, Sem.run_pure, k1]
          · rename_i hfit
            split at h
            · rename_i hb
              split at h
              · rename_i cs k hf
                cases hg : getCells cs o (len * size) with
                | none => rw [hg] at h; cases h
                | some old =>
                  rw [hg] at h; cases h
                  obtain ⟨e, i, z, _, _, _, _, hz, hrun⟩ := run_append_head (P := P) ht ty (some ⟨en.blk, en.sh + o, none⟩) len c' n rx f2 (fun h => room_ok hb (by omega)) w
                  obtain ⟨os, o1, o2⟩ := run_row (P := P) (hr.drew (w.drawn + 1)) he hf hg
                  obtain ⟨k2, hk⟩ := run_grow (P := P) (e := e) (bytes := bytes) (size := size) (need := len + n) (sLen := len) (sCap := c') (n := n) (s := .slice (some ⟨en.blk, en.sh + o, none⟩) len c') (z := z) (os := os) (us := us1) o1 d1
                  rw [if_neg hfit] at hrun
                  rw [hrun, hk]
                  obtain ⟨g1, g2⟩ := grow_push (hr.drew (w.drawn + 1)) (rest := Builtin.zeroCells z.cells k2) (newCap := len + n + k2) (need := len + n) e (o2.append d3)
                    (by rw [List.all_append, getCells_scalar (row_scalar hr he hf) hg, f5]; rfl) (by rw [List.length_append, (getCells_some hg).1, f4, Nat.add_mul]) (by rw [zero_size hz]; congr 1; omega) (by omega) hsize
                  exact ⟨_, _, _, rfl, g1, (Step.drew hr (w.drawn + 1)).trans g2⟩
              · cases h
            · cases h
        · split at h
          · rename_i hcu
            subst hcu
            obtain ⟨en, c', he, rfl, _, hcc, _⟩ := hs.slice_inv (by unfold ecap ucap; omega)
            obtain ⟨q1, q2, q3⟩ := hcc rfl
            split at h
            · cases h
            · rename_i av hav
              obtain ⟨m1, m2, m3⟩ := avail_le hr he hav q1
              split at h
              · rename_i hfit
                obtain ⟨e, i, z, _, _, _, _, _, hrun⟩ := run_append_head (P := P) ht ty (some ⟨en.blk, en.sh + o, none⟩) len c' n rx f2 (fun h => absurd (by omega) h) w
                obtain ⟨w', k1, k2, k3⟩ := inPlace_sound (P := P) hr he f3 f4 f5 (.inr ⟨rfl, q1, by omega, q3⟩) h
                refine ⟨ρ, _, w', ?_, k2, k3⟩
                rw [hrun, if_pos (by omega)]
                simp only [Sem.run_bind, f1, Result.andThen_ok, Sem.run_pure, k1]
              · split at h
                · rename_i cs k hf
                  split at h
                  · rename_i hc
                    obtain ⟨rfl, hc2, hb⟩ := hc
                    cases h
                    obtain ⟨cs', hf', _, _, _⟩ := avail_some hav
                    rw [hf] at hf'
                    cases hf'
                    have hw : writable A b := by unfold writable; rw [hf]; trivial
                    have hl : live A b := by unfold live; rw [hf]; simp
                    by_cases hfit : len + n ≤ c'
                    · -- in place: the row's own block bears it
                      obtain ⟨e, i, z, _, _, _, _, _, hrun⟩ := run_append_head (P := P) ht ty (some ⟨en.blk, en.sh + 0, none⟩) len c' n rx f2 (fun h => absurd hfit h) w
                      obtain ⟨ob, g1, g2⟩ := hr.obj b en he
                      rw [hf] at g1; cases g1
                      obtain ⟨c, t, fz, p1, p2, p3, p4, p5, p6, p7⟩ := g2
                      subst p4
                      have hfits : len * size + us.length ≤ c.size := by
                        rw [p5, ← q1, p7, Nat.zero_add, ← f3.1, f4, ← Nat.add_mul]
                        exact Nat.mul_le_mul_right _ hfit
                      have hst := run_storeCells_at (P := P) en.blk (len * size) t us 0 c w p1 (by omega) (vl_one f3 f5)
                      rw [setRow_eq p1] at hst
                      have hlt : en.blk < w.heap.size := hr.bnd _ _ he
                      have hfin : (Builtin.append_ #[st, xt] ty #[.slice (some ⟨en.blk, en.sh + 0, none⟩) len c', rx]).run P w = .ok (.slice (some ⟨en.blk, en.sh + 0, none⟩) (len + n) c')
                          { w with heap := w.heap.setIfInBounds en.blk (.cells (c.toList.take (len * size + 0) ++ us ++ c.toList.drop (len * size + 0 + us.length)).toArray t (0, 0)) } := by
                        rw [hrun, if_pos hfit]
                        simp only [Sem.run_bind, f1, Result.andThen_ok, Sem.run_pure, add_none]
                        rw [show en.sh + 0 + len * size = len * size by omega, hst]
                        simp only [Result.andThen_ok]
                      refine ⟨ext ρ A.n en, _, _, hfin, .sliceU _ _ _ _ _ _ (ext_same _ _ _) rfl q1 hfit q3, Step.regrow hr he hw hl _ _ ?_⟩
                      · refine ⟨_, t, (0, 0), by rw [Array.getElem?_setIfInBounds_self_of_lt hlt], ?_, ?_, rfl, ?_, p6, p7⟩
                        · intro j v hj
                          rw [p6, Nat.zero_add, List.getElem?_toArray]
                          have hcl : cs.length ≤ c.toList.length := by
                            rcases Nat.lt_or_ge c.toList.length cs.length with hlt2 | hge
                            · obtain ⟨v', hv', _⟩ := p2 c.toList.length _ (List.getElem?_eq_getElem hlt2)
                              rw [p6, Nat.zero_add, Array.getElem?_eq_none (by simp)] at hv'; cases hv'
                            · exact hge
                          by_cases hjc : j < cs.length
                          · rw [List.getElem?_append_left hjc] at hj
                            obtain ⟨v', a1, a2⟩ := p2 j v hj
                            rw [p6, Nat.zero_add] at a1
                            refine ⟨v', ?_, a2.mono (ext_sub _ hr.none_n)⟩
                            rw [List.append_assoc, List.getElem?_append_left (by simp; simp at hcl; omega), List.getElem?_take, if_pos (by omega)]
                            simpa using a1
                          · rw [List.getElem?_append_right (by omega)] at hj
                            obtain ⟨v', a1, a2⟩ := f3.get hj
                            refine ⟨v', ?_, a2.mono (ext_sub _ hr.none_n)⟩
                            have htk : (c.toList.take (len * size + 0)).length = cs.length := by simp; simp at hcl; omega
                            have hju : j - cs.length < us.length := (List.getElem?_eq_some_iff.1 a1).1
                            rw [List.append_assoc, List.getElem?_append_right (by omega), htk, List.getElem?_append_left hju]
                            exact a1
                        · rw [List.all_append, p3, f5]; rfl
                        · rw [← p5]; simp; omega
                    · -- it grows
                      obtain ⟨e, i, z, _, _, _, _, hz, hrun⟩ := run_append_head (P := P) ht ty (some ⟨en.blk, en.sh + 0, none⟩) len c' n rx f2 (fun h => room_ok hb (by omega)) w
                      have hg : getCells cs 0 (len * size) = some cs := by
                        unfold getCells; rw [if_pos (by omega), List.drop_zero, hc2, List.take_length]
                      obtain ⟨os, o1, o2⟩ := run_row (P := P) (hr.drew (w.drawn + 1)) he hf hg
                      obtain ⟨k2, hk⟩ := run_grow (P := P) (e := e) (bytes := bytes) (size := size) (need := len + n) (sLen := len) (sCap := c') (n := n) (s := .slice (some ⟨en.blk, en.sh + 0, none⟩) len c') (z := z) (os := os) (us := us1) o1 d1
                      rw [if_neg hfit] at hrun
                      rw [hrun, hk]
                      have hkill := Step.kill hr b hl hw
                      obtain ⟨g1, g2⟩ := grow_push ((hkill.rel).drew (w.drawn + 1)) (rest := Builtin.zeroCells z.cells k2) (newCap := len + n + k2) (need := len + n) e (o2.append d3)
                        (by rw [List.all_append, row_scalar hr he hf, f5]; rfl) (by rw [List.length_append, f4, Nat.add_mul, hc2]) (by rw [zero_size hz]; congr 1; omega) (by omega) hsize
                      exact ⟨_, _, _, rfl, g1, (hkill.trans (Step.drew hkill.rel (w.drawn + 1))).trans g2⟩
                  · cases h
                · cases h
          · cases h
      · cases h

end Go.AB
