/-
  append, sound.
-/
import Derived.Test.YtcbmjgagbfhigaaGA
import Derived.LoopN
import Derived.Scope
import Derived.Orders
namespace Go.AB
open Go
set_option linter.unusedSimpArgs false
set_option linter.unusedVariables false

theorem run_store_nil {P : Program} (a : Addr) (w : World) : (storeCells a []).run P w = .ok () w := rfl

theorem vl_one {ρ : Rho} {cs rs : List Value} (h : VL ρ cs rs) (hs : cs.all scalar = true) : ∀ v ∈ rs, v.oneCell' = true := by
  intro v hv
  obtain ⟨i, hi⟩ := List.getElem?_of_mem hv
  have hlt : i < cs.length := by rw [h.1]; exact (List.getElem?_eq_some_iff.1 hi).1
  exact (h.2 i _ v (List.getElem?_eq_getElem hlt) hi).oneCell (List.all_eq_true.1 hs _ (List.getElem_mem hlt))

theorem inPlace_sound {P : Program} {ρ : Rho} {A A' : AHeap} {w : World} {b o len size n c c' : Nat} {new rs : List Value} {e : Ent} {v : Value}
    (h : Rel ρ A w) (he : ρ b = some e) (hv : VL ρ new rs) (hl : new.length = n * size) (hsc : new.all scalar = true)
    (hc : c' = c ∧ c < ucap ∨ c = ucap ∧ o + c' * e.esz = e.rsz ∧ len + n ≤ c' ∧ 0 < e.esz) (hp : inPlace A b o len size n new c = some (v, A')) :
    ∃ w', (storeCells ((⟨e.blk, e.sh + o, none⟩ : Addr).add (len * size)) rs).run P w = .ok () w' ∧ VR ρ v (.slice (some ⟨e.blk, e.sh + o, none⟩) (len + n) c') ∧ Step ρ A w ρ A' w' := by
  have hval : VR ρ (.slice (some ⟨b, o, none⟩) (len + n) c) (.slice (some ⟨e.blk, e.sh + o, none⟩) (len + n) c') := by
    rcases hc with ⟨rfl, hc⟩ | ⟨rfl, h1, h2, h3⟩
    · exact .slice _ _ _ _ _ _ he rfl hc
    · exact .sliceU _ _ _ _ _ _ he rfl h1 h2 h3
  unfold inPlace at hp
  split at hp
  · rename_i hn
    cases hp
    have : rs = [] := by
      apply List.eq_nil_of_length_eq_zero
      rw [← hv.1, hl, hn, Nat.zero_mul]
    subst this
    exact ⟨w, rfl, hval, Step.refl h⟩
  · split at hp
    · rename_i cs k hf
      split at hp
      · cases hp
      · rename_i hk
        cases hput : putCells cs (o + len * size) new with
        | none => rw [hput] at hp; cases hp
        | some cs' =>
          rw [hput] at hp; cases hp
          obtain ⟨w', h1, h2⟩ := run_put (P := P) h he hf hk hput hv (vl_one hv hsc) hsc
          refine ⟨w', ?_, hval, h2⟩
          rw [add_none, Nat.add_assoc]; exact h1
    · cases hp

theorem zero_size {z : Value} {n size : Nat} (h : z.cells.size = size) : (Builtin.zeroCells z.cells n).size = n * size := by
  unfold Builtin.zeroCells; simp [h]

/-- the new row of an append that grew -/
theorem grow_push {ρ : Rho} {A : AHeap} {w : World} (h : Rel ρ A w) {cells rs : List Value} {rest : Array Value} {size need newCap : Nat} (e : TypeId)
    (hv : VL ρ cells rs) (hsc : cells.all scalar = true) (hl : cells.length = need * size) (hr : rest.size = (newCap - need) * size) (hn : need ≤ newCap) (hs : 0 < size) :
    VR (ext ρ A.n ⟨w.heap.size, 0, size, newCap * size⟩) (.slice (some ⟨A.n, 0, none⟩) need ucap) (.slice (some ⟨w.heap.size, 0, none⟩) need newCap) ∧
    Step ρ A w (ext ρ A.n ⟨w.heap.size, 0, size, newCap * size⟩) (A.push (.row cells (.grown size))) { w with heap := w.heap.push (.cells ((⟨rs⟩ : Array Value) ++ rest) e) } := by
  have hlen : rs.length = need * size := by rw [← hv.1, hl]
  refine ⟨.sliceU _ _ _ _ _ _ (ext_same _ _ _) rfl (by simp) hn hs, Step.push h _ _ _ _ ?_⟩
  refine ⟨_, e, (0, 0), by rw [Array.getElem?_push_size], ?_, hsc, rfl, ?_, rfl, rfl⟩
  · intro i v hi
    obtain ⟨v', h1, h2⟩ := hv.get hi
    refine ⟨v', ?_, h2.mono (ext_sub _ h.none_n)⟩
    have hlt : i < rs.length := (List.getElem?_eq_some_iff.1 h1).1
    rw [Nat.zero_add, Array.getElem?_append_left (by simpa using hlt)]
    simpa using h1
  · simp only [Array.size_append, List.size_toArray, hlen, hr]
    rw [← Nat.add_mul]; congr 1; omega

theorem room_ok {need cap bytes : Nat} (hb : need * bytes ≤ room) (hc : cap < need) : Builtin.nextslicecap need cap * bytes ≤ 2 ^ 48 := by
  have h1 := nextcap_le need cap hc
  have h2 : 0 < need := by omega
  have h3 : bytes ≤ need * bytes := Nat.le_mul_of_pos_left _ h2
  have h4 : Builtin.nextslicecap need cap * bytes ≤ (2 * need + 192) * bytes := Nat.mul_le_mul_right _ h1
  have h5 : (2 * need + 192) * bytes = 2 * (need * bytes) + 192 * bytes := by rw [Nat.add_mul, Nat.mul_assoc]
  unfold room at hb
  omega

theorem cut_cap (need old : Nat) (e : TypeId) (t : Nat) (h : need ≤ need) : ∃ k, (Question.appendCap need old e).cut t = need + k := ⟨_, rfl⟩

/-- the run of an append that must grow -/
theorem run_grow {P : Program} {e : TypeId} {bytes size need sLen sCap n : Nat} {s r z : Value} {w : World} {os us : List Value}
    (h1 : (Builtin.firstCells size sLen s).run P { w with drawn := w.drawn + 1 } = .ok ⟨os⟩ { w with drawn := w.drawn + 1 })
    (h2 : (Builtin.firstCells size n r).run P { w with drawn := w.drawn + 1 } = .ok ⟨us⟩ { w with drawn := w.drawn + 1 }) :
    ∃ k, (do
          let newCap ← choose (.appendCap need sCap e)
          askRoom (newCap * bytes)
          let old ← Builtin.firstCells size sLen s
          let new ← Builtin.firstCells size n r
          let rest := Builtin.zeroCells z.cells (newCap - need)
          pure (.slice (some (← newRow e (old ++ new ++ rest))) need newCap) : Sem Value).run P w =
      .ok (.slice (some ⟨w.heap.size, 0, none⟩) need (need + k)) { w with drawn := w.drawn + 1, heap := w.heap.push (.cells ((⟨os ++ us⟩ : Array Value) ++ Builtin.zeroCells z.cells k) e) } := by
  obtain ⟨k, hk⟩ := cut_cap need sCap e (w.tape w.drawn (.appendCap need sCap e)) (Nat.le_refl _)
  refine ⟨k, ?_⟩
  simp only [Sem.run_bind, run_choose, Question.forced, Bool.false_eq_true, if_false, hk, Result.andThen_ok, run_askRoom, h1, h2, Sem.run_pure, newRow, run_newObj]
  have : need + k - need = k := by omega
  rw [this]
  congr 3
  congr 1
  congr 1
  congr 1
  apply Array.ext'; simp

theorem append_sound {P : Program} {ρ : Rho} {A A' : AHeap} {w : World} {st xt ty : TypeId} {s x rs rx v : Value} (hr : Rel ρ A w) (hs : VR ρ s rs) (hx : VR ρ x rx)
    (h : aappend P A st xt s x = some (v, A')) :
    ∃ ρ' r w', (Builtin.append_ #[st, xt] ty #[rs, rx]).run P w = .ok r w' ∧ VR ρ' v r ∧ Step ρ A w ρ' A' w' := by
  unfold aappend at h
  split at h
  · cases h
  · rename_i size bytes ht
    split at h
    · cases h
    · rename_i n new ha
      obtain ⟨us, f1, f2, f3, f4, f5⟩ := appCells_sound (P := P) hr hx ha
      obtain ⟨us1, d1, _, d3, _, _⟩ := appCells_sound (P := P) (hr.drew (w.drawn + 1)) hx ha
      have hsize : 0 < size := by obtain ⟨_, _, _, _, _, _, _, _, _, _, h, _⟩ := appType_some ht; exact h
      split at h
      · cases hs
        by_cases hn : n = 0
        · rw [if_pos hn] at h
          cases h; subst hn
          obtain ⟨e, i, z, _, _, _, _, _, hrun⟩ := run_append_head (P := P) ht ty none 0 0 0 rx f2 (fun h => absurd (Nat.le_refl 0) h) w
          refine ⟨ρ, .slice none 0 0, w, ?_, .snil _ _, Step.refl hr⟩
          rw [hrun, if_pos (Nat.le_refl _)]
          simp only [Sem.run_bind, f1, Result.andThen_ok, Sem.run_pure]
        · rw [if_neg hn] at h
          split at h
          · rename_i hb
            cases h
            obtain ⟨e, i, z, _, _, _, _, hz, hrun⟩ := run_append_head (P := P) ht ty none 0 0 n rx f2 (fun h => room_ok (by rw [Nat.zero_add]; exact hb) (by omega)) w
            obtain ⟨k, hk⟩ := run_grow (P := P) (e := e) (bytes := bytes) (size := size) (need := 0 + n) (sLen := 0) (sCap := 0) (n := n) (s := .slice none 0 0) (z := z) (os := []) (us := us1) rfl d1
            rw [if_neg (by omega)] at hrun
            rw [hrun, hk]
            obtain ⟨g1, g2⟩ := grow_push (hr.drew (w.drawn + 1)) (rest := Builtin.zeroCells z.cells k) (newCap := 0 + n + k) (need := n) e d3 f5 f4 (by rw [zero_size hz]; congr 1; omega) (by omega) hsize
            refine ⟨_, _, _, rfl, ?_, (Step.drew hr (w.drawn + 1)).trans g2⟩
            rw [Nat.zero_add] at g1 ⊢
            exact g1
          · cases h
      · rename_i b o len c
        split at h
        · rename_i hcu
          obtain ⟨en, c', he, rfl, hcc, _, _⟩ := hs.slice_inv (by unfold ecap; unfold ucap at hcu; omega)
          have hcc := hcc hcu
          subst hcc
          split at h
          · rename_i hfit
            obtain ⟨e, i, z, _, _, _, _, _, hrun⟩ := run_append_head (P := P) ht ty (some ⟨en.blk, en.sh + o, none⟩) len c' n rx f2 (fun h => absurd hfit h) w
            obtain ⟨w', k1, k2, k3⟩ := inPlace_sound (P := P) hr he f3 f4 f5 (.inl ⟨rfl, hcu⟩) h
            refine ⟨ρ, _, w', ?_, k2, k3⟩
            rw [hrun, if_pos hfit]
            simp only [Sem.run_bind, f1, Result.andThen_ok, Sem.run_pure, k1]
          · rename_i hfit
            split at h
            · rename_i hb
              split at h
              · rename_i cs k hf
                cases hg : getCells cs o (len * size) with
                | none => rw [hg] at h; cases h
                | some old =>
                  rw [hg] at h; cases h
                  obtain ⟨e, i, z, _, _, _, _, hz, hrun⟩ := run_append_head (P := P) ht ty (some ⟨en.blk, en.sh + o, none⟩) len c' n rx f2 (fun h => room_ok hb (by omega)) w
                  obtain ⟨os, o1, o2⟩ := run_row (P := P) (hr.drew (w.drawn + 1)) he hf hg
                  obtain ⟨k2, hk⟩ := run_grow (P := P) (e := e) (bytes := bytes) (size := size) (need := len + n) (sLen := len) (sCap := c') (n := n) (s := .slice (some ⟨en.blk, en.sh + o, none⟩) len c') (z := z) (os := os) (us := us1) o1 d1
                  rw [if_neg hfit] at hrun
                  rw [hrun, hk]
                  obtain ⟨g1, g2⟩ := grow_push (hr.drew (w.drawn + 1)) (rest := Builtin.zeroCells z.cells k2) (newCap := len + n + k2) (need := len + n) e (o2.append d3)
                    (by rw [List.all_append, getCells_scalar (row_scalar hr he hf) hg, f5]; rfl) (by rw [List.length_append, (getCells_some hg).1, f4, Nat.add_mul]) (by rw [zero_size hz]; congr 1; omega) (by omega) hsize
                  exact ⟨_, _, _, rfl, g1, (Step.drew hr (w.drawn + 1)).trans g2⟩
              · cases h
            · cases h
        · split at h
          · rename_i hcu
            subst hcu
            obtain ⟨en, c', he, rfl, _, hcc, _⟩ := hs.slice_inv (by unfold ecap ucap; omega)
            obtain ⟨q1, q2, q3⟩ := hcc rfl
            split at h
            · cases h
            · rename_i av hav
              obtain ⟨m1, m2, m3⟩ := avail_le hr he hav q1
              split at h
              · rename_i hfit
                obtain ⟨e, i, z, _, _, _, _, _, hrun⟩ := run_append_head (P := P) ht ty (some ⟨en.blk, en.sh + o, none⟩) len c' n rx f2 (fun h => absurd (by omega) h) w
                obtain ⟨w', k1, k2, k3⟩ := inPlace_sound (P := P) hr he f3 f4 f5 (.inr ⟨rfl, q1, by omega, q3⟩) h
                refine ⟨ρ, _, w', ?_, k2, k3⟩
                rw [hrun, if_pos (by omega)]
                simp only [Sem.run_bind, f1, Result.andThen_ok, Sem.run_pure, k1]
              · split at h
                · rename_i cs k hf
                  split at h
                  · rename_i hc
                    obtain ⟨rfl, hc2, hb⟩ := hc
                    cases h
                    obtain ⟨cs', hf', _, _, _⟩ := avail_some hav
                    rw [hf] at hf'
                    cases hf'
                    have hw : writable A b := by unfold writable; rw [hf]; trivial
                    have hl : live A b := by unfold live; rw [hf]; simp
                    by_cases hfit : len + n ≤ c'
                    · -- in place: the row's own block bears it
                      obtain ⟨e, i, z, _, _, _, _, _, hrun⟩ := run_append_head (P := P) ht ty (some ⟨en.blk, en.sh + 0, none⟩) len c' n rx f2 (fun h => absurd hfit h) w
                      obtain ⟨ob, g1, g2⟩ := hr.obj b en he
                      rw [hf] at g1; cases g1
                      obtain ⟨c, t, fz, p1, p2, p3, p4, p5, p6, p7⟩ := g2
                      subst p4
                      have hfits : len * size + us.length ≤ c.size := by
                        rw [p5, ← q1, p7, Nat.zero_add, ← f3.1, f4, ← Nat.add_mul]
                        exact Nat.mul_le_mul_right _ hfit
                      have hst := run_storeCells_at (P := P) en.blk (len * size) t us 0 c w p1 (by omega) (vl_one f3 f5)
                      rw [setRow_eq p1] at hst
                      have hlt : en.blk < w.heap.size := hr.bnd _ _ he
                      have hfin : (Builtin.append_ #[st, xt] ty #[.slice (some ⟨en.blk, en.sh + 0, none⟩) len c', rx]).run P w = .ok (.slice (some ⟨en.blk, en.sh + 0, none⟩) (len + n) c')
                          { w with heap := w.heap.setIfInBounds en.blk (.cells (c.toList.take (len * size + 0) ++ us ++ c.toList.drop (len * size + 0 + us.length)).toArray t (0, 0)) } := by
                        rw [hrun, if_pos hfit]
                        simp only [Sem.run_bind, f1, Result.andThen_ok, Sem.run_pure, add_none]
                        rw [show en.sh + 0 + len * size = len * size by omega, hst]
                        simp only [Result.andThen_ok]
                      refine ⟨ext ρ A.n en, _, _, hfin, .sliceU _ _ _ _ _ _ (ext_same _ _ _) rfl q1 hfit q3, Step.regrow hr he hw hl _ _ ?_⟩
                      · refine ⟨_, t, (0, 0), by rw [Array.getElem?_setIfInBounds_self_of_lt hlt], ?_, ?_, rfl, ?_, p6, p7⟩
                        · intro j v hj
                          rw [p6, Nat.zero_add, List.getElem?_toArray]
                          have hcl : cs.length ≤ c.toList.length := by
                            rcases Nat.lt_or_ge c.toList.length cs.length with hlt2 | hge
                            · obtain ⟨v', hv', _⟩ := p2 c.toList.length _ (List.getElem?_eq_getElem hlt2)
                              rw [p6, Nat.zero_add, Array.getElem?_eq_none (by simp)] at hv'; cases hv'
                            · exact hge
                          by_cases hjc : j < cs.length
                          · rw [List.getElem?_append_left hjc] at hj
                            obtain ⟨v', a1, a2⟩ := p2 j v hj
                            rw [p6, Nat.zero_add] at a1
                            refine ⟨v', ?_, a2.mono (ext_sub _ hr.none_n)⟩
                            rw [List.append_assoc, List.getElem?_append_left (by simp; simp at hcl; omega), List.getElem?_take, if_pos (by omega)]
                            simpa using a1
                          · rw [List.getElem?_append_right (by omega)] at hj
                            obtain ⟨v', a1, a2⟩ := f3.get hj
                            refine ⟨v', ?_, a2.mono (ext_sub _ hr.none_n)⟩
                            have htk : (c.toList.take (len * size + 0)).length = cs.length := by simp; simp at hcl; omega
                            have hju : j - cs.length < us.length := (List.getElem?_eq_some_iff.1 a1).1
                            rw [List.append_assoc, List.getElem?_append_right (by omega), htk, List.getElem?_append_left hju]
                            exact a1
                        · rw [List.all_append, p3, f5]; rfl
                        · rw [← p5]; simp; omega
                    · -- it grows
                      obtain ⟨e, i, z, _, _, _, _, hz, hrun⟩ := run_append_head (P := P) ht ty (some ⟨en.blk, en.sh + 0, none⟩) len c' n rx f2 (fun h => room_ok hb (by omega)) w
                      have hg : getCells cs 0 (len * size) = some cs := by
                        unfold getCells; rw [if_pos (by omega), List.drop_zero, hc2, List.take_length]
                      obtain ⟨os, o1, o2⟩ := run_row (P := P) (hr.drew (w.drawn + 1)) he hf hg
                      obtain ⟨k2, hk⟩ := run_grow (P := P) (e := e) (bytes := bytes) (size := size) (need := len + n) (sLen := len) (sCap := c') (n := n) (s := .slice (some ⟨en.blk, en.sh + 0, none⟩) len c') (z := z) (os := os) (us := us1) o1 d1
                      rw [if_neg hfit] at hrun
                      rw [hrun, hk]
                      have hkill := Step.kill hr b hl hw
                      obtain ⟨g1, g2⟩ := grow_push ((hkill.rel).drew (w.drawn + 1)) (rest := Builtin.zeroCells z.cells k2) (newCap := len + n + k2) (need := len + n) e (o2.append d3)
                        (by rw [List.all_append, row_scalar hr he hf, f5]; rfl) (by rw [List.length_append, f4, Nat.add_mul, hc2]) (by rw [zero_size hz]; congr 1; omega) (by omega) hsize
                      exact ⟨_, _, _, rfl, g1, (hkill.trans (Step.drew hkill.rel (w.drawn + 1))).trans g2⟩
                  · cases h
                · cases h
          · cases h
      · cases h

end Go.AB

/-
  Maps.
-/
namespace Go.AB
open Go
set_option linter.unusedSimpArgs false
set_option linter.unusedVariables false

/-- the types of keys that the laws cover -/
def keyTy (P : Program) (k : TypeId) : Bool :=
  match P.underlying k with
  | some (.int _) | some .string | some .bool => true
  | _ => wideKey P k

theorem keyed {P : Program} (F : Fine P) {k : TypeId} (h : keyTy P k = true) : Go.Maps.Keyed P k := by
  unfold keyTy at h
  split at h
  · rename_i q hu; exact Go.Maps.int_keyed hu
  · rename_i hu; exact Go.Maps.string_keyed hu
  · rename_i hu; exact Go.Maps.bool_keyed hu
  · exact Go.Maps.Keyed.of_law (wide_law F h)

def mapOf (P : Program) (t : TypeId) : Option (TypeId × TypeId) := match P.underlying t with | some (.map k e) => some (k, e) | _ => none
theorem mapOf_some {P : Program} {t : TypeId} {x : TypeId × TypeId} (h : mapOf P t = some x) : P.underlying t = some (.map x.1 x.2) := by
  unfold mapOf at h; split at h <;> first | (cases h; assumption) | cases h

/-- the first entry with a key -/
def afind (k : Value) : List MapEntry → Nat → Option (Nat × Value)
  | [], _ => none
  | e :: es, i => if veq e.key k then some (i, e.val) else afind k es (i + 1)

theorem afind_some {k : Value} : ∀ {es : List MapEntry} {i j : Nat} {v : Value}, afind k es i = some (j, v) →
    ∃ n e, j = i + n ∧ es[n]? = some e ∧ e.key = k ∧ e.val = v
  | [], _, _, _, h => by simp [afind] at h
  | e :: es, i, j, v, h => by
    simp only [afind] at h
    split at h
    · rename_i hk; cases h; exact ⟨0, e, rfl, rfl, veq_eq hk, rfl⟩
    · obtain ⟨n, e', h1, h2, h3, h4⟩ := afind_some h
      exact ⟨n + 1, e', by omega, by simpa using h2, h3, h4⟩
theorem afind_none {k : Value} (hk : veq k k = true) : ∀ {es : List MapEntry} {i : Nat}, afind k es i = none → ∀ e ∈ es, e.key ≠ k
  | [], _, _, e, he => by simp at he
  | e :: es, i, h, e', he => by
    simp only [afind] at h
    split at h
    · cases h
    · rename_i hn
      rcases List.mem_cons.1 he with rfl | he
      · intro hc; rw [hc] at hn; exact hn hk
      · exact afind_none hk h e' he

/-- the zero value of a type -/
def zval (P : Program) (t : TypeId) : Option Value :=
  match (P.info? t).bind (·.zero) with
  | some (.agg c) => if c.toList.all plain1 then some (.agg c) else none
  | some z => if plain1 z then some z else none
  | none => none

theorem zval_run {P : Program} {t : TypeId} {z : Value} (h : zval P t = some z) : (∀ w, (zeroValue t).run P w = .ok z w) ∧ ∀ ρ, VR ρ z z := by
  have key : ∀ z', (P.info? t).bind (·.zero) = some z' → ∀ w, (zeroValue t).run P w = .ok z' w := by
    intro z' hz w
    cases hi : P.info? t with
    | none => rw [hi] at hz; cases hz
    | some i => rw [hi] at hz; simp at hz; simp [zeroValue, typeInfo, hi, hz]
  unfold zval at h
  split at h
  · rename_i c hz
    split at h
    · rename_i hall; cases h
      refine ⟨key _ hz, fun ρ => ?_⟩
      have := (plainL_self (ρ := ρ) hall).agg
      simpa using this
    · cases h
  · rename_i z' hn hz
    split at h
    · rename_i hp; cases h; exact ⟨key _ hz, fun ρ => plain1_self hp⟩
    · cases h
  · cases h

theorem veq1_self {ρ : Rho} {a : Value} (h : veq1 a a = true) : VR ρ a a := by
  cases a <;> simp [veq1] at h <;> first | exact .bool _ | exact .int _ _ | exact .string _
theorem veq_self {ρ : Rho} {a : Value} (h : veq a a = true) : VR ρ a a := by
  cases a with
  | agg x =>
    have hl : VL ρ x.toList x.toList := ⟨rfl, fun i v v' h1 h2 => by
      rw [h1] at h2; cases h2
      exact veq1_self (veqL_mem h v (List.mem_of_getElem? h1))⟩
    simpa using hl.agg
  | _ => exact veq1_self h

def akeysOk (P : Program) (kt : TypeId) (es : List MapEntry) : Bool := es.all fun e => keyOk P kt e.key

/-- the key is looked for -/
theorem run_find {P : Program} (F : Fine P) {ρ : Rho} {kt : TypeId} {k : Value} {es : List MapEntry} {ents : Array MapEntry} {clock : Nat} (hkt : keyTy P kt = true)
    (hk : keyOk P kt k = true) (hes : akeysOk P kt es = true) (hm : MapR ρ es ents clock) (w : World) :
    (∀ em, (Instr.checkKey em 10000 kt k).run P w = .ok () w) ∧
    (Instr.keyThatStays k k).run P w = .ok k w ∧
    (match afind k es 0 with
      | none => (Instr.findKey kt k ents.toList).run P w = .ok none w
      | some (i, v) => ∃ v', (Instr.findKey kt k ents.toList).run P w = .ok (some (i, v')) w ∧ VR ρ v v' ∧ ∃ en, ents[i]? = some en ∧ en.key = k ∧ en.val = v') := by
  have K := keyed F hkt
  unfold keyOk at hk
  simp only [Bool.and_eq_true, Option.isSome_iff_exists] at hk
  obtain ⟨⟨l, hl⟩, hv⟩ := hk
  refine ⟨fun em => K.check w em hl, K.stays w hl, ?_⟩
  have hlen : ents.toList.length = es.length := by simp [hm.size]
  have pair : ∀ (i : Nat) (en : MapEntry), ents.toList[i]? = some en → ∃ a, es[i]? = some a ∧ en.key = a.key ∧ VR ρ a.val en.val := by
    intro i en hi
    have hlt : i < es.length := by rw [← hlen]; exact (List.getElem?_eq_some_iff.1 hi).1
    obtain ⟨a, ha⟩ : ∃ a, es[i]? = some a := ⟨_, List.getElem?_eq_getElem hlt⟩
    obtain ⟨x, _, z⟩ := hm.each i a en ha (by simpa using hi)
    exact ⟨a, ha, x, z⟩
  have hall : ∀ e ∈ ents.toList, ∃ l, keyOf P kt e.key = some l := by
    intro e he
    obtain ⟨i, hi⟩ := List.getElem?_of_mem he
    obtain ⟨a, ha, hka, _⟩ := pair i e hi
    unfold akeysOk at hes
    have := List.all_eq_true.1 hes a (List.mem_of_getElem? ha)
    unfold keyOk at this
    simp only [Bool.and_eq_true, Option.isSome_iff_exists] at this
    rw [hka]; exact this.1
  rcases K.find w hl ents.toList hall with ⟨h1, h2⟩ | ⟨j, e, h1, h2, h3⟩
  · have hnone : afind k es 0 = none := by
      cases hf : afind k es 0 with
      | none => rfl
      | some x =>
        obtain ⟨n, a, _, g2, g3, _⟩ := afind_some (j := x.1) (v := x.2) hf
        have hlt : n < ents.toList.length := by rw [hlen]; exact (List.getElem?_eq_some_iff.1 g2).1
        obtain ⟨a', ha', hka, _⟩ := pair n _ (List.getElem?_eq_getElem hlt)
        rw [g2] at ha'; cases ha'
        exact absurd (hka.trans g3) (h2 _ (List.getElem_mem hlt))
    rw [hnone]
    exact h1
  · obtain ⟨a, ha, hka, hva⟩ := pair j e h2
    cases hf : afind k es 0 with
    | none =>
      have := afind_none hv hf a (List.mem_of_getElem? ha)
      exact absurd (hka.symm.trans h3) this
    | some x =>
      obtain ⟨n, b, g1, g2, g3, g4⟩ := afind_some (j := x.1) (v := x.2) hf
      have hnj : n = j := hm.keys n j b a g2 ha (by rw [g3, ← hka, h3])
      subst hnj
      have hab : b = a := by rw [g2] at ha; exact Option.some.inj ha
      subst hab
      have hx : x = (n, b.val) := by cases x; simp at g1 g4; simp [g1, g4]
      rw [hx]
      exact ⟨e.val, h1, hva, e, by simpa using h2, h3, rfl⟩

def aentries (A : AHeap) (x : Value) : Option (List MapEntry) :=
  match x with
  | .map none => some []
  | .map (some r) => match A.f r with
    | some (.map es _) => some es
    | _ => none
  | _ => none

def alookup (P : Program) (A : AHeap) (t : TypeId) (x ix : Value) (ok : Bool) : Option Value :=
  match mapOf P t with
  | none => none
  | some (kt, et) => match aentries A x with
    | none => none
    | some es =>
      if keyTy P kt && keyOk P kt ix && akeysOk P kt es then
        match afind ix es 0 with
        | some (_, v) => some (if ok then .tuple ⟨[v, .bool true]⟩ else v)
        | none => (zval P et).map fun z => if ok then .tuple ⟨[z, .bool false]⟩ else z
      else none

theorem lookup_sound {P : Program} (F : Fine P) {ρ : Rho} {A : AHeap} {w : World} {t : TypeId} {x ix rx rix v : Value} {ok : Bool} (hr : Rel ρ A w) (hx : VR ρ x rx) (hix : VR ρ ix rix)
    (h : alookup P A t x ix ok = some v) : ∃ r, (Instr.lookup t rx rix ok).run P w = .ok r w ∧ VR ρ v r := by
  unfold alookup at h
  split at h
  · cases h
  · rename_i kt et hm
    split at h
    · cases h
    · rename_i es hes
      split at h
      · rename_i hc
        simp only [Bool.and_eq_true] at hc
        have hrix : rix = ix := veq_VR (by have := hc.1.2; unfold keyOk at this; simp only [Bool.and_eq_true] at this; exact this.2) hix
        subst hrix
        have hent : ∃ ents clock, MapR ρ es ents clock ∧ ((rx = .map none ∧ ents = #[]) ∨ ∃ b, rx = .map (some b) ∧ w.heap[b]? = some (.map ents clock)) := by
          unfold aentries at hes
          split at hes
          · cases hes; cases hx
            exact ⟨#[], 0, ⟨rfl, fun i a en h => by simp at h, fun i j a b h => by simp at h, fun i j a b h => by simp at h, fun i a h => by simp at h, fun i a h => by simp at h⟩, .inl ⟨rfl, rfl⟩⟩
          · obtain ⟨e, he, rfl⟩ := hx.map_inv
            split at hes
            · rename_i es' clock hf
              cases hes
              obtain ⟨ents, h1, h2⟩ := map_obj hr he hf
              exact ⟨ents, clock, h2, .inr ⟨_, rfl, h1⟩⟩
            · cases hes
          · cases hes
        obtain ⟨ents, clock, hmr, hrun⟩ := hent
        obtain ⟨g1, _, g3⟩ := run_find F hc.1.1 hc.1.2 hc.2 hmr w
        split at h
        · rename_i i v0 hfi
          rw [hfi] at g3
          obtain ⟨v', k1, k2, _⟩ := g3
          cases h
          refine ⟨if ok then .tuple #[v', .bool true] else v', ?_, ?_⟩
          · simp only [Instr.lookup, Sem.run_bind, run_und (mapOf_some hm), Result.andThen_ok]
            rcases hrun with ⟨rfl, rfl⟩ | ⟨b, rfl, h1⟩
            · simp only [Result.andThen_ok, Sem.run_bind, g1, k1, Sem.run_pure]
            · simp only [Result.andThen_ok, Sem.run_bind, getMap h1, g1, k1, Sem.run_pure]
          · cases ok
            · exact k2
            · exact VL.tuple (.cons k2 (.cons (.bool true) .nil))
        · rename_i hfi
          rw [hfi] at g3
          cases hz : zval P et with
          | none => rw [hz] at h; cases h
          | some z =>
            rw [hz] at h; cases h
            obtain ⟨z1, z2⟩ := zval_run hz
            refine ⟨if ok then .tuple #[z, .bool false] else z, ?_, ?_⟩
            · simp only [Instr.lookup, Sem.run_bind, run_und (mapOf_some hm), Result.andThen_ok]
              rcases hrun with ⟨rfl, rfl⟩ | ⟨b, rfl, h1⟩
              · simp only [Result.andThen_ok, Sem.run_bind, g1, g3, z1, Sem.run_pure]
              · simp only [Result.andThen_ok, Sem.run_bind, getMap h1, g1, g3, z1, Sem.run_pure]
            · cases ok
              · exact z2 ρ
              · exact VL.tuple (.cons (z2 ρ) (.cons (.bool false) .nil))
      · cases h

/-- an entry's value set at a place -/
def setVal (es : List MapEntry) (i : Nat) (v : Value) : List MapEntry := es.modify i fun e => { e with val := v }

theorem map_step {ρ : Rho} {A : AHeap} {w : World} {i clock clock' : Nat} {e : Ent} {es es' : List MapEntry} {ents' : Array MapEntry} (h : Rel ρ A w) (he : ρ i = some e)
    (hf : A.f i = some (.map es clock)) (hm : MapR ρ es' ents' clock') :
    Step ρ A w ρ (A.set i (.map es' clock')) { w with heap := w.heap.setIfInBounds e.blk (.map ents' clock') } :=
  Step.set h he _ _ (by unfold writable; rw [hf]; trivial) ⟨ents', Array.getElem?_setIfInBounds_self_of_lt (h.bnd _ _ he), hm⟩

theorem MapR.setVal {ρ : Rho} {es : List MapEntry} {ents : Array MapEntry} {clock : Nat} (h : MapR ρ es ents clock) (i : Nat) {k v v' : Value} (hv : VR ρ v v')
    {en : MapEntry} (hen : ents[i]? = some en) (hk : en.key = k) : MapR ρ (setVal es i v) (ents.modify i fun e => { e with key := k, val := v' }) clock := by
  have hget : ∀ (j : Nat) (a : MapEntry), (AB.setVal es i v)[j]? = some a → ∃ a0, es[j]? = some a0 ∧ a.key = a0.key ∧ a.born = a0.born ∧ a.val = if i = j then v else a0.val := by
    intro j a ha
    unfold AB.setVal at ha
    rw [List.getElem?_modify] at ha
    cases ho : es[j]? with
    | none => rw [ho] at ha; cases ha
    | some a0 =>
      rw [ho] at ha
      have ha := Option.some.inj ha
      refine ⟨a0, rfl, ?_⟩
      subst ha
      by_cases hij : i = j <;> simp [hij]
  refine ⟨by simp [AB.setVal, h.size], ?_, ?_, ?_, ?_, ?_⟩
  · intro j a e ha hej
    obtain ⟨a0, g1, g2, g3, g4⟩ := hget j a ha
    rw [Array.getElem?_modify] at hej
    by_cases hij : i = j
    · subst hij
      rw [if_pos rfl, hen] at hej
      simp only [Option.map_some, Option.some.injEq] at hej
      subst hej
      obtain ⟨x, y, _⟩ := h.each i a0 en g1 hen
      rw [if_pos rfl] at g4
      exact ⟨by simp only; rw [g2, ← x, hk], by simp only; rw [g3, ← y], by simp only; rw [g4]; exact hv⟩
    · rw [if_neg hij] at hej
      obtain ⟨x, y, z⟩ := h.each j a0 e g1 hej
      rw [if_neg hij] at g4
      exact ⟨x.trans g2.symm, y.trans g3.symm, by rw [g4]; exact z⟩
  · intro j k a b ha hb hab
    obtain ⟨a0, g1, g2, _, _⟩ := hget j a ha
    obtain ⟨b0, k1, k2, _, _⟩ := hget k b hb
    exact h.keys j k a0 b0 g1 k1 (by rw [← g2, ← k2, hab])
  · intro j k a b ha hb hab
    obtain ⟨a0, g1, _, g3, _⟩ := hget j a ha
    obtain ⟨b0, k1, _, k3, _⟩ := hget k b hb
    exact h.born j k a0 b0 g1 k1 (by rw [← g3, ← k3, hab])
  · intro j a ha
    obtain ⟨a0, g1, _, g3, _⟩ := hget j a ha
    rw [g3]; exact h.clock j a0 g1
  · intro j a ha ρ'
    obtain ⟨a0, g1, g2, _, _⟩ := hget j a ha
    rw [g2]; exact h.self j a0 g1 ρ'

theorem MapR.push {ρ : Rho} {es : List MapEntry} {ents : Array MapEntry} {clock : Nat} (h : MapR ρ es ents clock) {k v v' : Value} (hv : VR ρ v v')
    (hk : ∀ e ∈ es, e.key ≠ k) (hself : ∀ ρ', VR ρ' k k) : MapR ρ (es ++ [⟨k, v, clock⟩]) (ents.push ⟨k, v', clock⟩) (clock + 1) := by
  have hget : ∀ (j : Nat) (a : MapEntry), (es ++ [(⟨k, v, clock⟩ : MapEntry)])[j]? = some a → es[j]? = some a ∨ (j = es.length ∧ a = ⟨k, v, clock⟩) := by
    intro j a ha
    rw [List.getElem?_append] at ha
    split at ha
    · exact .inl ha
    · rename_i hj
      right
      have : j - es.length = 0 := by
        have := (List.getElem?_eq_some_iff.1 ha).1
        simp at this; omega
      rw [this] at ha
      simp at ha
      exact ⟨by omega, ha.symm⟩
  refine ⟨by simp [h.size], ?_, ?_, ?_, ?_, ?_⟩
  · intro j a e ha he
    rw [Array.getElem?_push] at he
    rcases hget j a ha with h1 | ⟨h1, h2⟩
    · have hlt : j < es.length := (List.getElem?_eq_some_iff.1 h1).1
      rw [if_neg (by rw [h.size]; omega)] at he
      exact h.each j a e h1 he
    · rw [if_pos (by rw [h.size]; exact h1)] at he
      cases he; subst h2
      exact ⟨rfl, rfl, hv⟩
  · intro i j a b ha hb hab
    rcases hget i a ha with h1 | ⟨h1, h2⟩ <;> rcases hget j b hb with k1 | ⟨k1, k2⟩
    · exact h.keys i j a b h1 k1 hab
    · subst k2; exact absurd hab (hk a (List.mem_of_getElem? h1))
    · subst h2; exact absurd hab.symm (hk b (List.mem_of_getElem? k1))
    · omega
  · intro i j a b ha hb hab
    rcases hget i a ha with h1 | ⟨h1, h2⟩ <;> rcases hget j b hb with k1 | ⟨k1, k2⟩
    · exact h.born i j a b h1 k1 hab
    · subst k2; have := h.clock i a h1; simp at hab; omega
    · subst h2; have := h.clock j b k1; simp at hab; omega
    · omega
  · intro i a ha
    rcases hget i a ha with h1 | ⟨h1, h2⟩
    · have := h.clock i a h1; omega
    · subst h2; simp
  · intro i a ha ρ'
    rcases hget i a ha with h1 | ⟨h1, h2⟩
    · exact h.self i a h1 ρ'
    · subst h2; exact hself ρ'

def amapUpdate (P : Program) (A : AHeap) (t : TypeId) (x k v : Value) : Option AHeap :=
  match mapOf P t, x with
  | some (kt, _), .map (some r) => match A.f r with
    | some (.map es clock) =>
      if keyTy P kt && keyOk P kt k && akeysOk P kt es then
        match afind k es 0 with
        | some (i, _) => some (A.set r (.map (setVal es i v) clock))
        | none => some (A.set r (.map (es ++ [⟨k, v, clock⟩]) (clock + 1)))
      else none
    | _ => none
  | _, _ => none

theorem mapUpdate_sound {P : Program} (F : Fine P) {ρ : Rho} {A A' : AHeap} {w : World} {t : TypeId} {x k v rx rk rv : Value} (hr : Rel ρ A w) (hx : VR ρ x rx) (hk : VR ρ k rk) (hv : VR ρ v rv)
    (h : amapUpdate P A t x k v = some A') : ∃ w', (Instr.mapUpdate t rx rk rv).run P w = .ok () w' ∧ Step ρ A w ρ A' w' := by
  unfold amapUpdate at h
  split at h
  · rename_i kt et r hm
    obtain ⟨e, he, rfl⟩ := hx.map_inv
    split at h
    · rename_i es clock hf
      split at h
      · rename_i hc
        simp only [Bool.and_eq_true] at hc
        have hrk : rk = k := veq_VR (by have := hc.1.2; unfold keyOk at this; simp only [Bool.and_eq_true] at this; exact this.2) hk
        subst hrk
        obtain ⟨ents, h1, h2⟩ := map_obj hr he hf
        obtain ⟨g1, g2, g3⟩ := run_find F hc.1.1 hc.1.2 hc.2 h2 w
        split at h
        · rename_i i v0 hfi
          rw [hfi] at g3
          obtain ⟨v', k1, _, en, k3, k4, _⟩ := g3
          cases h
          refine ⟨_, ?_, map_step hr he hf (h2.setVal i hv k3 k4)⟩
          simp only [Instr.mapUpdate, Sem.run_bind, run_und (mapOf_some hm), Result.andThen_ok, getMap h1, g1, k1, k3, Option.map_some, Option.getD_some, k4, g2, setMap _ h1]
        · rename_i hfi
          rw [hfi] at g3
          cases h
          have hvk : veq rk rk = true := by have := hc.1.2; unfold keyOk at this; simp only [Bool.and_eq_true] at this; exact this.2
          refine ⟨_, ?_, map_step hr he hf (h2.push hv (afind_none hvk hfi) fun ρ' => veq_self hvk)⟩
          simp only [Instr.mapUpdate, Sem.run_bind, run_und (mapOf_some hm), Result.andThen_ok, getMap h1, g1, g3, setMap _ h1]
      · cases h
    · cases h
  · cases h

end Go.AB

/-
  Maps: entries, deleting, ranging. Clearing a slice. min.
-/
namespace Go.AB
open Go
set_option linter.unusedSimpArgs false
set_option linter.unusedVariables false

theorem keyOk_veq {P : Program} {t : TypeId} {v : Value} (h : keyOk P t v = true) : veq v v = true := by
  unfold keyOk at h; simp only [Bool.and_eq_true] at h; exact h.2

def amapEntry (P : Program) (A : AHeap) (t : TypeId) (x k : Value) : Option (Value × AHeap) :=
  match mapOf P t, x with
  | some (kt, et), .map (some r) => match A.f r with
    | some (.map es clock) =>
      if keyTy P kt && keyOk P kt k && akeysOk P kt es then
        match afind k es 0 with
        | some (i, v) => (es[i]?).map fun e => (.tuple ⟨[v, goInt e.born]⟩, A.set r (.map (setVal es i v) clock))
        | none => (zval P et).map fun z => (.tuple ⟨[z, goInt clock]⟩, A.set r (.map (es ++ [⟨k, z, clock⟩]) (clock + 1)))
      else none
    | _ => none
  | _, _ => none

theorem mapEntry_sound {P : Program} (F : Fine P) {ρ : Rho} {A A' : AHeap} {w : World} {t : TypeId} {x k v rx rk : Value} (hr : Rel ρ A w) (hx : VR ρ x rx) (hk : VR ρ k rk)
    (h : amapEntry P A t x k = some (v, A')) : ∃ r w', (Instr.mapEntry t rx rk).run P w = .ok r w' ∧ VR ρ v r ∧ Step ρ A w ρ A' w' := by
  unfold amapEntry at h
  split at h
  · rename_i kt et r hm
    obtain ⟨e, he, rfl⟩ := hx.map_inv
    split at h
    · rename_i es clock hf
      split at h
      · rename_i hc
        simp only [Bool.and_eq_true] at hc
        have hrk : rk = k := veq_VR (keyOk_veq hc.1.2) hk
        subst hrk
        obtain ⟨ents, h1, h2⟩ := map_obj hr he hf
        obtain ⟨g1, g2, g3⟩ := run_find F hc.1.1 hc.1.2 hc.2 h2 w
        split at h
        · rename_i i v0 hfi
          rw [hfi] at g3
          obtain ⟨v', k1, kv, en, k3, k4, k5⟩ := g3
          cases hei : es[i]? with
          | none => rw [hei] at h; cases h
          | some a =>
            rw [hei] at h; cases h
            obtain ⟨_, hb, _⟩ := h2.each i a en hei k3
            have hmr := h2.setVal i kv k3 k4
            have hsame : (ents.modify i fun e => { e with key := rk, val := v' }) = ents.modify i fun e => { e with key := rk } := by
              apply Array.ext_getElem?
              intro j
              rw [Array.getElem?_modify, Array.getElem?_modify]
              by_cases hij : i = j
              · subst hij; rw [if_pos rfl, if_pos rfl, k3]; simp [← k5]
              · rw [if_neg hij, if_neg hij]
            rw [hsame] at hmr
            refine ⟨.tuple #[v', goInt a.born], _, ?_, VL.tuple (.cons kv (.cons (.int _ _) .nil)), map_step hr he hf hmr⟩
            simp only [Instr.mapEntry, Sem.run_bind, run_und (mapOf_some hm), Result.andThen_ok, getMap h1, g1, k1, k3, Option.map_some, Option.getD_some, k4, g2, setMap _ h1, hb, Sem.run_pure]
        · rename_i hfi
          rw [hfi] at g3
          cases hz : zval P et with
          | none => rw [hz] at h; cases h
          | some z =>
            rw [hz] at h; cases h
            obtain ⟨z1, z2⟩ := zval_run hz
            refine ⟨.tuple #[z, goInt clock], _, ?_, VL.tuple (.cons (z2 ρ) (.cons (.int _ _) .nil)), map_step hr he hf (h2.push (z2 ρ) (afind_none (keyOk_veq hc.1.2) hfi) fun ρ' => veq_self (keyOk_veq hc.1.2))⟩
            simp only [Instr.mapEntry, Sem.run_bind, run_und (mapOf_some hm), Result.andThen_ok, getMap h1, g1, g3, z1, setMap _ h1, Sem.run_pure]
      · cases h
    · cases h
  · cases h

def aentryStore (A : AHeap) (x stamp v : Value) : Option AHeap :=
  match x, stamp with
  | .map (some r), .int _ n => match A.f r with
    | some (.map es clock) => (es.findIdx? fun e => decide ((e.born : Int) = n)).map fun i => A.set r (.map (setVal es i v) clock)
    | _ => none
  | _, _ => none

theorem entryStore_sound {P : Program} {ρ : Rho} {A A' : AHeap} {w : World} {t : TypeId} {x k v rx rk rv : Value} (hr : Rel ρ A w) (hx : VR ρ x rx) (hk : VR ρ k rk) (hv : VR ρ v rv)
    (h : aentryStore A x k v = some A') : ∃ w', (Instr.entryStore t rx rk rv).run P w = .ok () w' ∧ Step ρ A w ρ A' w' := by
  unfold aentryStore at h
  split at h
  · rename_i r kd n
    obtain ⟨e, he, rfl⟩ := hx.map_inv
    cases hk
    split at h
    · rename_i es clock hf
      obtain ⟨ents, h1, h2⟩ := map_obj hr he hf
      cases hi : es.findIdx? fun e => decide ((e.born : Int) = n) with
      | none => rw [hi] at h; cases h
      | some i =>
        rw [hi] at h; cases h
        have hreal : ents.findIdx? (fun e => (e.born : Int) == n) = some i := by
          have hfl : ents.findIdx? (fun e => (e.born : Int) == n) = ents.toList.findIdx? (fun e => (e.born : Int) == n) := by cases ents; simp
          rw [hfl]
          rw [List.findIdx?_eq_some_iff_getElem] at hi ⊢
          obtain ⟨g1, g2, g3⟩ := hi
          have hlen : ents.toList.length = es.length := by simp [h2.size]
          have born : ∀ (j : Nat) (hj : j < es.length), (ents.toList[j]'(by omega)).born = es[j].born := by
            intro j hj
            have hj' : j < ents.size := by rw [h2.size]; exact hj
            have := (h2.each j es[j] ents[j] (List.getElem?_eq_getElem hj) (Array.getElem?_eq_getElem hj')).2.1
            simpa using this
          refine ⟨by omega, ?_, ?_⟩
          · rw [born i g1]; simpa using g2
          · intro j hj
            rw [born j (by omega)]
            simpa using g3 j hj
        obtain ⟨g1, _, _⟩ := List.findIdx?_eq_some_iff_getElem.1 hi
        have hlt : i < ents.size := by rw [h2.size]; exact g1
        have hmr := h2.setVal i hv (Array.getElem?_eq_getElem hlt) rfl
        have hsame : (ents.modify i fun e => { e with key := ents[i].key, val := rv }) = ents.modify i fun e => { e with val := rv } := by
          apply Array.ext_getElem?
          intro j
          rw [Array.getElem?_modify, Array.getElem?_modify]
          by_cases hij : i = j
          · subst hij; rw [if_pos rfl, if_pos rfl, Array.getElem?_eq_getElem hlt]; rfl
          · rw [if_neg hij, if_neg hij]
        rw [hsame] at hmr
        refine ⟨_, ?_, map_step hr he hf hmr⟩
        simp only [Instr.entryStore, Sem.run_bind, Sem.run_pure, Result.andThen_ok, getMap h1, asInt, asIntOf, hreal, setMap _ h1]
    · cases h
  · cases h

theorem MapR.erase {ρ : Rho} {es : List MapEntry} {ents : Array MapEntry} {clock : Nat} (h : MapR ρ es ents clock) (i : Nat) : MapR ρ (es.eraseIdx i) (ents.eraseIdxIfInBounds i) clock := by
  have hreal : ∀ (j : Nat), (ents.eraseIdxIfInBounds i)[j]? = if j < i then ents[j]? else ents[j + 1]? := by
    intro j
    rw [Array.eraseIdxIfInBounds_eq]
    split
    · rw [Array.getElem?_eraseIdx]
    · rename_i hn
      split
      · rfl
      · rw [Array.getElem?_eq_none (by omega), Array.getElem?_eq_none (by omega)]
  have habs : ∀ (j : Nat), (es.eraseIdx i)[j]? = if j < i then es[j]? else es[j + 1]? := fun j => List.getElem?_eraseIdx ..
  have place : ∀ (j : Nat) (a : MapEntry), (es.eraseIdx i)[j]? = some a → es[if j < i then j else j + 1]? = some a := by
    intro j a ha
    rw [habs] at ha
    by_cases hj : j < i
    · rw [if_pos hj] at ha ⊢; exact ha
    · rw [if_neg hj] at ha ⊢; exact ha
  have same : ∀ (j k : Nat), (if j < i then j else j + 1) = (if k < i then k else k + 1) → j = k := by
    intro j k hjk
    split at hjk <;> split at hjk <;> omega
  refine ⟨?_, ?_, ?_, ?_, ?_, fun j a ha ρ' => h.self _ a (place j a ha) ρ'⟩
  · rw [Array.eraseIdxIfInBounds_eq, List.length_eraseIdx, ← h.size]
    split
    · simp
    · rfl
  · intro j a en ha he
    rw [hreal] at he
    rw [habs] at ha
    split at ha
    · rename_i hj; rw [if_pos hj] at he; exact h.each _ a en ha he
    · rename_i hj; rw [if_neg hj] at he; exact h.each _ a en ha he
  · intro j k a b ha hb hab
    exact same j k (h.keys _ _ a b (place j a ha) (place k b hb) hab)
  · intro j k a b ha hb hab
    exact same j k (h.born _ _ a b (place j a ha) (place k b hb) hab)
  · intro j a ha
    exact h.clock _ a (place j a ha)

def adelete (P : Program) (A : AHeap) (t : TypeId) (x k : Value) : Option AHeap :=
  match mapOf P t, x with
  | some (kt, _), .map (some r) => match A.f r with
    | some (.map es clock) =>
      if keyTy P kt && keyOk P kt k && akeysOk P kt es then
        match afind k es 0 with
        | some (i, _) => some (A.set r (.map (es.eraseIdx i) clock))
        | none => some A
      else none
    | _ => none
  | _, _ => none

theorem delete_sound {P : Program} (F : Fine P) {ρ : Rho} {A A' : AHeap} {w : World} {t kt' ty : TypeId} {x k rx rk : Value} (hr : Rel ρ A w) (hx : VR ρ x rx) (hk : VR ρ k rk)
    (h : adelete P A t x k = some A') : ∃ w', (Builtin.delete_ #[t, kt'] ty #[rx, rk]).run P w = .ok (.tuple #[]) w' ∧ Step ρ A w ρ A' w' := by
  unfold adelete at h
  split at h
  · rename_i kt et r hm
    obtain ⟨e, he, rfl⟩ := hx.map_inv
    split at h
    · rename_i es clock hf
      split at h
      · rename_i hc
        simp only [Bool.and_eq_true] at hc
        have hrk : rk = k := veq_VR (keyOk_veq hc.1.2) hk
        subst hrk
        obtain ⟨ents, h1, h2⟩ := map_obj hr he hf
        obtain ⟨g1, g2, g3⟩ := run_find F hc.1.1 hc.1.2 hc.2 h2 w
        have hself : w.heap.setIfInBounds e.blk (.map ents clock) = w.heap := by
          apply Array.ext_getElem?
          intro j
          rw [Array.getElem?_setIfInBounds]
          split
          · rename_i hj; subst hj; rw [if_pos (hr.bnd _ _ he), h1]
          · rfl
        split at h
        · rename_i i v0 hfi
          rw [hfi] at g3
          obtain ⟨v', k1, _⟩ := g3
          cases h
          refine ⟨_, ?_, map_step hr he hf (h2.erase i)⟩
          simp only [Builtin.delete_, List.getElem?_toArray, List.getElem?_cons_zero, List.getElem?_cons_succ, Sem.run_bind, run_und (mapOf_some hm), Result.andThen_ok, getMap h1, g1, k1, setMap _ h1, Sem.run_pure]
        · rename_i hfi
          rw [hfi] at g3
          cases h
          refine ⟨w, ?_, Step.refl hr⟩
          simp only [Builtin.delete_, List.getElem?_toArray, List.getElem?_cons_zero, List.getElem?_cons_succ, Sem.run_bind, run_und (mapOf_some hm), Result.andThen_ok, getMap h1, g1, g3, setMap _ h1, Sem.run_pure, hself]
      · cases h
    · cases h
  · cases h

/-- clear of a slice -/
def aclear (P : Program) (A : AHeap) (t : TypeId) (x : Value) : Option AHeap :=
  match sliceOf P t with
  | none => none
  | some e => match x with
    | .slice none _ _ => some A
    | .slice (some ⟨b, o, none⟩) n c =>
      if n = 0 then some A else if c = ecap then none else
      match zcells P e, A.f b with
      | some z, some (.row cs k) => if k = .ro then none else (putCells cs o (List.replicate n z).flatten).map fun cs' => A.set b (.row cs' k)
      | _, _ => none
    | _ => none

theorem zero_list (z : Array Value) (n : Nat) : (Builtin.zeroCells z n).toList = (List.replicate n z.toList).flatten := by
  unfold Builtin.zeroCells
  apply List.ext_getElem?
  intro i
  have hl : (List.replicate n z.toList).flatten.length = n * z.size := by simp
  by_cases hi : i < n * z.size
  · have hz : 0 < z.size := by
      rcases Nat.eq_zero_or_pos z.size with h | h
      · rw [h] at hi; omega
      · exact h
    rw [Array.toList_map, List.getElem?_map, Array.toList_range, List.getElem?_range hi]
    simp only [Option.map_some]
    have hmod : i % z.size < z.size := Nat.mod_lt _ hz
    rw [getElem!_pos z (i % z.size) hmod]
    have : ∀ (n i : Nat), i < n * z.size → (List.replicate n z.toList).flatten[i]? = some (z[i % z.size]'(Nat.mod_lt _ hz)) := by
      intro n
      induction n with
      | zero => intro i hi; omega
      | succ n ih =>
        intro i hi
        rw [List.replicate_succ, List.flatten_cons, List.getElem?_append]
        rw [Array.length_toList]
        by_cases h : i < z.size
        · rw [if_pos h, Array.getElem?_toList, Array.getElem?_eq_getElem h]
          congr 1
          simp [Nat.mod_eq_of_lt h]
        · rw [if_neg h, ih _ (by rw [Nat.add_mul] at hi; omega)]
          congr 1
          have e1 : (i - z.size) % z.size = i % z.size := by
            conv => rhs; rw [show i = (i - z.size) + z.size by omega]
            rw [Nat.add_mod_right]
          simp only [e1]
    rw [this n i hi]
  · rw [List.getElem?_eq_none (by simp; omega), List.getElem?_eq_none (by omega)]

theorem clear_sound {P : Program} {ρ : Rho} {A A' : AHeap} {w : World} {t ty : TypeId} {x rx : Value} (hr : Rel ρ A w) (hx : VR ρ x rx) (h : aclear P A t x = some A') :
    ∃ w', (Builtin.clear_ #[t] ty #[rx]).run P w = .ok (.tuple #[]) w' ∧ Step ρ A w ρ A' w' := by
  unfold aclear at h
  split at h
  · cases h
  · rename_i e he
    split at h
    · cases h; cases hx
      refine ⟨w, ?_, Step.refl hr⟩
      simp only [Builtin.clear_, List.getElem?_toArray, List.getElem?_cons_zero, Sem.run_bind, run_und (sliceOf_some he), Result.andThen_ok, Sem.run_pure]
    · rename_i b o n c
      split at h
      · rename_i hn; subst hn; cases h
        have : ∃ a' c', rx = .slice (some a') 0 c' := by
          cases hx with
          | slice i o q n c e h hq hc => exact ⟨_, _, rfl⟩
          | sliceU i o q n c e h hq h1 h2 h3 => exact ⟨_, _, rfl⟩
          | sliceE a a' c => exact ⟨_, _, rfl⟩
        obtain ⟨a', c', rfl⟩ := this
        refine ⟨w, ?_, Step.refl hr⟩
        simp only [Builtin.clear_, List.getElem?_toArray, List.getElem?_cons_zero, Sem.run_bind, run_und (sliceOf_some he), Result.andThen_ok, Sem.run_pure]
      · rename_i hn
        split at h
        · cases h
        · rename_i hc
          obtain ⟨en, c', hen, rfl, _, _, _⟩ := hx.slice_inv hc
          split at h
          · rename_i z cs k hz hf
            split at h
            · cases h
            · rename_i hk
              cases hp : putCells cs o (List.replicate n z).flatten with
              | none => rw [hp] at h; cases h
              | some cs' =>
                rw [hp] at h; cases h
                obtain ⟨zv, h1, h2, _, h4⟩ := zcells_run hz w
                have hall : ((List.replicate n z).flatten).all plain1 = true := by
                  rw [List.all_flatten, List.all_eq_true]
                  intro x hx'
                  rw [(List.mem_replicate.1 hx').2]; exact h4
                have hzl : (Builtin.zeroCells zv.cells n).toList = (List.replicate n z).flatten := by rw [zero_list, h2]
                obtain ⟨w', g1, g2⟩ := run_put (P := P) hr hen hf hk hp (plainL_self hall) (vl_one (plainL_self (ρ := ρ) hall) (plainL_scalar hall)) (plainL_scalar hall)
                refine ⟨w', ?_, g2⟩
                obtain ⟨m, rfl⟩ : ∃ m, n = m + 1 := ⟨n - 1, by omega⟩
                simp only [Builtin.clear_, List.getElem?_toArray, List.getElem?_cons_zero, Sem.run_bind, run_und (sliceOf_some he), Result.andThen_ok, h1, hzl, g1, Sem.run_pure]
          · cases h
    · cases h

def amakeMap (P : Program) (A : AHeap) (t : TypeId) (hint : Option Value) : Option (Value × AHeap) :=
  match hint with
  | none => some (.map (some A.n), A.push (.map [] 0))
  | some (.int _ _) => match mapOf P t with
    | some _ => some (.map (some A.n), A.push (.map [] 0))
    | none => none
  | _ => none

theorem MapR.nil (ρ : Rho) : MapR ρ [] #[] 0 :=
  ⟨rfl, fun i a en h => by simp at h, fun i j a b h => by simp at h, fun i j a b h => by simp at h, fun i a h => by simp at h, fun i a h => by simp at h⟩

theorem makeMap_sound {P : Program} {ρ : Rho} {A A' : AHeap} {w : World} {t : TypeId} {hint rhint : Option Value} {v : Value} (hr : Rel ρ A w) (hx : VO ρ hint rhint)
    (h : amakeMap P A t hint = some (v, A')) : ∃ ρ' r w', (Instr.makeMap t rhint).run P w = .ok r w' ∧ VR ρ' v r ∧ Step ρ A w ρ' A' w' := by
  have hnew := Step.push hr (.map [] 0) (.map #[] 0) 0 0 ⟨#[], by simp, MapR.nil _⟩
  have hv : VR (ext ρ A.n ⟨w.heap.size, 0, 0, 0⟩) (.map (some A.n)) (.map (some w.heap.size)) := .map _ _ (ext_same _ _ _)
  unfold amakeMap at h
  split at h
  · cases rhint with
    | some _ => exact hx.elim
    | none =>
      cases h
      exact ⟨_, _, _, by simp [Instr.makeMap], hv, hnew⟩
  · cases rhint with
    | none => exact hx.elim
    | some r =>
      have hx : VR ρ (.int _ _) r := hx
      cases hx
      split at h
      · rename_i x hm
        cases h
        exact ⟨_, _, _, by simp [Instr.makeMap, run_und (mapOf_some hm), asInt, asIntOf], hv, hnew⟩
      · cases h
  · cases h

/-! ### ranging over maps and strings -/
def arange (P : Program) (A : AHeap) (t : TypeId) (x : Value) : Option (Value × AHeap) :=
  match P.underlying t, x with
  | some .string, .string s => some (.pointer (some ⟨A.n, 0, none⟩), A.push (.siter s 0))
  | some (.map _ _), .map (some m) => match A.f m with
    | some (.map _ clock) => some (.pointer (some ⟨A.n, 0, none⟩), A.push (.iter m clock [] clock))
    | _ => none
  | _, _ => none

theorem range_sound {P : Program} {ρ : Rho} {A A' : AHeap} {w : World} {t : TypeId} {x rx v : Value} (hr : Rel ρ A w) (hx : VR ρ x rx)
    (h : arange P A t x = some (v, A')) : ∃ ρ' r w', (Instr.range t rx).run P w = .ok r w' ∧ VR ρ' v r ∧ Step ρ A w ρ' A' w' := by
  unfold arange at h
  split at h
  · rename_i s hu; cases hx; cases h
    refine ⟨_, .pointer (some ⟨w.heap.size, 0, none⟩), _, ?_, ptr_new _ _ _ rfl, Step.push hr (.siter s 0) (.stringIter s 0) 0 0 ⟨by show (w.heap.push _)[w.heap.size]? = _; simp, rfl⟩⟩
    simp [Instr.range, run_und hu]
  · rename_i k e m hu
    obtain ⟨em, hm, rfl⟩ := hx.map_inv
    split at h
    · rename_i es clock hf
      cases h
      obtain ⟨ents, h1, h2⟩ := map_obj hr hm hf
      refine ⟨_, .pointer (some ⟨w.heap.size, 0, none⟩), _, ?_, ptr_new _ _ _ rfl,
        Step.push hr (.iter m clock [] clock) (.mapIter (some em.blk) clock #[] clock) 0 0 ⟨em, ext_sub _ hr.none_n _ _ hm, by simp, rfl⟩⟩
      simp only [Instr.range, Sem.run_bind, run_und hu, Result.andThen_ok, getMap h1, Sem.run_pure, run_newObj]
    · cases h
  · cases h

/-- what a map's iterator has left -/
def left (es : List MapEntry) (seen : List Nat) : List MapEntry := es.filter fun e => !seen.contains e.born

/-- the next step of an iterator over a map that has got no new entries since: any of what is left -/
def anextMap (A : AHeap) (it : Value) : Option (Nat × Nat × Nat × List Nat × Nat × List MapEntry × Nat) :=
  match it with
  | .pointer (some ⟨r, 0, none⟩) => match A.f r with
    | some (.iter m since seen last) => match A.f m with
      | some (.map es clock) => if clock = since && last = since then some (r, m, since, seen, last, es, clock) else none
      | _ => none
    | _ => none
  | _ => none

/-- what may come of it -/
inductive NextMap (A : AHeap) (r m since : Nat) (seen : List Nat) (es : List MapEntry) : Value → AHeap → Prop
  | over (h : left es seen = []) : NextMap A r m since seen es (.tuple ⟨[.bool false]⟩) A
  | one (e : MapEntry) (h : e ∈ left es seen) : NextMap A r m since seen es (.tuple ⟨[.bool true, e.key, e.val]⟩) (A.set r (.iter m since (seen ++ [e.born]) since))

theorem filter_array {α : Type} (p : α → Bool) (a : Array α) : a.filter p = (a.toList.filter p).toArray := by
  cases a; simp

theorem isEmpty_mk {α : Type} (l : List α) : (⟨l⟩ : Array α).isEmpty = l.isEmpty := by cases l <;> simp

theorem nextMap_sound {P : Program} {ρ : Rho} {A : AHeap} {w : World} {it rit : Value} {r m since last clock : Nat} {seen : List Nat} {es : List MapEntry} (hr : Rel ρ A w) (hx : VR ρ it rit)
    (h : anextMap A it = some (r, m, since, seen, last, es, clock)) (ty : TypeId) :
    ∃ v A' r' w', NextMap A r m since seen es v A' ∧ (Instr.next rit false ty).run P w = .ok r' w' ∧ VR ρ v r' ∧ Step ρ A w ρ A' w' := by
  unfold anextMap at h
  split at h
  · rename_i r0
    obtain ⟨e, he, rfl⟩ := hx.ptr_inv
    split at h
    · rename_i m0 since0 seen0 last0 hf
      split at h
      · rename_i es0 clock0 hfm
        split at h
        · rename_i hc
          simp only [Bool.and_eq_true, decide_eq_true_eq] at hc
          obtain ⟨rfl, rfl⟩ := hc
          cases h
          obtain ⟨ob, g1, g2⟩ := hr.obj _ _ he
          rw [hf] at g1; cases g1
          obtain ⟨em, g3, g4, gsh⟩ := g2
          obtain ⟨ents, g5, g6⟩ := map_obj hr g3 hfm
          -- the real entries that are left, against the abstract ones
          let rl : List MapEntry := ents.toList.filter fun e => !(⟨seen⟩ : Array Nat).contains e.born
          have toAbs : ∀ e' ∈ rl, ∃ a ∈ left es seen, e'.key = a.key ∧ e'.born = a.born ∧ VR ρ a.val e'.val ∧ e'.born < since := by
            intro e' he'
            obtain ⟨h1, h2⟩ := List.mem_filter.1 he'
            obtain ⟨i, hi⟩ := List.getElem?_of_mem h1
            have hlt : i < es.length := by
              have := (List.getElem?_eq_some_iff.1 hi).1
              rw [Array.length_toList, g6.size] at this; exact this
            obtain ⟨k1, k2, k3⟩ := g6.each i es[i] e' (List.getElem?_eq_getElem hlt) (by simpa using hi)
            refine ⟨es[i], List.mem_filter.2 ⟨List.getElem_mem hlt, ?_⟩, k1, k2, k3, ?_⟩
            · rw [← k2]; simpa using h2
            · rw [k2]; exact g6.clock i _ (List.getElem?_eq_getElem hlt)
          have toReal : ∀ a ∈ left es seen, ∃ e', e' ∈ rl := by
            intro a ha
            obtain ⟨h1, h2⟩ := List.mem_filter.1 ha
            obtain ⟨i, hi⟩ := List.getElem?_of_mem h1
            have hlt : i < ents.size := by
              have := (List.getElem?_eq_some_iff.1 hi).1
              rw [g6.size]; exact this
            obtain ⟨k1, k2, k3⟩ := g6.each i a ents[i] hi (Array.getElem?_eq_getElem hlt)
            refine ⟨ents[i], List.mem_filter.2 ⟨by simp, ?_⟩⟩
            rw [k2]; simpa using h2
          have hold : (ents.filter fun e => !(⟨seen⟩ : Array Nat).contains e.born).filter (fun e => decide (e.born < since)) = ⟨rl⟩ := by
            rw [filter_array, filter_array]
            congr 1
            rw [List.filter_eq_self]
            intro a ha
            obtain ⟨_, _, _, _, _, hlt⟩ := toAbs a ha
            simpa using hlt
          have hnew : (ents.filter fun e => !(⟨seen⟩ : Array Nat).contains e.born).filter (fun e => decide (e.born ≥ since)) = #[] := by
            rw [filter_array, filter_array]
            have : (rl.filter fun e => decide (e.born ≥ since)) = [] := by
              rw [List.filter_eq_nil_iff]
              intro a ha
              obtain ⟨_, _, _, _, _, hlt⟩ := toAbs a ha
              simp; omega
            show ((rl.toArray.toList).filter _).toArray = _
            rw [this]
          have hguard : (!(⟨seen⟩ : Array Nat).isEmpty && !ents.isEmpty && ents.all fun e => decide (e.born ≥ since)) = false := by
            cases hz : ents.isEmpty with
            | true => simp
            | false =>
              have hpos : 0 < ents.size := by
                rcases Nat.eq_zero_or_pos ents.size with h0 | h0
                · simp [Array.isEmpty, h0] at hz
                · exact h0
              have : (ents.all fun e => decide (e.born ≥ since)) = false := by
                rw [Bool.eq_false_iff]
                intro hall
                rw [Array.all_eq_true] at hall
                have h1 := hall 0 hpos
                have hlt : 0 < es.length := by rw [← g6.size]; exact hpos
                obtain ⟨_, k2, _⟩ := g6.each 0 es[0] ents[0] (List.getElem?_eq_getElem hlt) (Array.getElem?_eq_getElem hpos)
                have := g6.clock 0 _ (List.getElem?_eq_getElem hlt)
                simp at h1; omega
              simp [this]
          have hget : (getObj e.blk).run P w = .ok (.mapIter (some em.blk) since ⟨seen⟩ since) w := by simp [getObj, Sem.run, g4]
          have hset : ∀ (w' : World) (o : Obj), w'.heap = w.heap → (setObj e.blk o).run P w' = .ok () { w' with heap := w'.heap.setIfInBounds e.blk o } := by
            intro w' o hw'; simp [setObj, Sem.run, hw', g4]
          have hwr : writable A r := by unfold writable; rw [hf]; trivial
          have stepTo : ∀ (nd : Nat) (b : Nat), Step ρ A w ρ (A.set r (.iter m since (seen ++ [b]) since))
              { w with drawn := nd, heap := w.heap.setIfInBounds e.blk (.mapIter (some em.blk) since ((⟨seen⟩ : Array Nat).push b) since) } := by
            intro nd b
            refine (Step.drew hr nd).trans (Step.set (hr.drew nd) he _ _ hwr ?_)
            refine ⟨em, g3, ?_, gsh⟩
            rw [Array.getElem?_setIfInBounds_self_of_lt (hr.bnd _ _ he)]
            congr 2
            apply Array.ext'; simp
          have head : ∀ (nd : Nat), True := fun _ => trivial
          have hptr : (⟨e.blk, e.sh + 0, none⟩ : Addr) = ⟨e.blk, 0, none⟩ := by rw [gsh]
          have hrun : (Instr.next (.pointer (some ⟨e.blk, e.sh + 0, none⟩)) false ty).run P w =
              (do
                let candidates := (if rl.isEmpty then #[none] else #[]) ++ (⟨rl⟩ : Array MapEntry).map some
                match candidates[← choose (.mapNext candidates.size)]? with
                | some (some e') =>
                  setObj e.blk (.mapIter (some em.blk) since ((⟨seen⟩ : Array Nat).push e'.born) since)
                  pure (.tuple #[.bool true, e'.key, e'.val])
                | some none => pure (.tuple #[.bool false])
                | none => stuck "Next: no such candidate" : Sem Value).run P w := by
            rw [hptr]
            unfold Instr.next
            simp only [Sem.run_bind, Sem.run_pure, hget, Result.andThen_ok, getMap g5]
            rw [hguard]
            simp only [Bool.false_eq_true, if_false, Sem.run_bind, hold, hnew, Array.append_empty]
            simp only [isEmpty_mk]
            rfl
          cases hcase : rl with
          | nil =>
            rw [hcase] at hrun
            have hleft : left es seen = [] := by
              cases hl : left es seen with
              | nil => rfl
              | cons a l =>
                obtain ⟨e', he'⟩ := toReal a (by rw [hl]; simp)
                rw [hcase] at he'; simp at he'
            refine ⟨_, A, .tuple #[.bool false], w, .over hleft, ?_, VL.tuple (.cons (.bool false) .nil), Step.refl hr⟩
            rw [hrun]
            simp [Question.forced]
          | cons e0 rest =>
            have hcand : ((if rl.isEmpty then #[none] else #[]) ++ (⟨rl⟩ : Array MapEntry).map some) = (⟨rl.map some⟩ : Array (Option MapEntry)) := by
              rw [hcase]; apply Array.ext'; simp
            rw [hcand] at hrun
            have hlen : (⟨rl.map some⟩ : Array (Option MapEntry)).size = rl.length := by simp
            have hpos : 0 < rl.length := by rw [hcase]; simp
            obtain ⟨k, nd, hk, hch⟩ : ∃ k nd, k < rl.length ∧ (choose (.mapNext (⟨rl.map some⟩ : Array (Option MapEntry)).size)).run P w = .ok k { w with drawn := nd } := by
              rw [run_choose, hlen]
              by_cases hf1 : (Question.mapNext rl.length).forced = true
              · rw [if_pos hf1]; exact ⟨0, w.drawn, hpos, rfl⟩
              · rw [if_neg hf1]; exact ⟨_, _, Nat.mod_lt _ hpos, rfl⟩
            have hk2 : (⟨rl.map some⟩ : Array (Option MapEntry))[k]? = some (some rl[k]) := by
              simp [hk]
            obtain ⟨a, ha1, ha2, ha3, ha4, _⟩ := toAbs rl[k] (List.getElem_mem hk)
            refine ⟨_, _, .tuple #[.bool true, rl[k].key, rl[k].val], _, .one a ha1, ?_, ?_, stepTo nd a.born⟩
            · rw [hrun]
              simp only [Sem.run_bind, hch, Result.andThen_ok, hk2, hset { w with drawn := nd } _ rfl, Sem.run_pure, ha3]
            · rw [ha2]
              obtain ⟨i, hi⟩ := List.getElem?_of_mem (List.mem_filter.1 ha1).1
              exact VL.tuple (.cons (.bool true) (.cons (g6.self i a hi ρ) (.cons ha4 .nil)))
        · cases h
      · cases h
    · cases h
  · cases h

/-- the entry at which an iterator stands -/
def aentry (A : AHeap) (it : Value) : Option Value :=
  match it with
  | .pointer (some ⟨r, 0, none⟩) => match A.f r with
    | some (.iter m _ seen last) => match seen.getLast? with
      | some st => match A.f m with
        | some (.map es clock) => if clock = last then (es.find? fun e => e.born == st).map fun e => .tuple ⟨[e.key, e.val]⟩ else none
        | _ => none
      | none => none
    | _ => none
  | _ => none

theorem find_born {ρ : Rho} {st : Nat} : ∀ {es rs : List MapEntry}, es.length = rs.length → (∀ (i : Nat) (a en : MapEntry), es[i]? = some a → rs[i]? = some en → en.key = a.key ∧ en.born = a.born ∧ VR ρ a.val en.val) →
    ∀ {a : MapEntry}, es.find? (fun e => e.born == st) = some a → ∃ (i : Nat) (en : MapEntry), rs.find? (fun e => e.born == st) = some en ∧ es[i]? = some a ∧ en.key = a.key ∧ VR ρ a.val en.val
  | [], _, _, _, a, h => by simp at h
  | x :: es, [], hl, _, a, h => by simp at hl
  | x :: es, y :: rs, hl, hall, a, h => by
    obtain ⟨h1, h2, h3⟩ := hall 0 x y rfl rfl
    rw [List.find?_cons] at h ⊢
    rw [h2]
    split at h
    · cases h
      exact ⟨0, y, rfl, rfl, h1, h3⟩
    · obtain ⟨i, en, k1, k2, k3, k4⟩ := find_born (by simpa using hl) (fun i a en ha hen => hall (i + 1) a en (by simpa using ha) (by simpa using hen)) h
      exact ⟨i + 1, en, k1, by simpa using k2, k3, k4⟩

theorem entry_sound {P : Program} {ρ : Rho} {A : AHeap} {w : World} {it rit v : Value} (hr : Rel ρ A w) (hx : VR ρ it rit) (h : aentry A it = some v) :
    ∃ r, (Instr.entry rit).run P w = .ok r w ∧ VR ρ v r := by
  unfold aentry at h
  split at h
  · rename_i r0
    obtain ⟨e, he, rfl⟩ := hx.ptr_inv
    split at h
    · rename_i m since seen last hf
      split at h
      · rename_i st hst
        split at h
        · rename_i es clock hfm
          split at h
          · rename_i hc
            subst hc
            cases hfi : es.find? fun e => e.born == st with
            | none => rw [hfi] at h; cases h
            | some a =>
              rw [hfi] at h; cases h
              obtain ⟨ob, g1, g2⟩ := hr.obj _ _ he
              rw [hf] at g1; cases g1
              obtain ⟨em, g3, g4, gsh⟩ := g2
              obtain ⟨ents, g5, g6⟩ := map_obj hr g3 hfm
              obtain ⟨i, en, k1, k2, k3, k4⟩ := find_born (ρ := ρ) (es := es) (rs := ents.toList) (by rw [Array.length_toList]; exact g6.size.symm) (fun i a en ha hen => g6.each i a en ha (by simpa using hen)) hfi
              have hkey : VR ρ a.key en.key := by rw [k3]; exact g6.self i a k2 ρ
              refine ⟨.tuple #[en.key, en.val], ?_, VL.tuple (.cons hkey (.cons k4 .nil))⟩
              have hget : (getObj e.blk).run P w = .ok (.mapIter (some em.blk) since ⟨seen⟩ clock) w := by
                simp [getObj, Sem.run, g4]
              have hback : (⟨seen⟩ : Array Nat).back? = some st := by simpa [Array.back?, List.getLast?_eq_getElem?] using hst
              have hfind : ents.find? (fun e => e.born == st) = some en := by
                cases ents; simpa using k1
              simp only [Instr.entry, Sem.run_bind, gsh, Nat.add_zero, Result.andThen_ok, hget, hback, getMap g5, bne_self_eq_false, Bool.false_eq_true, if_false, hfind, Sem.run_pure]
          · cases h
        · cases h
      · cases h
    · cases h
  · cases h

end Go.AB

/-
  The operations, all together.
-/
namespace Go.AB
open Go
set_option linter.unusedSimpArgs false
set_option linter.unusedVariables false

abbrev Tm := Nat → Value
def upd (t : Tm) (i : Nat) (v : Value) : Tm := fun j => if j = i then v else t j
theorem upd_same (t : Tm) (i : Nat) (v : Value) : upd t i v i = v := by simp [upd]
theorem upd_other (t : Tm) {i j : Nat} (v : Value) (h : j ≠ i) : upd t i v j = t j := by simp [upd, h]

/-- a constant -/
def cst (v : Value) : Value :=
  match v with
  | .agg c => if c.toList.all plain1 then .agg c else top
  | .tuple ⟨[]⟩ => .tuple ⟨[]⟩
  | v => if plain1 v then v else top

theorem VL.self {ρ : Rho} {l : List Value} (h : l.all plain1 = true) : VL ρ l l := plainL_self h

theorem cst_VR (ρ : Rho) (v : Value) : VR ρ (cst v) v := by
  unfold cst
  split
  · rename_i c
    split
    · rename_i h
      have := (plainL_self (ρ := ρ) h).agg
      simpa using this
    · exact .top _
  · exact VL.tuple .nil
  · split
    · rename_i h; exact plain1_self h
    · exact .top _

def aeval (t : Tm) : Operand → Value
  | .tmp n => t n
  | .const v => cst v
  | .global _ => top
  | .func f => .func (.func f) #[] #[]

/-- temporaries -/
structure TR (ρ : Rho) (n : Nat) (t : Tm) (tmps : Array Value) : Prop where
  size : tmps.size = n
  each : ∀ i, VR ρ (t i) (tmps.getD i undef)

theorem TR.mono {ρ ρ' : Rho} {n : Nat} {t : Tm} {tmps : Array Value} (h : TR ρ n t tmps) (hs : Sub ρ ρ') : TR ρ' n t tmps :=
  ⟨h.size, fun i => (h.each i).mono hs⟩

theorem TR.eval {ρ : Rho} {n : Nat} {t : Tm} {tmps : Array Value} (h : TR ρ n t tmps) (ds : List Deferred) (x : Operand) :
    VR ρ (aeval t x) ((⟨tmps, ds⟩ : Act).eval x) := by
  cases x with
  | tmp i => exact h.each i
  | const v => exact cst_VR ρ v
  | global g => exact .top _
  | func f => exact .func _ _ _ _ _ rfl rfl (fun i v v' h => by simp at h) (fun i v v' h => by simp at h)

theorem TR.put {ρ : Rho} {n : Nat} {t : Tm} {tmps : Array Value} (h : TR ρ n t tmps) {d : Nat} (hd : d < n) {v r : Value} (hv : VR ρ v r) :
    TR ρ n (upd t d v) (tmps.setIfInBounds d r) := by
  refine ⟨by simp [h.size], fun i => ?_⟩
  unfold upd
  rw [Array.getD_eq_getD_getElem?, Array.getElem?_setIfInBounds]
  by_cases hid : i = d
  · subst hid
    rw [if_pos rfl, if_pos rfl, if_pos (by rw [h.size]; exact hd)]
    exact hv
  · rw [if_neg hid, if_neg (fun e => hid e.symm), ← Array.getD_eq_getD_getElem?]
    exact h.each i

def amin2 (lt : Bool) : Value → Value → Option Value
  | .int k a, .int _ b => some (.int k (if lt then (if b < a then b else a) else (if b > a then b else a)))
  | _, _ => none

def acap (P : Program) (t : TypeId) (x : Value) : Option Value :=
  match P.underlying t, x with
  | some (.slice _), .slice a _ c => if c < ucap then some (goInt c) else none
  | some (.array n _), _ => some (goInt n)
  | _, _ => none

/-- copy -/
def acopy (P : Program) (A : AHeap) (dt : TypeId) (d s : Value) : Option (Value × AHeap) :=
  match sliceOf P dt with
  | none => none
  | some e => match szOf P e with
    | none => none
    | some size => match appCells A size s with
      | none => none
      | some (n, new) => match d with
        | .slice none dl _ => if min n dl = 0 then some (goInt 0, A) else none
        | .slice (some ⟨b, o, none⟩) dl c =>
          if min n dl = 0 then some (goInt 0, A)
          else if c = ecap then none
          else match A.f b with
            | some (.row cs k) => if k = .ro then none else
              (putCells cs o (new.take (min n dl * size))).map fun cs' => (goInt (min n dl : Nat), A.set b (.row cs' k))
            | _ => none
        | _ => none

def abuiltin (P : Program) (A : AHeap) (b : Builtin) (ts : List TypeId) (xs : List Value) : Option (Value × AHeap) :=
  match b, ts, xs with
  | .len, [t], [x] => (alen P A t x).map (·, A)
  | .cap, [t], [x] => (acap P t x).map (·, A)
  | .append, [st, xt], [s, x] => aappend P A st xt s x
  | .delete, [t, _], [m, k] => (adelete P A t m k).map (.tuple ⟨[]⟩, ·)
  | .clear, [t], [x] => (aclear P A t x).map (.tuple ⟨[]⟩, ·)
  | .min, _, [x, y] => (amin2 true x y).map (·, A)
  | .max, _, [x, y] => (amin2 false x y).map (·, A)
  | _, _, _ => none

theorem list_eq {l : List Value} {a : Array Value} (h : a.toList = l) : a = ⟨l⟩ := by apply Array.ext'; simpa using h

theorem builtin_sound {P : Program} (F : Fine P) {ρ : Rho} {A A' : AHeap} {w : World} {b : Builtin} {ts : Array TypeId} {xs rs : List Value} {v : Value} (hr : Rel ρ A w) (hx : VL ρ xs rs)
    (h : abuiltin P A b ts.toList xs = some (v, A')) (ty : TypeId) (cs : Array Bool) :
    ∃ ρ' r w', (builtin b ts ty cs ⟨rs⟩).run P w = .ok (.value r) w' ∧ VR ρ' v r ∧ Step ρ A w ρ' A' w' := by
  unfold abuiltin at h
  split at h
  · rename_i t x hts
    obtain ⟨rx, rfl⟩ : ∃ rx, rs = [rx] := by
      cases rs with
      | nil => simp [VL] at hx
      | cons a l => cases l with
        | nil => exact ⟨a, rfl⟩
        | cons _ _ => simp [VL] at hx
    have hvx : VR ρ x rx := hx.2 0 _ _ rfl rfl
    have htt : ts = #[t] := by apply Array.ext'; simpa using hts
    subst htt
    cases hl : alen P A t x with
    | none => rw [hl] at h; cases h
    | some y =>
      rw [hl] at h; cases h
      have := len_sound (P := P) hr hvx hl ty
      refine ⟨ρ, v, w, ?_, ?_, Step.refl hr⟩
      · simp only [builtin, Sem.run_bind, this, Result.andThen_ok, Sem.run_pure]
      · unfold alen at hl
        split at hl <;> first
          | (cases hl; exact .int _ _)
          | (split at hl <;> cases hl; exact .int _ _)
          | cases hl
  · rename_i t x hts
    obtain ⟨rx, rfl⟩ : ∃ rx, rs = [rx] := by
      cases rs with
      | nil => simp [VL] at hx
      | cons a l => cases l with
        | nil => exact ⟨a, rfl⟩
        | cons _ _ => simp [VL] at hx
    have hvx : VR ρ x rx := hx.2 0 _ _ rfl rfl
    have htt : ts = #[t] := by apply Array.ext'; simpa using hts
    subst htt
    cases hl : acap P t x with
    | none => rw [hl] at h; cases h
    | some y =>
      rw [hl] at h; cases h
      refine ⟨ρ, v, w, ?_, ?_, Step.refl hr⟩
      · unfold acap at hl
        split at hl
        · rename_i el a n c hu
          split at hl
          · rename_i hc
            cases hl
            cases hvx with
            | snil n c => simp [builtin, Builtin.cap_, run_und hu]
            | slice i o q n c e h hq hc => simp [builtin, Builtin.cap_, run_und hu]
            | sliceU => exact absurd hc (Nat.lt_irrefl _)
            | sliceE => exact absurd hc (by unfold ecap ucap; omega)
          · cases hl
        · rename_i n el hu
          cases hl
          simp [builtin, Builtin.cap_, run_und hu]
        · cases hl
      · unfold acap at hl
        split at hl
        · split at hl <;> cases hl; exact .int _ _
        · cases hl; exact .int _ _
        · cases hl
  · rename_i st xt s x hts
    obtain ⟨r1, r2, rfl⟩ : ∃ r1 r2, rs = [r1, r2] := by
      match rs, hx with
      | [a, b], _ => exact ⟨a, b, rfl⟩
      | [], h => simp [VL] at h
      | [_], h => simp [VL] at h
      | _ :: _ :: _ :: _, h => simp [VL] at h
    have htt : ts = #[st, xt] := by apply Array.ext'; simpa using hts
    subst htt
    obtain ⟨ρ', r, w', g1, g2, g3⟩ := append_sound (P := P) (ty := ty) hr (hx.2 0 _ _ rfl rfl) (hx.2 1 _ _ rfl rfl) h
    exact ⟨ρ', r, w', by simp only [builtin, Sem.run_bind, g1, Result.andThen_ok, Sem.run_pure], g2, g3⟩
  · rename_i t kt m k hts
    obtain ⟨r1, r2, rfl⟩ : ∃ r1 r2, rs = [r1, r2] := by
      match rs, hx with
      | [a, b], _ => exact ⟨a, b, rfl⟩
      | [], h => simp [VL] at h
      | [_], h => simp [VL] at h
      | _ :: _ :: _ :: _, h => simp [VL] at h
    have htt : ts = #[t, kt] := by apply Array.ext'; simpa using hts
    subst htt
    cases hl : adelete P A t m k with
    | none => rw [hl] at h; cases h
    | some y =>
      rw [hl] at h; cases h
      obtain ⟨w', g1, g2⟩ := delete_sound (P := P) F (kt' := kt) (ty := ty) hr (hx.2 0 _ _ rfl rfl) (hx.2 1 _ _ rfl rfl) hl
      exact ⟨ρ, .tuple #[], w', by simp only [builtin, Sem.run_bind, g1, Result.andThen_ok, Sem.run_pure], VL.tuple .nil, g2⟩
  · rename_i t x hts
    obtain ⟨rx, rfl⟩ : ∃ rx, rs = [rx] := by
      cases rs with
      | nil => simp [VL] at hx
      | cons a l => cases l with
        | nil => exact ⟨a, rfl⟩
        | cons _ _ => simp [VL] at hx
    have htt : ts = #[t] := by apply Array.ext'; simpa using hts
    subst htt
    cases hl : aclear P A t x with
    | none => rw [hl] at h; cases h
    | some y =>
      rw [hl] at h; cases h
      obtain ⟨w', g1, g2⟩ := clear_sound (P := P) (ty := ty) hr (hx.2 0 _ _ rfl rfl) hl
      exact ⟨ρ, .tuple #[], w', by simp only [builtin, Sem.run_bind, g1, Result.andThen_ok, Sem.run_pure], VL.tuple .nil, g2⟩
  · rename_i x y
    obtain ⟨r1, r2, rfl⟩ : ∃ r1 r2, rs = [r1, r2] := by
      match rs, hx with
      | [a, b], _ => exact ⟨a, b, rfl⟩
      | [], h => simp [VL] at h
      | [_], h => simp [VL] at h
      | _ :: _ :: _ :: _, h => simp [VL] at h
    have h1 : VR ρ x r1 := hx.2 0 _ _ rfl rfl
    have h2 : VR ρ y r2 := hx.2 1 _ _ rfl rfl
    unfold amin2 at h
    split at h
    · cases h1; cases h2; cases h
      exact ⟨ρ, _, w, rfl, .int _ _, Step.refl hr⟩
    · cases h
  · rename_i x y
    obtain ⟨r1, r2, rfl⟩ : ∃ r1 r2, rs = [r1, r2] := by
      match rs, hx with
      | [a, b], _ => exact ⟨a, b, rfl⟩
      | [], h => simp [VL] at h
      | [_], h => simp [VL] at h
      | _ :: _ :: _ :: _, h => simp [VL] at h
    have h1 : VR ρ x r1 := hx.2 0 _ _ rfl rfl
    have h2 : VR ρ y r2 := hx.2 1 _ _ rfl rfl
    unfold amin2 at h
    split at h
    · cases h1; cases h2; cases h
      exact ⟨ρ, _, w, rfl, .int _ _, Step.refl hr⟩
    · cases h
  · cases h

end Go.AB

/-
  One operation; calls; methods.
-/
namespace Go.AB
open Go
set_option linter.unusedSimpArgs false
set_option linter.unusedVariables false

/-- a step of an iterator over a string -/
def anextStr (A : AHeap) (it : Value) : Option (Value × AHeap) :=
  match it with
  | .pointer (some ⟨r, 0, none⟩) => match A.f r with
    | some (.siter s pos) =>
      if pos < s.size then some (.tuple ⟨[.bool true, goInt pos, .int .i32 (Utf8.decode s pos).1]⟩, A.set r (.siter s (pos + (Utf8.decode s pos).2)))
      else some (.tuple ⟨[.bool false]⟩, A)
    | _ => none
  | _ => none

theorem nextStr_sound {P : Program} {ρ : Rho} {A A' : AHeap} {w : World} {it rit v : Value} (hr : Rel ρ A w) (hx : VR ρ it rit) (h : anextStr A it = some (v, A')) (ty : TypeId) :
    ∃ r' w', (Instr.next rit true ty).run P w = .ok r' w' ∧ VR ρ v r' ∧ Step ρ A w ρ A' w' := by
  unfold anextStr at h
  split at h
  · rename_i r
    obtain ⟨e, he, rfl⟩ := hx.ptr_inv
    split at h
    · rename_i s pos hf
      obtain ⟨ob, g1, g2⟩ := hr.obj _ _ he
      rw [hf] at g1; cases g1
      obtain ⟨g3, g4⟩ := g2
      have hptr : (⟨e.blk, e.sh + 0, none⟩ : Addr) = ⟨e.blk, 0, none⟩ := by rw [g4]
      have hget : (getObj e.blk).run P w = .ok (.stringIter s pos) w := by simp [getObj, Sem.run, g3]
      have hset : ∀ o, (setObj e.blk o).run P w = .ok () { w with heap := w.heap.setIfInBounds e.blk o } := by intro o; simp [setObj, Sem.run, g3]
      rw [hptr]
      split at h
      · rename_i hp
        cases h
        refine ⟨.tuple #[.bool true, goInt pos, .int .i32 (Utf8.decode s pos).1], _, ?_, VL.tuple (.cons (.bool _) (.cons (.int _ _) (.cons (.int _ _) .nil))),
          Step.set hr he _ (.stringIter s (pos + (Utf8.decode s pos).2)) (by unfold writable; rw [hf]; trivial) ⟨Array.getElem?_setIfInBounds_self_of_lt (hr.bnd _ _ he), g4⟩⟩
        simp only [Instr.next, Sem.run_bind, hget, Result.andThen_ok, if_pos hp, hset, Sem.run_pure]
      · rename_i hp
        cases h
        refine ⟨.tuple #[.bool false], w, ?_, VL.tuple (.cons (.bool _) .nil), Step.refl hr⟩
        simp only [Instr.next, Sem.run_bind, hget, Result.andThen_ok, if_neg hp, Sem.run_pure]
    · cases h
  · cases h

def evParts (ev : Operand → Value) (ps : Array (Nat × Operand)) : List (Nat × Value) := ps.toList.map fun p => (p.1, ev p.2)

/-- an operation that is no call, but for steps of iterators over maps -/
def aop (P : Program) (o : Op) (ev : Operand → Value) (A : AHeap) : Option (Value × AHeap) :=
  match o with
  | .move x => some (ev x, A)
  | .assign x => some (ev x, A)
  | .pick c a b => (apick (ev c) (ev a) (ev b)).map (·, A)
  | .alloc e => aalloc P A e
  | .box _ x => abox A (ev x)
  | .build t ps => (abuild P t (evParts ev ps)).map (·, A)
  | .buildSlice t len ps => abuildSlice P A t len (evParts ev ps)
  | .load t a => (aload P A t (ev a)).map (·, A)
  | .store t a x => (astore P A t (ev a) (ev x)).map (.tuple ⟨[]⟩, ·)
  | .nilCheck x => (anilCheck (ev x)).map (·, A)
  | .binOp op t x y _ => (abin P op t (ev x) (ev y)).map (·, A)
  | .unOp op _ x => (aunary op (ev x)).map (·, A)
  | .convert s d x => (aconvert P s d (ev x)).map (·, A)
  | .makeInterface t x => (amakeInterface P t (ev x)).map (·, A)
  | .makeFunc fn f c => some (.func fn (f.map ev) (c.map ev), A)
  | .makeMap t r => amakeMap P A t (r.map ev)
  | .slice t x lo hi mx => (aslice P A t (ev x) (lo.map ev) (hi.map ev) (mx.map ev)).map (·, A)
  | .fieldAddr s x f => (afieldAddr P s (ev x) f).map (·, A)
  | .field s x f => (afield P s (ev x) f).map (·, A)
  | .indexAddr t x i => (aindexAddr P t (ev x) (ev i)).map (·, A)
  | .index t x i => (aindex P t (ev x) (ev i)).map (·, A)
  | .lookup t x i ok => (alookup P A t (ev x) (ev i) ok).map (·, A)
  | .mapUpdate t m k x => (amapUpdate P A t (ev m) (ev k) (ev x)).map (.tuple ⟨[]⟩, ·)
  | .insert t m k x => (amapUpdate P A t (ev m) (ev k) (ev x)).map (.tuple ⟨[]⟩, ·)
  | .mapEntry t m k => amapEntry P A t (ev m) (ev k)
  | .entryStore _ m s x => (aentryStore A (ev m) (ev s) (ev x)).map (.tuple ⟨[]⟩, ·)
  | .range t x => arange P A t (ev x)
  | .next it true => anextStr A (ev it)
  | .entry it => (aentry A (ev it)).map (·, A)
  | .typeAssert x _ a ok => (atypeAssert P (ev x) a ok).map (·, A)
  | .extract t i => (aextract (ev t) i).map (·, A)
  | .call ⟨.builtin b, xs, ts⟩ => abuiltin P A b ts.toList (xs.toList.map ev)
  | _ => none

/-- what an operation comes to in the model -/
def OpDone (P : Program) (R : Value → World → Prop) : Result Next → Prop
  | .ok (.value v) w => R v w
  | .ok .skip w => R undef w
  | .ok (.enter f args) w => Calls P f args w fun e w' => ∃ v, e = .returned v ∧ R v w'
  | .ok (.row row args) w => Rows P row args w R
  | _ => False

/-- what stands for an abstract outcome -/
def Out (ρ : Rho) (A : AHeap) (w : World) (K : Value → AHeap → Prop) (r : Value) (w' : World) : Prop :=
  ∃ ρ' v A', K v A' ∧ VR ρ' v r ∧ Step ρ A w ρ' A' w'

theorem evParts_VR {ρ : Rho} {ev rev : Operand → Value} (he : ∀ x, VR ρ (ev x) (rev x)) (ps : Array (Nat × Operand)) :
    (evParts ev ps).length = (evParts rev ps).length ∧
    ∀ (i : Nat) p p', (evParts ev ps)[i]? = some p → (evParts rev ps)[i]? = some p' → p.1 = p'.1 ∧ VR ρ p.2 p'.2 := by
  refine ⟨by simp [evParts], fun i p p' h h' => ?_⟩
  unfold evParts at h h'
  rw [List.getElem?_map] at h h'
  cases hx : ps.toList[i]? with
  | none => rw [hx] at h; cases h
  | some q => rw [hx] at h h'; cases h; cases h'; exact ⟨rfl, he _⟩

theorem map_VL {ρ : Rho} {ev rev : Operand → Value} (he : ∀ x, VR ρ (ev x) (rev x)) (xs : List Operand) : VL ρ (xs.map ev) (xs.map rev) := by
  induction xs with
  | nil => exact .nil
  | cons x xs ih => exact .cons (he x) ih

theorem opt_VO {ρ : Rho} {ev rev : Operand → Value} (he : ∀ x, VR ρ (ev x) (rev x)) (x : Option Operand) : VO ρ (x.map ev) (x.map rev) := by
  cases x <;> first | trivial | exact he _

theorem parts_eq (rev : Operand → Value) (ps : Array (Nat × Operand)) : (ps.map fun (i, x) => (i, rev x)) = ⟨evParts rev ps⟩ := by
  apply Array.ext'; simp [evParts]

theorem aop_sound {P : Program} (F : Fine P) {ρ : Rho} {A A' : AHeap} {w : World} {o : Oper} {ev rev : Operand → Value} {v : Value} (hr : Rel ρ A w) (he : ∀ x, VR ρ (ev x) (rev x))
    (h : aop P o.op ev A = some (v, A')) (K : Value → AHeap → Prop) (hK : K v A') : OpDone P (Out ρ A w K) ((execOp rev o).run P w) := by
  have val : ∀ {r : Value} {s : Sem Value}, s.run P w = .ok r w → VR ρ v r → A' = A → OpDone P (Out ρ A w K) ((do pure (.value (← s)) : Sem Next).run P w) := by
    intro r s h1 h2 h3
    subst h3
    simp only [Sem.run_bind, h1, Result.andThen_ok, Sem.run_pure]
    exact ⟨ρ, v, _, hK, h2, Step.refl hr⟩
  have val' : ∀ {s : Sem Value}, (∃ ρ' r w', s.run P w = .ok r w' ∧ VR ρ' v r ∧ Step ρ A w ρ' A' w') → OpDone P (Out ρ A w K) ((do pure (.value (← s)) : Sem Next).run P w) := by
    rintro s ⟨ρ', r, w', h1, h2, h3⟩
    simp only [Sem.run_bind, h1, Result.andThen_ok, Sem.run_pure]
    exact ⟨ρ', v, _, hK, h2, h3⟩
  have unit : ∀ {s : Sem Unit}, v = .tuple ⟨[]⟩ → (∃ w', s.run P w = .ok () w' ∧ Step ρ A w ρ A' w') → OpDone P (Out ρ A w K) ((do s; pure .skip : Sem Next).run P w) := by
    rintro s hv ⟨w', h1, h3⟩
    simp only [Sem.run_bind, h1, Result.andThen_ok, Sem.run_pure]
    exact ⟨ρ, v, _, hK, by rw [hv]; exact VL.tuple .nil, h3⟩
  have one : ∀ {x : Option Value}, x.map (·, A) = some (v, A') → x = some v ∧ A' = A := by
    intro x hx; cases x <;> cases hx; exact ⟨rfl, rfl⟩
  have two : ∀ {x : Option AHeap}, x.map ((.tuple ⟨[]⟩ : Value), ·) = some (v, A') → x = some A' ∧ v = .tuple ⟨[]⟩ := by
    intro x hx; cases x <;> cases hx; exact ⟨rfl, rfl⟩
  obtain ⟨dst, op, ty, pos, after, guard⟩ := o
  simp only at h
  unfold aop at h
  split at h
  · cases h; exact ⟨ρ, _, _, hK, he _, Step.refl hr⟩
  · cases h; exact ⟨ρ, _, _, hK, he _, Step.refl hr⟩
  · rename_i c a b
    obtain ⟨h1, h2⟩ := one h
    subst h2
    unfold apick at h1
    split at h1
    · rename_i t ht
      cases h1
      have hc := he c
      rw [ht] at hc
      cases hrc : rev c <;> rw [hrc] at hc <;> cases hc
      have hrun : (execOp rev { dst := dst, op := Op.pick c a b, type := ty, pos := pos, after := after, guard := guard }).run P w = .ok (.value (if t then rev a else rev b)) w := by
        simp [execOp, hrc, asBool]
      rw [hrun]
      refine ⟨ρ, _, _, hK, ?_, Step.refl hr⟩
      cases t <;> exact he _
    · cases h1
  · rename_i e; exact val' (alloc_sound hr h)
  · rename_i e x; exact val' (box_sound hr (he x) h)
  · rename_i t ps
    obtain ⟨h1, h2⟩ := one h
    obtain ⟨r, k1, k2⟩ := build_sound (P := P) (evParts_VR he ps).1 (evParts_VR he ps).2 h1 w
    refine val (r := r) ?_ k2 h2
    rw [parts_eq]; exact k1
  · rename_i t len ps
    obtain ⟨ρ', r, w', k1, k2, k3⟩ := buildSlice_sound (P := P) hr (evParts_VR he ps).1 (evParts_VR he ps).2 h
    refine val' ⟨ρ', r, w', ?_, k2, k3⟩
    rw [parts_eq]; exact k1
  · rename_i t a
    obtain ⟨h1, h2⟩ := one h
    obtain ⟨r, k1, k2⟩ := load_sound (P := P) hr (he a) h1
    exact val k1 k2 h2
  · rename_i t a x
    obtain ⟨h1, h2⟩ := two h
    exact unit h2 (store_sound hr (he a) (he x) h1)
  · rename_i x
    obtain ⟨h1, h2⟩ := one h
    subst h2
    unfold anilCheck at h1
    split at h1
    · rename_i a hx
      cases h1
      have hc := he x
      rw [hx] at hc
      cases hrc : rev x with
      | pointer p =>
        cases p with
        | none => rw [hrc] at hc; cases hc
        | some p =>
          have hrun : (execOp rev { dst := dst, op := Op.nilCheck x, type := ty, pos := pos, after := after, guard := guard }).run P w = .ok (.value (.pointer (some p))) w := by
            simp [execOp, hrc]
          rw [hrun]
          exact ⟨ρ, _, _, hK, by rw [← hrc, ← hx]; exact he x, Step.refl hr⟩
      | _ => rw [hrc] at hc; cases hc
    · cases h1
  · rename_i op t x y yt
    obtain ⟨h1, h2⟩ := one h
    exact val (abin_sound F (he x) (he y) h1 w) (plain1_self (abin_plain h1)) h2
  · rename_i op t x
    obtain ⟨h1, h2⟩ := one h
    obtain ⟨r, k1, k2⟩ := unary_sound (P := P) (he x) h1 w
    exact val k1 k2 h2
  · rename_i s d x
    obtain ⟨h1, h2⟩ := one h
    obtain ⟨r, k1, k2⟩ := convert_sound (P := P) (he x) h1 w
    exact val k1 k2 h2
  · rename_i t x
    obtain ⟨h1, h2⟩ := one h
    obtain ⟨r, k1, k2⟩ := makeInterface_sound (P := P) (he x) h1 w
    exact val k1 k2 h2
  · rename_i fn f c
    cases h
    refine val (r := .func fn (f.map rev) (c.map rev)) rfl ?_ rfl
    refine .func _ _ _ _ _ (by simp) (by simp) ?_ ?_
    · intro i v v' h1 h2
      simp only [Array.getElem?_map] at h1 h2
      cases hx : f[i]? with
      | none => rw [hx] at h1; cases h1
      | some q => rw [hx] at h1 h2; cases h1; cases h2; exact he q
    · intro i v v' h1 h2
      simp only [Array.getElem?_map] at h1 h2
      cases hx : c[i]? with
      | none => rw [hx] at h1; cases h1
      | some q => rw [hx] at h1 h2; cases h1; cases h2; exact he q
  · rename_i t r; exact val' (makeMap_sound hr (opt_VO he r) h)
  · rename_i t x lo hi mx
    obtain ⟨h1, h2⟩ := one h
    obtain ⟨r, k1, k2⟩ := slice_sound (P := P) hr (he x) (opt_VO he lo) (opt_VO he hi) (opt_VO he mx) h1
    exact val k1 k2 h2
  · rename_i s x f
    obtain ⟨h1, h2⟩ := one h
    obtain ⟨r, k1, k2⟩ := fieldAddr_sound (P := P) (he x) h1 w
    exact val k1 k2 h2
  · rename_i s x f
    obtain ⟨h1, h2⟩ := one h
    obtain ⟨r, k1, k2⟩ := field_sound (P := P) (he x) h1 w
    exact val k1 k2 h2
  · rename_i t x i
    obtain ⟨h1, h2⟩ := one h
    obtain ⟨r, k1, k2⟩ := indexAddr_sound (P := P) (he x) (he i) h1 w
    exact val k1 k2 h2
  · rename_i t x i
    obtain ⟨h1, h2⟩ := one h
    obtain ⟨r, k1, k2⟩ := index_sound (P := P) (he x) (he i) h1 w
    exact val k1 k2 h2
  · rename_i t x i ok
    obtain ⟨h1, h2⟩ := one h
    obtain ⟨r, k1, k2⟩ := lookup_sound F hr (he x) (he i) h1
    exact val k1 k2 h2
  · rename_i t m k x
    obtain ⟨h1, h2⟩ := two h
    exact unit h2 (mapUpdate_sound F hr (he m) (he k) (he x) h1)
  · rename_i t m k x
    obtain ⟨h1, h2⟩ := two h
    exact unit h2 (mapUpdate_sound F hr (he m) (he k) (he x) h1)
  · rename_i t m k
    obtain ⟨r, w', k1, k2, k3⟩ := mapEntry_sound F hr (he m) (he k) h
    exact val' ⟨ρ, r, w', k1, k2, k3⟩
  · rename_i t m s x
    obtain ⟨h1, h2⟩ := two h
    exact unit h2 (entryStore_sound hr (he m) (he s) (he x) h1)
  · rename_i t x; exact val' (range_sound hr (he x) h)
  · rename_i it
    obtain ⟨r, w', k1, k2, k3⟩ := nextStr_sound (P := P) hr (he it) h ty
    exact val' ⟨ρ, r, w', k1, k2, k3⟩
  · rename_i it
    obtain ⟨h1, h2⟩ := one h
    obtain ⟨r, k1, k2⟩ := entry_sound (P := P) hr (he it) h1
    exact val k1 k2 h2
  · rename_i x t a ok
    obtain ⟨h1, h2⟩ := one h
    obtain ⟨r, k1, k2⟩ := typeAssert_sound (P := P) (t := t) (he x) h1 w
    exact val k1 k2 h2
  · rename_i t i
    obtain ⟨h1, h2⟩ := one h
    obtain ⟨r, k1, k2⟩ := extract_sound (P := P) (he t) h1 w
    exact val k1 k2 h2
  · rename_i b xs ts
    obtain ⟨ρ', r, w', k1, k2, k3⟩ := builtin_sound F (ts := ts) hr (map_VL he xs.toList) h ty (xs.map fun | .const _ => true | _ => false)
    have hx : xs.map rev = ⟨xs.toList.map rev⟩ := by apply Array.ext'; simp
    have hrun : (execOp rev { dst := dst, op := Op.call ⟨.builtin b, xs, ts⟩, type := ty, pos := pos, after := after, guard := guard }).run P w = .ok (.value r) w' := by
      simp only [execOp, resolve, Sem.run_bind, Sem.run_pure, Result.andThen_ok, invoke, hx]
      exact k1
    rw [hrun]
    exact ⟨ρ', v, A', hK, k2, k3⟩
  · cases h

end Go.AB

/-
  Calls, regions, code: the abstract run of a function and what it says of the model's.
-/
namespace Go.AB
open Go
set_option linter.unusedSimpArgs false
set_option linter.unusedVariables false

/-- a method by its name: the function, and whether its receiver is a pointer -/
def methOf (P : Program) (t : TypeId) (name : String) : Option (FuncId × Bool) :=
  match P.info? t with
  | some i => match i.methods.find? (·.name == name) with
    | some m => if m.path.isEmpty then m.func else none
    | none => none
  | none => none

def amethod (P : Program) (A : AHeap) (t : TypeId) (v : Value) (name : String) : Option (FuncId × Value) :=
  match methOf P t name with
  | none => none
  | some (f, true) => match P.underlying t with
    | some (.pointer _) => some (f, v)
    | _ => none
  | some (f, false) => match P.underlying t with
    | some (.pointer elem) => (aload P A elem v).map fun x => (f, x)
    | some _ => some (f, v)
    | none => none

theorem aload_ptr {P : Program} {A : AHeap} {t : TypeId} {a v : Value} (h : aload P A t a = some v) : ∃ i o, a = .pointer (some ⟨i, o, none⟩) := by
  unfold aload at h
  split at h
  · exact ⟨_, _, rfl⟩
  · cases h

theorem run_wrapnil {P : Program} (ts : Array TypeId) (ty : TypeId) (a : Addr) (s1 s2 : ByteArray) (w : World) :
    (Builtin.ssaWrapNilChk_ ts ty #[.pointer (some a), .string s1, .string s2]).run P w = .ok (.pointer (some a)) w := rfl

theorem method_sound {P : Program} {ρ : Rho} {A : AHeap} {w : World} {t : TypeId} {v r : Value} {name : String} {f : FuncId} {x : Value} (hr : Rel ρ A w) (hv : VR ρ v r)
    (h : amethod P A t v name = some (f, x)) (d : Nat) : ∃ rx, (method (d + 1) t r name).run P w = .ok (f, rx) w ∧ VR ρ x rx := by
  unfold amethod at h
  have meth : ∀ {g p}, methOf P t name = some (g, p) → ∃ i m, P.info? t = some i ∧ i.methods.find? (·.name == name) = some m ∧ m.path.isEmpty = true ∧ m.func = some (g, p) := by
    intro g p hm
    unfold methOf at hm
    split at hm
    · rename_i i hi
      split at hm
      · rename_i m hf
        split at hm
        · rename_i he; exact ⟨i, m, hi, hf, he, hm⟩
        · cases hm
      · cases hm
    · cases hm
  have follow0 : ∀ {m : Method}, m.path.isEmpty = true → m.path.toList = [] := by
    intro m hm
    have : m.path = #[] := by simpa using hm
    rw [this]
  split at h
  · cases h
  · rename_i g hm
    obtain ⟨i, m, h1, h2, h3, h4⟩ := meth hm
    split at h
    · rename_i el hu
      cases h
      refine ⟨r, ?_, hv⟩
      simp only [method, Sem.run_bind, typeInfo, run_program, Result.andThen_ok, h1, Sem.run_pure, h2, follow0 h3, follow, h4, receiverAt, run_und hu, Place.get]
    · cases h
  · rename_i g hm
    obtain ⟨i, m, h1, h2, h3, h4⟩ := meth hm
    split at h
    · rename_i el hu
      cases hl : aload P A el v with
      | none => rw [hl] at h; cases h
      | some y =>
        rw [hl] at h; cases h
        obtain ⟨b, o, rfl⟩ := aload_ptr hl
        obtain ⟨rx, k1, k2⟩ := load_sound (P := P) hr hv hl
        obtain ⟨e, he, rfl⟩ := hv.ptr_inv
        refine ⟨rx, ?_, k2⟩
        simp only [Instr.loadAt, Instr.sureAddr, Sem.run_bind, Sem.run_pure, Result.andThen_ok] at k1
        simp only [method, Sem.run_bind, typeInfo, run_program, Result.andThen_ok, h1, Sem.run_pure, h2, follow0 h3, follow, h4, receiverAt, run_und hu, Place.get, h3, if_true,
          strVal, run_wrapnil, asAddr, k1]
    · rename_i dd hn hu
      cases h
      refine ⟨r, ?_, hv⟩
      simp only [method, Sem.run_bind, typeInfo, run_program, Result.andThen_ok, h1, Sem.run_pure, h2, follow0 h3, follow, h4, receiverAt, run_und hu, Place.get]
    · cases h

/-- a function called with such arguments comes to one of such outcomes -/
def SimW (P : Program) (f : FuncId) (args : List Value) (A : AHeap) (K : Value → AHeap → Prop) : Prop :=
  ∀ ρ w rargs, Rel ρ A w → VL ρ args rargs → OpDone P (Out ρ A w K) ((callFunc f ⟨rargs⟩).run P w)

theorem OpDone.mono {P : Program} {R R' : Value → World → Prop} (hr : ∀ v w, R v w → R' v w) {x : Result Next} (h : OpDone P R x) : OpDone P R' x := by
  unfold OpDone at h ⊢
  split at h
  · exact hr _ _ h
  · exact hr _ _ h
  · exact h.mono fun e w' ⟨v, h1, h2⟩ => ⟨v, h1, hr _ _ h2⟩
  · exact h.mono hr
  · exact h.elim

theorem SimW.mono {P : Program} {f : FuncId} {args : List Value} {A : AHeap} {K K' : Value → AHeap → Prop} (h : SimW P f args A K) (hk : ∀ v A', K v A' → K' v A') : SimW P f args A K' :=
  fun ρ w rargs hr hv => (h ρ w rargs hr hv).mono fun v w' ⟨ρ', v', A', h1, h2⟩ => ⟨ρ', v', A', hk _ _ h1, h2⟩

/-- the function and the arguments of a call -/
def acallee (P : Program) (A : AHeap) (t : Tm) (c : Call) : Option (FuncId × List Value) :=
  match c.callee with
  | .value f => match aeval t f with
    | .func (.func g) first cap => some (g, first.toList ++ c.args.toList.map (aeval t) ++ cap.toList)
    | _ => none
  | .invoke r name => match aeval t r with
    | .iface ty v => (amethod P A ty v name).map fun x => (x.1, x.2 :: c.args.toList.map (aeval t))
    | _ => none
  | .builtin _ => none

inductive OpKind where
  | call (c : Call)
  | next (it : Operand)
  | other

def opKind : Op → OpKind
  | .call ⟨.builtin _, _, _⟩ => .other
  | .call c => .call c
  | .next it false => .next it
  | _ => .other

/-- one operation, with what must hold of its outcome -/
def aop1 (P : Program) (o : Oper) (t : Tm) (A : AHeap) (K : Value → AHeap → Prop) : Prop :=
  match opKind o.op with
  | .call c => match acallee P A t c with
    | some (f, args) => SimW P f args A K
    | none => False
  | .next it => match anextMap A (aeval t it) with
    | some (r, m, since, seen, _, es, _) => ∀ v A', NextMap A r m since seen es v A' → K v A'
    | none => False
  | .other => match aop P o.op (aeval t) A with
    | some (v, A') => K v A'
    | none => False

theorem VL.of_arrays {ρ : Rho} {a b : Array Value} (hs : a.size = b.size) (h : ∀ (i : Nat) v v', a[i]? = some v → b[i]? = some v' → VR ρ v v') : VL ρ a.toList b.toList :=
  ⟨by simpa using hs, fun i v v' h1 h2 => h i v v' (by simpa using h1) (by simpa using h2)⟩

theorem aop1_sound {P : Program} (F : Fine P) {ρ : Rho} {A : AHeap} {w : World} {o : Oper} {n : Nat} {t : Tm} {tmps : Array Value} {ds : List Deferred} {K : Value → AHeap → Prop}
    (hr : Rel ρ A w) (ht : TR ρ n t tmps) (h : aop1 P o t A K) : OpDone P (Out ρ A w K) ((execOp (⟨tmps, ds⟩ : Act).eval o).run P w) := by
  have he : ∀ x, VR ρ (aeval t x) ((⟨tmps, ds⟩ : Act).eval x) := ht.eval ds
  unfold aop1 at h
  obtain ⟨dst, op, ty, pos, after, guard⟩ := o
  simp only at h
  split at h
  · rename_i c hk
    have hop : op = .call c ∧ (∀ b, c.callee ≠ .builtin b) := by
      unfold opKind at hk
      split at hk
      · cases hk
      · rename_i c' hn; cases hk; exact ⟨rfl, fun b hb => by obtain ⟨ca, xs, ts⟩ := c; simp only at hb; subst hb; exact hn b xs ts rfl⟩
      · cases hk
      · cases hk
    obtain ⟨rfl, hnb⟩ := hop
    split at h
    · rename_i f args hc
      unfold acallee at hc
      have hargs : VL ρ (c.args.toList.map (aeval t)) (c.args.toList.map (⟨tmps, ds⟩ : Act).eval) := map_VL he _
      split at hc
      · rename_i fo hcal
        split at hc
        · rename_i g first cap hf
          cases hc
          have hv := he fo
          rw [hf] at hv
          obtain ⟨f', g', hrf, s1, s2, v1, v2⟩ : ∃ f' g', (⟨tmps, ds⟩ : Act).eval fo = .func (.func f) f' g' ∧ first.size = f'.size ∧ cap.size = g'.size ∧
              (∀ (i : Nat) v v', first[i]? = some v → f'[i]? = some v' → VR ρ v v') ∧ (∀ (i : Nat) v v', cap[i]? = some v → g'[i]? = some v' → VR ρ v v') := by
            cases hrc : (⟨tmps, ds⟩ : Act).eval fo <;> rw [hrc] at hv <;> cases hv
            rename_i q1 q2 q3 q4
            exact ⟨_, _, rfl, q1, q3, q2, q4⟩
          have hall := ((VL.of_arrays s1 v1).append hargs).append (VL.of_arrays s2 v2)
          have := h ρ w _ hr hall
          have hrun : (execOp (⟨tmps, ds⟩ : Act).eval { dst := dst, op := .call c, type := ty, pos := pos, after := after, guard := guard }).run P w =
              (callFunc f ⟨f'.toList ++ c.args.toList.map (⟨tmps, ds⟩ : Act).eval ++ g'.toList⟩).run P w := by
            simp only [execOp, resolve, hcal, hrf, Deferred.ofValue, Sem.run_bind, Sem.run_pure, Result.andThen_ok, invoke]
            congr 2
            apply Array.ext'; simp
          rw [hrun]; exact this
        · cases hc
      · rename_i ro name hcal
        split at hc
        · rename_i ity v hf
          cases hm : amethod P A ity v name with
          | none => rw [hm] at hc; cases hc
          | some x =>
            rw [hm] at hc; cases hc
            obtain ⟨f, x⟩ := x
            have hv := he ro
            rw [hf] at hv
            obtain ⟨v', hrf, hvv⟩ : ∃ v', (⟨tmps, ds⟩ : Act).eval ro = .iface ity v' ∧ VR ρ v v' := by
              cases hrc : (⟨tmps, ds⟩ : Act).eval ro <;> rw [hrc] at hv <;> cases hv
              exact ⟨_, rfl, by assumption⟩
            obtain ⟨rx, k1, k2⟩ := method_sound (P := P) hr hvv hm (P.types.size + 99)
            have := h ρ w _ hr (VL.cons k2 hargs)
            have hrun : (execOp (⟨tmps, ds⟩ : Act).eval { dst := dst, op := .call c, type := ty, pos := pos, after := after, guard := guard }).run P w =
                (callFunc f ⟨rx :: c.args.toList.map (⟨tmps, ds⟩ : Act).eval⟩).run P w := by
              have hx0 : (#[(⟨tmps, ds⟩ : Act).eval ro] ++ c.args.map (⟨tmps, ds⟩ : Act).eval)[0]? = some (.iface ity v') := by
                rw [Array.getElem?_append_left (by simp)]; simp [hrf]
              have hx1 : (#[(⟨tmps, ds⟩ : Act).eval ro] ++ c.args.map (⟨tmps, ds⟩ : Act).eval).extract 1 (#[(⟨tmps, ds⟩ : Act).eval ro] ++ c.args.map (⟨tmps, ds⟩ : Act).eval).size = c.args.map (⟨tmps, ds⟩ : Act).eval := by
                apply Array.ext'
                simp only [Array.toList_extract, Array.toList_append, List.extract_eq_take_drop, Array.size_append]
                simp [List.take_of_length_le]
              simp only [execOp, resolve, hcal, Sem.run_bind, Sem.run_pure, Result.andThen_ok, invoke, hx0, callMethod, hx1, run_program]
              rw [show P.types.size + Made.depth = P.types.size + 99 + 1 from rfl, k1]
              simp only [Result.andThen_ok]
              congr 2
              apply Array.ext'; simp
            rw [hrun]; exact this
        · cases hc
      · rename_i b hcal; exact absurd hcal (hnb b)
    · exact h.elim
  · rename_i it hk
    have hop : op = .next it false := by
      unfold opKind at hk
      split at hk <;> first | (cases hk; done) | (cases hk; rfl)
    subst hop
    split at h
    · rename_i r m since seen last es clock hn
      obtain ⟨v, A', r', w', k1, k2, k3, k4⟩ := nextMap_sound (P := P) hr (he it) hn ty
      have hrun : (execOp (⟨tmps, ds⟩ : Act).eval { dst := dst, op := .next it false, type := ty, pos := pos, after := after, guard := guard }).run P w = .ok (.value r') w' := by
        simp only [execOp, Sem.run_bind, k2, Result.andThen_ok, Sem.run_pure]
      rw [hrun]
      exact ⟨ρ, v, A', h v A' k1, k3, k4⟩
    · exact h.elim
  · split at h
    · rename_i v A' ha
      exact aop_sound F (o := { dst := dst, op := op, type := ty, pos := pos, after := after, guard := guard }) hr he ha K h
    · exact h.elim

end Go.AB

/-
  Regions in the order of the text, code, functions.
-/
namespace Go.AB
open Go
set_option linter.unusedSimpArgs false
set_option linter.unusedVariables false

/-- is an operation wanted? none: not known -/
def awanted (ops : Array Oper) (t : Tm) (o : Oper) : Option Bool :=
  match o.guard with
  | none => some true
  | some (j, want) => match (ops[j]?).bind (·.dst) with
    | none => some false
    | some d => match t d with
      | .bool b => some (b == want)
      | .tuple ⟨[]⟩ => some false
      | _ => none

theorem awanted_sound {ρ : Rho} {n : Nat} {ops : Array Oper} {t : Tm} {tmps : Array Value} {o : Oper} {b : Bool} (ht : TR ρ n t tmps) (h : awanted ops t o = some b) :
    Region.wanted o (yielded ops tmps) = b := by
  unfold awanted at h
  unfold Region.wanted
  split at h
  · rename_i hg; cases h; rw [hg]
  · rename_i j want hg
    rw [hg]
    simp only
    unfold yielded
    split at h
    · rename_i hd
      cases h
      rw [hd]; rfl
    · rename_i d hd
      rw [hd]
      have hv := ht.each d
      rw [Array.getD_eq_getD_getElem?] at hv
      simp only [Option.bind_some]
      split at h
      · rename_i bb htd
        cases h
        rw [htd] at hv
        cases hx : tmps[d]? with
        | none => rw [hx] at hv; simp [undef] at hv; cases hv
        | some y =>
          rw [hx] at hv; simp at hv
          cases hv
          simp
      · rename_i htd
        cases h
        rw [htd] at hv
        cases hx : tmps[d]? with
        | none => rfl
        | some y =>
          rw [hx] at hv; simp at hv
          cases hv
          rfl
      · cases h

def aput (n : Nat) (t : Tm) (d : Option Tmp) (v : Value) (K : Tm → Prop) : Prop :=
  match d with
  | none => K t
  | some d => d < n ∧ K (upd t d v)

theorem aput_sound {ρ : Rho} {n : Nat} {t : Tm} {a : Act} {d : Option Tmp} {v r : Value} {K : Tm → Prop} (ht : TR ρ n t a.tmps) (hv : VR ρ v r) (h : aput n t d v K) :
    ∃ t', K t' ∧ TR ρ n t' (a.put d r).tmps ∧ (a.put d r).defers = a.defers := by
  unfold aput at h
  cases d with
  | none => exact ⟨t, h, ht, rfl⟩
  | some d => exact ⟨_, h.2, ht.put h.1 hv, rfl⟩

/-- operations, one by one -/
def aops (P : Program) (n : Nat) (ops : Array Oper) : List Oper → Tm → AHeap → (Tm → AHeap → Prop) → Prop
  | [], t, A, K => K t A
  | o :: os, t, A, K => match awanted ops t o with
    | none => False
    | some false => aput n t o.dst (.tuple ⟨[]⟩) fun t' => aops P n ops os t' A K
    | some true => aop1 P o t A fun v A' => aput n t o.dst v fun t' => aops P n ops os t' A' K

/-- what a run of code comes to -/
def PostK (ρ : Rho) (A : AHeap) (w : World) (n : Nat) (K : Exit → Tm → AHeap → Prop) (e : Exit) (a : Act) (w' : World) : Prop :=
  a.defers = [] ∧ ∃ ρ' t' A', K e t' A' ∧ Step ρ A w ρ' A' w' ∧ TR ρ' n t' a.tmps

theorem PostK.step {ρ ρ1 : Rho} {A A1 : AHeap} {w w1 : World} {n : Nat} {K : Exit → Tm → AHeap → Prop} (h : Step ρ A w ρ1 A1 w1) {e : Exit} {a : Act} {w' : World}
    (k : PostK ρ1 A1 w1 n K e a w') : PostK ρ A w n K e a w' := by
  obtain ⟨h1, ρ', t', A', h2, h3, h4⟩ := k
  exact ⟨h1, ρ', t', A', h2, h.trans h3, h4⟩

theorem upon_of_done {P : Program} {o : Oper} {a : Act} {next : Act → World → Prop} {Q : Exit → Act → World → Prop} {R : Value → World → Prop} {x : Result Next}
    (h : OpDone P R x) (hn : ∀ r w', R r w' → next (a.put o.dst r) w') : o.upon P a next Q x := by
  unfold OpDone at h
  split at h
  · exact hn _ _ h
  · exact hn _ _ h
  · rename_i f args w
    refine h.mono ?_
    rintro e w' ⟨v, rfl, hr⟩
    exact hn _ _ hr
  · exact h.mono hn
  · exact h.elim

theorem wpOps_cons {P : Program} {ops : Array Oper} {Q : Exit → Act → World → Prop} {i : Nat} {rest : List Nat} {a : Act} {w : World} {o : Oper} (ho : ops[i]? = some o)
    (h : if Region.wanted o (yielded ops a.tmps) then o.wp P a w (wpOps P ops Q rest) Q else wpOps P ops Q rest (a.put o.dst undef) w) : wpOps P ops Q (i :: rest) a w := by
  unfold wpOps
  rw [ho]
  simp only
  split
  · rename_i hw; rw [if_pos hw] at h; exact .inl h
  · rename_i hw; rw [if_neg hw] at h; exact h

theorem LetsOut.mono {Q Q' : Exit → Act → World → Prop} (hq : ∀ e a w, Q e a w → Q' e a w) (h : LetsOut Q) : LetsOut Q' := by
  obtain ⟨a, w, h⟩ := h; exact ⟨a, w, hq _ _ _ h⟩

theorem upon_mono {P : Program} {o : Oper} {a : Act} {next next' : Act → World → Prop} {Q Q' : Exit → Act → World → Prop} (hn : ∀ a w, next a w → next' a w) (hq : ∀ e a w, Q e a w → Q' e a w) :
    ∀ {x : Result Next}, o.upon P a next Q x → o.upon P a next' Q' x := by
  intro x h
  cases x with
  | ok nx w =>
    cases nx with
    | value v => exact hn _ _ h
    | skip => exact hn _ _ h
    | defer d => exact hn _ _ h
    | enter f args =>
      refine Calls.mono (R := fun | .returned v, w'' => next (a.put o.dst v) w'' | .panicked chain, w'' => Q (.panic chain) a w'' | .outgrown, _ => LetsOut Q) h ?_
      intro e w' he
      cases e with
      | returned v => exact hn _ _ he
      | panicked c => exact hq _ _ _ he
      | outgrown => exact LetsOut.mono hq he
    | row r args => exact Rows.mono h fun v w' => hn _ _
    | _ => exact False.elim h
  | halt hh w =>
    cases hh with
    | panic v => exact hq _ _ _ h
    | _ => exact False.elim h

theorem wpOps_mono {P : Program} {ops : Array Oper} {Q Q' : Exit → Act → World → Prop} (hq : ∀ e a w, Q e a w → Q' e a w) : ∀ {l : List Nat} {a : Act} {w : World}, wpOps P ops Q l a w → wpOps P ops Q' l a w
  | [], a, w, h => hq _ _ _ h
  | i :: rest, a, w, h => by
    unfold wpOps at h ⊢
    cases ho : ops[i]? with
    | none => rw [ho] at h; exact wpOps_mono hq h
    | some o =>
      rw [ho] at h
      simp only at h ⊢
      split
      · rename_i hw
        rw [if_pos hw] at h
        rcases h with h | h
        · exact .inl (upon_mono (fun a w => wpOps_mono hq) hq h)
        · exact .inr ⟨h.1, LetsOut.mono hq h.2⟩
      · rename_i hw
        rw [if_neg hw] at h
        exact wpOps_mono hq h

theorem aops_sound {P : Program} (F : Fine P) {n : Nat} {ops : Array Oper} {K : Exit → Tm → AHeap → Prop} : ∀ (os : List Oper) (i : Nat), (∀ (j : Nat) o, os[j]? = some o → ops[i + j]? = some o) →
    ∀ {ρ : Rho} {A : AHeap} {w : World} {t : Tm} {a : Act}, Rel ρ A w → TR ρ n t a.tmps → a.defers = [] → aops P n ops os t A (K .normal) →
    wpOps P ops (PostK ρ A w n K) ((List.range os.length).map (i + ·)) a w
  | [], i, _, ρ, A, w, t, a, hr, ht, hd, h => by
    show PostK ρ A w n K .normal a w
    exact ⟨hd, ρ, t, A, h, Step.refl hr, ht⟩
  | o :: os, i, hops, ρ, A, w, t, a, hr, ht, hd, h => by
    have ho : ops[i]? = some o := by simpa using hops 0 o rfl
    have hrest : (List.range (o :: os).length).map (i + ·) = i :: (List.range os.length).map (i + 1 + ·) := by
      rw [List.length_cons, List.range_succ_eq_map, List.map_cons, List.map_map]
      congr 1
      apply List.map_congr_left
      intro x _; simp; omega
    rw [hrest]
    have hops' : ∀ (j : Nat) o', os[j]? = some o' → ops[i + 1 + j]? = some o' := by
      intro j o' hj
      have := hops (j + 1) o' (by simpa using hj)
      rwa [show i + (j + 1) = i + 1 + j by omega] at this
    simp only [aops] at h
    refine wpOps_cons ho ?_
    split at h
    · exact h.elim
    · rename_i hw
      rw [awanted_sound ht hw]
      simp only [Bool.false_eq_true, if_false]
      obtain ⟨t', h1, h2, h3⟩ := aput_sound (a := a) ht (VL.tuple (ρ := ρ) .nil) h
      exact aops_sound F os (i + 1) hops' hr h2 (h3.trans hd) h1
    · rename_i hw
      rw [awanted_sound ht hw]
      simp only [if_true]
      have hdone := aop1_sound F (ds := a.defers) hr ht h
      unfold Oper.wp
      refine upon_of_done hdone ?_
      rintro r w' ⟨ρ', v, A', k1, k2, k3⟩
      obtain ⟨t', h1, h2, h3⟩ := aput_sound (a := a) (ht.mono k3.sub) k2 k1
      have := aops_sound F os (i + 1) hops' k3.rel h2 (h3.trans hd) h1
      exact wpOps_mono (fun e a w q => PostK.step k3 q) this

end Go.AB

/-
  Operations that look at no memory; the order among a region's operations.
-/
namespace Go.AB
open Go
set_option linter.unusedSimpArgs false
set_option linter.unusedVariables false

/-- may it look at memory, or change it? -/
def touches : Op → Bool
  | .move _ | .assign _ | .pick .. | .build .. | .nilCheck _ | .binOp .. | .unOp .. | .convert .. | .makeInterface .. | .makeFunc .. | .fieldAddr .. | .field .. | .indexAddr .. | .index ..
  | .typeAssert .. | .extract .. => false
  | _ => true

theorem pure_aop {P : Program} {o : Op} {ev : Operand → Value} {A A' : AHeap} {v : Value} (ht : touches o = false) (h : aop P o ev A = some (v, A')) :
    A' = A ∧ ∀ B, aop P o ev B = some (v, B) := by
  have one : ∀ {x : Option Value}, x.map (·, A) = some (v, A') → A' = A ∧ ∀ B : AHeap, x.map (·, B) = some (v, B) := by
    intro x hx; cases x <;> cases hx; exact ⟨rfl, fun _ => rfl⟩
  cases o <;> simp [touches] at ht <;> simp only [aop] at h ⊢ <;> first
    | exact one h
    | (cases h; exact ⟨rfl, fun _ => rfl⟩)

theorem pure_sound {P : Program} (F : Fine P) {ρ : Rho} {A A' : AHeap} {o : Oper} {ev rev : Operand → Value} {v : Value} (ht : touches o.op = false) (he : ∀ x, VR ρ (ev x) (rev x))
    (h : aop P o.op ev A = some (v, A')) (w : World) : ∃ r, (execOp rev o).run P w = .ok (.value r) w ∧ VR ρ v r := by
  have val : ∀ {s : Sem Value}, (∃ r, s.run P w = .ok r w ∧ VR ρ v r) → ∃ r, ((do pure (.value (← s)) : Sem Next).run P w) = .ok (.value r) w ∧ VR ρ v r := by
    rintro s ⟨r, h1, h2⟩
    exact ⟨r, by simp only [Sem.run_bind, h1, Result.andThen_ok, Sem.run_pure], h2⟩
  have one : ∀ {x : Option Value}, x.map (·, A) = some (v, A') → x = some v := by
    intro x hx; cases x <;> cases hx; rfl
  obtain ⟨dst, op, ty, pos, after, guard⟩ := o
  simp only at h ht
  unfold aop at h
  split at h <;> try (simp [touches] at ht; done)
  · cases h; exact ⟨_, rfl, he _⟩
  · cases h; exact ⟨_, rfl, he _⟩
  · rename_i c a b
    have h1 := one h
    unfold apick at h1
    split at h1
    · rename_i t hc
      cases h1
      have hcr := he c
      rw [hc] at hcr
      cases hrc : rev c <;> rw [hrc] at hcr <;> cases hcr
      refine ⟨if t then rev a else rev b, by simp [execOp, hrc, asBool], ?_⟩
      cases t <;> exact he _
    · cases h1
  · rename_i t ps
    obtain ⟨r, k1, k2⟩ := build_sound (P := P) (evParts_VR he ps).1 (evParts_VR he ps).2 (one h) w
    refine val ⟨r, ?_, k2⟩
    rw [parts_eq]; exact k1
  · rename_i x
    have h1 := one h
    unfold anilCheck at h1
    split at h1
    · rename_i a hx
      cases h1
      have hc := he x
      rw [hx] at hc
      cases hrc : rev x with
      | pointer p =>
        cases p with
        | none => rw [hrc] at hc; cases hc
        | some p => exact ⟨.pointer (some p), by simp [execOp, hrc], by rw [← hrc, ← hx]; exact he x⟩
      | _ => rw [hrc] at hc; cases hc
    · cases h1
  · rename_i op t x y yt
    exact val ⟨v, abin_sound F (he x) (he y) (one h) w, plain1_self (abin_plain (one h))⟩
  · exact val (unary_sound (P := P) (he _) (one h) w)
  · exact val (convert_sound (P := P) (he _) (one h) w)
  · exact val (makeInterface_sound (P := P) (he _) (one h) w)
  · rename_i fn f c
    cases h
    refine ⟨.func fn (f.map rev) (c.map rev), rfl, .func _ _ _ _ _ (by simp) (by simp) ?_ ?_⟩
    · intro i v v' h1 h2
      simp only [Array.getElem?_map] at h1 h2
      cases hx : f[i]? with
      | none => rw [hx] at h1; cases h1
      | some q => rw [hx] at h1 h2; cases h1; cases h2; exact he q
    · intro i v v' h1 h2
      simp only [Array.getElem?_map] at h1 h2
      cases hx : c[i]? with
      | none => rw [hx] at h1; cases h1
      | some q => rw [hx] at h1 h2; cases h1; cases h2; exact he q
  · exact val (fieldAddr_sound (P := P) (he _) (one h) w)
  · exact val (field_sound (P := P) (he _) (one h) w)
  · exact val (indexAddr_sound (P := P) (he _) (he _) (one h) w)
  · exact val (index_sound (P := P) (he _) (he _) (one h) w)
  · exact val (typeAssert_sound (P := P) (he _) (one h) w)
  · exact val (extract_sound (P := P) (he _) (one h) w)

/-- operations that only read -/
def reads : Op → Bool
  | .load .. | .lookup .. | .slice .. => true
  | _ => false

theorem reader_sound {P : Program} (F : Fine P) {ρ : Rho} {A A' : AHeap} {w : World} {o : Oper} {ev rev : Operand → Value} {v : Value} (hr : Rel ρ A w) (ht : reads o.op = true) (he : ∀ x, VR ρ (ev x) (rev x))
    (h : aop P o.op ev A = some (v, A')) : ∃ r, (execOp rev o).run P w = .ok (.value r) w ∧ VR ρ v r := by
  have val : ∀ {s : Sem Value}, (∃ r, s.run P w = .ok r w ∧ VR ρ v r) → ∃ r, ((do pure (.value (← s)) : Sem Next).run P w) = .ok (.value r) w ∧ VR ρ v r := by
    rintro s ⟨r, h1, h2⟩
    exact ⟨r, by simp only [Sem.run_bind, h1, Result.andThen_ok, Sem.run_pure], h2⟩
  have one : ∀ {x : Option Value}, x.map (·, A) = some (v, A') → x = some v := by
    intro x hx; cases x <;> cases hx; rfl
  obtain ⟨dst, op, ty, pos, after, guard⟩ := o
  simp only at h ht
  cases op <;> simp [reads] at ht <;> simp only [aop] at h
  · exact val (load_sound (P := P) hr (he _) (one h))
  · exact val (slice_sound (P := P) hr (he _) (opt_VO he _) (opt_VO he _) (opt_VO he _) (one h))
  · exact val (lookup_sound F hr (he _) (he _) (one h))

/-! ### operands -/
theorem aop_congr {P : Program} {o : Op} {ev ev' : Operand → Value} (h : ∀ x ∈ o.operands, ev x = ev' x) (A : AHeap) : aop P o ev A = aop P o ev' A := by
  have parts : ∀ ps : Array (Nat × Operand), (∀ x ∈ (ps.toList.map (·.2)), ev x = ev' x) → evParts ev ps = evParts ev' ps := by
    intro ps hp
    unfold evParts
    apply List.map_congr_left
    intro p hpm
    rw [hp p.2 (List.mem_map_of_mem hpm)]
  have opt : ∀ x : Option Operand, (∀ y ∈ x.toArray, ev y = ev' y) → x.map ev = x.map ev' := by
    intro x hx; cases x <;> simp_all
  cases o with
  | move x => simp [aop, h x (by simp [Op.operands])]
  | assign x => simp [aop, h x (by simp [Op.operands])]
  | pick a b c => simp [aop, h a (by simp [Op.operands]), h b (by simp [Op.operands]), h c (by simp [Op.operands])]
  | alloc e => rfl
  | box e x => simp [aop, h x (by simp [Op.operands])]
  | build t ps => simp only [aop]; rw [parts ps (fun x hx => h x (by simpa [Op.operands] using hx))]
  | buildSlice t n ps => simp only [aop]; rw [parts ps (fun x hx => h x (by simpa [Op.operands] using hx))]
  | insert t a b c => simp [aop, h a (by simp [Op.operands]), h b (by simp [Op.operands]), h c (by simp [Op.operands])]
  | load t x => simp [aop, h x (by simp [Op.operands])]
  | store t a b => simp [aop, h a (by simp [Op.operands]), h b (by simp [Op.operands])]
  | nilCheck x => simp [aop, h x (by simp [Op.operands])]
  | binOp op t a b u => simp [aop, h a (by simp [Op.operands]), h b (by simp [Op.operands])]
  | unOp op t x => simp [aop, h x (by simp [Op.operands])]
  | convert s d x => simp [aop, h x (by simp [Op.operands])]
  | makeInterface t x => simp [aop, h x (by simp [Op.operands])]
  | makeFunc fn f c =>
    have h1 : f.map ev = f.map ev' := Array.map_congr_left fun x hx => h x (by simp [Op.operands, hx])
    have h2 : c.map ev = c.map ev' := Array.map_congr_left fun x hx => h x (by simp [Op.operands, hx])
    simp only [aop, h1, h2]
  | makeMap t r => simp only [aop]; rw [opt r (fun y hy => h y (by simpa [Op.operands] using hy))]
  | slice t x lo hi mx =>
    simp only [aop]
    rw [h x (by simp [Op.operands]), opt lo (fun y hy => h y (by simp [Op.operands]; simp at hy; simp [hy])), opt hi (fun y hy => h y (by simp [Op.operands]; simp at hy; simp [hy])),
      opt mx (fun y hy => h y (by simp [Op.operands]; simp at hy; simp [hy]))]
  | fieldAddr s x f => simp [aop, h x (by simp [Op.operands])]
  | field s x f => simp [aop, h x (by simp [Op.operands])]
  | indexAddr t a b => simp [aop, h a (by simp [Op.operands]), h b (by simp [Op.operands])]
  | index t a b => simp [aop, h a (by simp [Op.operands]), h b (by simp [Op.operands])]
  | lookup t a b ok => simp [aop, h a (by simp [Op.operands]), h b (by simp [Op.operands])]
  | mapUpdate t a b c => simp [aop, h a (by simp [Op.operands]), h b (by simp [Op.operands]), h c (by simp [Op.operands])]
  | mapEntry t a b => simp [aop, h a (by simp [Op.operands]), h b (by simp [Op.operands])]
  | entryStore t a b c => simp [aop, h a (by simp [Op.operands]), h b (by simp [Op.operands]), h c (by simp [Op.operands])]
  | range t x => simp [aop, h x (by simp [Op.operands])]
  | next x s => cases s <;> simp [aop, h x (by simp [Op.operands])]
  | typeAssert x t a ok => simp [aop, h x (by simp [Op.operands])]
  | extract x i => simp [aop, h x (by simp [Op.operands])]
  | entry x => simp [aop, h x (by simp [Op.operands])]
  | call c =>
    obtain ⟨ca, xs, ts⟩ := c
    cases ca with
    | builtin b =>
      simp only [aop]
      have : xs.toList.map ev = xs.toList.map ev' := List.map_congr_left fun x hx => h x (by simp [Op.operands, Call.operands]; simpa using hx)
      rw [this]
    | _ => rfl
  | _ => rfl

theorem acallee_congr {P : Program} {c : Call} {t t' : Tm} (h : ∀ x ∈ c.operands, aeval t x = aeval t' x) (A : AHeap) : acallee P A t c = acallee P A t' c := by
  obtain ⟨ca, xs, ts⟩ := c
  have hargs : xs.toList.map (aeval t) = xs.toList.map (aeval t') := List.map_congr_left fun x hx => h x (by simp [Call.operands]; exact .inr (by simpa using hx))
  unfold acallee
  cases ca with
  | value f =>
    have hf : aeval t f = aeval t' f := h f (by simp [Call.operands])
    simp only [hargs, hf]
  | invoke r name =>
    have hf : aeval t r = aeval t' r := h r (by simp [Call.operands])
    simp only [hargs, hf]
  | builtin b => rfl

theorem aop1_congr {P : Program} {o : Oper} {t t' : Tm} {A : AHeap} {K : Value → AHeap → Prop} (h : ∀ x ∈ o.op.operands, aeval t x = aeval t' x) (ha : aop1 P o t A K) : aop1 P o t' A K := by
  unfold aop1 at ha ⊢
  split at ha
  · rename_i c hk
    have hop : o.op = .call c := by
      unfold opKind at hk
      split at hk <;> first | (cases hk; done) | (cases hk; assumption)
    have := acallee_congr (P := P) (c := c) (t := t) (t' := t') (fun x hx => h x (by rw [hop]; exact hx)) A
    rw [this] at ha; exact ha
  · rename_i it hk
    have hop : o.op = .next it false := by
      unfold opKind at hk
      split at hk <;> first | (cases hk; done) | (cases hk; assumption)
    have : aeval t it = aeval t' it := h it (by rw [hop]; simp [Op.operands])
    rw [this] at ha; exact ha
  · rw [aop_congr (P := P) h A] at ha; exact ha

/-! ### the order -/
/-- masks of what stands before each operation -/
def preMask (acc : List Nat) (o : Oper) : Nat := o.after.toList.foldl (fun s e => if Region.binds .any e then s ||| 2 ^ e.on ||| acc.getD e.on 0 else s) 0
def preMasks : List Nat → List Oper → List Nat
  | acc, [] => acc
  | acc, o :: os => preMasks (acc ++ [preMask acc o]) os

inductive Before (ops : Array Oper) : Nat → Nat → Prop
  | edge (i j : Nat) (o : Oper) (e : Edge) (h1 : ops[j]? = some o) (h2 : e ∈ o.after.toList) (h3 : Region.binds .any e = true) (h4 : e.on = i) : Before ops i j
  | trans (i k j : Nat) (h1 : Before ops i k) (h2 : Before ops k j) : Before ops i j

theorem mask_before (ops : Array Oper) (acc : List Nat) (hacc : ∀ (j : Nat) m i, acc[j]? = some m → m.testBit i = true → Before ops i j) (j : Nat) (o : Oper) (ho : ops[j]? = some o) :
    ∀ (l : List Edge) (s : Nat), (∀ e ∈ l, e ∈ o.after.toList) → (∀ i, s.testBit i = true → Before ops i j) →
    ∀ i, (l.foldl (fun s e => if Region.binds .any e then s ||| 2 ^ e.on ||| acc.getD e.on 0 else s) s).testBit i = true → Before ops i j
  | [], s, _, hs, i, h => hs i h
  | e :: l, s, hl, hs, i, h => by
    rw [List.foldl_cons] at h
    refine mask_before ops acc hacc j o ho l _ (fun x hx => hl x (by simp [hx])) ?_ i h
    intro i hi
    split at hi
    · rename_i hb
      have hedge : Before ops e.on j := .edge _ j o e ho (hl e (by simp)) hb rfl
      rw [Nat.testBit_or, Nat.testBit_or, Bool.or_eq_true, Bool.or_eq_true] at hi
      rcases hi with (hi | hi) | hi
      · exact hs i hi
      · rw [Nat.testBit_two_pow] at hi
        have : e.on = i := of_decide_eq_true hi
        subst this; exact hedge
      · cases hm : acc[e.on]? with
        | none => simp [List.getD, hm] at hi
        | some m =>
          simp only [List.getD, hm, Option.getD_some] at hi
          exact .trans i e.on j (hacc _ _ _ hm hi) hedge
    · exact hs i hi

theorem preMasks_before (ops : Array Oper) : ∀ (os : List Oper) (acc : List Nat), (∀ (j : Nat) o, os[j]? = some o → ops[acc.length + j]? = some o) →
    (∀ (j : Nat) m i, acc[j]? = some m → m.testBit i = true → Before ops i j) → ∀ (j : Nat) m i, (preMasks acc os)[j]? = some m → m.testBit i = true → Before ops i j
  | [], acc, _, hacc, j, m, i, h, hi => hacc j m i h hi
  | o :: os, acc, hos, hacc, j, m, i, h, hi => by
    refine preMasks_before ops os (acc ++ [preMask acc o]) ?_ ?_ j m i h hi
    · intro k o' hk
      have := hos (k + 1) o' (by simpa using hk)
      rw [List.length_append, List.length_singleton]
      rwa [show acc.length + 1 + k = acc.length + (k + 1) by omega]
    · intro k m' i' hk hi'
      rw [List.getElem?_append] at hk
      split at hk
      · exact hacc k m' i' hk hi'
      · rename_i hlt
        have hk0 : k = acc.length := by
          have := (List.getElem?_eq_some_iff.1 hk).1
          simp at this; omega
        subst hk0
        simp at hk
        subst hk
        exact mask_before ops acc hacc _ o (by simpa using hos 0 o rfl) o.after.toList 0 (fun e he => he) (by simp) i' hi'

def isBefore (ms : List Nat) (i j : Nat) : Bool := (ms.getD j 0).testBit i

theorem isBefore_sound {ops : Array Oper} {i j : Nat} (h : isBefore (preMasks [] ops.toList) i j = true) : Before ops i j := by
  unfold isBefore at h
  cases hm : (preMasks [] ops.toList)[j]? with
  | none => simp [List.getD, hm] at h
  | some m =>
    simp only [List.getD, hm, Option.getD_some] at h
    exact preMasks_before ops ops.toList [] (by intro j o ho; simpa using ho) (by intro j m i h; simp at h) j m i hm h

/-- two operations in order, or apart in their temporaries -/
def okPair (ops : Array Oper) (ms : List Nat) (i j : Nat) : Bool :=
  isBefore ms i j || (match ops[i]?, ops[j]? with | some x, some y => x.apart ops y | _, _ => true)

/-- a region that may be gone through in the order of the text -/
def okDraw (ops : Array Oper) : Bool :=
  let ms := preMasks [] ops.toList
  (List.range ops.size).all fun j => (match ops[j]? with | some o => o.after.toList.all fun e => !Region.binds .any e || decide (e.on < j) | none => true) &&
    (List.range j).all fun i => okPair ops ms i j

/-- an operation in order with all others that touch memory, but for readers -/
def barrier (ops : Array Oper) (rd : List Nat) (i : Nat) : Bool :=
  let ms := preMasks [] ops.toList
  (List.range ops.size).all fun j => decide (j = i) || rd.contains j || (match ops[j]? with | some o => !touches o.op | none => true) || (if j < i then isBefore ms j i else isBefore ms i j)

end Go.AB

/-
  A region that draws its order: one run in the order of the text serves every order.
-/
namespace Go.AB
open Go
set_option linter.unusedSimpArgs false
set_option linter.unusedVariables false

/-- the old blocks are as they were -/
def Unch (A A' : AHeap) : Prop := ∀ j, j < A.n → A'.f j = A.f j

theorem Unch.refl (A : AHeap) : Unch A A := fun _ _ => rfl
theorem Unch.push (A : AHeap) (o : AObj) : Unch A (A.push o) := fun j h => AHeap.push_old _ _ h
theorem Unch.trans {A B C : AHeap} (h : Unch A B) (hn : A.n ≤ B.n) (k : Unch B C) : Unch A C := fun j hj => (k j (Nat.lt_of_lt_of_le hj hn)).trans (h j hj)

/-- the blocks of a value lie below a number -/
def Bnd (k : Nat) (v : Value) : Prop := ∃ ρ r, (∀ x, k ≤ x → ρ x = none) ∧ VR ρ v r

abbrev Pend := Nat × Op × Tm × Value

/-- a reader need not read the same behind an operation that stands behind it and in order with all others -/
def drops (ops : Array Oper) (rd : List Nat) (p i : Nat) : Bool := isBefore (preMasks [] ops.toList) p i && barrier ops rd i
def keepP (ops : Array Oper) (rd : List Nat) (i : Nat) (pend : List Pend) : List Pend := pend.filter fun p => !drops ops rd p.1 i

/-- the run in the order of the text. rd: the operations that only read, and read the same at every heap of the region -/
def adrawn (P : Program) (n : Nat) (ops : Array Oper) (rd : List Nat) : List Oper → Nat → Tm → AHeap → List AHeap → List Pend → (Tm → AHeap → Prop) → Prop
  | [], _, t, A, _, _, K => K t A
  | o :: os, i, t, A, hist, pend, K => match awanted ops t o with
    | none => False
    | some false => aput n t o.dst (.tuple ⟨[]⟩) fun t' => adrawn P n ops rd os (i + 1) t' A hist pend K
    | some true =>
      (rd.contains i = true ∧ reads o.op = true ∧ ∃ v, (∀ B ∈ A :: hist, aop P o.op (aeval t) B = some (v, B)) ∧ Bnd A.n v ∧
        aput n t o.dst v fun t' => adrawn P n ops rd os (i + 1) t' A hist ((i, o.op, t, v) :: pend) K) ∨
      (rd.contains i = false ∧ ∃ v A', aop1 P o t A (fun v' A'' => v' = v ∧ A'' = A') ∧ A.n ≤ A'.n ∧ (Unch A A' ∨ barrier ops rd i = true) ∧
        (∀ p ∈ keepP ops rd i pend, aop P p.2.1 (aeval p.2.2.1) A' = some (p.2.2.2, A')) ∧
        aput n t o.dst v fun t' => adrawn P n ops rd os (i + 1) t' A' (A :: hist) (keepP ops rd i pend) K)

/-- one operation of a run -/
structure Good0 (P : Program) (n : Nat) (ops : Array Oper) (rd : List Nat) (R : Nat → Op → Tm → Value → Prop) (T : Nat → Tm) (H : Nat → AHeap) (V : Nat → Value) (i : Nat) (o : Oper) : Prop where
  put : match o.dst with | none => T (i + 1) = T i | some d => d < n ∧ T (i + 1) = upd (T i) d (V i)
  step : (awanted ops (T i) o = some false ∧ V i = .tuple ⟨[]⟩ ∧ H (i + 1) = H i) ∨
    (awanted ops (T i) o = some true ∧ rd.contains i = false ∧ aop1 P o (T i) (H i) (fun v A => v = V i ∧ A = H (i + 1)) ∧ (H i).n ≤ (H (i + 1)).n ∧ (Unch (H i) (H (i + 1)) ∨ barrier ops rd i = true)) ∨
    (awanted ops (T i) o = some true ∧ rd.contains i = true ∧ reads o.op = true ∧ R i o.op (T i) (V i) ∧ Bnd (H i).n (V i) ∧ H (i + 1) = H i)

theorem Good0.mono {P : Program} {n : Nat} {ops : Array Oper} {rd : List Nat} {R R' : Nat → Op → Tm → Value → Prop} {T : Nat → Tm} {H : Nat → AHeap} {V : Nat → Value} {i : Nat} {o : Oper}
    (hR : ∀ a b c, R i a b c → R' i a b c) (h : Good0 P n ops rd R T H V i o) : Good0 P n ops rd R' T H V i o := by
  refine ⟨h.put, ?_⟩
  rcases h.step with h | h | ⟨h1, h2, h3, h4, h5⟩
  · exact .inl h
  · exact .inr (.inl h)
  · exact .inr (.inr ⟨h1, h2, h3, hR _ _ _ h4, h5⟩)

/-- the same at all heaps of a stretch -/
def At (P : Program) (ops : Array Oper) (rd : List Nat) (hist : List AHeap) (H : Nat → AHeap) (lo hi : Nat) (x : Nat) (o : Op) (t : Tm) (v : Value) : Prop :=
  (∀ B ∈ hist, aop P o (aeval t) B = some (v, B)) ∧ ∀ k, lo ≤ k → k ≤ hi → (∀ j, x ≤ j → j < k → drops ops rd x j = false) → aop P o (aeval t) (H k) = some (v, H k)

theorem trace {P : Program} {n : Nat} {ops : Array Oper} {rd : List Nat} {K : Tm → AHeap → Prop} : ∀ (os : List Oper) (i : Nat) (t : Tm) (A : AHeap) (hist : List AHeap) (pend : List Pend),
    (∀ p ∈ pend, aop P p.2.1 (aeval p.2.2.1) A = some (p.2.2.2, A)) → adrawn P n ops rd os i t A hist pend K →
    ∃ (T : Nat → Tm) (H : Nat → AHeap) (V : Nat → Value), T i = t ∧ H i = A ∧ (∀ (j : Nat) o, os[j]? = some o → Good0 P n ops rd (At P ops rd hist H i (i + os.length)) T H V (i + j) o) ∧
      (∀ p ∈ pend, ∀ k, i ≤ k → k ≤ i + os.length → (∀ j, i ≤ j → j < k → drops ops rd p.1 j = false) → aop P p.2.1 (aeval p.2.2.1) (H k) = some (p.2.2.2, H k)) ∧ K (T (i + os.length)) (H (i + os.length))
  | [], i, t, A, hist, pend, hp, h => ⟨fun _ => t, fun _ => A, fun _ => undef, rfl, rfl, fun j o hj => by simp at hj, fun p hpp k _ _ _ => hp p hpp, h⟩
  | o :: os, i, t, A, hist, pend, hp, h => by
    have glue : ∀ (v : Value) (A' : AHeap) (t' : Tm) (hist' : List AHeap) (pend' : List Pend), (match o.dst with | none => t' = t | some d => d < n ∧ t' = upd t d v) →
        (∀ p ∈ pend', aop P p.2.1 (aeval p.2.2.1) A' = some (p.2.2.2, A')) → (∀ p ∈ pend, p ∈ pend' ∨ drops ops rd p.1 i = true) → (∀ B ∈ hist, B ∈ hist') → (A' = A ∨ A ∈ hist') →
        ((awanted ops t o = some false ∧ v = .tuple ⟨[]⟩ ∧ A' = A) ∨
          (awanted ops t o = some true ∧ rd.contains i = false ∧ aop1 P o t A (fun v' A'' => v' = v ∧ A'' = A') ∧ A.n ≤ A'.n ∧ (Unch A A' ∨ barrier ops rd i = true)) ∨
          (awanted ops t o = some true ∧ rd.contains i = true ∧ reads o.op = true ∧ (∀ B ∈ A :: hist, aop P o.op (aeval t) B = some (v, B)) ∧ (i, o.op, t, v) ∈ pend' ∧ Bnd A.n v ∧ A' = A)) →
        adrawn P n ops rd os (i + 1) t' A' hist' pend' K →
        ∃ (T : Nat → Tm) (H : Nat → AHeap) (V : Nat → Value), T i = t ∧ H i = A ∧ (∀ (j : Nat) o', (o :: os)[j]? = some o' → Good0 P n ops rd (At P ops rd hist H i (i + (o :: os).length)) T H V (i + j) o') ∧
          (∀ p ∈ pend, ∀ k, i ≤ k → k ≤ i + (o :: os).length → (∀ j, i ≤ j → j < k → drops ops rd p.1 j = false) → aop P p.2.1 (aeval p.2.2.1) (H k) = some (p.2.2.2, H k)) ∧
          K (T (i + (o :: os).length)) (H (i + (o :: os).length)) := by
      intro v A' t' hist' pend' hpt hp' hpp hhh hAh hs hrest
      obtain ⟨T, H, V, h1, h2, h3, h4, h5⟩ := trace os (i + 1) t' A' hist' pend' hp' hrest
      have hlen : i + (o :: os).length = i + 1 + os.length := by simp; omega
      refine ⟨fun k => if k ≤ i then t else T k, fun k => if k ≤ i then A else H k, fun k => if k ≤ i then v else V k, by simp, by simp, ?_, ?_, ?_⟩
      · intro j o' hj
        cases j with
        | zero =>
          simp at hj; subst hj
          refine ⟨?_, ?_⟩
          · simp only [Nat.add_zero, Nat.le_refl, if_true, if_neg (show ¬ i + 1 ≤ i by omega), h1]
            exact hpt
          · simp only [Nat.add_zero, Nat.le_refl, if_true, if_neg (show ¬ i + 1 ≤ i by omega), h2]
            rcases hs with hs | hs | ⟨a1, a2, a3, a4, a5, a6, a7⟩
            · exact .inl hs
            · exact .inr (.inl hs)
            · refine .inr (.inr ⟨a1, a2, a3, ⟨fun B hB => a4 B (by simp [hB]), fun k hk1 hk2 hl => ?_⟩, a6, a7⟩)
              by_cases hki : k ≤ i
              · simp only [if_pos hki]; exact a4 A (by simp)
              · simp only [if_neg hki]
                exact h4 _ a5 k (by omega) (by omega) (fun j hj1 hj2 => hl j (by omega) hj2)
        | succ j =>
          have g := h3 j o' (by simpa using hj)
          rw [show i + 1 + j = i + (j + 1) by omega] at g
          obtain ⟨g1, g2⟩ := g
          have n1 : ¬ i + (j + 1) ≤ i := by omega
          have n2 : ¬ i + (j + 1) + 1 ≤ i := by omega
          refine ⟨?_, ?_⟩
          · simp only [if_neg n1, if_neg n2]
            exact g1
          · simp only [if_neg n1, if_neg n2]
            rcases g2 with g2 | g2 | ⟨a1, a2, a3, a4, a5, a6⟩
            · exact .inl g2
            · exact .inr (.inl g2)
            · refine .inr (.inr ⟨a1, a2, a3, ⟨fun B hB => a4.1 B (hhh B hB), fun k hk1 hk2 hl => ?_⟩, a5, a6⟩)
              by_cases hki : k ≤ i
              · simp only [if_pos hki]
                rcases hAh with hAh | hAh
                · have := a4.2 (i + 1) (Nat.le_refl _) (by omega) (fun j hj1 hj2 => by omega)
                  rw [h2, hAh] at this; exact this
                · exact a4.1 A hAh
              · simp only [if_neg hki]
                exact a4.2 k (by omega) (by omega) hl
      · intro p hpm k hk1 hk2 hl
        by_cases hki : k ≤ i
        · simp only [if_pos hki]; exact hp p hpm
        · simp only [if_neg hki]
          rcases hpp p hpm with hpp | hpp
          · exact h4 p hpp k (by omega) (by omega) (fun j hj1 hj2 => hl j (by omega) hj2)
          · rw [hl i (Nat.le_refl _) (by omega)] at hpp; cases hpp
      · rw [hlen]
        simp only [if_neg (show ¬ i + 1 + os.length ≤ i by omega)]
        exact h5
    simp only [adrawn] at h
    split at h
    · exact h.elim
    · rename_i hw
      unfold aput at h
      split at h
      · rename_i hd; exact glue _ A t hist pend (by rw [hd]) hp (fun _ h => .inl h) (fun _ h => h) (.inl rfl) (.inl ⟨hw, rfl, rfl⟩) h
      · rename_i d hd; exact glue _ A _ hist pend (by rw [hd]; exact ⟨h.1, rfl⟩) hp (fun _ h => .inl h) (fun _ h => h) (.inl rfl) (.inl ⟨hw, rfl, rfl⟩) h.2
    · rename_i hw
      rcases h with ⟨h1, h2, v, h3, h4, h5⟩ | ⟨h0, v, A', h1, h2, h3, hpn, h4⟩
      · have hp' : ∀ p ∈ (i, o.op, t, v) :: pend, aop P p.2.1 (aeval p.2.2.1) A = some (p.2.2.2, A) := by
          intro p hpm
          rcases List.mem_cons.1 hpm with rfl | hpm
          · exact h3 A (by simp)
          · exact hp p hpm
        unfold aput at h5
        split at h5
        · rename_i hd; exact glue v A t hist _ (by rw [hd]) hp' (fun _ h => .inl (List.mem_cons_of_mem _ h)) (fun _ h => h) (.inl rfl) (.inr (.inr ⟨hw, h1, h2, h3, by simp, h4, rfl⟩)) h5
        · rename_i d hd; exact glue v A _ hist _ (by rw [hd]; exact ⟨h5.1, rfl⟩) hp' (fun _ h => .inl (List.mem_cons_of_mem _ h)) (fun _ h => h) (.inl rfl) (.inr (.inr ⟨hw, h1, h2, h3, by simp, h4, rfl⟩)) h5.2
      · have hkp : ∀ p ∈ pend, p ∈ keepP ops rd i pend ∨ drops ops rd p.1 i = true := fun p hpm => by
          cases hdp : drops ops rd p.1 i with
          | true => exact .inr rfl
          | false => exact .inl (List.mem_filter.2 ⟨hpm, by rw [hdp]; rfl⟩)
        unfold aput at h4
        split at h4
        · rename_i hd; exact glue v A' t (A :: hist) (keepP ops rd i pend) (by rw [hd]) hpn hkp (fun _ h => List.mem_cons_of_mem _ h) (.inr (by simp)) (.inr (.inl ⟨hw, h0, h1, h2, h3⟩)) h4
        · rename_i d hd; exact glue v A' _ (A :: hist) (keepP ops rd i pend) (by rw [hd]; exact ⟨h4.1, rfl⟩) hpn hkp (fun _ h => List.mem_cons_of_mem _ h) (.inr (by simp)) (.inr (.inl ⟨hw, h0, h1, h2, h3⟩)) h4.2

/-- .. at all heaps of the region -/
abbrev Good (P : Program) (n : Nat) (ops : Array Oper) (rd : List Nat) (T : Nat → Tm) (H : Nat → AHeap) (V : Nat → Value) : Nat → Oper → Prop :=
  Good0 P n ops rd (fun x o t v => ∀ k, k ≤ ops.size → (∀ j, x ≤ j → j < k → drops ops rd x j = false) → aop P o (aeval t) (H k) = some (v, H k)) T H V

/-- ρ below a number -/
def cut (ρ : Rho) (k : Nat) : Rho := fun i => if i < k then ρ i else none
theorem cut_sub (ρ : Rho) (k : Nat) : Sub (cut ρ k) ρ := by
  intro i e h; unfold cut at h; split at h
  · exact h
  · cases h
theorem cut_some {ρ : Rho} {k i : Nat} {e : Ent} (h : cut ρ k i = some e) : i < k ∧ ρ i = some e := by
  unfold cut at h; split at h
  · exact ⟨by assumption, h⟩
  · cases h
theorem cut_mk {ρ : Rho} {k i : Nat} {e : Ent} (h : ρ i = some e) (hk : i < k) : cut ρ k i = some e := by
  unfold cut; rw [if_pos hk]; exact h

theorem VR.restrict {ρs ρb : Rho} (hs : Sub ρs ρb) {a r0 r : Value} (h0 : VR ρs a r0) (h : VR ρb a r) : VR ρs a r := by
  induction h0 generalizing r with
  | top v => exact .top _
  | bool b => cases h; exact .bool b
  | int k n => cases h; exact .int k n
  | string s => cases h; exact .string s
  | pnil => cases h; exact .pnil
  | ptr i o q e he hq =>
    cases h with
    | ptr _ _ q' e' he' hq' =>
      have := hs _ _ he
      rw [he'] at this; cases this
      exact .ptr _ _ _ _ he hq'
  | snil n c => cases h; exact .snil _ _
  | slice i o q n c e he hq hc =>
    cases h with
    | slice _ _ q' _ _ e' he' hq' hc' =>
      have := hs _ _ he
      rw [he'] at this; cases this
      exact .slice _ _ _ _ _ _ he hq' hc
    | sliceU => exact absurd hc (Nat.lt_irrefl _)
    | sliceE => exact absurd hc (by unfold ecap ucap; omega)
  | sliceU i o q n c e he hq h1 h2 h3 =>
    cases h with
    | slice _ _ q' _ _ e' he' hq' hc' => exact absurd hc' (Nat.lt_irrefl _)
    | sliceU _ _ q' _ c' e' he' hq' k1 k2 k3 =>
      have := hs _ _ he
      rw [he'] at this; cases this
      exact .sliceU _ _ _ _ _ _ he hq' k1 k2 k3
  | sliceE a a' c =>
    cases h with
    | slice _ _ q' _ _ e' he' hq' hc' => exact absurd hc' (by unfold ecap ucap; omega)
    | sliceE _ a2 c2 => exact .sliceE _ _ _
  | mnil => cases h; exact .mnil
  | map i e he =>
    cases h with
    | map _ e' he' =>
      have := hs _ _ he
      rw [he'] at this; cases this
      exact .map _ _ he
  | nilFunc => cases h; exact .nilFunc
  | func fn f g f' g' hf hg _ _ i1 i2 =>
    cases h with
    | func _ _ _ f2 g2 hf2 hg2 k1 k2 =>
      refine .func _ _ _ _ _ hf2 hg2 ?_ ?_
      · intro i v v' h1 h2
        have hlt : i < f'.size := by rw [← hf]; exact (Array.getElem?_eq_some_iff.1 h1).1
        exact i1 i v f'[i] h1 (Array.getElem?_eq_getElem hlt) (k1 i v v' h1 h2)
      · intro i v v' h1 h2
        have hlt : i < g'.size := by rw [← hg]; exact (Array.getElem?_eq_some_iff.1 h1).1
        exact i2 i v g'[i] h1 (Array.getElem?_eq_getElem hlt) (k2 i v v' h1 h2)
  | nilIface => cases h; exact .nilIface
  | iface t v v' _ ih =>
    cases h with
    | iface _ _ v2 h2 => exact .iface _ _ _ (ih h2)
  | agg c c' hsz _ ih =>
    cases h with
    | agg _ c2 hs2 h2 =>
      refine .agg _ _ hs2 fun i v v' h1 h3 => ?_
      have hlt : i < c'.size := by rw [← hsz]; exact (Array.getElem?_eq_some_iff.1 h1).1
      exact ih i v c'[i] h1 (Array.getElem?_eq_getElem hlt) (h2 i v v' h1 h3)
  | tuple c c' hsz _ ih =>
    cases h with
    | tuple _ c2 hs2 h2 =>
      refine .tuple _ _ hs2 fun i v v' h1 h3 => ?_
      have hlt : i < c'.size := by rw [← hsz]; exact (Array.getElem?_eq_some_iff.1 h1).1
      exact ih i v c'[i] h1 (Array.getElem?_eq_getElem hlt) (h2 i v v' h1 h3)

theorem OR.restrict {ρs ρb : Rho} (hs : Sub ρs ρb) {h0 h1 : Array Obj} {e : Ent} {o : AObj} (a : OR ρs h0 e o) (b : OR ρb h1 e o) : OR ρs h1 e o := by
  cases o with
  | dead => trivial
  | row cs k =>
    obtain ⟨c0, t0, f0, a1, a2, a3⟩ := a
    obtain ⟨c, t, f, b1, b2, b3⟩ := b
    refine ⟨c, t, f, b1, fun i v hv => ?_, b3⟩
    obtain ⟨v0, x1, x2⟩ := a2 i v hv
    obtain ⟨v', y1, y2⟩ := b2 i v hv
    exact ⟨v', y1, x2.restrict hs y2⟩
  | map es clock =>
    obtain ⟨e0, a1, a2⟩ := a
    obtain ⟨e1, b1, b2⟩ := b
    refine ⟨e1, b1, b2.size, fun i a en ha hen => ?_, b2.keys, b2.born, b2.clock, b2.self⟩
    obtain ⟨x, y, z⟩ := b2.each i a en ha hen
    have hlt : i < e0.size := by rw [a2.size]; exact (List.getElem?_eq_some_iff.1 ha).1
    obtain ⟨_, _, z0⟩ := a2.each i a e0[i] ha (Array.getElem?_eq_getElem hlt)
    exact ⟨x, y, z0.restrict hs z⟩
  | iter m since seen last =>
    obtain ⟨em, a1, _, _⟩ := a
    obtain ⟨em', b1, b2, b3⟩ := b
    have := hs _ _ a1
    rw [b1] at this; cases this
    exact ⟨em, a1, b2, b3⟩
  | siter s p => exact b

/-- a value whose blocks lie below a number, seen under ρ -/
theorem VR.bnd {ρ ρ' : Rho} {k : Nat} (hk : ∀ x, k ≤ x → ρ' x = none) {v r' r : Value} (h' : VR ρ' v r') (h : VR ρ v r) : VR (cut ρ k) v r := by
  have lt : ∀ {i e}, ρ' i = some e → i < k := fun {i e} hi => by
    rcases Nat.lt_or_ge i k with h | h
    · exact h
    · rw [hk i h] at hi; cases hi
  induction h' generalizing r with
  | top v => exact .top _
  | bool b => cases h; exact .bool b
  | int k n => cases h; exact .int k n
  | string s => cases h; exact .string s
  | pnil => cases h; exact .pnil
  | ptr i o q e he hq => cases h with | ptr _ _ q' e' he' hq' => exact .ptr _ _ _ _ (cut_mk he' (lt he)) hq'
  | snil n c => cases h; exact .snil _ _
  | slice i o q n c e he hq hc =>
    cases h with
    | slice _ _ q' _ _ e' he' hq' hc' => exact .slice _ _ _ _ _ _ (cut_mk he' (lt he)) hq' hc
    | sliceU => exact absurd hc (Nat.lt_irrefl _)
    | sliceE => exact absurd hc (by unfold ecap ucap; omega)
  | sliceU i o q n c e he hq h1 h2 h3 =>
    cases h with
    | slice _ _ q' _ _ e' he' hq' hc' => exact absurd hc' (Nat.lt_irrefl _)
    | sliceU _ _ q' _ c' e' he' hq' k1 k2 k3 => exact .sliceU _ _ _ _ _ _ (cut_mk he' (lt he)) hq' k1 k2 k3
  | sliceE a a' c =>
    cases h with
    | slice _ _ q' _ _ e' he' hq' hc' => exact absurd hc' (by unfold ecap ucap; omega)
    | sliceE _ a2 c2 => exact .sliceE _ _ _
  | mnil => cases h; exact .mnil
  | map i e he => cases h with | map _ e' he' => exact .map _ _ (cut_mk he' (lt he))
  | nilFunc => cases h; exact .nilFunc
  | func fn f g f' g' hf hg _ _ i1 i2 =>
    cases h with
    | func _ _ _ f2 g2 hf2 hg2 k1 k2 =>
      refine .func _ _ _ _ _ hf2 hg2 ?_ ?_
      · intro i v v' h1 h2
        have hlt : i < f'.size := by rw [← hf]; exact (Array.getElem?_eq_some_iff.1 h1).1
        exact i1 i v f'[i] h1 (Array.getElem?_eq_getElem hlt) (k1 i v v' h1 h2)
      · intro i v v' h1 h2
        have hlt : i < g'.size := by rw [← hg]; exact (Array.getElem?_eq_some_iff.1 h1).1
        exact i2 i v g'[i] h1 (Array.getElem?_eq_getElem hlt) (k2 i v v' h1 h2)
  | nilIface => cases h; exact .nilIface
  | iface t v v' _ ih =>
    cases h with
    | iface _ _ v2 h2 => exact .iface _ _ _ (ih h2)
  | agg c c' hsz _ ih =>
    cases h with
    | agg _ c2 hs2 h2 =>
      refine .agg _ _ hs2 fun i v v' h1 h3 => ?_
      have hlt : i < c'.size := by rw [← hsz]; exact (Array.getElem?_eq_some_iff.1 h1).1
      exact ih i v c'[i] h1 (Array.getElem?_eq_getElem hlt) (h2 i v v' h1 h3)
  | tuple c c' hsz _ ih =>
    cases h with
    | tuple _ c2 hs2 h2 =>
      refine .tuple _ _ hs2 fun i v v' h1 h3 => ?_
      have hlt : i < c'.size := by rw [← hsz]; exact (Array.getElem?_eq_some_iff.1 h1).1
      exact ih i v c'[i] h1 (Array.getElem?_eq_getElem hlt) (h2 i v v' h1 h3)

end Go.AB
