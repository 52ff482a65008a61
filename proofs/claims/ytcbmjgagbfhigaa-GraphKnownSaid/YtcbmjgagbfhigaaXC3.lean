/-
  A region that draws its order: the rule.
-/
import Derived.Test.YtcbmjgagbfhigaaXC2
namespace Go.AB
open Go
set_option linter.unusedSimpArgs false
set_option linter.unusedVariables false

theorem touches_other {o : Op} (h : touches o = false) : opKind o = .other := by
  cases o <;> simp [touches] at h <;> rfl

section
variable {P : Program} {n : Nat} {ops : Array Oper} {rd : List Nat} {T : Nat → Tm} {H : Nat → AHeap} {V : Nat → Value}

theorem Good.n_le {i : Nat} {o : Oper} (h : Good P n ops rd T H V i o) : (H i).n ≤ (H (i + 1)).n := by
  rcases h.step with ⟨_, _, h⟩ | ⟨_, _, _, h, _⟩ | ⟨_, _, _, _, _, h⟩
  · rw [h]; exact Nat.le_refl _
  · exact h
  · rw [h]; exact Nat.le_refl _

theorem Good.pure_H {i : Nat} {o : Oper} (h : Good P n ops rd T H V i o) (ht : touches o.op = false) : H (i + 1) = H i := by
  rcases h.step with ⟨_, _, h⟩ | ⟨_, _, h, _, _⟩ | ⟨_, _, _, _, _, h⟩
  · exact h
  · unfold aop1 at h
    rw [touches_other ht] at h
    simp only at h
    split at h
    · rename_i v A' ha
      rw [← h.2]; exact (pure_aop ht ha).1
    · exact h.elim
  · exact h

theorem Good.reader_H {i : Nat} {o : Oper} (h : Good P n ops rd T H V i o) (hr : rd.contains i = true) : H (i + 1) = H i := by
  rcases h.step with ⟨_, _, h⟩ | ⟨_, h0, _⟩ | ⟨_, _, _, _, _, h⟩
  · exact h
  · rw [hr] at h0; cases h0
  · exact h

theorem aeval_looks {t t' : Tm} {o : Oper} (h : ∀ s ∈ o.looksAt ops, t s = t' s) : ∀ x ∈ o.op.operands, aeval t x = aeval t' x := by
  intro x hx
  cases x with
  | tmp s =>
    refine h s ?_
    unfold Oper.looksAt
    rw [List.mem_append]
    left
    rw [List.mem_filterMap]
    exact ⟨.tmp s, by simpa using hx, rfl⟩
  | _ => rfl

theorem awanted_looks {t t' : Tm} {o : Oper} (h : ∀ s ∈ o.looksAt ops, t s = t' s) : awanted ops t o = awanted ops t' o := by
  unfold awanted
  cases hg : o.guard with
  | none => rfl
  | some g =>
    obtain ⟨j, want⟩ := g
    simp only
    cases hd : (ops[j]?).bind (·.dst) with
    | none => rfl
    | some d =>
      have : t d = t' d := by
        refine h d ?_
        unfold Oper.looksAt
        rw [List.mem_append]
        right
        rw [hg]
        simp [hd]
      simp only [this]

/-- one operation that is ready, wherever the run stands -/
theorem exec_one (F : Fine P) (hok : okDraw ops = true) (hg : ∀ j o, ops[j]? = some o → Good P n ops rd T H V j o) {ρ0 : Rho} {w0 : World} (h0 : ∀ x e, ρ0 x = some e → x < (H 0).n)
    {D : Nat → Bool} {a : Act} {w : World} {ρ : Rho} (hJ : J n ops T H V ρ0 w0 D a w ρ) {i : Nat} {o : Oper} (ho : ops[i]? = some o) (hD : D i = false)
    (hready : ∀ e ∈ o.after.toList, Region.binds .any e = true → D e.on = true) (Q : Exit → Act → World → Prop) :
    wpOp P ops Q i (fun a' w' => ∃ ρ', J n ops T H V ρ0 w0 (done D i) a' w' ρ') a w := by
  have hi : i < ops.size := (Array.getElem?_eq_some_iff.1 ho).1
  have hnn : ∀ j, j < ops.size → (H j).n ≤ (H (j + 1)).n := fun j hj => (hg j _ (Array.getElem?_eq_getElem hj)).n_le
  have hgi := hg i o ho
  have hslot : ∀ s ∈ o.looksAt ops, VR (cut ρ (H i).n) (T i s) (a.tmps.getD s undef) := fun s hs => slot_ready hok hg hnn h0 hJ ho hD hready hs
  -- the temporaries that it looks at
  let t' : Tm := fun s => if s ∈ o.looksAt ops then T i s else top
  have ht' : TR (cut ρ (H i).n) n t' a.tmps := by
    refine ⟨hJ.tsize, fun s => ?_⟩
    show VR _ (if s ∈ o.looksAt ops then T i s else top) _
    split
    · rename_i hs; exact hslot s hs
    · exact .top _
  have hagree : ∀ s ∈ o.looksAt ops, T i s = t' s := fun s hs => by
    show T i s = if s ∈ o.looksAt ops then T i s else top
    rw [if_pos hs]
  have hwant : ∀ {b}, awanted ops (T i) o = some b → Region.wanted o (yielded ops a.tmps) = b := by
    intro b hb
    rw [awanted_looks hagree] at hb
    exact awanted_sound ht' hb
  have notMut : ∀ j o', ops[j]? = some o' → Mut ops H j → touches o'.op = true := by
    intro j o' hj hm
    cases ht : touches o'.op with
    | true => rfl
    | false => exact absurd (by rw [(hg j o' hj).pure_H ht]; exact Unch.refl _) hm.2
  have notNew : ∀ j o', ops[j]? = some o' → (H j).n < (H (j + 1)).n → touches o'.op = true ∧ rd.contains j = false := by
    intro j o' hj hm
    refine ⟨?_, ?_⟩
    · cases ht : touches o'.op with
      | true => rfl
      | false => rw [(hg j o' hj).pure_H ht] at hm; exact absurd hm (Nat.lt_irrefl _)
    · cases hrd : rd.contains j with
      | false => rfl
      | true => rw [(hg j o' hj).reader_H hrd] at hm; exact absurd hm (Nat.lt_irrefl _)
  have mutBar : ∀ j, Mut ops H j → barrier ops rd j = true := by
    intro j hm
    rcases (hg j _ (Array.getElem?_eq_getElem hm.1)).step with ⟨_, _, h⟩ | ⟨_, _, _, _, h⟩ | ⟨_, _, _, _, _, h⟩
    · exact absurd (by rw [h]; exact Unch.refl _) hm.2
    · rcases h with h | h
      · exact absurd h hm.2
      · exact h
    · exact absurd (by rw [h]; exact Unch.refl _) hm.2
  have mutRd : ∀ j, Mut ops H j → rd.contains j = false := by
    intro j hm
    cases hrd : rd.contains j with
    | false => rfl
    | true => exact absurd (by rw [(hg j _ (Array.getElem?_eq_getElem hm.1)).reader_H hrd]; exact Unch.refl _) hm.2
  unfold wpOp
  rw [ho]
  simp only
  rcases hgi.step with ⟨s1, s2, s3⟩ | ⟨s1, s0, s2, s3, s4⟩ | ⟨s1, s0, sk, sR, sB, sH⟩
  · rw [hwant s1]
    simp only [Bool.false_eq_true, if_false]
    exact ⟨ρ, J_leaf hok hJ ho hD hready hgi s3 (by rw [s2]; exact VL.tuple .nil)⟩
  · rw [hwant s1]
    simp only [if_true]
    left
    have s2' := aop1_congr (aeval_looks hagree) s2
    cases ht : touches o.op with
    | false =>
      unfold aop1 at s2'
      rw [touches_other ht] at s2'
      simp only at s2'
      split at s2'
      · rename_i v A' ha
        have hrev : ∀ x, VR (cut ρ (H i).n) (aeval t' x) (a.eval x) := by
          obtain ⟨tm, df⟩ := a
          exact ht'.eval df
        obtain ⟨r, k1, k2⟩ := pure_sound F ht hrev ha w
        unfold Oper.wp
        rw [k1]
        rw [s2'.1] at k2
        exact ⟨ρ, J_leaf hok hJ ho hD hready hgi (hgi.pure_H ht) k2⟩
      · exact s2'.elim
    | true =>
      have hwin : Win ops H D i := by
        refine ⟨by omega, fun j hm hj => ?_, fun j hm hj => ?_⟩
        · rcases Nat.lt_trichotomy j i with h | h | h
          · exact h
          · subst h; rw [hD] at hj; cases hj
          · have := (barrier_order (mutBar j hm) ho ht s0 (by omega)).1 h
            have := hJ.down _ _ this hj
            rw [hD] at this; cases this
        · rcases Nat.lt_or_ge j i with h | h
          · have := (barrier_order (mutBar j hm) ho ht s0 (by omega)).2 h
            have := pre_done hJ ho hready this
            rw [hj] at this; cases this
          · exact h
      have hdone := aop1_sound F (ds := a.defers) (hJ.win i hwin) ht' s2'
      unfold Oper.wp
      refine upon_of_done hdone ?_
      rintro r w1 ⟨ρ1, v, A', ⟨rfl, rfl⟩, k2, k3⟩
      exact ⟨_, J_touch hok hnn hJ h0 ho hD hready hgi s4 notMut notNew mutBar ht k2 k3 hwin⟩
  · -- a reader: at the last heap of the window
    rw [hwant s1]
    simp only [if_true]
    left
    have nodrop : ∀ j, drops ops rd i j = true → D j = false := fun j hj => by
      cases hDj : D j with
      | false => rfl
      | true =>
        unfold drops at hj
        rw [Bool.and_eq_true] at hj
        have := hJ.down _ _ (isBefore_sound hj.1) hDj
        rw [hD] at this; cases this
    have hex : ∃ k, Win ops H D k ∧ (k = ops.size ∨ (barrier ops rd k = true ∧ D k = false)) ∧ (∀ j, i ≤ j → j < k → drops ops rd i j = false) := by
      by_cases hsome : ∃ j, j < ops.size ∧ D j = false ∧ (Mut ops H j ∨ drops ops rd i j = true)
      · obtain ⟨k, hk, hmin⟩ : ∃ k, (k < ops.size ∧ D k = false ∧ (Mut ops H k ∨ drops ops rd i k = true)) ∧ ∀ j, j < k → ¬ (j < ops.size ∧ D j = false ∧ (Mut ops H j ∨ drops ops rd i j = true)) := by
          obtain ⟨j, hj⟩ := hsome
          induction j using Nat.strongRecOn with
          | _ j ih =>
            by_cases hl : ∃ j', j' < j ∧ j' < ops.size ∧ D j' = false ∧ (Mut ops H j' ∨ drops ops rd i j' = true)
            · obtain ⟨j', h1, h2⟩ := hl; exact ih j' h1 h2
            · exact ⟨j, hj, fun j' h1 h2 => hl ⟨j', h1, h2⟩⟩
        have hbar : barrier ops rd k = true := by
          rcases hk.2.2 with h | h
          · exact mutBar k h
          · unfold drops at h; rw [Bool.and_eq_true] at h; exact h.2
        refine ⟨k, ⟨by have := hk.1; omega, fun j hm hj => ?_, fun j hm hj => ?_⟩, .inr ⟨hbar, hk.2.1⟩, fun j hij hjk => ?_⟩
        · rcases Nat.lt_trichotomy j k with h | h | h
          · exact h
          · subst h; rw [hk.2.1] at hj; cases hj
          · have hok' := Array.getElem?_eq_getElem hm.1
            have := (barrier_order hbar hok' (notMut j _ hok' hm) (mutRd j hm) (by omega)).2 h
            have := hJ.down _ _ this hj
            rw [hk.2.1] at this; cases this
        · rcases Nat.lt_or_ge j k with h | h
          · exact absurd ⟨hm.1, hj, .inl hm⟩ (hmin j h)
          · exact h
        · cases hdr : drops ops rd i j with
          | false => rfl
          | true => exact absurd ⟨by have := hk.1; omega, nodrop j hdr, .inr hdr⟩ (hmin j hjk)
      · refine ⟨ops.size, ⟨Nat.le_refl _, fun j hm _ => hm.1, fun j hm hj => absurd ⟨j, hm.1, hj, .inl hm⟩ hsome⟩, .inl rfl, fun j hij hjk => ?_⟩
        cases hdr : drops ops rd i j with
        | false => rfl
        | true => exact absurd ⟨j, hjk, nodrop j hdr, .inr hdr⟩ hsome
    obtain ⟨k, hk, hkk, hlim⟩ := hex
    have hlt : ∀ x e, ρ x = some e → x < (H k).n := by
      intro x e hx
      rcases hkk with rfl | ⟨hm, hd⟩
      · exact hJ.upper x e hx
      · rcases Nat.lt_or_ge x (H k).n with h | h
        · exact h
        · have htop := hJ.upper x e hx
          have ex : ∃ j, k ≤ j ∧ j < ops.size ∧ (H j).n ≤ x ∧ x < (H (j + 1)).n := by
            have : ∀ d, k + d ≤ ops.size → x < (H (k + d)).n → ∃ j, k ≤ j ∧ j < ops.size ∧ (H j).n ≤ x ∧ x < (H (j + 1)).n := by
              intro d
              induction d with
              | zero => intro _ h; simp at h; omega
              | succ d ih =>
                intro h1 h2
                by_cases h3 : x < (H (k + d)).n
                · exact ih (by omega) h3
                · exact ⟨k + d, by omega, by omega, by omega, h2⟩
            exact this (ops.size - k) (by have := hk.1; omega) (by rw [show k + (ops.size - k) = ops.size by have := hk.1; omega]; exact htop)
          obtain ⟨j, j1, j2, j3, j4⟩ := ex
          have hDj : D j = true := by
            cases hdj : D j with
            | true => rfl
            | false => rw [hJ.ids j j2 hdj x j3 j4] at hx; cases hx
          have hjk : j ≠ k := fun e => by subst e; rw [hd] at hDj; cases hDj
          have hoj := Array.getElem?_eq_getElem j2
          obtain ⟨t1, t2⟩ := notNew j _ hoj (by omega)
          have := (barrier_order hm hoj t1 t2 hjk).2 (by omega)
          have := hJ.down _ _ this hDj
          rw [hd] at this; cases this
    have hcutk : cut ρ (H k).n = ρ := by
      funext x
      unfold cut
      split
      · rfl
      · rename_i hx
        cases hc : ρ x with
        | none => rfl
        | some e => exact absurd (hlt x e hc) hx
    have hR := hJ.win k hk
    rw [hcutk] at hR
    have haop := sR k hk.1 hlim
    have htk : TR ρ n t' a.tmps := ht'.mono (cut_sub _ _)
    have hfull : ∀ x, VR ρ (aeval t' x) (a.eval x) := by
      obtain ⟨tm, df⟩ := a
      exact htk.eval df
    have haop' : aop P o.op (aeval t') (H k) = some (V i, H k) := by
      rw [← aop_congr (P := P) (aeval_looks hagree)]; exact haop
    obtain ⟨r, k1, k2⟩ := reader_sound F hR sk hfull haop'
    unfold Oper.wp
    rw [k1]
    obtain ⟨ρb, rb, b1, b2⟩ := sB
    exact ⟨ρ, J_leaf hok hJ ho hD hready hgi sH (VR.bnd b1 b2 k2)⟩

theorem ready_mem {D : Array Bool} {i : Nat} (h : i ∈ Region.ready .any ops D) : ∃ o, ops[i]? = some o ∧ D.getD i true = false ∧ ∀ e ∈ o.after.toList, Region.binds .any e = true → D.getD e.on false = true := by
  unfold Region.ready at h
  obtain ⟨h1, h2⟩ := List.mem_filter.1 h
  have hi := List.mem_range.1 h1
  simp only [Bool.and_eq_true] at h2
  have ho : ops[i]? = some ops[i] := Array.getElem?_eq_getElem hi
  rw [ho] at h2
  refine ⟨_, ho, by simpa using h2.1, fun e he hb => ?_⟩
  have h3 := h2.2
  simp only [Option.map_some, Option.getD_some] at h3
  rw [← Array.all_toList] at h3
  have := List.all_eq_true.1 h3 e he
  simpa [hb] using this

theorem getD_tf {D : Array Bool} {i : Nat} (h : i < D.size) : D.getD i true = D.getD i false := by
  simp [Array.getD, h]

/-- how many are left -/
def todo (m : Nat) (D : Nat → Bool) : Nat := ((List.range m).filter fun j => !D j).length

theorem todo_done {m : Nat} {D : Nat → Bool} {i : Nat} (hi : i < m) (hD : D i = false) : todo m (done D i) < todo m D := by
  unfold todo
  have hsub : ((List.range m).filter fun j => !done D i j) = (((List.range m).filter fun j => !D j).filter fun j => decide (j ≠ i)) := by
    rw [List.filter_filter]
    congr 1
    funext j
    unfold done
    by_cases h : j = i <;> simp [h]
  rw [hsub]
  have hmem : i ∈ (List.range m).filter fun j => !D j := List.mem_filter.2 ⟨List.mem_range.2 hi, by simp [hD]⟩
  exact List.length_filter_lt_length_iff_exists.2 ⟨i, hmem, by simp⟩

theorem todo_zero {m : Nat} {D : Nat → Bool} (h : todo m D = 0) {j : Nat} (hj : j < m) : D j = true := by
  unfold todo at h
  have := List.eq_nil_of_length_eq_zero h
  rw [List.filter_eq_nil_iff] at this
  have := this j (List.mem_range.2 hj)
  simpa using this

/-- nothing is ready: all has been done -/
theorem none_ready (hok : okDraw ops = true) {D : Array Bool} (hs : D.size = ops.size) (h : Region.ready .any ops D = []) : ∀ j, j < ops.size → D.getD j false = true := by
  intro j
  induction j using Nat.strongRecOn with
  | _ j ih =>
    intro hj
    cases hd : D.getD j false with
    | true => rfl
    | false =>
      have ho : ops[j]? = some ops[j] := Array.getElem?_eq_getElem hj
      have : j ∈ Region.ready .any ops D := by
        unfold Region.ready
        refine List.mem_filter.2 ⟨List.mem_range.2 hj, ?_⟩
        rw [getD_tf (by omega), hd, ho]
        simp only [Bool.not_false, Bool.true_and, Option.map_some, Option.getD_some]
        rw [← Array.all_toList, List.all_eq_true]
        intro e he
        cases hb : Region.binds .any e with
        | false => rfl
        | true =>
          have hlt := okDraw_edges hok ho he hb
          simp [ih e.on hlt (by omega)]
      rw [h] at this; cases this

theorem all_orders (F : Fine P) (hok : okDraw ops = true) (hg : ∀ j o, ops[j]? = some o → Good P n ops rd T H V j o) {ρ0 : Rho} {w0 : World} (h0 : ∀ x e, ρ0 x = some e → x < (H 0).n)
    {Q : Exit → Act → World → Prop} (hQ : ∀ a w ρ D, (∀ j, j < ops.size → D j = true) → J n ops T H V ρ0 w0 D a w ρ → Q .normal a w) :
    ∀ (fuel : Nat) (D : Array Bool) (a : Act) (w : World) (ρ : Rho), D.size = ops.size → todo ops.size (fun j => D.getD j false) ≤ fuel → J n ops T H V ρ0 w0 (fun j => D.getD j false) a w ρ →
      wpAny P .any ops Q fuel D a w
  | 0, D, a, w, ρ, hs, hf, hJ => by
    have hall : ∀ j, j < ops.size → D.getD j false = true := fun j hj => todo_zero (D := fun j => D.getD j false) (by omega) hj
    refine ⟨?_, hQ a w ρ _ hall hJ⟩
    cases hr : Region.ready .any ops D with
    | nil => rfl
    | cons i rest =>
      obtain ⟨o, h1, h2, _⟩ := ready_mem (ops := ops) (D := D) (i := i) (by rw [hr]; simp)
      have hi := (Array.getElem?_eq_some_iff.1 h1).1
      rw [getD_tf (by omega), hall i hi] at h2; cases h2
  | fuel + 1, D, a, w, ρ, hs, hf, hJ => by
    refine ⟨fun hr => hQ a w ρ _ (none_ready hok hs hr) hJ, fun i hi => ?_⟩
    obtain ⟨o, h1, h2, h3⟩ := ready_mem hi
    have hilt := (Array.getElem?_eq_some_iff.1 h1).1
    have hDi : D.getD i false = false := by rw [← getD_tf (by omega)]; exact h2
    refine wpOp_mono (fun a' w' ⟨ρ', hJ'⟩ => ?_) (exec_one F hok hg h0 hJ h1 hDi h3 Q)
    have hD' : (fun j => (D.setIfInBounds i true).getD j false) = done (fun j => D.getD j false) i := by
      funext j
      unfold done
      rw [Array.getD_eq_getD_getElem?, Array.getElem?_setIfInBounds]
      by_cases hij : i = j
      · subst hij; rw [if_pos rfl, if_pos (by omega)]; simp
      · rw [if_neg hij, ← Array.getD_eq_getD_getElem?]
        have : (decide (j = i)) = false := by simp; exact fun e => hij e.symm
        rw [this, Bool.or_false]
    refine all_orders F hok hg h0 hQ fuel _ a' w' ρ' (by simpa using hs) ?_ (by rw [hD']; exact hJ')
    rw [hD']
    have := todo_done (m := ops.size) (D := fun j => D.getD j false) hilt hDi
    omega

end

/-- THE RULE: a region that draws its order, gone through in the order of the text -/
theorem adrawn_sound {P : Program} (F : Fine P) (hm : P.follows .mixedOrders = true) {n id : Nat} {ops : Array Oper} {rd : List Nat} (hok : okDraw ops = true) {K : Exit → Tm → AHeap → Prop} {ρ : Rho} {A : AHeap} {w : World}
    {t : Tm} {a : Act} (hr : Rel ρ A w) (ht : TR ρ n t a.tmps) (hd : a.defers = []) (h : adrawn P n ops rd ops.toList 0 t A [] [] (K .normal)) :
    (Code.region id ops true).wp P (PostK ρ A w n K) a w := by
  obtain ⟨T, H, V, h1, h2, h3, _, h4⟩ := trace ops.toList 0 t A [] [] (by simp) h
  have hg : ∀ j o, ops[j]? = some o → Good P n ops rd T H V j o := by
    intro j o ho
    have := h3 j o (by simpa using ho)
    simp only [Nat.zero_add] at this
    exact this.mono fun a b c (h : At P ops rd [] H 0 ops.toList.length j a b c) k hk hl => h.2 k (Nat.zero_le _) (by simpa using hk) hl
  simp only [Nat.zero_add, Array.length_toList] at h4
  have hn : ∀ j, j < ops.size → (H j).n ≤ (H (j + 1)).n := fun j hj => (hg j _ (Array.getElem?_eq_getElem hj)).n_le
  let w1 : World := { w with drawn := w.drawn + 1 }
  have hr1 : Rel ρ A w1 := hr.drew _
  have hlt : ∀ x e, ρ x = some e → x < (H 0).n := fun x e hx => by rw [h2]; exact hr.lt x e hx
  have hcut : ∀ k, k ≤ ops.size → cut ρ (H k).n = ρ := by
    intro k hk
    funext x
    unfold cut
    split
    · rfl
    · rename_i hx
      cases hc : ρ x with
      | none => rfl
      | some e => have := hlt x e hc; have := mono_n' hn (Nat.zero_le k) hk; omega
  have hinit : J n ops T H V ρ w1 (fun _ => false) a w1 ρ := {
    defers := hd
    tsize := ht.size
    slot := fun s => .inr ⟨fun k o' hk => (by cases hk), (by rw [h1]; exact ht.each s)⟩
    down := fun i j _ hj => by cases hj
    rng := fun j hj => by cases hj
    ids := fun j hj _ x hx1 hx2 => by
      cases hc : ρ x with
      | none => rfl
      | some e => have := hlt x e hc; have := mono_n' hn (Nat.zero_le j) (by omega); omega
    win := fun k hk => by
      rw [hcut k hk.1]
      have hun : Unch (H 0) (H k) := unch_to' hn (Nat.zero_le k) hk.1 fun j _ hj hmm => by have := hk.2.2 j hmm rfl; omega
      have hle := mono_n' hn (Nat.zero_le k) hk.1
      rw [h2] at hun hle
      refine ⟨fun x e hx => Nat.lt_of_lt_of_le (hr.lt x e hx) hle, fun x e hx => ?_, hr1.bnd, fun x y e e' hx hy hb hwx hly => ?_⟩
      · obtain ⟨ob, g1, g2⟩ := hr1.obj x e hx
        exact ⟨ob, (hun x (hr.lt x e hx)).trans g1, g2⟩
      · refine hr1.inj x y e e' hx hy hb ?_ ?_
        · unfold writable at hwx ⊢; rw [hun x (hr.lt x e hx)] at hwx; exact hwx
        · unfold live at hly ⊢; rw [hun y (hr.lt y e' hy)] at hly; exact hly
    keep := fun k hk x e hx hwx => by
      have hun : Unch (H 0) (H k) := unch_to' hn (Nat.zero_le k) hk.1 fun j _ hj hmm => by have := hk.2.2 j hmm rfl; omega
      unfold writable at hwx ⊢; rw [hun x (hlt x e hx)] at hwx; exact hwx
    sub := Sub.refl _, os := rfl, tape := ⟨rfl, fun _ => rfl⟩, output := rfl, size := Nat.le_refl _
    frame := fun B _ _ => rfl
    fresh := fun i e hx hn => by rw [hx] at hn; cases hn
    news := fun i e hx hn => by rw [hx] at hn; cases hn
    upper := fun i e hx => Nat.lt_of_lt_of_le (hlt i e hx) (mono_n' hn (Nat.zero_le _) (Nat.le_refl _)) }
  have hfin : ∀ a' w' ρ' D, (∀ j, j < ops.size → D j = true) → J n ops T H V ρ w1 D a' w' ρ' → PostK ρ A w n K .normal a' w' := by
    intro a' w' ρ' D hall hJ
    have hwin : Win ops H D ops.size := ⟨Nat.le_refl _, fun j hmm _ => hmm.1, fun j hmm hj => by rw [hall j hmm.1] at hj; cases hj⟩
    have hR := hJ.win _ hwin
    refine ⟨hJ.defers, cut ρ' (H ops.size).n, T ops.size, H ops.size, h4, ?_, hJ.tsize, fun s => ?_⟩
    · have hle := mono_n' hn (Nat.zero_le ops.size) (Nat.le_refl _)
      refine ⟨fun x e hx => cut_mk (hJ.sub x e hx) (Nat.lt_of_lt_of_le (hlt x e hx) hle), hR, hJ.os, hJ.tape, hJ.output, hJ.size, ?_, ?_, ?_, ?_, ?_⟩
      · intro B hB hn'
        exact hJ.frame B hB fun i e hi hwi => hn' i e hi (by rw [← h2]; exact hwi)
      · intro x e hx hno
        rcases hJ.fresh x e (cut_some hx).2 hno with hf | ⟨z, ez, a1, a2, a3⟩
        · exact .inl hf
        · exact .inr ⟨z, ez, a1, by rw [← h2]; exact a2, a3⟩
      · intro x e hx hwx
        rw [← h2]; exact hJ.keep _ hwin x e hx hwx
      · rw [← h2]; exact hle
      · intro x e hx hno
        rw [← h2]; exact hJ.news x e (cut_some hx).2 hno
    · have hall' : ∀ k o', ops[k]? = some o' → D k = true := fun k o' hk => hall k (Array.getElem?_eq_some_iff.1 hk).1
      rcases hJ.slot s with ⟨j, oj, a1, a2, a3, a4, a5⟩ | ⟨a1, a2⟩
      · rcases slotT hg s ops.size (Nat.le_refl _) with ⟨j', oj', b1, b2, b3, b4, b5⟩ | ⟨b1, b2⟩
        · have e1 := b4 j oj (Array.getElem?_eq_some_iff.1 a2).1 a2 a3
          have e2 := a4 j' oj' (hall' j' _ b2) b2 b3
          have : j = j' := by omega
          subst this
          rw [b5]
          refine a5.mono fun x e hx => ?_
          obtain ⟨q1, q2⟩ := cut_some hx
          exact cut_mk q2 (Nat.lt_of_lt_of_le q1 (mono_n' hn (by omega) (Nat.le_refl _)))
        · exact absurd a3 (b1 j oj (Array.getElem?_eq_some_iff.1 a2).1 a2)
      · rcases slotT hg s ops.size (Nat.le_refl _) with ⟨j', oj', b1, b2, b3, b4, b5⟩ | ⟨b1, b2⟩
        · exact absurd b3 (a1 j' oj' (hall' j' _ b2) b2)
        · rw [b2]
          refine a2.mono fun x e hx => ?_
          exact cut_mk (hJ.sub x e hx) (Nat.lt_of_lt_of_le (hlt x e hx) (mono_n' hn (Nat.zero_le _) (Nat.le_refl _)))
  refine wp_region_any hm ?_
  refine all_orders F hok hg hlt hfin ops.size (Array.replicate ops.size false) a w1 ρ (by simp) ?_ ?_
  · have : todo ops.size (fun j => (Array.replicate ops.size false).getD j false) ≤ ops.size := by
      unfold todo
      refine Nat.le_trans (List.length_filter_le _ _) ?_
      simp
    exact this
  · have : (fun j => (Array.replicate ops.size false).getD j false) = fun _ => false := by
      funext j
      rw [Array.getD_eq_getD_getElem?, Array.getElem?_replicate]
      split <;> rfl
    rw [this]; exact hinit

end Go.AB
