/-
  A region that draws its order: the invariant.
-/
import Derived.Test.YtcbmjgagbfhigaaGB
namespace Go.AB
open Go
set_option linter.unusedSimpArgs false
set_option linter.unusedVariables false

section
variable {P : Program} {n : Nat} {ops : Array Oper} {rd : List Nat} {T : Nat → Tm} {H : Nat → AHeap} {V : Nat → Value} {ρ0 : Rho} {w0 : World}

def Mut (ops : Array Oper) (H : Nat → AHeap) (j : Nat) : Prop := j < ops.size ∧ ¬ Unch (H j) (H (j + 1))
def Win (ops : Array Oper) (H : Nat → AHeap) (D : Nat → Bool) (k : Nat) : Prop :=
  k ≤ ops.size ∧ (∀ j, Mut ops H j → D j = true → j < k) ∧ (∀ j, Mut ops H j → D j = false → k ≤ j)

structure J (n : Nat) (ops : Array Oper) (T : Nat → Tm) (H : Nat → AHeap) (V : Nat → Value) (ρ0 : Rho) (w0 : World) (D : Nat → Bool) (a : Act) (w : World) (ρ : Rho) : Prop where
  defers : a.defers = []
  tsize : a.tmps.size = n
  slot : ∀ s, (∃ j o, D j = true ∧ ops[j]? = some o ∧ o.dst = some s ∧ (∀ k o', D k = true → ops[k]? = some o' → o'.dst = some s → k ≤ j) ∧ VR (cut ρ (H (j + 1)).n) (V j) (a.tmps.getD s undef)) ∨
    ((∀ k o', D k = true → ops[k]? = some o' → o'.dst ≠ some s) ∧ VR ρ0 (T 0 s) (a.tmps.getD s undef))
  down : ∀ i j, Before ops i j → D j = true → D i = true
  rng : ∀ j, D j = true → j < ops.size
  ids : ∀ j, j < ops.size → D j = false → ∀ x, (H j).n ≤ x → x < (H (j + 1)).n → ρ x = none
  win : ∀ k, Win ops H D k → Rel (cut ρ (H k).n) (H k) w
  keep : ∀ k, Win ops H D k → ∀ i e, ρ0 i = some e → writable (H k) i → writable (H 0) i
  sub : Sub ρ0 ρ
  os : w.os = w0.os
  tape : w.tape = w0.tape ∧ ∀ a, w.frozen? a = w0.frozen? a
  output : w.output = w0.output
  size : w0.heap.size ≤ w.heap.size
  frame : ∀ B, B < w0.heap.size → (∀ i e, ρ0 i = some e → writable (H 0) i → e.blk ≠ B) → w.heap[B]? = w0.heap[B]?
  fresh : ∀ i e, ρ i = some e → ρ0 i = none → w0.heap.size ≤ e.blk ∨ ∃ j e', ρ0 j = some e' ∧ writable (H 0) j ∧ e'.blk = e.blk
  news : ∀ i e, ρ i = some e → ρ0 i = none → (H 0).n ≤ i
  upper : ∀ i e, ρ i = some e → i < (H ops.size).n

theorem mono_n (hn : ∀ j, j < ops.size → (H j).n ≤ (H (j + 1)).n) : ∀ (d j : Nat), j + d ≤ ops.size → (H j).n ≤ (H (j + d)).n
  | 0, j, _ => Nat.le_refl _
  | d + 1, j, h => Nat.le_trans (mono_n hn d j (by omega)) (hn (j + d) (by omega))

theorem mono_n' (hn : ∀ j, j < ops.size → (H j).n ≤ (H (j + 1)).n) {j k : Nat} (h : j ≤ k) (hk : k ≤ ops.size) : (H j).n ≤ (H k).n := by
  have := mono_n hn (k - j) j (by omega)
  rwa [show j + (k - j) = k by omega] at this

theorem unch_to (hn : ∀ j, j < ops.size → (H j).n ≤ (H (j + 1)).n) : ∀ (d j : Nat), j + d ≤ ops.size → (∀ k, j ≤ k → k < j + d → ¬ Mut ops H k) → Unch (H j) (H (j + d))
  | 0, j, _, _ => Unch.refl _
  | d + 1, j, h, hm => by
    have h1 := unch_to hn d j (by omega) (fun k a b => hm k a (by omega))
    have h2 : Unch (H (j + d)) (H (j + d + 1)) := by
      have := hm (j + d) (by omega) (by omega)
      exact Classical.byContradiction fun hc => this ⟨by omega, hc⟩
    exact h1.trans (mono_n hn d j (by omega)) h2

theorem unch_to' (hn : ∀ j, j < ops.size → (H j).n ≤ (H (j + 1)).n) {j k : Nat} (h : j ≤ k) (hk : k ≤ ops.size) (hm : ∀ i, j ≤ i → i < k → ¬ Mut ops H i) : Unch (H j) (H k) := by
  have := unch_to hn (k - j) j (by omega) (fun i a b => hm i a (by omega))
  rwa [show j + (k - j) = k by omega] at this

theorem slotT (hg : ∀ j o, ops[j]? = some o → Good P n ops rd T H V j o) (s : Nat) : ∀ (i : Nat), i ≤ ops.size →
    (∃ j o, j < i ∧ ops[j]? = some o ∧ o.dst = some s ∧ (∀ k o', k < i → ops[k]? = some o' → o'.dst = some s → k ≤ j) ∧ T i s = V j) ∨
    ((∀ k o', k < i → ops[k]? = some o' → o'.dst ≠ some s) ∧ T i s = T 0 s)
  | 0, _ => .inr ⟨fun k o' h => by omega, rfl⟩
  | i + 1, hi => by
    have ho : ops[i]? = some ops[i] := Array.getElem?_eq_getElem (by omega)
    have hp := (hg i _ ho).put
    by_cases hd : ops[i].dst = some s
    · rw [hd] at hp
      refine .inl ⟨i, _, by omega, ho, hd, fun k o' hk _ _ => by omega, ?_⟩
      rw [hp.2, upd_same]
    · have hT : T (i + 1) s = T i s := by
        split at hp
        · rw [hp]
        · rename_i d hd'
          rw [hp.2, upd_other]
          intro e; subst e; exact hd hd'
      rcases slotT hg s i (by omega) with ⟨j, o, h1, h2, h3, h4, h5⟩ | ⟨h1, h2⟩
      · refine .inl ⟨j, o, by omega, h2, h3, fun k o' hk hko hkd => ?_, hT.trans h5⟩
        by_cases hki : k = i
        · subst hki; rw [ho] at hko; cases hko; exact absurd hkd hd
        · exact h4 k o' (by omega) hko hkd
      · refine .inr ⟨fun k o' hk hko hkd => ?_, hT.trans h2⟩
        by_cases hki : k = i
        · subst hki; rw [ho] at hko; cases hko; exact hd hkd
        · exact h1 k o' (by omega) hko hkd

theorem okDraw_edges (h : okDraw ops = true) {j : Nat} {o : Oper} {e : Edge} (ho : ops[j]? = some o) (he : e ∈ o.after.toList) (hb : Region.binds .any e = true) : e.on < j := by
  unfold okDraw at h
  have hj : j < ops.size := (Array.getElem?_eq_some_iff.1 ho).1
  have := List.all_eq_true.1 h j (List.mem_range.2 hj)
  simp only [Bool.and_eq_true, ho] at this
  have := List.all_eq_true.1 this.1 e he
  simpa [hb] using this

theorem okDraw_pair (h : okDraw ops = true) {i j : Nat} (hij : i < j) {x y : Oper} (hx : ops[i]? = some x) (hy : ops[j]? = some y) : Before ops i j ∨ x.apart ops y = true := by
  unfold okDraw at h
  have hj : j < ops.size := (Array.getElem?_eq_some_iff.1 hy).1
  have := List.all_eq_true.1 h j (List.mem_range.2 hj)
  simp only [Bool.and_eq_true] at this
  have := List.all_eq_true.1 this.2 i (List.mem_range.2 hij)
  unfold okPair at this
  rw [hx, hy, Bool.or_eq_true] at this
  rcases this with h | h
  · exact .inl (isBefore_sound h)
  · exact .inr h

theorem barrier_order {i : Nat} (h : barrier ops rd i = true) {j : Nat} {o : Oper} (ho : ops[j]? = some o) (ht : touches o.op = true) (hrd : rd.contains j = false) (hne : j ≠ i) :
    (j < i → Before ops j i) ∧ (i < j → Before ops i j) := by
  unfold barrier at h
  have hj : j < ops.size := (Array.getElem?_eq_some_iff.1 ho).1
  have := List.all_eq_true.1 h j (List.mem_range.2 hj)
  simp only [ho, ht, hrd, Bool.not_true, Bool.or_false, Bool.or_eq_true, decide_eq_true_eq] at this
  rcases this with h | h
  · exact absurd h hne
  · split at h
    · rename_i hlt; exact ⟨fun _ => isBefore_sound h, fun h2 => by omega⟩
    · rename_i hlt; exact ⟨fun h2 => by omega, fun _ => isBefore_sound h⟩

theorem before_lt (hok : okDraw ops = true) {i j : Nat} (h : Before ops i j) : i < j := by
  induction h with
  | edge i j o e h1 h2 h3 h4 => subst h4; exact okDraw_edges hok h1 h2 h3
  | trans i k j _ _ a b => omega

/-- what stands before an operation that is ready has been done -/
theorem pre_done {D : Nat → Bool} {a : Act} {w : World} {ρ : Rho} (hJ : J n ops T H V ρ0 w0 D a w ρ) {i : Nat} {o : Oper} (ho : ops[i]? = some o)
    (hready : ∀ e ∈ o.after.toList, Region.binds .any e = true → D e.on = true) {j : Nat} (h : Before ops j i) : D j = true := by
  have key : ∀ i' j', Before ops j' i' → i' = i → D j' = true := by
    intro i' j' hb
    induction hb with
    | edge i1 j1 o1 e h1 h2 h3 h4 =>
      intro hji
      subst hji; subst h4
      rw [ho] at h1; cases h1
      exact hready e h2 h3
    | trans i1 k j1 hb1 hb2 ih1 ih2 =>
      intro hji
      exact hJ.down _ _ hb1 (ih2 hji)
  exact key i j h rfl

/-- the operands of an operation that is ready -/
theorem slot_ready (hok : okDraw ops = true) (hg : ∀ j o, ops[j]? = some o → Good P n ops rd T H V j o) (hn : ∀ j, j < ops.size → (H j).n ≤ (H (j + 1)).n)
    (h0 : ∀ x e, ρ0 x = some e → x < (H 0).n) {D : Nat → Bool} {a : Act} {w : World} {ρ : Rho} (hJ : J n ops T H V ρ0 w0 D a w ρ) {i : Nat} {o : Oper} (ho : ops[i]? = some o) (hD : D i = false)
    (hready : ∀ e ∈ o.after.toList, Region.binds .any e = true → D e.on = true) {s : Nat} (hs : s ∈ o.looksAt ops) : VR (cut ρ (H i).n) (T i s) (a.tmps.getD s undef) := by
  have hi : i < ops.size := (Array.getElem?_eq_some_iff.1 ho).1
  have w1 : ∀ k o', k < i → ops[k]? = some o' → o'.dst = some s → D k = true := by
    intro k o' hk hko hkd
    rcases okDraw_pair hok hk hko ho with hb | hap
    · exact pre_done hJ ho hready hb
    · exact absurd hs ((Oper.apart_spec hap).1 s hkd)
  have w2 : ∀ k o', D k = true → ops[k]? = some o' → o'.dst = some s → k < i := by
    intro k o' hk hko hkd
    rcases Nat.lt_trichotomy k i with h | h | h
    · exact h
    · subst h; rw [hD] at hk; cases hk
    · rcases okDraw_pair hok h ho hko with hb | hap
      · have := hJ.down _ _ hb hk; rw [hD] at this; cases this
      · exact absurd hs ((Oper.apart_spec hap).2.2 s hkd)
  rcases hJ.slot s with ⟨j, oj, a1, a2, a3, a4, a5⟩ | ⟨a1, a2⟩
  · rcases slotT hg s i (by omega) with ⟨j', oj', b1, b2, b3, b4, b5⟩ | ⟨b1, b2⟩
    · have e1 := b4 j oj (w2 j oj a1 a2 a3) a2 a3
      have e2 := a4 j' oj' (w1 j' oj' b1 b2 b3) b2 b3
      have : j = j' := by omega
      subst this
      rw [b5]
      refine a5.mono fun x e hx => ?_
      obtain ⟨h1, h2⟩ := cut_some hx
      exact cut_mk h2 (Nat.lt_of_lt_of_le h1 (mono_n' hn (by omega) (by omega)))
    · exact absurd a3 (b1 j oj (w2 j oj a1 a2 a3) a2)
  · rcases slotT hg s i (by omega) with ⟨j', oj', b1, b2, b3, b4, b5⟩ | ⟨b1, b2⟩
    · exact absurd b3 (a1 j' oj' (w1 j' oj' b1 b2 b3) b2)
    · rw [b2]
      refine a2.mono fun x e hx => ?_
      exact cut_mk (hJ.sub x e hx) (Nat.lt_of_lt_of_le (h0 x e hx) (mono_n' hn (Nat.zero_le _) (by omega)))

/-- one more has been done -/
def done (D : Nat → Bool) (i : Nat) : Nat → Bool := fun j => D j || decide (j = i)

theorem done_true {D : Nat → Bool} {i j : Nat} (h : done D i j = true) : D j = true ∨ j = i := by
  unfold done at h; simpa using h
theorem done_false {D : Nat → Bool} {i j : Nat} (h : done D i j = false) : D j = false ∧ j ≠ i := by
  unfold done at h; simpa using h

theorem slot_put (hok : okDraw ops = true) {D : Nat → Bool} {a : Act} {w : World} {ρ ρ' : Rho} (hJ : J n ops T H V ρ0 w0 D a w ρ) (hsub : Sub ρ ρ')
    {i : Nat} {o : Oper} (ho : ops[i]? = some o) (hD : D i = false) (hg : Good P n ops rd T H V i o) {r : Value} (hr : VR (cut ρ' (H (i + 1)).n) (V i) r) (s : Nat) :
    (∃ j o', done D i j = true ∧ ops[j]? = some o' ∧ o'.dst = some s ∧ (∀ k o'', done D i k = true → ops[k]? = some o'' → o''.dst = some s → k ≤ j) ∧
      VR (cut ρ' (H (j + 1)).n) (V j) ((a.put o.dst r).tmps.getD s undef)) ∨
    ((∀ k o', done D i k = true → ops[k]? = some o' → o'.dst ≠ some s) ∧ VR ρ0 (T 0 s) ((a.put o.dst r).tmps.getD s undef)) := by
  have hcut : ∀ k, Sub (cut ρ k) (cut ρ' k) := fun k x e hx => by
    obtain ⟨h1, h2⟩ := cut_some hx
    exact cut_mk (hsub _ _ h2) h1
  by_cases hd : o.dst = some s
  · have hdn : s < n := by
      have := hg.put
      rw [hd] at this; exact this.1
    refine .inl ⟨i, o, by simp [done], ho, hd, ?_, ?_⟩
    · intro k o'' hk hko hkd
      rcases done_true hk with hk | hk
      · rcases Nat.lt_trichotomy k i with h | h | h
        · omega
        · omega
        · rcases okDraw_pair hok h ho hko with hb | hap
          · have := hJ.down _ _ hb hk; rw [hD] at this; cases this
          · exact absurd hkd ((Oper.apart_spec hap).2.1 s hd)
      · omega
    · rw [hd]
      simp only [Act.put]
      rw [Array.getD_eq_getD_getElem?, Array.getElem?_setIfInBounds_self_of_lt (by rw [hJ.tsize]; exact hdn)]
      exact hr
  · have hget : (a.put o.dst r).tmps.getD s undef = a.tmps.getD s undef := by
      cases hdd : o.dst with
      | none => rfl
      | some d =>
        simp only [Act.put]
        rw [Array.getD_eq_getD_getElem?, Array.getD_eq_getD_getElem?, Array.getElem?_setIfInBounds_ne]
        intro e; subst e; exact hd hdd
    rw [hget]
    have hne : ∀ k o'', done D i k = true → ops[k]? = some o'' → o''.dst = some s → D k = true := by
      intro k o'' hk hko hkd
      rcases done_true hk with hk | hk
      · exact hk
      · subst hk; rw [ho] at hko; cases hko; exact absurd hkd hd
    rcases hJ.slot s with ⟨j, oj, a1, a2, a3, a4, a5⟩ | ⟨a1, a2⟩
    · exact .inl ⟨j, oj, by simp [done, a1], a2, a3, fun k o'' hk hko hkd => a4 k o'' (hne k o'' hk hko hkd) hko hkd, a5.mono (hcut _)⟩
    · refine .inr ⟨fun k o'' hk hko hkd => a1 k o'' (hne k o'' hk hko hkd) hko hkd, a2⟩

theorem put_size (a : Act) (d : Option Tmp) (r : Value) : (a.put d r).tmps.size = a.tmps.size := by cases d <;> simp [Act.put]
theorem put_defers (a : Act) (d : Option Tmp) (r : Value) : (a.put d r).defers = a.defers := by cases d <;> rfl

theorem down_done {D : Nat → Bool} {a : Act} {w : World} {ρ : Rho} (hJ : J n ops T H V ρ0 w0 D a w ρ) {i : Nat} {o : Oper} (ho : ops[i]? = some o)
    (hready : ∀ e ∈ o.after.toList, Region.binds .any e = true → D e.on = true) (x y : Nat) (h : Before ops x y) (hy : done D i y = true) : done D i x = true := by
  have : D x = true := by
    rcases done_true hy with hy | hy
    · exact hJ.down _ _ h hy
    · subst hy; exact pre_done hJ ho hready h
  simp [done, this]

/-- an operation that leaves memory alone -/
theorem J_leaf (hok : okDraw ops = true) {D : Nat → Bool} {a : Act} {w : World} {ρ : Rho} (hJ : J n ops T H V ρ0 w0 D a w ρ)
    {i : Nat} {o : Oper} (ho : ops[i]? = some o) (hD : D i = false) (hready : ∀ e ∈ o.after.toList, Region.binds .any e = true → D e.on = true) (hg : Good P n ops rd T H V i o)
    (hH : H (i + 1) = H i) {r : Value} (hr : VR (cut ρ (H i).n) (V i) r) : J n ops T H V ρ0 w0 (done D i) (a.put o.dst r) w ρ := by
  have hi : i < ops.size := (Array.getElem?_eq_some_iff.1 ho).1
  have hnm : ¬ Mut ops H i := fun hm => hm.2 (by rw [hH]; exact Unch.refl _)
  have hw : ∀ k, Win ops H (done D i) k → Win ops H D k := by
    rintro k ⟨h1, h2, h3⟩
    refine ⟨h1, fun j hm hj => h2 j hm (by simp [done, hj]), fun j hm hj => ?_⟩
    have hji : j ≠ i := fun e => hnm (e ▸ hm)
    exact h3 j hm (by simp [done, hj, hji])
  exact {
    defers := (put_defers _ _ _).trans hJ.defers
    tsize := (put_size _ _ _).trans hJ.tsize
    slot := slot_put hok hJ (Sub.refl _) ho hD hg (by rw [hH]; exact hr)
    down := down_done hJ ho hready
    rng := fun j hj => by rcases done_true hj with h | h; exact hJ.rng j h; exact h ▸ hi
    ids := fun j hj hd x h1 h2 => hJ.ids j hj (done_false hd).1 x h1 h2
    win := fun k hk => hJ.win k (hw k hk)
    keep := fun k hk => hJ.keep k (hw k hk)
    sub := hJ.sub, os := hJ.os, tape := hJ.tape, output := hJ.output, size := hJ.size, frame := hJ.frame, fresh := hJ.fresh, news := hJ.news, upper := hJ.upper }

end
end Go.AB

/-
  A region that draws its order: operations that touch memory; the rule.
-/
namespace Go.AB
open Go
set_option linter.unusedSimpArgs false
set_option linter.unusedVariables false

section
variable {P : Program} {n : Nat} {ops : Array Oper} {rd : List Nat} {T : Nat → Tm} {H : Nat → AHeap} {V : Nat → Value} {ρ0 : Rho} {w0 : World}

/-- ρ1 taken over for the blocks of one operation -/
def glue (ρ ρ1 : Rho) (lo hi : Nat) : Rho := fun x => if lo ≤ x ∧ x < hi then ρ1 x else ρ x

theorem J_touch (hok : okDraw ops = true) (hnn : ∀ j, j < ops.size → (H j).n ≤ (H (j + 1)).n) {D : Nat → Bool} {a : Act} {w w1 : World} {ρ ρ1 : Rho} (hJ : J n ops T H V ρ0 w0 D a w ρ)
    (h0 : ∀ x e, ρ0 x = some e → x < (H 0).n)
    {i : Nat} {o : Oper} (ho : ops[i]? = some o) (hD : D i = false) (hready : ∀ e ∈ o.after.toList, Region.binds .any e = true → D e.on = true) (hg : Good P n ops rd T H V i o)
    (hmut : Unch (H i) (H (i + 1)) ∨ barrier ops rd i = true) (htouch : ∀ j o', ops[j]? = some o' → Mut ops H j → touches o'.op = true)
    (hnew : ∀ j o', ops[j]? = some o' → (H j).n < (H (j + 1)).n → touches o'.op = true ∧ rd.contains j = false)
    (hbar : ∀ j, Mut ops H j → barrier ops rd j = true)
    (hto : touches o.op = true)
    {r : Value} (hr : VR ρ1 (V i) r) (hs : Step (cut ρ (H i).n) (H i) w ρ1 (H (i + 1)) w1) (hwin : Win ops H D i) :
    J n ops T H V ρ0 w0 (done D i) (a.put o.dst r) w1 (glue ρ ρ1 (H i).n (H (i + 1)).n) := by
  have hi : i < ops.size := (Array.getElem?_eq_some_iff.1 ho).1
  have hni : (H i).n ≤ (H (i + 1)).n := hnn i hi
  have hRi := hJ.win i hwin
  have hn0 : (H 0).n ≤ (H i).n := mono_n' hnn (Nat.zero_le _) (by omega)
  -- ρ1 against ρ
  have r1_old : ∀ x, x < (H i).n → ρ1 x = ρ x := by
    intro x hx
    cases h1 : ρ1 x with
    | none =>
      cases h2 : ρ x with
      | none => rfl
      | some e => have := hs.sub x e (cut_mk h2 hx); rw [h1] at this; cases this
    | some e =>
      cases h2 : cut ρ (H i).n x with
      | none => exact absurd (hs.news x e h1 h2) (by omega)
      | some e' =>
        have := hs.sub x e' h2
        rw [h1] at this; cases this
        exact (cut_some h2).2.symm
  have r1_lt : ∀ x e, ρ1 x = some e → x < (H (i + 1)).n := fun x e h => hs.rel.lt x e h
  have rnone : ∀ x, (H i).n ≤ x → x < (H (i + 1)).n → ρ x = none := hJ.ids i hi hD
  have gsub : Sub ρ (glue ρ ρ1 (H i).n (H (i + 1)).n) := by
    intro x e hx
    unfold glue
    split
    · rename_i hc; rw [rnone x hc.1 hc.2] at hx; cases hx
    · exact hx
  have g_old : ∀ x, x < (H i).n → glue ρ ρ1 (H i).n (H (i + 1)).n x = ρ x := fun x hx => by unfold glue; rw [if_neg (by omega)]
  have g_r1 : ∀ x, x < (H (i + 1)).n → glue ρ ρ1 (H i).n (H (i + 1)).n x = ρ1 x := by
    intro x hx
    unfold glue
    by_cases hxi : (H i).n ≤ x
    · rw [if_pos ⟨hxi, hx⟩]
    · rw [if_neg (by omega), r1_old x (by omega)]
  have g_later : ∀ x, (H (i + 1)).n ≤ x → glue ρ ρ1 (H i).n (H (i + 1)).n x = ρ x := fun x hx => by unfold glue; rw [if_neg (by omega)]
  have r1_cut : ∀ k, i + 1 ≤ k → k ≤ ops.size → Sub ρ1 (cut (glue ρ ρ1 (H i).n (H (i + 1)).n) (H k).n) := by
    intro k hk hkm x e hx
    have := r1_lt x e hx
    exact cut_mk (by rw [g_r1 x this]; exact hx) (Nat.lt_of_lt_of_le this (mono_n' hnn hk hkm))
  -- the old window
  have oldwin : ∀ k, Win ops H (done D i) k → k ≤ i → Win ops H D k ∧ Unch (H i) (H (i + 1)) := by
    rintro k ⟨h1, h2, h3⟩ hki
    have hnm : ¬ Mut ops H i := fun hm => by have := h2 i hm (by simp [done]); omega
    refine ⟨⟨h1, fun j hm hj => h2 j hm (by simp [done, hj]), fun j hm hj => ?_⟩, Classical.byContradiction fun hc => hnm ⟨hi, hc⟩⟩
    have hji : j ≠ i := fun e => hnm (e ▸ hm)
    exact h3 j hm (by simp [done, hj, hji])
  have afterUnch : ∀ k, Win ops H (done D i) k → i + 1 ≤ k → Unch (H (i + 1)) (H k) := by
    rintro k ⟨h1, h2, h3⟩ hk
    refine unch_to' hnn hk h1 fun j hj1 hj2 hm => ?_
    cases hd : done D i j with
    | true =>
      rcases done_true hd with hd | hd
      · have := hwin.2.1 j hm hd; omega
      · omega
    | false => have := h3 j hm hd; omega
  -- objects below, in the new world
  have objR : ∀ x e, ρ1 x = some e → ∃ ob, (H (i + 1)).f x = some ob ∧ OR ρ1 w1.heap e ob := hs.rel.obj
  have frame1 : ∀ B, B < w.heap.size → (∀ y e, cut ρ (H i).n y = some e → writable (H i) y → e.blk ≠ B) → w1.heap[B]? = w.heap[B]? := hs.frame
  refine {
    defers := (put_defers _ _ _).trans hJ.defers
    tsize := (put_size _ _ _).trans hJ.tsize
    slot := slot_put hok hJ gsub ho hD hg (hr.mono (r1_cut (i + 1) (Nat.le_refl _) (by omega)))
    down := down_done hJ ho hready
    rng := fun j hj => by rcases done_true hj with h | h; exact hJ.rng j h; exact h ▸ hi
    ids := ?_
    win := ?_
    keep := ?_
    sub := hJ.sub.trans gsub
    os := hs.os.trans hJ.os
    tape := ⟨hs.tape.1.trans hJ.tape.1, fun a => (hs.tape.2 a).trans (hJ.tape.2 a)⟩
    output := hs.output.trans hJ.output
    size := Nat.le_trans hJ.size hs.size
    frame := ?_
    fresh := ?_
    news := ?_
    upper := ?_ }
  · intro j hj hd x h1 h2
    obtain ⟨hdj, hji⟩ := done_false hd
    have : glue ρ ρ1 (H i).n (H (i + 1)).n x = ρ x := by
      unfold glue
      rw [if_neg]
      rintro ⟨h3, h4⟩
      rcases Nat.lt_or_gt_of_ne hji with hlt | hgt
      · have := mono_n' hnn (show j + 1 ≤ i by omega) (by omega); omega
      · have := mono_n' hnn (show i + 1 ≤ j by omega) (by omega); omega
    rw [this]; exact hJ.ids j hj hdj x h1 h2
  · intro k hk
    by_cases hki : k ≤ i
    · -- a heap of before this operation
      obtain ⟨hold, hun⟩ := oldwin k hk hki
      have hR := hJ.win k hold
      have hnk : (H k).n ≤ (H i).n := mono_n' hnn hki (by omega)
      have hki2 : Unch (H k) (H i) := by
        refine unch_to' hnn hki (by omega) fun j hj1 hj2 hm => ?_
        cases hd : D j with
        | true => have := hold.2.1 j hm hd; omega
        | false => have := hwin.2.2 j hm hd; omega
      have hceq : cut (glue ρ ρ1 (H i).n (H (i + 1)).n) (H k).n = cut ρ (H k).n := by
        funext x; unfold cut
        split
        · rename_i hx; exact g_old x (by omega)
        · rfl
      rw [hceq]
      refine ⟨hR.lt, ?_, ?_, hR.inj⟩
      · intro x e hx
        obtain ⟨ob, h1, h2⟩ := hR.obj x e hx
        obtain ⟨hx1, hx2⟩ := cut_some hx
        have hr1 : ρ1 x = some e := by rw [r1_old x (by omega)]; exact hx2
        obtain ⟨ob', h3, h4⟩ := objR x e hr1
        have : ob' = ob := by
          have e1 : (H (i + 1)).f x = (H k).f x := (hun x (by omega)).trans (hki2 x hx1)
          rw [e1, h1] at h3; exact (Option.some.inj h3).symm
        subst this
        refine ⟨ob', h1, h2.restrict (ρb := ρ1) ?_ h4⟩
        intro y ey hy
        obtain ⟨hy1, hy2⟩ := cut_some hy
        rw [r1_old y (by omega)]; exact hy2
      · intro x e hx
        exact Nat.lt_of_lt_of_le (hR.bnd x e hx) hs.size
    · -- a heap of behind it
      have hki : i + 1 ≤ k := by omega
      have hkm : k ≤ ops.size := hk.1
      have hun := afterUnch k hk hki
      have hnk : (H (i + 1)).n ≤ (H k).n := mono_n' hnn hki hkm
      have hsubk := r1_cut k hki hkm
      -- blocks of operations that stand behind this one and have been done
      have later : ∀ x e, (H (i + 1)).n ≤ x → x < (H k).n → ρ x = some e → Unch (H i) (H (i + 1)) ∧ Win ops H D k := by
        intro x e hx1 hx2 hxe
        -- some operation from i + 1 on made it
        have ex : ∃ j, i + 1 ≤ j ∧ j < k ∧ (H j).n ≤ x ∧ x < (H (j + 1)).n := by
          have : ∀ d, i + 1 + d ≤ k → x < (H (i + 1 + d)).n → ∃ j, i + 1 ≤ j ∧ j < k ∧ (H j).n ≤ x ∧ x < (H (j + 1)).n := by
            intro d
            induction d with
            | zero => intro _ h; simp at h; omega
            | succ d ih =>
              intro h1 h2
              by_cases h3 : x < (H (i + 1 + d)).n
              · exact ih (by omega) h3
              · exact ⟨i + 1 + d, by omega, by omega, by omega, h2⟩
          exact this (k - (i + 1)) (by omega) (by rw [show i + 1 + (k - (i + 1)) = k by omega]; exact hx2)
        obtain ⟨j, j1, j2, j3, j4⟩ := ex
        have hDj : D j = true := by
          cases hd : D j with
          | true => rfl
          | false => rw [hJ.ids j (by omega) hd x j3 j4] at hxe; cases hxe
        have hoj : ops[j]? = some ops[j] := Array.getElem?_eq_getElem (by omega)
        obtain ⟨htj, hrj⟩ := hnew j _ hoj (by omega)
        have hnm : ¬ Mut ops H i := by
          intro hm
          have hb := (barrier_order (hbar i hm) hoj htj hrj (by omega)).2 (by omega)
          have := hJ.down _ _ hb hDj
          rw [hD] at this; cases this
        refine ⟨Classical.byContradiction fun hc => hnm ⟨hi, hc⟩, hkm, fun j' hm hj' => hk.2.1 j' hm (by simp [done, hj']), fun j' hm hj' => ?_⟩
        have hji : j' ≠ i := fun e => hnm (e ▸ hm)
        exact hk.2.2 j' hm (by simp [done, hj', hji])
      -- an old one's block behind this operation
      have laterBlk : ∀ x e, (H (i + 1)).n ≤ x → x < (H k).n → ρ x = some e → live (H k) x → w1.heap[e.blk]? = w.heap[e.blk]? := by
        intro x e hx1 hx2 hxe hlx
        obtain ⟨hun1, hwk⟩ := later x e hx1 hx2 hxe
        have hR := hJ.win k hwk
        refine frame1 e.blk (hR.bnd x e (cut_mk hxe hx2)) ?_
        intro y ey hy hwy hb
        obtain ⟨hy1, hy2⟩ := cut_some hy
        have hyk : (H k).f y = (H i).f y := (hun y (by omega)).trans (hun1 y hy1)
        have hwyk : writable (H k) y := by unfold writable at hwy ⊢; rw [hyk]; exact hwy
        have := hR.inj y x ey e (cut_mk hy2 (by omega)) (cut_mk hxe hx2) hb hwyk hlx
        omega
      refine ⟨?_, ?_, ?_, ?_⟩
      · intro x e hx; exact (cut_some hx).1
      · intro x e hx
        obtain ⟨hx1, hx2⟩ := cut_some hx
        by_cases hxi : x < (H (i + 1)).n
        · rw [g_r1 x hxi] at hx2
          obtain ⟨ob, h1, h2⟩ := objR x e hx2
          exact ⟨ob, (hun x hxi).trans h1, h2.mono hsubk rfl⟩
        · rw [g_later x (by omega)] at hx2
          obtain ⟨hun1, hwk⟩ := later x e (by omega) hx1 hx2
          obtain ⟨ob, h1, h2⟩ := (hJ.win k hwk).obj x e (cut_mk hx2 hx1)
          refine ⟨ob, h1, ?_⟩
          by_cases hl : live (H k) x
          · refine h2.mono (fun y ey hy => ?_) (laterBlk x e (by omega) hx1 hx2 hl)
            obtain ⟨hy1, hy2⟩ := cut_some hy
            exact cut_mk (gsub y ey hy2) hy1
          · have : (H k).f x = some .dead := Classical.byContradiction hl
            rw [h1] at this; cases this; trivial
      · intro x e hx
        obtain ⟨hx1, hx2⟩ := cut_some hx
        by_cases hxi : x < (H (i + 1)).n
        · rw [g_r1 x hxi] at hx2
          exact hs.rel.bnd x e hx2
        · rw [g_later x (by omega)] at hx2
          obtain ⟨hun1, hwk⟩ := later x e (by omega) hx1 hx2
          exact Nat.lt_of_lt_of_le ((hJ.win k hwk).bnd x e (cut_mk hx2 hx1)) hs.size
      · intro x y e e' hx hy hb hwx hly
        obtain ⟨hx1, hx2⟩ := cut_some hx
        obtain ⟨hy1, hy2⟩ := cut_some hy
        -- both below
        by_cases hxi : x < (H (i + 1)).n <;> by_cases hyi : y < (H (i + 1)).n
        · rw [g_r1 x hxi] at hx2
          rw [g_r1 y hyi] at hy2
          refine hs.rel.inj x y e e' hx2 hy2 hb ?_ ?_
          · unfold writable at hwx ⊢; rw [hun x hxi] at hwx; exact hwx
          · unfold live at hly ⊢; rw [hun y hyi] at hly; exact hly
        · rw [g_later y (by omega)] at hy2
          obtain ⟨hun1, hwk⟩ := later y e' (by omega) hy1 hy2
          by_cases hxo : x < (H i).n
          · rw [g_old x hxo] at hx2
            exact (hJ.win k hwk).inj x y e e' (cut_mk hx2 hx1) (cut_mk hy2 hy1) hb hwx hly
          · rw [g_r1 x hxi] at hx2
            have hcn : cut ρ (H i).n x = none := by
              cases hc : cut ρ (H i).n x with
              | none => rfl
              | some e2 => have := (cut_some hc).1; omega
            rcases hs.fresh x e hx2 hcn with hf | ⟨z, ez, hz, hwz, hbz⟩
            · have := (hJ.win k hwk).bnd y e' (cut_mk hy2 hy1); omega
            · obtain ⟨hz1, hz2⟩ := cut_some hz
              have hzk : (H k).f z = (H i).f z := (hun z (by omega)).trans (hun1 z hz1)
              have hwzk : writable (H k) z := by unfold writable at hwz ⊢; rw [hzk]; exact hwz
              have := (hJ.win k hwk).inj z y ez e' (cut_mk hz2 (by omega)) (cut_mk hy2 hy1) (hbz.trans hb) hwzk hly
              omega
        · rw [g_later x (by omega)] at hx2
          obtain ⟨hun1, hwk⟩ := later x e (by omega) hx1 hx2
          by_cases hyo : y < (H i).n
          · rw [g_old y hyo] at hy2
            exact (hJ.win k hwk).inj x y e e' (cut_mk hx2 hx1) (cut_mk hy2 hy1) hb hwx hly
          · rw [g_r1 y hyi] at hy2
            have hcn : cut ρ (H i).n y = none := by
              cases hc : cut ρ (H i).n y with
              | none => rfl
              | some e2 => have := (cut_some hc).1; omega
            rcases hs.fresh y e' hy2 hcn with hf | ⟨z, ez, hz, hwz, hbz⟩
            · have := (hJ.win k hwk).bnd x e (cut_mk hx2 hx1); omega
            · -- it would share a block with one that is still written: not so
              obtain ⟨hz1, hz2⟩ := cut_some hz
              have hzk : (H k).f z = (H i).f z := (hun z (by omega)).trans (hun1 z hz1)
              have hlz : live (H k) z := by
                unfold live; rw [hzk]; intro hd; unfold writable at hwz; rw [hd] at hwz; exact hwz
              have := (hJ.win k hwk).inj x z e ez (cut_mk hx2 hx1) (cut_mk hz2 (by omega)) (hb.trans hbz.symm) hwx hlz
              omega
        · rw [g_later x (by omega)] at hx2
          rw [g_later y (by omega)] at hy2
          obtain ⟨hun1, hwk⟩ := later x e (by omega) hx1 hx2
          exact (hJ.win k hwk).inj x y e e' (cut_mk hx2 hx1) (cut_mk hy2 hy1) hb hwx hly
  · intro k hk x e hx hwx
    have hx0 := h0 x e hx
    by_cases hki : k ≤ i
    · exact hJ.keep k (oldwin k hk hki).1 x e hx hwx
    · have hun := afterUnch k hk (by omega)
      have hwx1 : writable (H (i + 1)) x := by unfold writable at hwx ⊢; rw [hun x (by omega)] at hwx; exact hwx
      exact hJ.keep i hwin x e hx (hs.keep x e (cut_mk (hJ.sub x e hx) (by omega)) hwx1)
  · intro B hB hn
    rw [frame1 B (Nat.lt_of_lt_of_le hB hJ.size) ?_, hJ.frame B hB hn]
    intro y e hy hwy
    obtain ⟨hy1, hy2⟩ := cut_some hy
    cases hc : ρ0 y with
    | some e0 =>
      have := hJ.sub y e0 hc
      rw [hy2] at this; cases this
      exact hn y e hc (hJ.keep i hwin y e hc hwy)
    | none =>
      rcases hJ.fresh y e hy2 hc with hf | ⟨z, ez, hz, hwz, hbz⟩
      · omega
      · rw [← hbz]; exact hn z ez hz hwz
  · intro x e hx hn
    unfold glue at hx
    split at hx
    · rename_i hc
      have hcn : cut ρ (H i).n x = none := by
        cases hc2 : cut ρ (H i).n x with
        | none => rfl
        | some e2 => have := (cut_some hc2).1; omega
      rcases hs.fresh x e hx hcn with hf | ⟨z, ez, hz, hwz, hbz⟩
      · exact .inl (Nat.le_trans hJ.size hf)
      · obtain ⟨hz1, hz2⟩ := cut_some hz
        cases hcz : ρ0 z with
        | some e0 =>
          have := hJ.sub z e0 hcz
          rw [hz2] at this; cases this
          exact .inr ⟨z, ez, hcz, hJ.keep i hwin z ez hcz hwz, hbz⟩
        | none =>
          rcases hJ.fresh z ez hz2 hcz with hf | ⟨z2, e2, h1, h2, h3⟩
          · exact .inl (by omega)
          · exact .inr ⟨z2, e2, h1, h2, h3.trans hbz⟩
    · exact hJ.fresh x e hx hn
  · intro x e hx hn
    unfold glue at hx
    split at hx
    · rename_i hc; omega
    · exact hJ.news x e hx hn
  · intro x e hx
    unfold glue at hx
    split at hx
    · rename_i hc
      have := mono_n' hnn (show i + 1 ≤ ops.size by omega) (Nat.le_refl _)
      omega
    · exact hJ.upper x e hx

end
end Go.AB

/-
  A region that draws its order: the rule.
-/
namespace Go.AB
open Go
set_option linter.unusedSimpArgs false
set_option linter.unusedVariables false

theorem touches_other {o : Op} (h : touches o = false) : opKind o = .other := by
  cases o <;> simp [touches] at h <;> rfl

section
variable {P : Program} {n : Nat} {ops : Array Oper} {rd : List Nat} {T : Nat → Tm} {H : Nat → AHeap} {V : Nat → Value}

theorem Good.n_le {i : Nat} {o : Oper} (h : Good P n ops rd T H V i o) : (H i).n ≤ (H (i + 1)).n := by
  rcases h.step with ⟨_, _, h⟩ | ⟨_, _, _, h, _⟩ | ⟨_, _, _, _, _, h⟩
  · rw [h]; exact Nat.le_refl _
  · exact h
  · rw [h]; exact Nat.le_refl _

theorem Good.pure_H {i : Nat} {o : Oper} (h : Good P n ops rd T H V i o) (ht : touches o.op = false) : H (i + 1) = H i := by
  rcases h.step with ⟨_, _, h⟩ | ⟨_, _, h, _, _⟩ | ⟨_, _, _, _, _, h⟩
  · exact h
  · unfold aop1 at h
    rw [touches_other ht] at h
    simp only at h
    split at h
    · rename_i v A' ha
      rw [← h.2]; exact (pure_aop ht ha).1
    · exact h.elim
  · exact h

theorem Good.reader_H {i : Nat} {o : Oper} (h : Good P n ops rd T H V i o) (hr : rd.contains i = true) : H (i + 1) = H i := by
  rcases h.step with ⟨_, _, h⟩ | ⟨_, h0, _⟩ | ⟨_, _, _, _, _, h⟩
  · exact h
  · rw [hr] at h0; cases h0
  · exact h

theorem aeval_looks {t t' : Tm} {o : Oper} (h : ∀ s ∈ o.looksAt ops, t s = t' s) : ∀ x ∈ o.op.operands, aeval t x = aeval t' x := by
  intro x hx
  cases x with
  | tmp s =>
    refine h s ?_
    unfold Oper.looksAt
    rw [List.mem_append]
    left
    rw [List.mem_filterMap]
    exact ⟨.tmp s, by simpa using hx, rfl⟩
  | _ => rfl

theorem awanted_looks {t t' : Tm} {o : Oper} (h : ∀ s ∈ o.looksAt ops, t s = t' s) : awanted ops t o = awanted ops t' o := by
  unfold awanted
  cases hg : o.guard with
  | none => rfl
  | some g =>
    obtain ⟨j, want⟩ := g
    simp only
    cases hd : (ops[j]?).bind (·.dst) with
    | none => rfl
    | some d =>
      have : t d = t' d := by
        refine h d ?_
        unfold Oper.looksAt
        rw [List.mem_append]
        right
        rw [hg]
        simp [hd]
      simp only [this]

/-- one operation that is ready, wherever the run stands -/
theorem exec_one (F : Fine P) (hok : okDraw ops = true) (hg : ∀ j o, ops[j]? = some o → Good P n ops rd T H V j o) {ρ0 : Rho} {w0 : World} (h0 : ∀ x e, ρ0 x = some e → x < (H 0).n)
    {D : Nat → Bool} {a : Act} {w : World} {ρ : Rho} (hJ : J n ops T H V ρ0 w0 D a w ρ) {i : Nat} {o : Oper} (ho : ops[i]? = some o) (hD : D i = false)
    (hready : ∀ e ∈ o.after.toList, Region.binds .any e = true → D e.on = true) (Q : Exit → Act → World → Prop) :
    wpOp P ops Q i (fun a' w' => ∃ ρ', J n ops T H V ρ0 w0 (done D i) a' w' ρ') a w := by
  have hi : i < ops.size := (Array.getElem?_eq_some_iff.1 ho).1
  have hnn : ∀ j, j < ops.size → (H j).n ≤ (H (j + 1)).n := fun j hj => (hg j _ (Array.getElem?_eq_getElem hj)).n_le
  have hgi := hg i o ho
  have hslot : ∀ s ∈ o.looksAt ops, VR (cut ρ (H i).n) (T i s) (a.tmps.getD s undef) := fun s hs => slot_ready hok hg hnn h0 hJ ho hD hready hs
  -- the temporaries that it looks at
  let t' : Tm := fun s => if s ∈ o.looksAt ops then T i s else top
  have ht' : TR (cut ρ (H i).n) n t' a.tmps := by
    refine ⟨hJ.tsize, fun s => ?_⟩
    show VR _ (if s ∈ o.looksAt ops then T i s else top) _
    split
    · rename_i hs; exact hslot s hs
    · exact .top _
  have hagree : ∀ s ∈ o.looksAt ops, T i s = t' s := fun s hs => by
    show T i s = if s ∈ o.looksAt ops then T i s else top
    rw [if_pos hs]
  have hwant : ∀ {b}, awanted ops (T i) o = some b → Region.wanted o (yielded ops a.tmps) = b := by
    intro b hb
    rw [awanted_looks hagree] at hb
    exact awanted_sound ht' hb
  have notMut : ∀ j o', ops[j]? = some o' → Mut ops H j → touches o'.op = true := by
    intro j o' hj hm
    cases ht : touches o'.op with
    | true => rfl
    | false => exact absurd (by rw [(hg j o' hj).pure_H ht]; exact Unch.refl _) hm.2
  have notNew : ∀ j o', ops[j]? = some o' → (H j).n < (H (j + 1)).n → touches o'.op = true ∧ rd.contains j = false := by
    intro j o' hj hm
    refine ⟨?_, ?_⟩
    · cases ht : touches o'.op with
      | true => rfl
      | false => rw [(hg j o' hj).pure_H ht] at hm; exact absurd hm (Nat.lt_irrefl _)
    · cases hrd : rd.contains j with
      | false => rfl
      | true => rw [(hg j o' hj).reader_H hrd] at hm; exact absurd hm (Nat.lt_irrefl _)
  have mutBar : ∀ j, Mut ops H j → barrier ops rd j = true := by
    intro j hm
    rcases (hg j _ (Array.getElem?_eq_getElem hm.1)).step with ⟨_, _, h⟩ | ⟨_, _, _, _, h⟩ | ⟨_, _, _, _, _, h⟩
    · exact absurd (by rw [h]; exact Unch.refl _) hm.2
    · rcases h with h | h
      · exact absurd h hm.2
      · exact h
    · exact absurd (by rw [h]; exact Unch.refl _) hm.2
  have mutRd : ∀ j, Mut ops H j → rd.contains j = false := by
    intro j hm
    cases hrd : rd.contains j with
    | false => rfl
    | true => exact absurd (by rw [(hg j _ (Array.getElem?_eq_getElem hm.1)).reader_H hrd]; exact Unch.refl _) hm.2
  unfold wpOp
  rw [ho]
  simp only
  rcases hgi.step with ⟨s1, s2, s3⟩ | ⟨s1, s0, s2, s3, s4⟩ | ⟨s1, s0, sk, sR, sB, sH⟩
  · rw [hwant s1]
    simp only [Bool.false_eq_true, if_false]
    exact ⟨ρ, J_leaf hok hJ ho hD hready hgi s3 (by rw [s2]; exact VL.tuple .nil)⟩
  · rw [hwant s1]
    simp only [if_true]
    left
    have s2' := aop1_congr (aeval_looks hagree) s2
    cases ht : touches o.op with
    | false =>
      unfold aop1 at s2'
      rw [touches_other ht] at s2'
      simp only at s2'
      split at s2'
      · rename_i v A' ha
        have hrev : ∀ x, VR (cut ρ (H i).n) (aeval t' x) (a.eval x) := by
          obtain ⟨tm, df⟩ := a
          exact ht'.eval df
        obtain ⟨r, k1, k2⟩ := pure_sound F ht hrev ha w
        unfold Oper.wp
        rw [k1]
        rw [s2'.1] at k2
        exact ⟨ρ, J_leaf hok hJ ho hD hready hgi (hgi.pure_H ht) k2⟩
      · exact s2'.elim
    | true =>
      have hwin : Win ops H D i := by
        refine ⟨by omega, fun j hm hj => ?_, fun j hm hj => ?_⟩
        · rcases Nat.lt_trichotomy j i with h | h | h
          · exact h
          · subst h; rw [hD] at hj; cases hj
          · have := (barrier_order (mutBar j hm) ho ht s0 (by omega)).1 h
            have := hJ.down _ _ this hj
            rw [hD] at this; cases this
        · rcases Nat.lt_or_ge j i with h | h
          · have := (barrier_order (mutBar j hm) ho ht s0 (by omega)).2 h
            have := pre_done hJ ho hready this
            rw [hj] at this; cases this
          · exact h
      have hdone := aop1_sound F (ds := a.defers) (hJ.win i hwin) ht' s2'
      unfold Oper.wp
      refine upon_of_done hdone ?_
      rintro r w1 ⟨ρ1, v, A', ⟨rfl, rfl⟩, k2, k3⟩
      exact ⟨_, J_touch hok hnn hJ h0 ho hD hready hgi s4 notMut notNew mutBar ht k2 k3 hwin⟩
  · -- a reader: at the last heap of the window
    rw [hwant s1]
    simp only [if_true]
    left
    have nodrop : ∀ j, drops ops rd i j = true → D j = false := fun j hj => by
      cases hDj : D j with
      | false => rfl
      | true =>
        unfold drops at hj
        rw [Bool.and_eq_true] at hj
        have := hJ.down _ _ (isBefore_sound hj.1) hDj
        rw [hD] at this; cases this
    have hex : ∃ k, Win ops H D k ∧ (k = ops.size ∨ (barrier ops rd k = true ∧ D k = false)) ∧ (∀ j, i ≤ j → j < k → drops ops rd i j = false) := by
      by_cases hsome : ∃ j, j < ops.size ∧ D j = false ∧ (Mut ops H j ∨ drops ops rd i j = true)
      · obtain ⟨k, hk, hmin⟩ : ∃ k, (k < ops.size ∧ D k = false ∧ (Mut ops H k ∨ drops ops rd i k = true)) ∧ ∀ j, j < k → ¬ (j < ops.size ∧ D j = false ∧ (Mut ops H j ∨ drops ops rd i j = true)) := by
          obtain ⟨j, hj⟩ := hsome
          induction j using Nat.strongRecOn with
          | _ j ih =>
            by_cases hl : ∃ j', j' < j ∧ j' < ops.size ∧ D j' = false ∧ (Mut ops H j' ∨ drops ops rd i j' = true)
            · obtain ⟨j', h1, h2⟩ := hl; exact ih j' h1 h2
            · exact ⟨j, hj, fun j' h1 h2 => hl ⟨j', h1, h2⟩⟩
        have hbar : barrier ops rd k = true := by
          rcases hk.2.2 with h | h
          · exact mutBar k h
          · unfold drops at h; rw [Bool.and_eq_true] at h; exact h.2
        refine ⟨k, ⟨by have := hk.1; omega, fun j hm hj => ?_, fun j hm hj => ?_⟩, .inr ⟨hbar, hk.2.1⟩, fun j hij hjk => ?_⟩
        · rcases Nat.lt_trichotomy j k with h | h | h
          · exact h
          · subst h; rw [hk.2.1] at hj; cases hj
          · have hok' := Array.getElem?_eq_getElem hm.1
            have := (barrier_order hbar hok' (notMut j _ hok' hm) (mutRd j hm) (by omega)).2 h
            have := hJ.down _ _ this hj
            rw [hk.2.1] at this; cases this
        · rcases Nat.lt_or_ge j k with h | h
          · exact absurd ⟨hm.1, hj, .inl hm⟩ (hmin j h)
          · exact h
        · cases hdr : drops ops rd i j with
          | false => rfl
          | true => exact absurd ⟨by have := hk.1; omega, nodrop j hdr, .inr hdr⟩ (hmin j hjk)
      · refine ⟨ops.size, ⟨Nat.le_refl _, fun j hm _ => hm.1, fun j hm hj => absurd ⟨j, hm.1, hj, .inl hm⟩ hsome⟩, .inl rfl, fun j hij hjk => ?_⟩
        cases hdr : drops ops rd i j with
        | false => rfl
        | true => exact absurd ⟨j, hjk, nodrop j hdr, .inr hdr⟩ hsome
    obtain ⟨k, hk, hkk, hlim⟩ := hex
    have hlt : ∀ x e, ρ x = some e → x < (H k).n := by
      intro x e hx
      rcases hkk with rfl | ⟨hm, hd⟩
      · exact hJ.upper x e hx
      · rcases Nat.lt_or_ge x (H k).n with h | h
        · exact h
        · have htop := hJ.upper x e hx
          have ex : ∃ j, k ≤ j ∧ j < ops.size ∧ (H j).n ≤ x ∧ x < (H (j + 1)).n := by
            have : ∀ d, k + d ≤ ops.size → x < (H (k + d)).n → ∃ j, k ≤ j ∧ j < ops.size ∧ (H j).n ≤ x ∧ x < (H (j + 1)).n := by
              intro d
              induction d with
              | zero => intro _ h; simp at h; omega
              | succ d ih =>
                intro h1 h2
                by_cases h3 : x < (H (k + d)).n
                · exact ih (by omega) h3
                · exact ⟨k + d, by omega, by omega, by omega, h2⟩
            exact this (ops.size - k) (by have := hk.1; omega) (by rw [show k + (ops.size - k) = ops.size by have := hk.1; omega]; exact htop)
          obtain ⟨j, j1, j2, j3, j4⟩ := ex
          have hDj : D j = true := by
            cases hdj : D j with
            | true => rfl
            | false => rw [hJ.ids j j2 hdj x j3 j4] at hx; cases hx
          have hjk : j ≠ k := fun e => by subst e; rw [hd] at hDj; cases hDj
          have hoj := Array.getElem?_eq_getElem j2
          obtain ⟨t1, t2⟩ := notNew j _ hoj (by omega)
          have := (barrier_order hm hoj t1 t2 hjk).2 (by omega)
          have := hJ.down _ _ this hDj
          rw [hd] at this; cases this
    have hcutk : cut ρ (H k).n = ρ := by
      funext x
      unfold cut
      split
      · rfl
      · rename_i hx
        cases hc : ρ x with
        | none => rfl
        | some e => exact absurd (hlt x e hc) hx
    have hR := hJ.win k hk
    rw [hcutk] at hR
    have haop := sR k hk.1 hlim
    have htk : TR ρ n t' a.tmps := ht'.mono (cut_sub _ _)
    have hfull : ∀ x, VR ρ (aeval t' x) (a.eval x) := by
      obtain ⟨tm, df⟩ := a
      exact htk.eval df
    have haop' : aop P o.op (aeval t') (H k) = some (V i, H k) := by
      rw [← aop_congr (P := P) (aeval_looks hagree)]; exact haop
    obtain ⟨r, k1, k2⟩ := reader_sound F hR sk hfull haop'
    unfold Oper.wp
    rw [k1]
    obtain ⟨ρb, rb, b1, b2⟩ := sB
    exact ⟨ρ, J_leaf hok hJ ho hD hready hgi sH (VR.bnd b1 b2 k2)⟩

theorem ready_mem {D : Array Bool} {i : Nat} (h : i ∈ Region.ready .any ops D) : ∃ o, ops[i]? = some o ∧ D.getD i true = false ∧ ∀ e ∈ o.after.toList, Region.binds .any e = true → D.getD e.on false = true := by
  unfold Region.ready at h
  obtain ⟨h1, h2⟩ := List.mem_filter.1 h
  have hi := List.mem_range.1 h1
  simp only [Bool.and_eq_true] at h2
  have ho : ops[i]? = some ops[i] := Array.getElem?_eq_getElem hi
  rw [ho] at h2
  refine ⟨_, ho, by simpa using h2.1, fun e he hb => ?_⟩
  have h3 := h2.2
  simp only [Option.map_some, Option.getD_some] at h3
  rw [← Array.all_toList] at h3
  have := List.all_eq_true.1 h3 e he
  simpa [hb] using this

theorem getD_tf {D : Array Bool} {i : Nat} (h : i < D.size) : D.getD i true = D.getD i false := by
  simp [Array.getD, h]

/-- how many are left -/
def todo (m : Nat) (D : Nat → Bool) : Nat := ((List.range m).filter fun j => !D j).length

theorem todo_done {m : Nat} {D : Nat → Bool} {i : Nat} (hi : i < m) (hD : D i = false) : todo m (done D i) < todo m D := by
  unfold todo
  have hsub : ((List.range m).filter fun j => !done D i j) = (((List.range m).filter fun j => !D j).filter fun j => decide (j ≠ i)) := by
    rw [List.filter_filter]
    congr 1
    funext j
    unfold done
    by_cases h : j = i <;> simp [h]
  rw [hsub]
  have hmem : i ∈ (List.range m).filter fun j => !D j := List.mem_filter.2 ⟨List.mem_range.2 hi, by simp [hD]⟩
  exact List.length_filter_lt_length_iff_exists.2 ⟨i, hmem, by simp⟩

theorem todo_zero {m : Nat} {D : Nat → Bool} (h : todo m D = 0) {j : Nat} (hj : j < m) : D j = true := by
  unfold todo at h
  have := List.eq_nil_of_length_eq_zero h
  rw [List.filter_eq_nil_iff] at this
  have := this j (List.mem_range.2 hj)
  simpa using this

/-- nothing is ready: all has been done -/
theorem none_ready (hok : okDraw ops = true) {D : Array Bool} (hs : D.size = ops.size) (h : Region.ready .any ops D = []) : ∀ j, j < ops.size → D.getD j false = true := by
  intro j
  induction j using Nat.strongRecOn with
  | _ j ih =>
    intro hj
    cases hd : D.getD j false with
    | true => rfl
    | false =>
      have ho : ops[j]? = some ops[j] := Array.getElem?_eq_getElem hj
      have : j ∈ Region.ready .any ops D := by
        unfold Region.ready
        refine List.mem_filter.2 ⟨List.mem_range.2 hj, ?_⟩
        rw [getD_tf (by omega), hd, ho]
        simp only [Bool.not_false, Bool.true_and, Option.map_some, Option.getD_some]
        rw [← Array.all_toList, List.all_eq_true]
        intro e he
        cases hb : Region.binds .any e with
        | false => rfl
        | true =>
          have hlt := okDraw_edges hok ho he hb
          simp [ih e.on hlt (by omega)]
      rw [h] at this; cases this

theorem all_orders (F : Fine P) (hok : okDraw ops = true) (hg : ∀ j o, ops[j]? = some o → Good P n ops rd T H V j o) {ρ0 : Rho} {w0 : World} (h0 : ∀ x e, ρ0 x = some e → x < (H 0).n)
    {Q : Exit → Act → World → Prop} (hQ : ∀ a w ρ D, (∀ j, j < ops.size → D j = true) → J n ops T H V ρ0 w0 D a w ρ → Q .normal a w) :
    ∀ (fuel : Nat) (D : Array Bool) (a : Act) (w : World) (ρ : Rho), D.size = ops.size → todo ops.size (fun j => D.getD j false) ≤ fuel → J n ops T H V ρ0 w0 (fun j => D.getD j false) a w ρ →
      wpAny P .any ops Q fuel D a w
  | 0, D, a, w, ρ, hs, hf, hJ => by
    have hall : ∀ j, j < ops.size → D.getD j false = true := fun j hj => todo_zero (D := fun j => D.getD j false) (by omega) hj
    refine ⟨?_, hQ a w ρ _ hall hJ⟩
    cases hr : Region.ready .any ops D with
    | nil => rfl
    | cons i rest =>
      obtain ⟨o, h1, h2, _⟩ := ready_mem (ops := ops) (D := D) (i := i) (by rw [hr]; simp)
      have hi := (Array.getElem?_eq_some_iff.1 h1).1
      rw [getD_tf (by omega), hall i hi] at h2; cases h2
  | fuel + 1, D, a, w, ρ, hs, hf, hJ => by
    refine ⟨fun hr => hQ a w ρ _ (none_ready hok hs hr) hJ, fun i hi => ?_⟩
    obtain ⟨o, h1, h2, h3⟩ := ready_mem hi
    have hilt := (Array.getElem?_eq_some_iff.1 h1).1
    have hDi : D.getD i false = false := by rw [← getD_tf (by omega)]; exact h2
    refine wpOp_mono (fun a' w' ⟨ρ', hJ'⟩ => ?_) (exec_one F hok hg h0 hJ h1 hDi h3 Q)
    have hD' : (fun j => (D.setIfInBounds i true).getD j false) = done (fun j => D.getD j false) i := by
      funext j
      unfold done
      rw [Array.getD_eq_getD_getElem?, Array.getElem?_setIfInBounds]
      by_cases hij : i = j
      · subst hij; rw [if_pos rfl, if_pos (by omega)]; simp
      · rw [if_neg hij, ← Array.getD_eq_getD_getElem?]
        have : (decide (j = i)) = false := by simp; exact fun e => hij e.symm
        rw [this, Bool.or_false]
    refine all_orders F hok hg h0 hQ fuel _ a' w' ρ' (by simpa using hs) ?_ (by rw [hD']; exact hJ')
    rw [hD']
    have := todo_done (m := ops.size) (D := fun j => D.getD j false) hilt hDi
    omega

end

/-- THE RULE: a region that draws its order, gone through in the order of the text -/
theorem adrawn_sound {P : Program} (F : Fine P) (hm : P.follows .mixedOrders = true) {n id : Nat} {ops : Array Oper} {rd : List Nat} (hok : okDraw ops = true) {K : Exit → Tm → AHeap → Prop} {ρ : Rho} {A : AHeap} {w : World}
    {t : Tm} {a : Act} (hr : Rel ρ A w) (ht : TR ρ n t a.tmps) (hd : a.defers = []) (h : adrawn P n ops rd ops.toList 0 t A [] [] (K .normal)) :
    (Code.region id ops true).wp P (PostK ρ A w n K) a w := by
  obtain ⟨T, H, V, h1, h2, h3, _, h4⟩ := trace ops.toList 0 t A [] [] (by simp) h
  have hg : ∀ j o, ops[j]? = some o → Good P n ops rd T H V j o := by
    intro j o ho
    have := h3 j o (by simpa using ho)
    simp only [Nat.zero_add] at this
    exact this.mono fun a b c (h : At P ops rd [] H 0 ops.toList.length j a b c) k hk hl => h.2 k (Nat.zero_le _) (by simpa using hk) hl
  simp only [Nat.zero_add, Array.length_toList] at h4
  have hn : ∀ j, j < ops.size → (H j).n ≤ (H (j + 1)).n := fun j hj => (hg j _ (Array.getElem?_eq_getElem hj)).n_le
  let w1 : World := { w with drawn := w.drawn + 1 }
  have hr1 : Rel ρ A w1 := hr.drew _
  have hlt : ∀ x e, ρ x = some e → x < (H 0).n := fun x e hx => by rw [h2]; exact hr.lt x e hx
  have hcut : ∀ k, k ≤ ops.size → cut ρ (H k).n = ρ := by
    intro k hk
    funext x
    unfold cut
    split
    · rfl
    · rename_i hx
      cases hc : ρ x with
      | none => rfl
      | some e => have := hlt x e hc; have := mono_n' hn (Nat.zero_le k) hk; omega
  have hinit : J n ops T H V ρ w1 (fun _ => false) a w1 ρ := {
    defers := hd
    tsize := ht.size
    slot := fun s => .inr ⟨fun k o' hk => (by cases hk), (by rw [h1]; exact ht.each s)⟩
    down := fun i j _ hj => by cases hj
    rng := fun j hj => by cases hj
    ids := fun j hj _ x hx1 hx2 => by
      cases hc : ρ x with
      | none => rfl
      | some e => have := hlt x e hc; have := mono_n' hn (Nat.zero_le j) (by omega); omega
    win := fun k hk => by
      rw [hcut k hk.1]
      have hun : Unch (H 0) (H k) := unch_to' hn (Nat.zero_le k) hk.1 fun j _ hj hmm => by have := hk.2.2 j hmm rfl; omega
      have hle := mono_n' hn (Nat.zero_le k) hk.1
      rw [h2] at hun hle
      refine ⟨fun x e hx => Nat.lt_of_lt_of_le (hr.lt x e hx) hle, fun x e hx => ?_, hr1.bnd, fun x y e e' hx hy hb hwx hly => ?_⟩
      · obtain ⟨ob, g1, g2⟩ := hr1.obj x e hx
        exact ⟨ob, (hun x (hr.lt x e hx)).trans g1, g2⟩
      · refine hr1.inj x y e e' hx hy hb ?_ ?_
        · unfold writable at hwx ⊢; rw [hun x (hr.lt x e hx)] at hwx; exact hwx
        · unfold live at hly ⊢; rw [hun y (hr.lt y e' hy)] at hly; exact hly
    keep := fun k hk x e hx hwx => by
      have hun : Unch (H 0) (H k) := unch_to' hn (Nat.zero_le k) hk.1 fun j _ hj hmm => by have := hk.2.2 j hmm rfl; omega
      unfold writable at hwx ⊢; rw [hun x (hlt x e hx)] at hwx; exact hwx
    sub := Sub.refl _, os := rfl, tape := ⟨rfl, fun _ => rfl⟩, output := rfl, size := Nat.le_refl _
    frame := fun B _ _ => rfl
    fresh := fun i e hx hn => by rw [hx] at hn; cases hn
    news := fun i e hx hn => by rw [hx] at hn; cases hn
    upper := fun i e hx => Nat.lt_of_lt_of_le (hlt i e hx) (mono_n' hn (Nat.zero_le _) (Nat.le_refl _)) }
  have hfin : ∀ a' w' ρ' D, (∀ j, j < ops.size → D j = true) → J n ops T H V ρ w1 D a' w' ρ' → PostK ρ A w n K .normal a' w' := by
    intro a' w' ρ' D hall hJ
    have hwin : Win ops H D ops.size := ⟨Nat.le_refl _, fun j hmm _ => hmm.1, fun j hmm hj => by rw [hall j hmm.1] at hj; cases hj⟩
    have hR := hJ.win _ hwin
    refine ⟨hJ.defers, cut ρ' (H ops.size).n, T ops.size, H ops.size, h4, ?_, hJ.tsize, fun s => ?_⟩
    · have hle := mono_n' hn (Nat.zero_le ops.size) (Nat.le_refl _)
      refine ⟨fun x e hx => cut_mk (hJ.sub x e hx) (Nat.lt_of_lt_of_le (hlt x e hx) hle), hR, hJ.os, hJ.tape, hJ.output, hJ.size, ?_, ?_, ?_, ?_, ?_⟩
      · intro B hB hn'
        exact hJ.frame B hB fun i e hi hwi => hn' i e hi (by rw [← h2]; exact hwi)
      · intro x e hx hno
        rcases hJ.fresh x e (cut_some hx).2 hno with hf | ⟨z, ez, a1, a2, a3⟩
        · exact .inl hf
        · exact .inr ⟨z, ez, a1, by rw [← h2]; exact a2, a3⟩
      · intro x e hx hwx
        rw [← h2]; exact hJ.keep _ hwin x e hx hwx
      · rw [← h2]; exact hle
      · intro x e hx hno
        rw [← h2]; exact hJ.news x e (cut_some hx).2 hno
    · have hall' : ∀ k o', ops[k]? = some o' → D k = true := fun k o' hk => hall k (Array.getElem?_eq_some_iff.1 hk).1
      rcases hJ.slot s with ⟨j, oj, a1, a2, a3, a4, a5⟩ | ⟨a1, a2⟩
      · rcases slotT hg s ops.size (Nat.le_refl _) with ⟨j', oj', b1, b2, b3, b4, b5⟩ | ⟨b1, b2⟩
        · have e1 := b4 j oj (Array.getElem?_eq_some_iff.1 a2).1 a2 a3
          have e2 := a4 j' oj' (hall' j' _ b2) b2 b3
          have : j = j' := by omega
          subst this
          rw [b5]
          refine a5.mono fun x e hx => ?_
          obtain ⟨q1, q2⟩ := cut_some hx
          exact cut_mk q2 (Nat.lt_of_lt_of_le q1 (mono_n' hn (by omega) (Nat.le_refl _)))
        · exact absurd a3 (b1 j oj (Array.getElem?_eq_some_iff.1 a2).1 a2)
      · rcases slotT hg s ops.size (Nat.le_refl _) with ⟨j', oj', b1, b2, b3, b4, b5⟩ | ⟨b1, b2⟩
        · exact absurd b3 (a1 j' oj' (hall' j' _ b2) b2)
        · rw [b2]
          refine a2.mono fun x e hx => ?_
          exact cut_mk (hJ.sub x e hx) (Nat.lt_of_lt_of_le (hlt x e hx) (mono_n' hn (Nat.zero_le _) (Nat.le_refl _)))
  refine wp_region_any hm ?_
  refine all_orders F hok hg hlt hfin ops.size (Array.replicate ops.size false) a w1 ρ (by simp) ?_ ?_
  · have : todo ops.size (fun j => (Array.replicate ops.size false).getD j false) ≤ ops.size := by
      unfold todo
      refine Nat.le_trans (List.length_filter_le _ _) ?_
      simp
    exact this
  · have : (fun j => (Array.replicate ops.size false).getD j false) = fun _ => false := by
      funext j
      rw [Array.getD_eq_getD_getElem?, Array.getElem?_replicate]
      split <;> rfl
    rw [this]; exact hinit

end Go.AB

/-
  Code and functions.
-/
namespace Go.AB
open Go
set_option linter.unusedSimpArgs false
set_option linter.unusedVariables false

abbrev Kont := Exit → Tm → AHeap → Prop

/-- so many rounds at most -/
def aiter (body : Tm → AHeap → Kont → Prop) : Nat → Tm → AHeap → Kont → Prop
  | 0, _, _, _ => False
  | k + 1, t, A, K => body t A fun e t' A' => match e with
    | .normal => aiter body k t' A' K
    | e => K e t' A'

def Kont.then (next : Tm → AHeap → Prop) (K : Kont) : Kont
  | .normal, t, A => next t A
  | e, t, A => K e t A

def Kont.block (id : Nat) (K : Kont) : Kont
  | .exit id', t, A => if id' = id then K .normal t A else K (.exit id') t A
  | e, t, A => K e t A

def acond (v : Value) (a b : Prop) : Prop := match v with
  | .bool true => a
  | .bool false => b
  | _ => False

/-- what holds behind code -/
def awp (P : Program) (n : Nat) : Code → Tm → AHeap → Kont → Prop
  | .skip, t, A, K => K .normal t A
  | .label _, t, A, K => K .normal t A
  | .region _ ops false, t, A, K => aops P n ops ops.toList t A (K .normal)
  | .region _ ops true, t, A, K => okDraw ops = true ∧ ∃ rd, adrawn P n ops rd ops.toList 0 t A [] [] (K .normal)
  | .seq a b, t, A, K => awp P n a t A (Kont.then (fun t' A' => awp P n b t' A' K) K)
  | .cond c a b, t, A, K => acond (aeval t c) (awp P n a t A K) (awp P n b t A K)
  | .block id c, t, A, K => awp P n c t A (Kont.block id K)
  | .loop c, t, A, K => ∃ k, aiter (fun t A K => awp P n c t A K) k t A K
  | .scope c, t, A, K => awp P n c t A K
  | .exit id, t, A, K => K (.exit id) t A
  | .ret, t, A, K => K .ret t A
  | _, _, _, _ => False

/-- an end that code may come to -/
def Fair : Exit → Prop
  | .normal | .exit _ | .ret => True
  | _ => False

theorem PostK.weaken {ρ : Rho} {A : AHeap} {w : World} {n : Nat} {K K' : Kont} (hk : ∀ e t A, K e t A → K' e t A) {e : Exit} {a : Act} {w' : World} (h : PostK ρ A w n K e a w') : PostK ρ A w n K' e a w' := by
  obtain ⟨h1, ρ', t', A', h2, h3, h4⟩ := h
  exact ⟨h1, ρ', t', A', hk _ _ _ h2, h3, h4⟩

/-- 'K', at a fair end -/
def FK (K : Kont) : Kont := fun e t A => Fair e ∧ K e t A

theorem awp_sound {P : Program} (F : Fine P) (hm : P.follows .mixedOrders = true) (n : Nat) : ∀ (c : Code) {t : Tm} {A : AHeap} {K : Kont} {ρ : Rho} {w : World} {a : Act}, awp P n c t A K → Rel ρ A w → TR ρ n t a.tmps →
    a.defers = [] → c.wp P (PostK ρ A w n (FK K)) a w
  | .skip, t, A, K, ρ, w, a, h, hr, ht, hd => wp_skip ⟨hd, ρ, t, A, ⟨trivial, h⟩, Step.refl hr, ht⟩
  | .label _, t, A, K, ρ, w, a, h, hr, ht, hd => wp_label ⟨hd, ρ, t, A, ⟨trivial, h⟩, Step.refl hr, ht⟩
  | .exit id, t, A, K, ρ, w, a, h, hr, ht, hd => wp_exit ⟨hd, ρ, t, A, ⟨trivial, h⟩, Step.refl hr, ht⟩
  | .ret, t, A, K, ρ, w, a, h, hr, ht, hd => wp_ret ⟨hd, ρ, t, A, ⟨trivial, h⟩, Step.refl hr, ht⟩
  | .region id ops false, t, A, K, ρ, w, a, h, hr, ht, hd => by
    refine wp_region ?_
    have := aops_sound F (K := FK K) ops.toList 0 (by intro j o ho; simpa using ho) hr ht hd (by
      have h : aops P n ops ops.toList t A (K .normal) := h
      have : (K .normal) = (FK K .normal) := by funext t A; simp [FK, Fair]
      rw [this] at h; exact h)
    simpa using this
  | .region id ops true, t, A, K, ρ, w, a, h, hr, ht, hd => by
    have h : okDraw ops = true ∧ ∃ rd, adrawn P n ops rd ops.toList 0 t A [] [] (K .normal) := h
    have hK : (K .normal) = (FK K .normal) := by funext t A; simp [FK, Fair]
    rw [hK] at h
    obtain ⟨h1, rd, h2⟩ := h
    exact adrawn_sound F hm h1 hr ht hd h2
  | .seq x y, t, A, K, ρ, w, a, h, hr, ht, hd => by
    refine wp_seq (wp_mono (awp_sound F hm n x h hr ht hd) ?_)
    rintro e a' w' ⟨h1, ρ', t', A', ⟨hf, h2⟩, h3, h4⟩
    cases e with
    | normal => exact wp_mono (awp_sound F hm n y h2 h3.rel h4 h1) fun e a w q => PostK.step h3 q
    | exit id => exact ⟨h1, ρ', t', A', ⟨hf, h2⟩, h3, h4⟩
    | ret => exact ⟨h1, ρ', t', A', ⟨hf, h2⟩, h3, h4⟩
    | _ => exact hf.elim
  | .cond c x y, t, A, K, ρ, w, a, h, hr, ht, hd => by
    have h : acond (aeval t c) (awp P n x t A K) (awp P n y t A K) := h
    have he : VR ρ (aeval t c) (a.eval c) := by obtain ⟨tm, df⟩ := a; exact ht.eval df c
    unfold acond at h
    split at h
    · rename_i hb
      rw [hb] at he
      refine wp_cond_true ?_ (awp_sound F hm n x h hr ht hd)
      cases hc : a.eval c <;> rw [hc] at he <;> cases he; rfl
    · rename_i hb
      rw [hb] at he
      refine wp_cond_false ?_ (awp_sound F hm n y h hr ht hd)
      cases hc : a.eval c <;> rw [hc] at he <;> cases he; rfl
    · exact h.elim
  | .block id c, t, A, K, ρ, w, a, h, hr, ht, hd => by
    refine wp_block (wp_mono (awp_sound F hm n c h hr ht hd) ?_)
    rintro e a' w' ⟨h1, ρ', t', A', ⟨hf, h2⟩, h3, h4⟩
    cases e with
    | exit id' =>
      simp only [Exit.inBlock]
      simp only [Kont.block] at h2
      split
      · rename_i hid; rw [if_pos hid] at h2; exact ⟨h1, ρ', t', A', ⟨trivial, h2⟩, h3, h4⟩
      · rename_i hid; rw [if_neg hid] at h2; exact ⟨h1, ρ', t', A', ⟨trivial, h2⟩, h3, h4⟩
    | normal => exact ⟨h1, ρ', t', A', ⟨hf, h2⟩, h3, h4⟩
    | ret => exact ⟨h1, ρ', t', A', ⟨hf, h2⟩, h3, h4⟩
    | _ => exact hf.elim
  | .scope c, t, A, K, ρ, w, a, h, hr, ht, hd => by
    refine wp_scope_straight (wp_mono (awp_sound F hm n c h hr ht hd) ?_)
    rintro e a' w' ⟨h1, ρ', t', A', ⟨hf, h2⟩, h3, h4⟩
    cases e with
    | goto l => exact hf.elim
    | _ => exact ⟨h1, ρ', t', A', ⟨hf, h2⟩, h3, h4⟩
  | .loop c, t, A, K, ρ, w, a, h, hr, ht, hd => by
    obtain ⟨k, h⟩ : ∃ k, aiter (fun t A K => awp P n c t A K) k t A K := h
    refine wp_loop_rounds k ?_
    have key : ∀ (k : Nat) (t : Tm) (A : AHeap) (ρ1 : Rho) (w1 : World) (a : Act), aiter (fun t A K => awp P n c t A K) k t A K → Rel ρ1 A w1 → TR ρ1 n t a.tmps → a.defers = [] →
        ∀ {ρ0 A0 w0}, Step ρ0 A0 w0 ρ1 A w1 → Code.rounds P c (PostK ρ0 A0 w0 n (FK K)) k a w1 := by
      intro k
      induction k with
      | zero => intro t A ρ1 w1 a h; exact h.elim
      | succ k ih =>
        intro t A ρ1 w1 a h hr ht hd ρ0 A0 w0 hst
        rw [rounds_succ]
        simp only [aiter] at h
        refine wp_mono (awp_sound F hm n c h hr ht hd) ?_
        rintro e a' w' ⟨h1, ρ', t', A', ⟨hf, h2⟩, h3, h4⟩
        cases e with
        | normal => exact ih t' A' ρ' w' a' h2 h3.rel h4 h1 (hst.trans h3)
        | exit id => exact ⟨h1, ρ', t', A', ⟨hf, h2⟩, hst.trans h3, h4⟩
        | ret => exact ⟨h1, ρ', t', A', ⟨hf, h2⟩, hst.trans h3, h4⟩
        | _ => exact hf.elim
    exact key k t A ρ w a h hr ht hd (Step.refl hr)
  | .goto _, t, A, K, ρ, w, a, h, hr, ht, hd => h.elim
  | .rangeFunc _ _ _ _, t, A, K, ρ, w, a, h, hr, ht, hd => h.elim
  | .refuse _, t, A, K, ρ, w, a, h, hr, ht, hd => h.elim

/-! ### results -/
def ares1 (P : Program) (t : Tm) (A : AHeap) : ResultVar → Option Value
  | .tmp i => some (t i)
  | .cell i ty => aload P A ty (t i)

def ares (P : Program) (rs : List ResultVar) (t : Tm) (A : AHeap) : Option Value :=
  match rs with
  | [r] => ares1 P t A r
  | rs => (rs.mapM (ares1 P t A)).map fun l => .tuple ⟨l⟩

def resOne (tmps : Array Value) : ResultVar → Sem Value
  | .tmp t => pure (tmps.getD t undef)
  | .cell a t => do loadVar t (← asAddr (tmps.getD a undef))

theorem results_eq (fn : Func) (tmps : Array Value) : results fn tmps = (do
    let vs ← fn.results.mapM (resOne tmps)
    pure (if h : vs.size = 1 then vs[0] else .tuple vs)) := rfl

theorem ares1_sound {P : Program} {ρ : Rho} {A : AHeap} {w : World} {n : Nat} {t : Tm} {tmps : Array Value} {r : ResultVar} {v : Value} (hr : Rel ρ A w) (ht : TR ρ n t tmps) (h : ares1 P t A r = some v) :
    ∃ rv, (resOne tmps r).run P w = .ok rv w ∧ VR ρ v rv := by
  cases r with
  | tmp i => simp only [ares1, Option.some.injEq] at h; subst h; exact ⟨_, rfl, ht.each i⟩
  | cell i ty =>
    simp only [ares1] at h
    obtain ⟨b, o, hb⟩ := aload_ptr h
    have hv := ht.each i
    rw [hb] at hv h
    obtain ⟨rx, k1, k2⟩ := load_sound (P := P) hr hv h
    obtain ⟨e, he, hp⟩ := hv.ptr_inv
    refine ⟨rx, ?_, k2⟩
    have hres : resOne tmps (.cell i ty) = (do loadVar ty (← asAddr (tmps.getD i undef))) := rfl
    rw [hres]
    rw [hp] at k1 ⊢
    simp only [Instr.loadAt, Instr.sureAddr, Sem.run_bind, Sem.run_pure, Result.andThen_ok] at k1
    simp only [asAddr, Sem.run_bind, Sem.run_pure, Result.andThen_ok, k1]

theorem ares_sound {P : Program} {ρ : Rho} {A : AHeap} {w : World} {n : Nat} {t : Tm} {tmps : Array Value} {fn : Func} {v : Value} (hr : Rel ρ A w) (ht : TR ρ n t tmps)
    (h : ares P fn.results.toList t A = some v) : ∃ rv, (results fn tmps).run P w = .ok rv w ∧ VR ρ v rv := by
  have key : ∀ (rs : List ResultVar) (vs : List Value), rs.mapM (ares1 P t A) = some vs →
      vs.length = rs.length ∧ ∃ l, (rs.mapM (resOne tmps)).run P w = .ok l w ∧ VL ρ vs l := by
    intro rs
    induction rs with
    | nil => intro vs hvs; simp at hvs; subst hvs; exact ⟨rfl, [], by simp, .nil⟩
    | cons r rs ih =>
      intro vs hvs
      rw [List.mapM_cons] at hvs
      cases h1 : ares1 P t A r with
      | none => rw [h1] at hvs; simp at hvs
      | some x =>
        rw [h1] at hvs
        simp only [Option.bind_eq_bind, Option.bind_some] at hvs
        cases h2 : rs.mapM (ares1 P t A) with
        | none => rw [h2] at hvs; cases hvs
        | some xs =>
          rw [h2] at hvs; cases hvs
          obtain ⟨rv, g1, g2⟩ := ares1_sound hr ht h1
          obtain ⟨k0, l, k1, k2⟩ := ih xs h2
          refine ⟨by simp [k0], rv :: l, ?_, .cons g2 k2⟩
          rw [List.mapM_cons]
          simp only [Sem.run_bind, g1, Result.andThen_ok, k1, Sem.run_pure]
  have hmm : fn.results.mapM (resOne tmps) = List.toArray <$> fn.results.toList.mapM (resOne tmps) := Array.mapM_eq_mapM_toList ..
  rw [results_eq]
  unfold ares at h
  split at h
  · rename_i r hrs
    obtain ⟨_, l, k1, k2⟩ := key [r] [v] (by simp [h])
    rw [hrs] at hmm
    obtain ⟨x, rfl⟩ : ∃ x, l = [x] := by
      match l, k2 with
      | [x], _ => exact ⟨x, rfl⟩
      | [], h => simp [VL] at h
      | _ :: _ :: _, h => simp [VL] at h
    refine ⟨x, ?_, k2.2 0 _ _ rfl rfl⟩
    simp only [Sem.run_bind, hmm, Sem.run_map, k1, Result.andThen_ok]
    simp
  · rename_i hrs
    cases hv : fn.results.toList.mapM (ares1 P t A) with
    | none => rw [hv] at h; cases h
    | some vs =>
      rw [hv] at h; cases h
      obtain ⟨k0, l, k1, k2⟩ := key _ vs hv
      have hlen : l.length ≠ 1 := by
        intro h1
        have h3 : fn.results.toList.length = 1 := by rw [← k0, k2.1, h1]
        match hl : fn.results.toList, h3 with
        | [r], _ => exact hrs r hl
      refine ⟨.tuple ⟨l⟩, ?_, k2.tuple⟩
      simp only [Sem.run_bind, hmm, Sem.run_map, k1, Result.andThen_ok]
      rw [dif_neg (by simpa using hlen)]
      rfl

/-- the temporaries at a function's start -/
def start (args : List Value) : Tm := fun i => args.getD i (.tuple ⟨[]⟩)

/-- what a function's body must come to -/
def AEnd (P : Program) (rs : List ResultVar) (K : Value → AHeap → Prop) : Kont := fun e t A =>
  match e with
  | .normal | .ret => match ares P rs t A with | some v => K v A | none => False
  | _ => False

theorem simW_of_awp {P : Program} (F : Fine P) (hm : P.follows .mixedOrders = true) {f : FuncId} {fn : Func} {c : Code} (hf : P.funcs[f]? = some fn) (hb : fn.body = some c)
    (hname : (fn.name == "runtime.NumGoroutine") = false) {args : List Value} (hlen : args.length ≤ fn.ntmps) {A : AHeap} {K : Value → AHeap → Prop}
    (h : awp P fn.ntmps c (start args) A (AEnd P fn.results.toList K)) : SimW P f args A K := by
  intro ρ w rargs hr hv
  have hcall : (callFunc f ⟨rargs⟩).run P w = .ok (.enter f ⟨rargs⟩) w := by
    unfold callFunc
    simp only [Sem.run_bind, run_program, Result.andThen_ok, hf, hname, Bool.false_eq_true, if_false, hb, Option.isNone_some, Sem.run_pure]
  rw [hcall]
  show Calls P f ⟨rargs⟩ w _
  have hrl : rargs.length = args.length := hv.1.symm
  have ht : TR ρ fn.ntmps (start args) ((⟨rargs⟩ : Array Value) ++ Array.replicate (fn.ntmps - (⟨rargs⟩ : Array Value).size) undef) := by
    refine ⟨by simp; omega, fun i => ?_⟩
    unfold start
    rw [Array.getD_eq_getD_getElem?, Array.getElem?_append]
    by_cases hi : i < args.length
    · rw [if_pos (by simp; omega)]
      obtain ⟨v', h1, h2⟩ := hv.get (List.getElem?_eq_getElem hi)
      simp only [List.getElem?_toArray, h1, Option.getD_some]
      rw [List.getD_eq_getElem?_getD, List.getElem?_eq_getElem hi]
      exact h2
    · rw [if_neg (by simp; omega), List.getD_eq_getElem?_getD, List.getElem?_eq_none (by omega)]
      rw [Array.getElem?_replicate]
      split <;> exact VL.tuple .nil
  refine calls_of_wp hf hb (wp_mono (awp_sound F hm fn.ntmps c h hr ht rfl) ?_)
  rintro e a w' ⟨h1, ρ', t', A', ⟨hfair, h2⟩, h3, h4⟩
  have fin : ∀ (h2 : match ares P fn.results.toList t' A' with | some v => K v A' | none => False), a.defers = [] ∧ ∃ v, (results fn a.tmps).run P w' = .ok v w' ∧
      (∃ v_1, Ending.returned v = .returned v_1 ∧ Out ρ A w K v_1 w') := by
    intro h2
    split at h2
    · rename_i v hv'
      obtain ⟨rv, k1, k2⟩ := ares_sound (fn := fn) h3.rel h4 hv'
      exact ⟨h1, rv, k1, rv, rfl, ρ', v, A', h2, k2, h3⟩
    · exact h2.elim
  cases e with
  | normal => exact fin h2
  | ret => exact fin h2
  | _ => exact h2.elim

end Go.AB

/-
  Steps of an abstract run, one lemma a step.
-/
namespace Go.AB
open Go
set_option linter.unusedSimpArgs false
set_option linter.unusedVariables false

section
variable {P : Program} {n : Nat} {ops : Array Oper} {t : Tm} {A : AHeap}

/-! ### regions in the order of the text -/
theorem aops_nil {K : Tm → AHeap → Prop} (h : K t A) : aops P n ops [] t A K := h

theorem aops_step {K : Tm → AHeap → Prop} {o : Oper} {os : List Oper} {d : Nat} {v : Value} {A' : AHeap} (hw : awanted ops t o = some true) (hk : opKind o.op = .other) (hd : o.dst = some d) (hn : d < n)
    (hx : aop P o.op (aeval t) A = some (v, A')) (h : aops P n ops os (upd t d v) A' K) : aops P n ops (o :: os) t A K := by
  unfold aops
  rw [hw]
  show aop1 P o t A _
  unfold aop1
  rw [hk]
  simp only [hx]
  unfold aput
  rw [hd]
  exact ⟨hn, h⟩

theorem aops_step0 {K : Tm → AHeap → Prop} {o : Oper} {os : List Oper} {v : Value} {A' : AHeap} (hw : awanted ops t o = some true) (hk : opKind o.op = .other) (hd : o.dst = none)
    (hx : aop P o.op (aeval t) A = some (v, A')) (h : aops P n ops os t A' K) : aops P n ops (o :: os) t A K := by
  unfold aops
  rw [hw]
  show aop1 P o t A _
  unfold aop1
  rw [hk]
  simp only [hx]
  unfold aput
  rw [hd]
  exact h

theorem aops_skip {K : Tm → AHeap → Prop} {o : Oper} {os : List Oper} {d : Nat} (hw : awanted ops t o = some false) (hd : o.dst = some d) (hn : d < n)
    (h : aops P n ops os (upd t d (.tuple ⟨[]⟩)) A K) : aops P n ops (o :: os) t A K := by
  unfold aops
  rw [hw]
  show aput n t o.dst _ _
  unfold aput
  rw [hd]
  exact ⟨hn, h⟩

theorem aops_skip0 {K : Tm → AHeap → Prop} {o : Oper} {os : List Oper} (hw : awanted ops t o = some false) (hd : o.dst = none)
    (h : aops P n ops os t A K) : aops P n ops (o :: os) t A K := by
  unfold aops
  rw [hw]
  show aput n t o.dst _ _
  unfold aput
  rw [hd]
  exact h

theorem aops_call {K : Tm → AHeap → Prop} {o : Oper} {os : List Oper} {c : Call} {d : Nat} {f : FuncId} {args : List Value} {K' : Value → AHeap → Prop} (hw : awanted ops t o = some true)
    (hk : opKind o.op = .call c) (hd : o.dst = some d) (hn : d < n) (hc : acallee P A t c = some (f, args)) (hs : SimW P f args A K')
    (h : ∀ v A', K' v A' → aops P n ops os (upd t d v) A' K) : aops P n ops (o :: os) t A K := by
  unfold aops
  rw [hw]
  show aop1 P o t A _
  unfold aop1
  rw [hk]
  simp only [hc]
  refine hs.mono fun v A' hv => ?_
  unfold aput
  rw [hd]
  exact ⟨hn, h v A' hv⟩

theorem aops_call0 {K : Tm → AHeap → Prop} {o : Oper} {os : List Oper} {c : Call} {f : FuncId} {args : List Value} {K' : Value → AHeap → Prop} (hw : awanted ops t o = some true)
    (hk : opKind o.op = .call c) (hd : o.dst = none) (hc : acallee P A t c = some (f, args)) (hs : SimW P f args A K')
    (h : ∀ v A', K' v A' → aops P n ops os t A' K) : aops P n ops (o :: os) t A K := by
  unfold aops
  rw [hw]
  show aop1 P o t A _
  unfold aop1
  rw [hk]
  simp only [hc]
  refine hs.mono fun v A' hv => ?_
  unfold aput
  rw [hd]
  exact h v A' hv

theorem aops_next {K : Tm → AHeap → Prop} {o : Oper} {os : List Oper} {it : Operand} {d r m since last clock : Nat} {seen : List Nat} {es : List MapEntry} (hw : awanted ops t o = some true)
    (hk : opKind o.op = .next it) (hd : o.dst = some d) (hn : d < n) (hc : anextMap A (aeval t it) = some (r, m, since, seen, last, es, clock))
    (h : ∀ v A', NextMap A r m since seen es v A' → aops P n ops os (upd t d v) A' K) : aops P n ops (o :: os) t A K := by
  unfold aops
  rw [hw]
  show aop1 P o t A _
  unfold aop1
  rw [hk]
  simp only [hc]
  intro v A' hv
  unfold aput
  rw [hd]
  exact ⟨hn, h v A' hv⟩

/-! ### regions that draw -/
section
variable {rd : List Nat} {hist : List AHeap} {pend : List Pend}

theorem adrawn_nil {K : Tm → AHeap → Prop} {i : Nat} (h : K t A) : adrawn P n ops rd [] i t A hist pend K := h

theorem adrawn_gen' {K : Tm → AHeap → Prop} {i : Nat} {o : Oper} {os : List Oper} {v : Value} {A' : AHeap} (hr : rd.contains i = false) (hw : awanted ops t o = some true)
    (ha : aop1 P o t A (fun v' A'' => v' = v ∧ A'' = A')) (hle : A.n ≤ A'.n) (hu : Unch A A' ∨ barrier ops rd i = true) (hp : ∀ p ∈ keepP ops rd i pend, aop P p.2.1 (aeval p.2.2.1) A' = some (p.2.2.2, A'))
    (h : aput n t o.dst v fun t' => adrawn P n ops rd os (i + 1) t' A' (A :: hist) (keepP ops rd i pend) K) : adrawn P n ops rd (o :: os) i t A hist pend K := by
  unfold adrawn
  rw [hw]
  exact .inr ⟨hr, v, A', ha, hle, hu, hp, h⟩

theorem adrawn_gen {K : Tm → AHeap → Prop} {i : Nat} {o : Oper} {os : List Oper} {v : Value} {A' : AHeap} (hr : rd.contains i = false) (hw : awanted ops t o = some true)
    (ha : aop1 P o t A (fun v' A'' => v' = v ∧ A'' = A')) (hle : A.n ≤ A'.n) (hu : Unch A A' ∨ barrier ops rd i = true) (hp : ∀ p ∈ ([] : List Pend), aop P p.2.1 (aeval p.2.2.1) A' = some (p.2.2.2, A'))
    (h : aput n t o.dst v fun t' => adrawn P n ops rd os (i + 1) t' A' (A :: hist) [] K) : adrawn P n ops rd (o :: os) i t A hist [] K :=
  adrawn_gen' hr hw ha hle hu hp h

theorem aop1_other {o : Oper} {K : Value → AHeap → Prop} {v : Value} {A' : AHeap} (hk : opKind o.op = .other) (hx : aop P o.op (aeval t) A = some (v, A')) (h : K v A') : aop1 P o t A K := by
  unfold aop1
  rw [hk]
  simp only [hx]
  exact h

theorem aop1_call {o : Oper} {K : Value → AHeap → Prop} {c : Call} {f : FuncId} {args : List Value} (hk : opKind o.op = .call c) (hc : acallee P A t c = some (f, args)) (hs : SimW P f args A K) : aop1 P o t A K := by
  unfold aop1
  rw [hk]
  simp only [hc]
  exact hs

theorem aput_some {K : Tm → Prop} {d : Option Tmp} {i : Nat} {v : Value} (hd : d = some i) (hn : i < n) (h : K (upd t i v)) : aput n t d v K := by
  subst hd; exact ⟨hn, h⟩
theorem aput_none {K : Tm → Prop} {d : Option Tmp} {v : Value} (hd : d = none) (h : K t) : aput n t d v K := by
  subst hd; exact h

/-- one that leaves memory alone, no readers being open -/
theorem adrawn_pure {K : Tm → AHeap → Prop} {i : Nat} {o : Oper} {os : List Oper} {d : Nat} {v : Value} (hr : rd.contains i = false) (hw : awanted ops t o = some true) (hk : opKind o.op = .other) (hd : o.dst = some d) (hn : d < n)
    (hx : aop P o.op (aeval t) A = some (v, A)) (hp : ∀ p ∈ ([] : List Pend), aop P p.2.1 (aeval p.2.2.1) A = some (p.2.2.2, A)) (h : adrawn P n ops rd os (i + 1) (upd t d v) A (A :: hist) [] K) : adrawn P n ops rd (o :: os) i t A hist [] K :=
  adrawn_gen hr hw (aop1_other hk hx ⟨rfl, rfl⟩) (Nat.le_refl _) (.inl (Unch.refl _)) hp (aput_some hd hn h)

theorem adrawn_step {K : Tm → AHeap → Prop} {i : Nat} {o : Oper} {os : List Oper} {d : Nat} {v : Value} {A' : AHeap} (hr : rd.contains i = false) (hw : awanted ops t o = some true) (hk : opKind o.op = .other) (hd : o.dst = some d)
    (hn : d < n) (hx : aop P o.op (aeval t) A = some (v, A')) (hle : A.n ≤ A'.n) (hu : Unch A A' ∨ barrier ops rd i = true) (hp : ∀ p ∈ ([] : List Pend), aop P p.2.1 (aeval p.2.2.1) A' = some (p.2.2.2, A'))
    (h : adrawn P n ops rd os (i + 1) (upd t d v) A' (A :: hist) [] K) : adrawn P n ops rd (o :: os) i t A hist [] K :=
  adrawn_gen hr hw (aop1_other hk hx ⟨rfl, rfl⟩) hle hu hp (aput_some hd hn h)

theorem adrawn_step0 {K : Tm → AHeap → Prop} {i : Nat} {o : Oper} {os : List Oper} {v : Value} {A' : AHeap} (hr : rd.contains i = false) (hw : awanted ops t o = some true) (hk : opKind o.op = .other) (hd : o.dst = none)
    (hx : aop P o.op (aeval t) A = some (v, A')) (hle : A.n ≤ A'.n) (hu : Unch A A' ∨ barrier ops rd i = true) (hp : ∀ p ∈ ([] : List Pend), aop P p.2.1 (aeval p.2.2.1) A' = some (p.2.2.2, A'))
    (h : adrawn P n ops rd os (i + 1) t A' (A :: hist) [] K) : adrawn P n ops rd (o :: os) i t A hist [] K :=
  adrawn_gen hr hw (aop1_other hk hx ⟨rfl, rfl⟩) hle hu hp (aput_none hd h)

theorem adrawn_call {K : Tm → AHeap → Prop} {i : Nat} {o : Oper} {os : List Oper} {c : Call} {d : Nat} {f : FuncId} {args : List Value} {v : Value} {A' : AHeap} (hr : rd.contains i = false) (hw : awanted ops t o = some true)
    (hk : opKind o.op = .call c) (hd : o.dst = some d) (hn : d < n) (hc : acallee P A t c = some (f, args)) (hs : SimW P f args A (fun v' A'' => v' = v ∧ A'' = A'))
    (hle : A.n ≤ A'.n) (hu : Unch A A' ∨ barrier ops rd i = true) (hp : ∀ p ∈ ([] : List Pend), aop P p.2.1 (aeval p.2.2.1) A' = some (p.2.2.2, A'))
    (h : adrawn P n ops rd os (i + 1) (upd t d v) A' (A :: hist) [] K) : adrawn P n ops rd (o :: os) i t A hist [] K :=
  adrawn_gen hr hw (aop1_call hk hc hs) hle hu hp (aput_some hd hn h)

theorem adrawn_skip {K : Tm → AHeap → Prop} {i : Nat} {o : Oper} {os : List Oper} {d : Nat} (hw : awanted ops t o = some false) (hd : o.dst = some d) (hn : d < n)
    (h : adrawn P n ops rd os (i + 1) (upd t d (.tuple ⟨[]⟩)) A hist pend K) : adrawn P n ops rd (o :: os) i t A hist pend K := by
  unfold adrawn
  rw [hw]
  show aput n t o.dst _ _
  exact aput_some hd hn h

theorem adrawn_skip0 {K : Tm → AHeap → Prop} {i : Nat} {o : Oper} {os : List Oper} (hw : awanted ops t o = some false) (hd : o.dst = none)
    (h : adrawn P n ops rd os (i + 1) t A hist pend K) : adrawn P n ops rd (o :: os) i t A hist pend K := by
  unfold adrawn
  rw [hw]
  show aput n t o.dst _ _
  exact aput_none hd h

/-- a reader -/
theorem adrawn_read {K : Tm → AHeap → Prop} {i : Nat} {o : Oper} {os : List Oper} {d : Nat} {v : Value} (hr : rd.contains i = true) (hk : reads o.op = true) (hw : awanted ops t o = some true) (hd : o.dst = some d) (hn : d < n)
    (hx : ∀ B ∈ A :: hist, aop P o.op (aeval t) B = some (v, B)) (hb : Bnd A.n v) (h : adrawn P n ops rd os (i + 1) (upd t d v) A hist ((i, o.op, t, v) :: pend) K) :
    adrawn P n ops rd (o :: os) i t A hist pend K := by
  unfold adrawn
  rw [hw]
  exact .inl ⟨hr, hk, v, hx, hb, aput_some hd hn h⟩

end

/-! ### .. with readers open -/
theorem adrawn_stepR {rd : List Nat} {hist : List AHeap} {pend : List Pend} {K : Tm → AHeap → Prop} {i : Nat} {o : Oper} {os : List Oper} {d : Nat} {v : Value} {A' : AHeap} (hr : rd.contains i = false) (hw : awanted ops t o = some true) (hk : opKind o.op = .other) (hd : o.dst = some d)
    (hn : d < n) (hx : aop P o.op (aeval t) A = some (v, A')) (hle : A.n ≤ A'.n) (hu : Unch A A' ∨ barrier ops rd i = true) {pend' : List Pend} (hpe : keepP ops rd i pend = pend') (hp : ∀ p ∈ pend', aop P p.2.1 (aeval p.2.2.1) A' = some (p.2.2.2, A'))
    (h : adrawn P n ops rd os (i + 1) (upd t d v) A' (A :: hist) pend' K) : adrawn P n ops rd (o :: os) i t A hist pend K := by
  subst hpe
  exact adrawn_gen' hr hw (aop1_other hk hx ⟨rfl, rfl⟩) hle hu hp (aput_some hd hn h)

theorem adrawn_stepR0 {rd : List Nat} {hist : List AHeap} {pend : List Pend} {K : Tm → AHeap → Prop} {i : Nat} {o : Oper} {os : List Oper} {v : Value} {A' : AHeap} (hr : rd.contains i = false) (hw : awanted ops t o = some true) (hk : opKind o.op = .other) (hd : o.dst = none)
    (hx : aop P o.op (aeval t) A = some (v, A')) (hle : A.n ≤ A'.n) (hu : Unch A A' ∨ barrier ops rd i = true) {pend' : List Pend} (hpe : keepP ops rd i pend = pend') (hp : ∀ p ∈ pend', aop P p.2.1 (aeval p.2.2.1) A' = some (p.2.2.2, A'))
    (h : adrawn P n ops rd os (i + 1) t A' (A :: hist) pend' K) : adrawn P n ops rd (o :: os) i t A hist pend K := by
  subst hpe
  exact adrawn_gen' hr hw (aop1_other hk hx ⟨rfl, rfl⟩) hle hu hp (aput_none hd h)

/-! ### code -/
theorem awp_seq {a b : Code} {K : Kont} (h : ∀ N : Tm → AHeap → Prop, (∀ t A, awp P n b t A K → N t A) → awp P n a t A (Kont.then N K)) : awp P n (.seq a b) t A K :=
  h _ fun _ _ h => h
theorem awp_region {id : Nat} {K : Kont} (h : aops P n ops ops.toList t A (K .normal)) : awp P n (.region id ops false) t A K := h
theorem awp_drawn {id : Nat} {K : Kont} (rd : List Nat) (hok : okDraw ops = true) (h : adrawn P n ops rd ops.toList 0 t A [] [] (K .normal)) : awp P n (.region id ops true) t A K := ⟨hok, rd, h⟩
theorem awp_true {c : Operand} {a b : Code} {K : Kont} (hc : aeval t c = .bool true) (h : awp P n a t A K) : awp P n (.cond c a b) t A K := by
  show acond (aeval t c) _ _; rw [hc]; exact h
theorem awp_false {c : Operand} {a b : Code} {K : Kont} (hc : aeval t c = .bool false) (h : awp P n b t A K) : awp P n (.cond c a b) t A K := by
  show acond (aeval t c) _ _; rw [hc]; exact h
theorem awp_split {c : Operand} {a b : Code} {K : Kont} {x : Bool} (hc : aeval t c = .bool x) (h1 : x = true → awp P n a t A K) (h2 : x = false → awp P n b t A K) : awp P n (.cond c a b) t A K := by
  cases x
  · exact awp_false hc (h2 rfl)
  · exact awp_true hc (h1 rfl)
theorem awp_block {id : Nat} {c : Code} {K : Kont} (h : awp P n c t A (Kont.block id K)) : awp P n (.block id c) t A K := h
theorem awp_scope {c : Code} {K : Kont} (h : awp P n c t A K) : awp P n (.scope c) t A K := h
theorem awp_skip {K : Kont} (h : K .normal t A) : awp P n .skip t A K := h
theorem awp_label {l : Nat} {K : Kont} (h : K .normal t A) : awp P n (.label l) t A K := h
theorem awp_exit {id : Nat} {K : Kont} (h : K (.exit id) t A) : awp P n (.exit id) t A K := h
theorem awp_ret {K : Kont} (h : K .ret t A) : awp P n .ret t A K := h

theorem then_normal {N : Tm → AHeap → Prop} {K : Kont} (h : N t A) : Kont.then N K .normal t A := h
theorem then_ret {N : Tm → AHeap → Prop} {K : Kont} (h : K .ret t A) : Kont.then N K .ret t A := h
theorem then_exit {N : Tm → AHeap → Prop} {K : Kont} {id : Nat} (h : K (.exit id) t A) : Kont.then N K (.exit id) t A := h
theorem block_normal {id : Nat} {K : Kont} (h : K .normal t A) : Kont.block id K .normal t A := h
theorem block_ret {id : Nat} {K : Kont} (h : K .ret t A) : Kont.block id K .ret t A := h
theorem block_here {id : Nat} {K : Kont} (h : K .normal t A) : Kont.block id K (.exit id) t A := by
  show if id = id then _ else _; rw [if_pos rfl]; exact h
theorem block_there {id id' : Nat} {K : Kont} (hn : (id' == id) = false) (h : K (.exit id') t A) : Kont.block id K (.exit id') t A := by
  show if id' = id then _ else _; rw [if_neg (by simpa using hn)]; exact h

theorem end_normal {rs : List ResultVar} {K : Value → AHeap → Prop} {v : Value} (hv : ares P rs t A = some v) (h : K v A) : AEnd P rs K .normal t A := by
  show match ares P rs t A with | some v => K v A | none => False
  rw [hv]; exact h
theorem end_ret {rs : List ResultVar} {K : Value → AHeap → Prop} {v : Value} (hv : ares P rs t A = some v) (h : K v A) : AEnd P rs K .ret t A := by
  show match ares P rs t A with | some v => K v A | none => False
  rw [hv]; exact h

/-! ### loops -/
theorem aop1_mono {o : Oper} {K K' : Value → AHeap → Prop} (hk : ∀ v A, K v A → K' v A) (h : aop1 P o t A K) : aop1 P o t A K' := by
  unfold aop1 at h ⊢
  split at h
  · split at h
    · exact h.mono hk
    · exact h
  · split at h
    · intro v A' hv; exact hk _ _ (h v A' hv)
    · exact h
  · split at h
    · exact hk _ _ h
    · exact h

theorem aput_mono {d : Option Tmp} {v : Value} {K K' : Tm → Prop} (hk : ∀ t, K t → K' t) (h : aput n t d v K) : aput n t d v K' := by
  unfold aput at h ⊢
  split at h
  · exact hk _ h
  · exact ⟨h.1, hk _ h.2⟩

theorem aops_mono {K K' : Tm → AHeap → Prop} (hk : ∀ t A, K t A → K' t A) : ∀ {os : List Oper} {t : Tm} {A : AHeap}, aops P n ops os t A K → aops P n ops os t A K'
  | [], t, A, h => hk _ _ h
  | o :: os, t, A, h => by
    unfold aops at h ⊢
    split at h
    · exact h
    · exact aput_mono (fun t' h => aops_mono hk h) h
    · exact aop1_mono (fun v A' h => aput_mono (fun t' h => aops_mono hk h) h) h

theorem adrawn_mono {rd : List Nat} {K K' : Tm → AHeap → Prop} (hk : ∀ t A, K t A → K' t A) : ∀ {os : List Oper} {i : Nat} {t : Tm} {A : AHeap} {hist : List AHeap} {pend : List Pend},
    adrawn P n ops rd os i t A hist pend K → adrawn P n ops rd os i t A hist pend K'
  | [], i, t, A, _, _, h => hk _ _ h
  | o :: os, i, t, A, _, _, h => by
    unfold adrawn at h ⊢
    split at h
    · exact h
    · exact aput_mono (fun t' h => adrawn_mono hk h) h
    · rcases h with ⟨h1, h2, v, h3, h4, h5⟩ | ⟨h0, v, A', h1, h2, h3, h4, h5⟩
      · exact .inl ⟨h1, h2, v, h3, h4, aput_mono (fun t' h => adrawn_mono hk h) h5⟩
      · exact .inr ⟨h0, v, A', h1, h2, h3, h4, aput_mono (fun t' h => adrawn_mono hk h) h5⟩

theorem aiter_mono {body : Tm → AHeap → Kont → Prop} (hb : ∀ t A (K K' : Kont), (∀ e t A, K e t A → K' e t A) → body t A K → body t A K') {K K' : Kont} (hk : ∀ e t A, K e t A → K' e t A) :
    ∀ {k : Nat} {t : Tm} {A : AHeap}, aiter body k t A K → aiter body k t A K'
  | 0, t, A, h => h
  | k + 1, t, A, h => by
    refine hb _ _ _ _ (fun e t' A' h => ?_) h
    cases e with
    | normal => exact aiter_mono hb hk h
    | _ => exact hk _ _ _ h

theorem aiter_more {body : Tm → AHeap → Kont → Prop} (hb : ∀ t A (K K' : Kont), (∀ e t A, K e t A → K' e t A) → body t A K → body t A K') {K : Kont} :
    ∀ {k k' : Nat} {t : Tm} {A : AHeap}, k ≤ k' → aiter body k t A K → aiter body k' t A K
  | 0, k', t, A, _, h => h.elim
  | k + 1, 0, t, A, hk, h => absurd hk (by omega)
  | k + 1, k' + 1, t, A, hk, h => by
    refine hb _ _ _ _ (fun e t' A' h => ?_) h
    cases e with
    | normal => exact aiter_more hb (by omega) h
    | _ => exact h

theorem awp_mono (P : Program) (n : Nat) : ∀ (c : Code) {t : Tm} {A : AHeap} {K K' : Kont}, (∀ e t A, K e t A → K' e t A) → awp P n c t A K → awp P n c t A K'
  | .skip, t, A, K, K', hk, h => hk _ _ _ h
  | .label _, t, A, K, K', hk, h => hk _ _ _ h
  | .exit _, t, A, K, K', hk, h => hk _ _ _ h
  | .ret, t, A, K, K', hk, h => hk _ _ _ h
  | .region _ ops false, t, A, K, K', hk, h => aops_mono (K := K .normal) (K' := K' .normal) (hk .normal) h
  | .region _ ops true, t, A, K, K', hk, h => by
    obtain ⟨h1, rd, h2⟩ := h
    exact ⟨h1, rd, adrawn_mono (K := K .normal) (K' := K' .normal) (hk .normal) h2⟩
  | .seq a b, t, A, K, K', hk, h => awp_mono P n a (fun e t A h => by
      cases e with
      | normal => exact awp_mono P n b hk h
      | _ => exact hk _ _ _ h) h
  | .cond c a b, t, A, K, K', hk, h => by
    have h : acond (aeval t c) (awp P n a t A K) (awp P n b t A K) := h
    show acond (aeval t c) (awp P n a t A K') (awp P n b t A K')
    unfold acond at h ⊢
    split at h
    · exact awp_mono P n a hk h
    · exact awp_mono P n b hk h
    · exact h
  | .block id c, t, A, K, K', hk, h => awp_mono P n c (fun e t A h => by
      cases e with
      | exit id' =>
        simp only [Kont.block] at h ⊢
        split
        · rename_i hid; rw [if_pos hid] at h; exact hk _ _ _ h
        · rename_i hid; rw [if_neg hid] at h; exact hk _ _ _ h
      | _ => exact hk _ _ _ h) h
  | .scope c, t, A, K, K', hk, h => awp_mono P n c hk h
  | .loop c, t, A, K, K', hk, h => by
    obtain ⟨k, h⟩ : ∃ k, aiter (fun t A K => awp P n c t A K) k t A K := h
    exact ⟨k, aiter_mono (body := fun t A K => awp P n c t A K) (fun t A K K' hk h => awp_mono P n c hk h) hk h⟩
  | .goto _, t, A, K, K', hk, h => h.elim
  | .rangeFunc _ _ _ _, t, A, K, K', hk, h => h.elim
  | .refuse _, t, A, K, K', hk, h => h.elim

/-- a loop by what holds at its head, and a number that goes down -/
theorem awp_loop {c : Code} {K : Kont} (I : Nat → Tm → AHeap → Prop) (m : Nat) (h0 : I m t A)
    (round : ∀ m t A, I m t A → ∀ N : Tm → AHeap → Prop, (∀ t' A' m', m' < m → I m' t' A' → N t' A') → awp P n c t A (Kont.then N K)) : awp P n (.loop c) t A K := by
  have hb : ∀ t A (K K' : Kont), (∀ e t A, K e t A → K' e t A) → awp P n c t A K → awp P n c t A K' := fun t A K K' hk h => awp_mono P n c hk h
  have key : ∀ m t A, I m t A → aiter (fun t A K => awp P n c t A K) (m + 1) t A K := by
    intro m
    induction m using Nat.strongRecOn with
    | _ m ih =>
      intro t A hI
      refine hb _ _ _ _ (fun e t' A' h => ?_) (round m t A hI (fun t' A' => aiter (fun t A K => awp P n c t A K) m t' A' K) ?_)
      · cases e <;> exact h
      · intro t' A' m' hm hI'
        exact aiter_more hb (by omega) (ih m' hm t' A' hI')
  exact ⟨m + 1, key m t A h0⟩

end
end Go.AB

/-
  The operations, one equation each.
-/
namespace Go.AB
open Go
set_option linter.unusedSimpArgs false
set_option linter.unusedVariables false
variable {P : Program}

theorem aop_move {x : Operand} {ev : Operand → Value} {A : AHeap} : aop P (.move x) ev A = some (ev x, A) := rfl
theorem aop_assign {x : Operand} {ev : Operand → Value} {A : AHeap} : aop P (.assign x) ev A = some (ev x, A) := rfl
theorem aop_pick {x y z : Operand} {ev : Operand → Value} {A : AHeap} : aop P (.pick x y z) ev A = (apick (ev x) (ev y) (ev z)).map (·, A) := rfl
theorem aop_alloc {t : TypeId} {ev : Operand → Value} {A : AHeap} : aop P (.alloc t) ev A = aalloc P A t := rfl
theorem aop_box {t : TypeId} {x : Operand} {ev : Operand → Value} {A : AHeap} : aop P (.box t x) ev A = abox A (ev x) := rfl
theorem aop_build {t : TypeId} {ps : Array (Nat × Operand)} {ev : Operand → Value} {A : AHeap} : aop P (.build t ps) ev A = (abuild P t (evParts ev ps)).map (·, A) := rfl
theorem aop_buildSlice {t : TypeId} {n : Nat} {ps : Array (Nat × Operand)} {ev : Operand → Value} {A : AHeap} : aop P (.buildSlice t n ps) ev A = abuildSlice P A t n (evParts ev ps) := rfl
theorem aop_load {t : TypeId} {x : Operand} {ev : Operand → Value} {A : AHeap} : aop P (.load t x) ev A = (aload P A t (ev x)).map (·, A) := rfl
theorem aop_store {t : TypeId} {x y : Operand} {ev : Operand → Value} {A : AHeap} : aop P (.store t x y) ev A = (astore P A t (ev x) (ev y)).map (.tuple ⟨[]⟩, ·) := rfl
theorem aop_nilCheck {x : Operand} {ev : Operand → Value} {A : AHeap} : aop P (.nilCheck x) ev A = (anilCheck (ev x)).map (·, A) := rfl
theorem aop_binOp {op : BinOp} {t u : TypeId} {x y : Operand} {ev : Operand → Value} {A : AHeap} : aop P (.binOp op t x y u) ev A = (abin P op t (ev x) (ev y)).map (·, A) := rfl
theorem aop_unOp {op : UnOp} {t : TypeId} {x : Operand} {ev : Operand → Value} {A : AHeap} : aop P (.unOp op t x) ev A = (aunary op (ev x)).map (·, A) := rfl
theorem aop_convert {s d : TypeId} {x : Operand} {ev : Operand → Value} {A : AHeap} : aop P (.convert s d x) ev A = (aconvert P s d (ev x)).map (·, A) := rfl
theorem aop_makeInterface {t : TypeId} {x : Operand} {ev : Operand → Value} {A : AHeap} : aop P (.makeInterface t x) ev A = (amakeInterface P t (ev x)).map (·, A) := rfl
theorem aop_makeFunc {fn : Fn} {f c : Array Operand} {ev : Operand → Value} {A : AHeap} : aop P (.makeFunc fn f c) ev A = some (.func fn (f.map ev) (c.map ev), A) := rfl
theorem aop_makeMap {t : TypeId} {r : Option Operand} {ev : Operand → Value} {A : AHeap} : aop P (.makeMap t r) ev A = amakeMap P A t (r.map ev) := rfl
theorem aop_slice {t : TypeId} {x : Operand} {lo hi mx : Option Operand} {ev : Operand → Value} {A : AHeap} : aop P (.slice t x lo hi mx) ev A = (aslice P A t (ev x) (lo.map ev) (hi.map ev) (mx.map ev)).map (·, A) := rfl
theorem aop_fieldAddr {t : TypeId} {x : Operand} {f : Nat} {ev : Operand → Value} {A : AHeap} : aop P (.fieldAddr t x f) ev A = (afieldAddr P t (ev x) f).map (·, A) := rfl
theorem aop_field {t : TypeId} {x : Operand} {f : Nat} {ev : Operand → Value} {A : AHeap} : aop P (.field t x f) ev A = (afield P t (ev x) f).map (·, A) := rfl
theorem aop_indexAddr {t : TypeId} {x y : Operand} {ev : Operand → Value} {A : AHeap} : aop P (.indexAddr t x y) ev A = (aindexAddr P t (ev x) (ev y)).map (·, A) := rfl
theorem aop_index {t : TypeId} {x y : Operand} {ev : Operand → Value} {A : AHeap} : aop P (.index t x y) ev A = (aindex P t (ev x) (ev y)).map (·, A) := rfl
theorem aop_lookup {t : TypeId} {x y : Operand} {ok : Bool} {ev : Operand → Value} {A : AHeap} : aop P (.lookup t x y ok) ev A = (alookup P A t (ev x) (ev y) ok).map (·, A) := rfl
theorem aop_mapUpdate {t : TypeId} {x y z : Operand} {ev : Operand → Value} {A : AHeap} : aop P (.mapUpdate t x y z) ev A = (amapUpdate P A t (ev x) (ev y) (ev z)).map (.tuple ⟨[]⟩, ·) := rfl
theorem aop_insert {t : TypeId} {x y z : Operand} {ev : Operand → Value} {A : AHeap} : aop P (.insert t x y z) ev A = (amapUpdate P A t (ev x) (ev y) (ev z)).map (.tuple ⟨[]⟩, ·) := rfl
theorem aop_mapEntry {t : TypeId} {x y : Operand} {ev : Operand → Value} {A : AHeap} : aop P (.mapEntry t x y) ev A = amapEntry P A t (ev x) (ev y) := rfl
theorem aop_entryStore {t : TypeId} {x y z : Operand} {ev : Operand → Value} {A : AHeap} : aop P (.entryStore t x y z) ev A = (aentryStore A (ev x) (ev y) (ev z)).map (.tuple ⟨[]⟩, ·) := rfl
theorem aop_range {t : TypeId} {x : Operand} {ev : Operand → Value} {A : AHeap} : aop P (.range t x) ev A = arange P A t (ev x) := rfl
theorem aop_nextStr {x : Operand} {ev : Operand → Value} {A : AHeap} : aop P (.next x true) ev A = anextStr A (ev x) := rfl
theorem aop_entry {x : Operand} {ev : Operand → Value} {A : AHeap} : aop P (.entry x) ev A = (aentry A (ev x)).map (·, A) := rfl
theorem aop_typeAssert {t u : TypeId} {x : Operand} {ok : Bool} {ev : Operand → Value} {A : AHeap} : aop P (.typeAssert x t u ok) ev A = (atypeAssert P (ev x) u ok).map (·, A) := rfl
theorem aop_extract {x : Operand} {i : Nat} {ev : Operand → Value} {A : AHeap} : aop P (.extract x i) ev A = (aextract (ev x) i).map (·, A) := rfl
theorem aop_builtin {b : Builtin} {xs : Array Operand} {ts : Array TypeId} {ev : Operand → Value} {A : AHeap} : aop P (.call ⟨.builtin b, xs, ts⟩) ev A = abuiltin P A b ts.toList (xs.toList.map ev) := rfl
theorem ev_tmp {t : Tm} {i : Nat} : aeval t (.tmp i) = t i := rfl
theorem ev_const {t : Tm} {v : Value} : aeval t (.const v) = cst v := rfl
theorem ev_func {t : Tm} {f : Nat} : aeval t (.func f) = .func (.func f) #[] #[] := rfl
theorem cst_bool {b : Bool} : cst (.bool b) = .bool b := rfl
theorem cst_int {k : IntKind} {n : Int} : cst (.int k n) = .int k n := rfl
theorem cst_string {s : ByteArray} : cst (.string s) = .string s := rfl
theorem cst_ptr  : cst (.pointer none) = .pointer none := rfl
theorem cst_slice {n c : Nat} : cst (.slice none n c) = .slice none n c := rfl
theorem cst_map  : cst (.map none) = .map none := rfl
theorem cst_iface  : cst .nilIface = .nilIface := rfl
theorem cst_func  : cst .nilFunc = .nilFunc := rfl
theorem pick_mk {b : Bool} {x y : Value} : apick (.bool b) x y = some (if b then x else y) := rfl
theorem nilCheck_mk {a : Addr} : anilCheck (.pointer (some a)) = some (.pointer (some a)) := rfl
theorem not_mk {b : Bool} : aunary .not (.bool b) = some (.bool !b) := rfl
theorem bin_add {t : TypeId} {k : IntKind} {a b : Int} : abin P .add t (.int k a) (.int k b) = some (.int k (k.wrap (a + b))) := by simp [abin, intBin]
theorem bin_sub {t : TypeId} {k : IntKind} {a b : Int} : abin P .sub t (.int k a) (.int k b) = some (.int k (k.wrap (a - b))) := by simp [abin, intBin]
theorem bin_mul {t : TypeId} {k : IntKind} {a b : Int} : abin P .mul t (.int k a) (.int k b) = some (.int k (k.wrap (a * b))) := by simp [abin, intBin]
theorem bin_quo {t : TypeId} {k : IntKind} {a b : Int} : abin P .quo t (.int k a) (.int k b) = if b = 0 then none else some (.int k (k.wrap (a.tdiv b))) := by simp [abin, intBin]
theorem bin_rem {t : TypeId} {k : IntKind} {a b : Int} : abin P .rem t (.int k a) (.int k b) = if b = 0 then none else some (.int k (a.tmod b)) := by simp [abin, intBin]
theorem bin_lss {t : TypeId} {k : IntKind} {a b : Int} : abin P .lss t (.int k a) (.int k b) = some (.bool (decide (a < b))) := by simp [abin, intBin]
theorem bin_leq {t : TypeId} {k : IntKind} {a b : Int} : abin P .leq t (.int k a) (.int k b) = some (.bool (decide (a ≤ b))) := by simp [abin, intBin]
theorem bin_gtr {t : TypeId} {k : IntKind} {a b : Int} : abin P .gtr t (.int k a) (.int k b) = some (.bool (decide (a > b))) := by simp [abin, intBin]
theorem bin_geq {t : TypeId} {k : IntKind} {a b : Int} : abin P .geq t (.int k a) (.int k b) = some (.bool (decide (a ≥ b))) := by simp [abin, intBin]
theorem bin_eql {t : TypeId} {k : IntKind} {a b : Int} : abin P .eql t (.int k a) (.int k b) = some (.bool (a == b)) := by simp [abin, intBin]
theorem bin_neq {t : TypeId} {k : IntKind} {a b : Int} : abin P .neq t (.int k a) (.int k b) = some (.bool (a != b)) := by simp [abin, intBin]
theorem bin_and {t : TypeId} {k : IntKind} {a b : Int} : abin P .and t (.int k a) (.int k b) = some (.int k (k.wrap (BitVec.ofInt k.bits a &&& BitVec.ofInt k.bits b).toNat)) := by simp [abin, intBin]
theorem bin_or {t : TypeId} {k : IntKind} {a b : Int} : abin P .or t (.int k a) (.int k b) = some (.int k (k.wrap (BitVec.ofInt k.bits a ||| BitVec.ofInt k.bits b).toNat)) := by simp [abin, intBin]
theorem str_add {t : TypeId} {a b : ByteArray} : abin P .add t (.string a) (.string b) = if a.size + b.size < 1048576 then some (.string ⟨(a.data.toList ++ b.data.toList).toArray⟩) else none := rfl
theorem str_eql {t : TypeId} {a b : ByteArray} : abin P .eql t (.string a) (.string b) = some (.bool (a.data.toList == b.data.toList)) := rfl
theorem str_neq {t : TypeId} {a b : ByteArray} : abin P .neq t (.string a) (.string b) = some (.bool !(a.data.toList == b.data.toList)) := rfl
theorem str_lss {t : TypeId} {a b : ByteArray} : abin P .lss t (.string a) (.string b) = some (.bool (Op.bytesLess a.data.toList b.data.toList)) := rfl
theorem str_geq {t : TypeId} {a b : ByteArray} : abin P .geq t (.string a) (.string b) = some (.bool !(Op.bytesLess a.data.toList b.data.toList)) := rfl
theorem str_gtr {t : TypeId} {a b : ByteArray} : abin P .gtr t (.string a) (.string b) = some (.bool !(Op.bytesLess a.data.toList b.data.toList || a.data.toList == b.data.toList)) := rfl
theorem pp0_eql {t e : TypeId} (h : P.underlying t = some (.pointer e)) : abin P .eql t (.pointer none) (.pointer none) = some (.bool true) := by simp [abin, aeq, h]
theorem pp1_eql {t e : TypeId} {a : Addr} (h : P.underlying t = some (.pointer e)) : abin P .eql t (.pointer (some a)) (.pointer none) = some (.bool false) := by simp [abin, aeq, h]
theorem agg_eql {t : TypeId} {a b : Array Value} (h1 : wideKey P t = true) (h2 : keyOk P t (.agg a) = true) (h3 : keyOk P t (.agg b) = true) : abin P .eql t (.agg a) (.agg b) = some (.bool (veq (.agg a) (.agg b))) := by simp [abin, aeq, h1, h2, h3]
theorem bool_eql {t : TypeId} {a b : Bool} (h : P.underlying t = some .bool) : abin P .eql t (.bool a) (.bool b) = some (.bool ((a == b))) := by simp [abin, aeq, h]
theorem pp0_neq {t e : TypeId} (h : P.underlying t = some (.pointer e)) : abin P .neq t (.pointer none) (.pointer none) = some (.bool false) := by simp [abin, aeq, h]
theorem pp1_neq {t e : TypeId} {a : Addr} (h : P.underlying t = some (.pointer e)) : abin P .neq t (.pointer (some a)) (.pointer none) = some (.bool true) := by simp [abin, aeq, h]
theorem agg_neq {t : TypeId} {a b : Array Value} (h1 : wideKey P t = true) (h2 : keyOk P t (.agg a) = true) (h3 : keyOk P t (.agg b) = true) : abin P .neq t (.agg a) (.agg b) = some (.bool (!veq (.agg a) (.agg b))) := by simp [abin, aeq, h1, h2, h3]
theorem bool_neq {t : TypeId} {a b : Bool} (h : P.underlying t = some .bool) : abin P .neq t (.bool a) (.bool b) = some (.bool (!(a == b))) := by simp [abin, aeq, h]

theorem upd_at (t : Tm) (i j : Nat) (v : Value) : upd t i v j = if j = i then v else t j := rfl
theorem start_at (l : List Value) (i : Nat) : start l i = l.getD i (.tuple ⟨[]⟩) := rfl

theorem load_agg {A : AHeap} {t : TypeId} {i o n : Nat} {cs l : List Value} {k : Kind} (ha : aggOf P t = some true) (hs : szOf P t = some n) (hf : A.f i = some (.row cs k)) (hg : getCells cs o n = some l) :
    aload P A t (.pointer (some ⟨i, o, none⟩)) = some (.agg ⟨l⟩) := by simp [aload, hf, ha, hs, hg]
theorem load_one {A : AHeap} {t : TypeId} {i o : Nat} {cs : List Value} {k : Kind} {v : Value} (ha : aggOf P t = some false) (hf : A.f i = some (.row cs k)) (hg : cs[o]? = some v) :
    aload P A t (.pointer (some ⟨i, o, none⟩)) = some v := by simp [aload, hf, ha, hg]
theorem store_mk {A : AHeap} {t : TypeId} {i o n : Nat} {cs vs cs' : List Value} {k : Kind} {v : Value} (hs : szOf P t = some n) (hf : A.f i = some (.row cs k)) (hk : k ≠ .ro) (hv : acells v = some vs) (hl : vs.length = n)
    (hp : putCells cs o vs = some cs') : astore P A t (.pointer (some ⟨i, o, none⟩)) v = some (A.set i (.row cs' k)) := by simp [astore, hf, hs, hk, hv, hl, hp]
theorem box_mk {A : AHeap} {v : Value} {cs : List Value} (h : acells v = some cs) : abox A v = some (.pointer (some ⟨A.n, 0, none⟩), A.push (.row cs .fix)) := by simp [abox, h]
theorem alloc_mk {A : AHeap} {t : TypeId} {cs : List Value} (h : zcells P t = some cs) : aalloc P A t = some (.pointer (some ⟨A.n, 0, none⟩), A.push (.row cs .fix)) := by simp [aalloc, h]
theorem fieldAddr_mk {s ft : TypeId} {f i o off n : Nat} (hf : fldOf P s f = some (off, ft)) (hs : szOf P ft = some (n + 1)) : afieldAddr P s (.pointer (some ⟨i, o, none⟩)) f = some (.pointer (some ⟨i, o + off, none⟩)) := by
  simp [afieldAddr, hf, hs]

end Go.AB

/-
  More equations for the walks: bounds of slices.
-/
namespace Go.AB
open Go
set_option linter.unusedSimpArgs false
set_option linter.unusedVariables false

theorem abounds_0 (len cap : Nat) : abounds len cap none none none = some (0, len, cap) := rfl
theorem abounds_hi (len cap : Nat) (k : IntKind) (i : Int) : abounds len cap none (some (.int k i)) none = if 0 ≤ i ∧ i ≤ cap then some (0, i.toNat, cap) else none := by
  unfold abounds abound
  by_cases h : 0 ≤ i ∧ i ≤ (cap : Int)
  · simp [h]
  · simp only [if_neg h]
theorem abounds_lo (len cap : Nat) (k : IntKind) (i : Int) : abounds len cap (some (.int k i)) none none = if 0 ≤ i ∧ i ≤ len then some (i.toNat, len, cap) else none := by
  unfold abounds abound
  by_cases h : 0 ≤ i ∧ i ≤ (len : Int)
  · simp [h]
  · simp only [if_neg h]
theorem abounds_nat (len cap n : Nat) (k : IntKind) (h : n ≤ cap) : abounds len cap none (some (.int k (n : Int))) none = some (0, n, cap) := by
  rw [abounds_hi, if_pos ⟨by omega, by omega⟩]; simp
theorem abounds_lnat (len cap n : Nat) (k : IntKind) (h : n ≤ len) : abounds len cap (some (.int k (n : Int))) none none = some (n, len, cap) := by
  rw [abounds_lo, if_pos ⟨by omega, by omega⟩]; simp
theorem aops_do {P : Program} {n : Nat} {ops : Array Oper} {t : Tm} {A : AHeap} {K : Tm → AHeap → Prop} {o : Oper} {os : List Oper} {v : Value} {A' : AHeap} (hw : awanted ops t o = some true) (hk : opKind o.op = .other)
    (hx : aop P o.op (aeval t) A = some (v, A')) (h : aput n t o.dst v fun t' => aops P n ops os t' A' K) : aops P n ops (o :: os) t A K := by
  unfold aops
  rw [hw]
  show aop1 P o t A _
  unfold aop1
  rw [hk]
  simp only [hx]
  exact h
theorem adrawn_do {P : Program} {n : Nat} {ops : Array Oper} {t : Tm} {A : AHeap} {rd : List Nat} {hist : List AHeap} {K : Tm → AHeap → Prop} {i : Nat} {o : Oper} {os : List Oper} {v : Value} {A' : AHeap} (hr : rd.contains i = false) (hw : awanted ops t o = some true)
    (hk : opKind o.op = .other) (hx : aop P o.op (aeval t) A = some (v, A')) (hle : A.n ≤ A'.n) (hu : Unch A A' ∨ barrier ops rd i = true)
    (h : aput n t o.dst v fun t' => adrawn P n ops rd os (i + 1) t' A' (A :: hist) [] K) : adrawn P n ops rd (o :: os) i t A hist [] K :=
  adrawn_gen hr hw (aop1_other hk hx ⟨rfl, rfl⟩) hle hu (by intro p hp; cases hp) h
theorem keepP_keep {ops : Array Oper} {rd : List Nat} {i p : Nat} {x : Op × Tm × Value} (h : drops ops rd p i = false) : keepP ops rd i [(p, x)] = [(p, x)] := by
  unfold keepP; simp [h]
theorem keepP_drop {ops : Array Oper} {rd : List Nat} {i p : Nat} {x : Op × Tm × Value} (h : drops ops rd p i = true) : keepP ops rd i [(p, x)] = [] := by
  unfold keepP; simp [h]
theorem acells_int {k : IntKind} {n : Int} : acells (.int k n) = some [.int k n] := rfl
theorem acells_bool {b : Bool} : acells (.bool b) = some [.bool b] := rfl
theorem acells_str {s : ByteArray} : acells (.string s) = some [.string s] := rfl
theorem acells_ptr {a : Option Addr} : acells (.pointer a) = some [.pointer a] := rfl
theorem acells_sl {a : Option Addr} {n c : Nat} : acells (.slice a n c) = some [.slice a n c] := rfl
theorem acells_map {m : Option Nat} : acells (.map m) = some [.map m] := rfl
theorem acells_iface {t : TypeId} {v : Value} : acells (.iface t v) = some [.iface t v] := rfl
theorem acells_agg {l : List Value} : acells (.agg ⟨l⟩) = if l.all scalar then some l else none := rfl
attribute [go_sem] aop_move aop_assign aop_pick aop_alloc aop_box aop_build aop_buildSlice aop_load aop_store aop_nilCheck aop_binOp aop_unOp aop_convert aop_makeInterface aop_makeFunc aop_makeMap aop_slice aop_fieldAddr aop_field aop_indexAddr aop_index aop_lookup aop_mapUpdate aop_insert aop_mapEntry aop_entryStore aop_range aop_nextStr aop_entry aop_typeAssert aop_extract aop_builtin ev_tmp ev_const ev_func cst_bool cst_int cst_string cst_ptr cst_slice cst_map cst_iface cst_func pick_mk nilCheck_mk not_mk bin_add bin_sub bin_mul bin_lss bin_leq bin_gtr bin_geq bin_eql bin_neq str_add str_eql str_neq str_lss pp0_eql pp1_eql pp0_neq pp1_neq agg_eql agg_neq bool_eql bool_neq upd_at start_at aload astore aalloc abox afieldAddr afield aindexAddr aindex aslice aextract amakeInterface atypeAssert apart alen abuiltin abuild abuildSlice evParts acells_int acells_bool acells_str acells_ptr acells_sl acells_map acells_iface AHeap.push_n AHeap.set_n AHeap.set_same AHeap.push_new if_true if_false Option.map_some Option.map_none List.getD_cons_zero List.getD_cons_succ List.getElem?_cons_zero List.getElem?_cons_succ List.map_cons List.map_nil Option.map List.toList_toArray Nat.zero_add Nat.add_zero Nat.sub_zero List.append_nil eq_self Nat.add_eq_left Nat.left_eq_add Nat.add_right_cancel_iff Bool.not_true Bool.not_false Nat.zero_le Nat.mul_one List.length_cons List.length_nil List.cons_append List.nil_append List.all_cons List.all_nil Bool.and_true Bool.true_and Bool.and_self if_pos true_and and_true and_self not_false_eq_true ne_eq
end Go.AB
