/-
  A region that draws its order: the invariant.
-/
import Derived.Test.YtcbmjgagbfhigaaXB9
namespace Go.AB
open Go
set_option linter.unusedSimpArgs false
set_option linter.unusedVariables false

section
variable {P : Program} {n : Nat} {ops : Array Oper} {rd : List Nat} {T : Nat → Tm} {H : Nat → AHeap} {V : Nat → Value} {ρ0 : Rho} {w0 : World}

def Mut (ops : Array Oper) (H : Nat → AHeap) (j : Nat) : Prop := j < ops.size ∧ ¬ Unch (H j) (H (j + 1))
def Win (ops : Array Oper) (H : Nat → AHeap) (D : Nat → Bool) (k : Nat) : Prop :=
  k ≤ ops.size ∧ (∀ j, Mut ops H j → D j = true → j < k) ∧ (∀ j, Mut ops H j → D j = false → k ≤ j)

structure J (n : Nat) (ops : Array Oper) (T : Nat → Tm) (H : Nat → AHeap) (V : Nat → Value) (ρ0 : Rho) (w0 : World) (D : Nat → Bool) (a : Act) (w : World) (ρ : Rho) : Prop where
  defers : a.defers = []
  tsize : a.tmps.size = n
  slot : ∀ s, (∃ j o, D j = true ∧ ops[j]? = some o ∧ o.dst = some s ∧ (∀ k o', D k = true → ops[k]? = some o' → o'.dst = some s → k ≤ j) ∧ VR (cut ρ (H (j + 1)).n) (V j) (a.tmps.getD s undef)) ∨
    ((∀ k o', D k = true → ops[k]? = some o' → o'.dst ≠ some s) ∧ VR ρ0 (T 0 s) (a.tmps.getD s undef))
  down : ∀ i j, Before ops i j → D j = true → D i = true
  rng : ∀ j, D j = true → j < ops.size
  ids : ∀ j, j < ops.size → D j = false → ∀ x, (H j).n ≤ x → x < (H (j + 1)).n → ρ x = none
  win : ∀ k, Win ops H D k → Rel (cut ρ (H k).n) (H k) w
  keep : ∀ k, Win ops H D k → ∀ i e, ρ0 i = some e → writable (H k) i → writable (H 0) i
  sub : Sub ρ0 ρ
  os : w.os = w0.os
  tape : w.tape = w0.tape ∧ ∀ a, w.frozen? a = w0.frozen? a
  output : w.output = w0.output
  size : w0.heap.size ≤ w.heap.size
  frame : ∀ B, B < w0.heap.size → (∀ i e, ρ0 i = some e → writable (H 0) i → e.blk ≠ B) → w.heap[B]? = w0.heap[B]?
  fresh : ∀ i e, ρ i = some e → ρ0 i = none → w0.heap.size ≤ e.blk ∨ ∃ j e', ρ0 j = some e' ∧ writable (H 0) j ∧ e'.blk = e.blk
  news : ∀ i e, ρ i = some e → ρ0 i = none → (H 0).n ≤ i
  upper : ∀ i e, ρ i = some e → i < (H ops.size).n

theorem mono_n (hn : ∀ j, j < ops.size → (H j).n ≤ (H (j + 1)).n) : ∀ (d j : Nat), j + d ≤ ops.size → (H j).n ≤ (H (j + d)).n
  | 0, j, _ => Nat.le_refl _
  | d + 1, j, h => Nat.le_trans (mono_n hn d j (by omega)) (hn (j + d) (by omega))

theorem mono_n' (hn : ∀ j, j < ops.size → (H j).n ≤ (H (j + 1)).n) {j k : Nat} (h : j ≤ k) (hk : k ≤ ops.size) : (H j).n ≤ (H k).n := by
  have := mono_n hn (k - j) j (by omega)
  rwa [show j + (k - j) = k by omega] at this

theorem unch_to (hn : ∀ j, j < ops.size → (H j).n ≤ (H (j + 1)).n) : ∀ (d j : Nat), j + d ≤ ops.size → (∀ k, j ≤ k → k < j + d → ¬ Mut ops H k) → Unch (H j) (H (j + d))
  | 0, j, _, _ => Unch.refl _
  | d + 1, j, h, hm => by
    have h1 := unch_to hn d j (by omega) (fun k a b => hm k a (by omega))
    have h2 : Unch (H (j + d)) (H (j + d + 1)) := by
      have := hm (j + d) (by omega) (by omega)
      exact Classical.byContradiction fun hc => this ⟨by omega, hc⟩
    exact h1.trans (mono_n hn d j (by omega)) h2

theorem unch_to' (hn : ∀ j, j < ops.size → (H j).n ≤ (H (j + 1)).n) {j k : Nat} (h : j ≤ k) (hk : k ≤ ops.size) (hm : ∀ i, j ≤ i → i < k → ¬ Mut ops H i) : Unch (H j) (H k) := by
  have := unch_to hn (k - j) j (by omega) (fun i a b => hm i a (by omega))
  rwa [show j + (k - j) = k by omega] at this

theorem slotT (hg : ∀ j o, ops[j]? = some o → Good P n ops rd T H V j o) (s : Nat) : ∀ (i : Nat), i ≤ ops.size →
    (∃ j o, j < i ∧ ops[j]? = some o ∧ o.dst = some s ∧ (∀ k o', k < i → ops[k]? = some o' → o'.dst = some s → k ≤ j) ∧ T i s = V j) ∨
    ((∀ k o', k < i → ops[k]? = some o' → o'.dst ≠ some s) ∧ T i s = T 0 s)
  | 0, _ => .inr ⟨fun k o' h => by omega, rfl⟩
  | i + 1, hi => by
    have ho : ops[i]? = some ops[i] := Array.getElem?_eq_getElem (by omega)
    have hp := (hg i _ ho).put
    by_cases hd : ops[i].dst = some s
    · rw [hd] at hp
      refine .inl ⟨i, _, by omega, ho, hd, fun k o' hk _ _ => by omega, ?_⟩
      rw [hp.2, upd_same]
    · have hT : T (i + 1) s = T i s := by
        split at hp
        · rw [hp]
        · rename_i d hd'
          rw [hp.2, upd_other]
          intro e; subst e; exact hd hd'
      rcases slotT hg s i (by omega) with ⟨j, o, h1, h2, h3, h4, h5⟩ | ⟨h1, h2⟩
      · refine .inl ⟨j, o, by omega, h2, h3, fun k o' hk hko hkd => ?_, hT.trans h5⟩
        by_cases hki : k = i
        · subst hki; rw [ho] at hko; cases hko; exact absurd hkd hd
        · exact h4 k o' (by omega) hko hkd
      · refine .inr ⟨fun k o' hk hko hkd => ?_, hT.trans h2⟩
        by_cases hki : k = i
        · subst hki; rw [ho] at hko; cases hko; exact hd hkd
        · exact h1 k o' (by omega) hko hkd

theorem okDraw_edges (h : okDraw ops = true) {j : Nat} {o : Oper} {e : Edge} (ho : ops[j]? = some o) (he : e ∈ o.after.toList) (hb : Region.binds .any e = true) : e.on < j := by
  unfold okDraw at h
  have hj : j < ops.size := (Array.getElem?_eq_some_iff.1 ho).1
  have := List.all_eq_true.1 h j (List.mem_range.2 hj)
  simp only [Bool.and_eq_true, ho] at this
  have := List.all_eq_true.1 this.1 e he
  simpa [hb] using this

theorem okDraw_pair (h : okDraw ops = true) {i j : Nat} (hij : i < j) {x y : Oper} (hx : ops[i]? = some x) (hy : ops[j]? = some y) : Before ops i j ∨ x.apart ops y = true := by
  unfold okDraw at h
  have hj : j < ops.size := (Array.getElem?_eq_some_iff.1 hy).1
  have := List.all_eq_true.1 h j (List.mem_range.2 hj)
  simp only [Bool.and_eq_true] at this
  have := List.all_eq_true.1 this.2 i (List.mem_range.2 hij)
  unfold okPair at this
  rw [hx, hy, Bool.or_eq_true] at this
  rcases this with h | h
  · exact .inl (isBefore_sound h)
  · exact .inr h

theorem barrier_order {i : Nat} (h : barrier ops rd i = true) {j : Nat} {o : Oper} (ho : ops[j]? = some o) (ht : touches o.op = true) (hrd : rd.contains j = false) (hne : j ≠ i) :
    (j < i → Before ops j i) ∧ (i < j → Before ops i j) := by
  unfold barrier at h
  have hj : j < ops.size := (Array.getElem?_eq_some_iff.1 ho).1
  have := List.all_eq_true.1 h j (List.mem_range.2 hj)
  simp only [ho, ht, hrd, Bool.not_true, Bool.or_false, Bool.or_eq_true, decide_eq_true_eq] at this
  rcases this with h | h
  · exact absurd h hne
  · split at h
    · rename_i hlt; exact ⟨fun _ => isBefore_sound h, fun h2 => by omega⟩
    · rename_i hlt; exact ⟨fun h2 => by omega, fun _ => isBefore_sound h⟩

theorem before_lt (hok : okDraw ops = true) {i j : Nat} (h : Before ops i j) : i < j := by
  induction h with
  | edge i j o e h1 h2 h3 h4 => subst h4; exact okDraw_edges hok h1 h2 h3
  | trans i k j _ _ a b => omega

/-- what stands before an operation that is ready has been done -/
theorem pre_done {D : Nat → Bool} {a : Act} {w : World} {ρ : Rho} (hJ : J n ops T H V ρ0 w0 D a w ρ) {i : Nat} {o : Oper} (ho : ops[i]? = some o)
    (hready : ∀ e ∈ o.after.toList, Region.binds .any e = true → D e.on = true) {j : Nat} (h : Before ops j i) : D j = true := by
  have key : ∀ i' j', Before ops j' i' → i' = i → D j' = true := by
    intro i' j' hb
    induction hb with
    | edge i1 j1 o1 e h1 h2 h3 h4 =>
      intro hji
      subst hji; subst h4
      rw [ho] at h1; cases h1
      exact hready e h2 h3
    | trans i1 k j1 hb1 hb2 ih1 ih2 =>
      intro hji
      exact hJ.down _ _ hb1 (ih2 hji)
  exact key i j h rfl

/-- the operands of an operation that is ready -/
theorem slot_ready (hok : okDraw ops = true) (hg : ∀ j o, ops[j]? = some o → Good P n ops rd T H V j o) (hn : ∀ j, j < ops.size → (H j).n ≤ (H (j + 1)).n)
    (h0 : ∀ x e, ρ0 x = some e → x < (H 0).n) {D : Nat → Bool} {a : Act} {w : World} {ρ : Rho} (hJ : J n ops T H V ρ0 w0 D a w ρ) {i : Nat} {o : Oper} (ho : ops[i]? = some o) (hD : D i = false)
    (hready : ∀ e ∈ o.after.toList, Region.binds .any e = true → D e.on = true) {s : Nat} (hs : s ∈ o.looksAt ops) : VR (cut ρ (H i).n) (T i s) (a.tmps.getD s undef) := by
  have hi : i < ops.size := (Array.getElem?_eq_some_iff.1 ho).1
  have w1 : ∀ k o', k < i → ops[k]? = some o' → o'.dst = some s → D k = true := by
    intro k o' hk hko hkd
    rcases okDraw_pair hok hk hko ho with hb | hap
    · exact pre_done hJ ho hready hb
    · exact absurd hs ((Oper.apart_spec hap).1 s hkd)
  have w2 : ∀ k o', D k = true → ops[k]? = some o' → o'.dst = some s → k < i := by
    intro k o' hk hko hkd
    rcases Nat.lt_trichotomy k i with h | h | h
    · exact h
    · subst h; rw [hD] at hk; cases hk
    · rcases okDraw_pair hok h ho hko with hb | hap
      · have := hJ.down _ _ hb hk; rw [hD] at this; cases this
      · exact absurd hs ((Oper.apart_spec hap).2.2 s hkd)
  rcases hJ.slot s with ⟨j, oj, a1, a2, a3, a4, a5⟩ | ⟨a1, a2⟩
  · rcases slotT hg s i (by omega) with ⟨j', oj', b1, b2, b3, b4, b5⟩ | ⟨b1, b2⟩
    · have e1 := b4 j oj (w2 j oj a1 a2 a3) a2 a3
      have e2 := a4 j' oj' (w1 j' oj' b1 b2 b3) b2 b3
      have : j = j' := by omega
      subst this
      rw [b5]
      refine a5.mono fun x e hx => ?_
      obtain ⟨h1, h2⟩ := cut_some hx
      exact cut_mk h2 (Nat.lt_of_lt_of_le h1 (mono_n' hn (by omega) (by omega)))
    · exact absurd a3 (b1 j oj (w2 j oj a1 a2 a3) a2)
  · rcases slotT hg s i (by omega) with ⟨j', oj', b1, b2, b3, b4, b5⟩ | ⟨b1, b2⟩
    · exact absurd b3 (a1 j' oj' (w1 j' oj' b1 b2 b3) b2)
    · rw [b2]
      refine a2.mono fun x e hx => ?_
      exact cut_mk (hJ.sub x e hx) (Nat.lt_of_lt_of_le (h0 x e hx) (mono_n' hn (Nat.zero_le _) (by omega)))

/-- one more has been done -/
def done (D : Nat → Bool) (i : Nat) : Nat → Bool := fun j => D j || decide (j = i)

theorem done_true {D : Nat → Bool} {i j : Nat} (h : done D i j = true) : D j = true ∨ j = i := by
  unfold done at h; simpa using h
theorem done_false {D : Nat → Bool} {i j : Nat} (h : done D i j = false) : D j = false ∧ j ≠ i := by
  unfold done at h; simpa using h

theorem slot_put (hok : okDraw ops = true) {D : Nat → Bool} {a : Act} {w : World} {ρ ρ' : Rho} (hJ : J n ops T H V ρ0 w0 D a w ρ) (hsub : Sub ρ ρ')
    {i : Nat} {o : Oper} (ho : ops[i]? = some o) (hD : D i = false) (hg : Good P n ops rd T H V i o) {r : Value} (hr : VR (cut ρ' (H (i + 1)).n) (V i) r) (s : Nat) :
    (∃ j o', done D i j = true ∧ ops[j]? = some o' ∧ o'.dst = some s ∧ (∀ k o'', done D i k = true → ops[k]? = some o'' → o''.dst = some s → k ≤ j) ∧
      VR (cut ρ' (H (j + 1)).n) (V j) ((a.put o.dst r).tmps.getD s undef)) ∨
    ((∀ k o', done D i k = true → ops[k]? = some o' → o'.dst ≠ some s) ∧ VR ρ0 (T 0 s) ((a.put o.dst r).tmps.getD s undef)) := by
  have hcut : ∀ k, Sub (cut ρ k) (cut ρ' k) := fun k x e hx => by
    obtain ⟨h1, h2⟩ := cut_some hx
    exact cut_mk (hsub _ _ h2) h1
  by_cases hd : o.dst = some s
  · have hdn : s < n := by
      have := hg.put
      rw [hd] at this; exact this.1
    refine .inl ⟨i, o, by simp [done], ho, hd, ?_, ?_⟩
    · intro k o'' hk hko hkd
      rcases done_true hk with hk | hk
      · rcases Nat.lt_trichotomy k i with h | h | h
        · omega
        · omega
        · rcases okDraw_pair hok h ho hko with hb | hap
          · have := hJ.down _ _ hb hk; rw [hD] at this; cases this
          · exact absurd hkd ((Oper.apart_spec hap).2.1 s hd)
      · omega
    · rw [hd]
      simp only [Act.put]
      rw [Array.getD_eq_getD_getElem?, Array.getElem?_setIfInBounds_self_of_lt (by rw [hJ.tsize]; exact hdn)]
      exact hr
  · have hget : (a.put o.dst r).tmps.getD s undef = a.tmps.getD s undef := by
      cases hdd : o.dst with
      | none => rfl
      | some d =>
        simp only [Act.put]
        rw [Array.getD_eq_getD_getElem?, Array.getD_eq_getD_getElem?, Array.getElem?_setIfInBounds_ne]
        intro e; subst e; exact hd hdd
    rw [hget]
    have hne : ∀ k o'', done D i k = true → ops[k]? = some o'' → o''.dst = some s → D k = true := by
      intro k o'' hk hko hkd
      rcases done_true hk with hk | hk
      · exact hk
      · subst hk; rw [ho] at hko; cases hko; exact absurd hkd hd
    rcases hJ.slot s with ⟨j, oj, a1, a2, a3, a4, a5⟩ | ⟨a1, a2⟩
    · exact .inl ⟨j, oj, by simp [done, a1], a2, a3, fun k o'' hk hko hkd => a4 k o'' (hne k o'' hk hko hkd) hko hkd, a5.mono (hcut _)⟩
    · refine .inr ⟨fun k o'' hk hko hkd => a1 k o'' (hne k o'' hk hko hkd) hko hkd, a2⟩

theorem put_size (a : Act) (d : Option Tmp) (r : Value) : (a.put d r).tmps.size = a.tmps.size := by cases d <;> simp [Act.put]
theorem put_defers (a : Act) (d : Option Tmp) (r : Value) : (a.put d r).defers = a.defers := by cases d <;> rfl

theorem down_done {D : Nat → Bool} {a : Act} {w : World} {ρ : Rho} (hJ : J n ops T H V ρ0 w0 D a w ρ) {i : Nat} {o : Oper} (ho : ops[i]? = some o)
    (hready : ∀ e ∈ o.after.toList, Region.binds .any e = true → D e.on = true) (x y : Nat) (h : Before ops x y) (hy : done D i y = true) : done D i x = true := by
  have : D x = true := by
    rcases done_true hy with hy | hy
    · exact hJ.down _ _ h hy
    · subst hy; exact pre_done hJ ho hready h
  simp [done, this]

/-- an operation that leaves memory alone -/
theorem J_leaf (hok : okDraw ops = true) {D : Nat → Bool} {a : Act} {w : World} {ρ : Rho} (hJ : J n ops T H V ρ0 w0 D a w ρ)
    {i : Nat} {o : Oper} (ho : ops[i]? = some o) (hD : D i = false) (hready : ∀ e ∈ o.after.toList, Region.binds .any e = true → D e.on = true) (hg : Good P n ops rd T H V i o)
    (hH : H (i + 1) = H i) {r : Value} (hr : VR (cut ρ (H i).n) (V i) r) : J n ops T H V ρ0 w0 (done D i) (a.put o.dst r) w ρ := by
  have hi : i < ops.size := (Array.getElem?_eq_some_iff.1 ho).1
  have hnm : ¬ Mut ops H i := fun hm => hm.2 (by rw [hH]; exact Unch.refl _)
  have hw : ∀ k, Win ops H (done D i) k → Win ops H D k := by
    rintro k ⟨h1, h2, h3⟩
    refine ⟨h1, fun j hm hj => h2 j hm (by simp [done, hj]), fun j hm hj => ?_⟩
    have hji : j ≠ i := fun e => hnm (e ▸ hm)
    exact h3 j hm (by simp [done, hj, hji])
  exact {
    defers := (put_defers _ _ _).trans hJ.defers
    tsize := (put_size _ _ _).trans hJ.tsize
    slot := slot_put hok hJ (Sub.refl _) ho hD hg (by rw [hH]; exact hr)
    down := down_done hJ ho hready
    rng := fun j hj => by rcases done_true hj with h | h; exact hJ.rng j h; exact h ▸ hi
    ids := fun j hj hd x h1 h2 => hJ.ids j hj (done_false hd).1 x h1 h2
    win := fun k hk => hJ.win k (hw k hk)
    keep := fun k hk => hJ.keep k (hw k hk)
    sub := hJ.sub, os := hJ.os, tape := hJ.tape, output := hJ.output, size := hJ.size, frame := hJ.frame, fresh := hJ.fresh, news := hJ.news, upper := hJ.upper }

end
end Go.AB
