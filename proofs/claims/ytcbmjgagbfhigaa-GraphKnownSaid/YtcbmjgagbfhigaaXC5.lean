/-
  Steps of an abstract run, one lemma a step.
-/
import Derived.Test.YtcbmjgagbfhigaaXC4
namespace Go.AB
open Go
set_option linter.unusedSimpArgs false
set_option linter.unusedVariables false

section
variable {P : Program} {n : Nat} {ops : Array Oper} {t : Tm} {A : AHeap}

/-! ### regions in the order of the text -/
theorem aops_nil {K : Tm → AHeap → Prop} (h : K t A) : aops P n ops [] t A K := h

theorem aops_step {K : Tm → AHeap → Prop} {o : Oper} {os : List Oper} {d : Nat} {v : Value} {A' : AHeap} (hw : awanted ops t o = some true) (hk : opKind o.op = .other) (hd : o.dst = some d) (hn : d < n)
    (hx : aop P o.op (aeval t) A = some (v, A')) (h : aops P n ops os (upd t d v) A' K) : aops P n ops (o :: os) t A K := by
  unfold aops
  rw [hw]
  show aop1 P o t A _
  unfold aop1
  rw [hk]
  simp only [hx]
  unfold aput
  rw [hd]
  exact ⟨hn, h⟩

theorem aops_step0 {K : Tm → AHeap → Prop} {o : Oper} {os : List Oper} {v : Value} {A' : AHeap} (hw : awanted ops t o = some true) (hk : opKind o.op = .other) (hd : o.dst = none)
    (hx : aop P o.op (aeval t) A = some (v, A')) (h : aops P n ops os t A' K) : aops P n ops (o :: os) t A K := by
  unfold aops
  rw [hw]
  show aop1 P o t A _
  unfold aop1
  rw [hk]
  simp only [hx]
  unfold aput
  rw [hd]
  exact h

theorem aops_skip {K : Tm → AHeap → Prop} {o : Oper} {os : List Oper} {d : Nat} (hw : awanted ops t o = some false) (hd : o.dst = some d) (hn : d < n)
    (h : aops P n ops os (upd t d (.tuple ⟨[]⟩)) A K) : aops P n ops (o :: os) t A K := by
  unfold aops
  rw [hw]
  show aput n t o.dst _ _
  unfold aput
  rw [hd]
  exact ⟨hn, h⟩

theorem aops_skip0 {K : Tm → AHeap → Prop} {o : Oper} {os : List Oper} (hw : awanted ops t o = some false) (hd : o.dst = none)
    (h : aops P n ops os t A K) : aops P n ops (o :: os) t A K := by
  unfold aops
  rw [hw]
  show aput n t o.dst _ _
  unfold aput
  rw [hd]
  exact h

theorem aops_call {K : Tm → AHeap → Prop} {o : Oper} {os : List Oper} {c : Call} {d : Nat} {f : FuncId} {args : List Value} {K' : Value → AHeap → Prop} (hw : awanted ops t o = some true)
    (hk : opKind o.op = .call c) (hd : o.dst = some d) (hn : d < n) (hc : acallee P A t c = some (f, args)) (hs : SimW P f args A K')
    (h : ∀ v A', K' v A' → aops P n ops os (upd t d v) A' K) : aops P n ops (o :: os) t A K := by
  unfold aops
  rw [hw]
  show aop1 P o t A _
  unfold aop1
  rw [hk]
  simp only [hc]
  refine hs.mono fun v A' hv => ?_
  unfold aput
  rw [hd]
  exact ⟨hn, h v A' hv⟩

theorem aops_call0 {K : Tm → AHeap → Prop} {o : Oper} {os : List Oper} {c : Call} {f : FuncId} {args : List Value} {K' : Value → AHeap → Prop} (hw : awanted ops t o = some true)
    (hk : opKind o.op = .call c) (hd : o.dst = none) (hc : acallee P A t c = some (f, args)) (hs : SimW P f args A K')
    (h : ∀ v A', K' v A' → aops P n ops os t A' K) : aops P n ops (o :: os) t A K := by
  unfold aops
  rw [hw]
  show aop1 P o t A _
  unfold aop1
  rw [hk]
  simp only [hc]
  refine hs.mono fun v A' hv => ?_
  unfold aput
  rw [hd]
  exact h v A' hv

theorem aops_next {K : Tm → AHeap → Prop} {o : Oper} {os : List Oper} {it : Operand} {d r m since last clock : Nat} {seen : List Nat} {es : List MapEntry} (hw : awanted ops t o = some true)
    (hk : opKind o.op = .next it) (hd : o.dst = some d) (hn : d < n) (hc : anextMap A (aeval t it) = some (r, m, since, seen, last, es, clock))
    (h : ∀ v A', NextMap A r m since seen es v A' → aops P n ops os (upd t d v) A' K) : aops P n ops (o :: os) t A K := by
  unfold aops
  rw [hw]
  show aop1 P o t A _
  unfold aop1
  rw [hk]
  simp only [hc]
  intro v A' hv
  unfold aput
  rw [hd]
  exact ⟨hn, h v A' hv⟩

/-! ### regions that draw -/
section
variable {rd : List Nat} {hist : List AHeap} {pend : List Pend}

theorem adrawn_nil {K : Tm → AHeap → Prop} {i : Nat} (h : K t A) : adrawn P n ops rd [] i t A hist pend K := h

theorem adrawn_gen' {K : Tm → AHeap → Prop} {i : Nat} {o : Oper} {os : List Oper} {v : Value} {A' : AHeap} (hr : rd.contains i = false) (hw : awanted ops t o = some true)
    (ha : aop1 P o t A (fun v' A'' => v' = v ∧ A'' = A')) (hle : A.n ≤ A'.n) (hu : Unch A A' ∨ barrier ops rd i = true) (hp : ∀ p ∈ keepP ops rd i pend, aop P p.2.1 (aeval p.2.2.1) A' = some (p.2.2.2, A'))
    (h : aput n t o.dst v fun t' => adrawn P n ops rd os (i + 1) t' A' (A :: hist) (keepP ops rd i pend) K) : adrawn P n ops rd (o :: os) i t A hist pend K := by
  unfold adrawn
  rw [hw]
  exact .inr ⟨hr, v, A', ha, hle, hu, hp, h⟩

theorem adrawn_gen {K : Tm → AHeap → Prop} {i : Nat} {o : Oper} {os : List Oper} {v : Value} {A' : AHeap} (hr : rd.contains i = false) (hw : awanted ops t o = some true)
    (ha : aop1 P o t A (fun v' A'' => v' = v ∧ A'' = A')) (hle : A.n ≤ A'.n) (hu : Unch A A' ∨ barrier ops rd i = true) (hp : ∀ p ∈ ([] : List Pend), aop P p.2.1 (aeval p.2.2.1) A' = some (p.2.2.2, A'))
    (h : aput n t o.dst v fun t' => adrawn P n ops rd os (i + 1) t' A' (A :: hist) [] K) : adrawn P n ops rd (o :: os) i t A hist [] K :=
  adrawn_gen' hr hw ha hle hu hp h

theorem aop1_other {o : Oper} {K : Value → AHeap → Prop} {v : Value} {A' : AHeap} (hk : opKind o.op = .other) (hx : aop P o.op (aeval t) A = some (v, A')) (h : K v A') : aop1 P o t A K := by
  unfold aop1
  rw [hk]
  simp only [hx]
  exact h

theorem aop1_call {o : Oper} {K : Value → AHeap → Prop} {c : Call} {f : FuncId} {args : List Value} (hk : opKind o.op = .call c) (hc : acallee P A t c = some (f, args)) (hs : SimW P f args A K) : aop1 P o t A K := by
  unfold aop1
  rw [hk]
  simp only [hc]
  exact hs

theorem aput_some {K : Tm → Prop} {d : Option Tmp} {i : Nat} {v : Value} (hd : d = some i) (hn : i < n) (h : K (upd t i v)) : aput n t d v K := by
  subst hd; exact ⟨hn, h⟩
theorem aput_none {K : Tm → Prop} {d : Option Tmp} {v : Value} (hd : d = none) (h : K t) : aput n t d v K := by
  subst hd; exact h

/-- one that leaves memory alone, no readers being open -/
theorem adrawn_pure {K : Tm → AHeap → Prop} {i : Nat} {o : Oper} {os : List Oper} {d : Nat} {v : Value} (hr : rd.contains i = false) (hw : awanted ops t o = some true) (hk : opKind o.op = .other) (hd : o.dst = some d) (hn : d < n)
    (hx : aop P o.op (aeval t) A = some (v, A)) (hp : ∀ p ∈ ([] : List Pend), aop P p.2.1 (aeval p.2.2.1) A = some (p.2.2.2, A)) (h : adrawn P n ops rd os (i + 1) (upd t d v) A (A :: hist) [] K) : adrawn P n ops rd (o :: os) i t A hist [] K :=
  adrawn_gen hr hw (aop1_other hk hx ⟨rfl, rfl⟩) (Nat.le_refl _) (.inl (Unch.refl _)) hp (aput_some hd hn h)

theorem adrawn_step {K : Tm → AHeap → Prop} {i : Nat} {o : Oper} {os : List Oper} {d : Nat} {v : Value} {A' : AHeap} (hr : rd.contains i = false) (hw : awanted ops t o = some true) (hk : opKind o.op = .other) (hd : o.dst = some d)
    (hn : d < n) (hx : aop P o.op (aeval t) A = some (v, A')) (hle : A.n ≤ A'.n) (hu : Unch A A' ∨ barrier ops rd i = true) (hp : ∀ p ∈ ([] : List Pend), aop P p.2.1 (aeval p.2.2.1) A' = some (p.2.2.2, A'))
    (h : adrawn P n ops rd os (i + 1) (upd t d v) A' (A :: hist) [] K) : adrawn P n ops rd (o :: os) i t A hist [] K :=
  adrawn_gen hr hw (aop1_other hk hx ⟨rfl, rfl⟩) hle hu hp (aput_some hd hn h)

theorem adrawn_step0 {K : Tm → AHeap → Prop} {i : Nat} {o : Oper} {os : List Oper} {v : Value} {A' : AHeap} (hr : rd.contains i = false) (hw : awanted ops t o = some true) (hk : opKind o.op = .other) (hd : o.dst = none)
    (hx : aop P o.op (aeval t) A = some (v, A')) (hle : A.n ≤ A'.n) (hu : Unch A A' ∨ barrier ops rd i = true) (hp : ∀ p ∈ ([] : List Pend), aop P p.2.1 (aeval p.2.2.1) A' = some (p.2.2.2, A'))
    (h : adrawn P n ops rd os (i + 1) t A' (A :: hist) [] K) : adrawn P n ops rd (o :: os) i t A hist [] K :=
  adrawn_gen hr hw (aop1_other hk hx ⟨rfl, rfl⟩) hle hu hp (aput_none hd h)

theorem adrawn_call {K : Tm → AHeap → Prop} {i : Nat} {o : Oper} {os : List Oper} {c : Call} {d : Nat} {f : FuncId} {args : List Value} {v : Value} {A' : AHeap} (hr : rd.contains i = false) (hw : awanted ops t o = some true)
    (hk : opKind o.op = .call c) (hd : o.dst = some d) (hn : d < n) (hc : acallee P A t c = some (f, args)) (hs : SimW P f args A (fun v' A'' => v' = v ∧ A'' = A'))
    (hle : A.n ≤ A'.n) (hu : Unch A A' ∨ barrier ops rd i = true) (hp : ∀ p ∈ ([] : List Pend), aop P p.2.1 (aeval p.2.2.1) A' = some (p.2.2.2, A'))
    (h : adrawn P n ops rd os (i + 1) (upd t d v) A' (A :: hist) [] K) : adrawn P n ops rd (o :: os) i t A hist [] K :=
  adrawn_gen hr hw (aop1_call hk hc hs) hle hu hp (aput_some hd hn h)

theorem adrawn_skip {K : Tm → AHeap → Prop} {i : Nat} {o : Oper} {os : List Oper} {d : Nat} (hw : awanted ops t o = some false) (hd : o.dst = some d) (hn : d < n)
    (h : adrawn P n ops rd os (i + 1) (upd t d (.tuple ⟨[]⟩)) A hist pend K) : adrawn P n ops rd (o :: os) i t A hist pend K := by
  unfold adrawn
  rw [hw]
  show aput n t o.dst _ _
  exact aput_some hd hn h

theorem adrawn_skip0 {K : Tm → AHeap → Prop} {i : Nat} {o : Oper} {os : List Oper} (hw : awanted ops t o = some false) (hd : o.dst = none)
    (h : adrawn P n ops rd os (i + 1) t A hist pend K) : adrawn P n ops rd (o :: os) i t A hist pend K := by
  unfold adrawn
  rw [hw]
  show aput n t o.dst _ _
  exact aput_none hd h

/-- a reader -/
theorem adrawn_read {K : Tm → AHeap → Prop} {i : Nat} {o : Oper} {os : List Oper} {d : Nat} {v : Value} (hr : rd.contains i = true) (hk : reads o.op = true) (hw : awanted ops t o = some true) (hd : o.dst = some d) (hn : d < n)
    (hx : ∀ B ∈ A :: hist, aop P o.op (aeval t) B = some (v, B)) (hb : Bnd A.n v) (h : adrawn P n ops rd os (i + 1) (upd t d v) A hist ((i, o.op, t, v) :: pend) K) :
    adrawn P n ops rd (o :: os) i t A hist pend K := by
  unfold adrawn
  rw [hw]
  exact .inl ⟨hr, hk, v, hx, hb, aput_some hd hn h⟩

end

/-! ### .. with readers open -/
theorem adrawn_stepR {rd : List Nat} {hist : List AHeap} {pend : List Pend} {K : Tm → AHeap → Prop} {i : Nat} {o : Oper} {os : List Oper} {d : Nat} {v : Value} {A' : AHeap} (hr : rd.contains i = false) (hw : awanted ops t o = some true) (hk : opKind o.op = .other) (hd : o.dst = some d)
    (hn : d < n) (hx : aop P o.op (aeval t) A = some (v, A')) (hle : A.n ≤ A'.n) (hu : Unch A A' ∨ barrier ops rd i = true) {pend' : List Pend} (hpe : keepP ops rd i pend = pend') (hp : ∀ p ∈ pend', aop P p.2.1 (aeval p.2.2.1) A' = some (p.2.2.2, A'))
    (h : adrawn P n ops rd os (i + 1) (upd t d v) A' (A :: hist) pend' K) : adrawn P n ops rd (o :: os) i t A hist pend K := by
  subst hpe
  exact adrawn_gen' hr hw (aop1_other hk hx ⟨rfl, rfl⟩) hle hu hp (aput_some hd hn h)

theorem adrawn_stepR0 {rd : List Nat} {hist : List AHeap} {pend : List Pend} {K : Tm → AHeap → Prop} {i : Nat} {o : Oper} {os : List Oper} {v : Value} {A' : AHeap} (hr : rd.contains i = false) (hw : awanted ops t o = some true) (hk : opKind o.op = .other) (hd : o.dst = none)
    (hx : aop P o.op (aeval t) A = some (v, A')) (hle : A.n ≤ A'.n) (hu : Unch A A' ∨ barrier ops rd i = true) {pend' : List Pend} (hpe : keepP ops rd i pend = pend') (hp : ∀ p ∈ pend', aop P p.2.1 (aeval p.2.2.1) A' = some (p.2.2.2, A'))
    (h : adrawn P n ops rd os (i + 1) t A' (A :: hist) pend' K) : adrawn P n ops rd (o :: os) i t A hist pend K := by
  subst hpe
  exact adrawn_gen' hr hw (aop1_other hk hx ⟨rfl, rfl⟩) hle hu hp (aput_none hd h)

/-! ### code -/
theorem awp_seq {a b : Code} {K : Kont} (h : ∀ N : Tm → AHeap → Prop, (∀ t A, awp P n b t A K → N t A) → awp P n a t A (Kont.then N K)) : awp P n (.seq a b) t A K :=
  h _ fun _ _ h => h
theorem awp_region {id : Nat} {K : Kont} (h : aops P n ops ops.toList t A (K .normal)) : awp P n (.region id ops false) t A K := h
theorem awp_drawn {id : Nat} {K : Kont} (rd : List Nat) (hok : okDraw ops = true) (h : adrawn P n ops rd ops.toList 0 t A [] [] (K .normal)) : awp P n (.region id ops true) t A K := ⟨hok, rd, h⟩
theorem awp_true {c : Operand} {a b : Code} {K : Kont} (hc : aeval t c = .bool true) (h : awp P n a t A K) : awp P n (.cond c a b) t A K := by
  show acond (aeval t c) _ _; rw [hc]; exact h
theorem awp_false {c : Operand} {a b : Code} {K : Kont} (hc : aeval t c = .bool false) (h : awp P n b t A K) : awp P n (.cond c a b) t A K := by
  show acond (aeval t c) _ _; rw [hc]; exact h
theorem awp_split {c : Operand} {a b : Code} {K : Kont} {x : Bool} (hc : aeval t c = .bool x) (h1 : x = true → awp P n a t A K) (h2 : x = false → awp P n b t A K) : awp P n (.cond c a b) t A K := by
  cases x
  · exact awp_false hc (h2 rfl)
  · exact awp_true hc (h1 rfl)
theorem awp_block {id : Nat} {c : Code} {K : Kont} (h : awp P n c t A (Kont.block id K)) : awp P n (.block id c) t A K := h
theorem awp_scope {c : Code} {K : Kont} (h : awp P n c t A K) : awp P n (.scope c) t A K := h
theorem awp_skip {K : Kont} (h : K .normal t A) : awp P n .skip t A K := h
theorem awp_label {l : Nat} {K : Kont} (h : K .normal t A) : awp P n (.label l) t A K := h
theorem awp_exit {id : Nat} {K : Kont} (h : K (.exit id) t A) : awp P n (.exit id) t A K := h
theorem awp_ret {K : Kont} (h : K .ret t A) : awp P n .ret t A K := h

theorem then_normal {N : Tm → AHeap → Prop} {K : Kont} (h : N t A) : Kont.then N K .normal t A := h
theorem then_ret {N : Tm → AHeap → Prop} {K : Kont} (h : K .ret t A) : Kont.then N K .ret t A := h
theorem then_exit {N : Tm → AHeap → Prop} {K : Kont} {id : Nat} (h : K (.exit id) t A) : Kont.then N K (.exit id) t A := h
theorem block_normal {id : Nat} {K : Kont} (h : K .normal t A) : Kont.block id K .normal t A := h
theorem block_ret {id : Nat} {K : Kont} (h : K .ret t A) : Kont.block id K .ret t A := h
theorem block_here {id : Nat} {K : Kont} (h : K .normal t A) : Kont.block id K (.exit id) t A := by
  show if id = id then _ else _; rw [if_pos rfl]; exact h
theorem block_there {id id' : Nat} {K : Kont} (hn : (id' == id) = false) (h : K (.exit id') t A) : Kont.block id K (.exit id') t A := by
  show if id' = id then _ else _; rw [if_neg (by simpa using hn)]; exact h

theorem end_normal {rs : List ResultVar} {K : Value → AHeap → Prop} {v : Value} (hv : ares P rs t A = some v) (h : K v A) : AEnd P rs K .normal t A := by
  show match ares P rs t A with | some v => K v A | none => False
  rw [hv]; exact h
theorem end_ret {rs : List ResultVar} {K : Value → AHeap → Prop} {v : Value} (hv : ares P rs t A = some v) (h : K v A) : AEnd P rs K .ret t A := by
  show match ares P rs t A with | some v => K v A | none => False
  rw [hv]; exact h

/-! ### loops -/
theorem aop1_mono {o : Oper} {K K' : Value → AHeap → Prop} (hk : ∀ v A, K v A → K' v A) (h : aop1 P o t A K) : aop1 P o t A K' := by
  unfold aop1 at h ⊢
  split at h
  · split at h
    · exact h.mono hk
    · exact h
  · split at h
    · intro v A' hv; exact hk _ _ (h v A' hv)
    · exact h
  · split at h
    · exact hk _ _ h
    · exact h

theorem aput_mono {d : Option Tmp} {v : Value} {K K' : Tm → Prop} (hk : ∀ t, K t → K' t) (h : aput n t d v K) : aput n t d v K' := by
  unfold aput at h ⊢
  split at h
  · exact hk _ h
  · exact ⟨h.1, hk _ h.2⟩

theorem aops_mono {K K' : Tm → AHeap → Prop} (hk : ∀ t A, K t A → K' t A) : ∀ {os : List Oper} {t : Tm} {A : AHeap}, aops P n ops os t A K → aops P n ops os t A K'
  | [], t, A, h => hk _ _ h
  | o :: os, t, A, h => by
    unfold aops at h ⊢
    split at h
    · exact h
    · exact aput_mono (fun t' h => aops_mono hk h) h
    · exact aop1_mono (fun v A' h => aput_mono (fun t' h => aops_mono hk h) h) h

theorem adrawn_mono {rd : List Nat} {K K' : Tm → AHeap → Prop} (hk : ∀ t A, K t A → K' t A) : ∀ {os : List Oper} {i : Nat} {t : Tm} {A : AHeap} {hist : List AHeap} {pend : List Pend},
    adrawn P n ops rd os i t A hist pend K → adrawn P n ops rd os i t A hist pend K'
  | [], i, t, A, _, _, h => hk _ _ h
  | o :: os, i, t, A, _, _, h => by
    unfold adrawn at h ⊢
    split at h
    · exact h
    · exact aput_mono (fun t' h => adrawn_mono hk h) h
    · rcases h with ⟨h1, h2, v, h3, h4, h5⟩ | ⟨h0, v, A', h1, h2, h3, h4, h5⟩
      · exact .inl ⟨h1, h2, v, h3, h4, aput_mono (fun t' h => adrawn_mono hk h) h5⟩
      · exact .inr ⟨h0, v, A', h1, h2, h3, h4, aput_mono (fun t' h => adrawn_mono hk h) h5⟩

theorem aiter_mono {body : Tm → AHeap → Kont → Prop} (hb : ∀ t A (K K' : Kont), (∀ e t A, K e t A → K' e t A) → body t A K → body t A K') {K K' : Kont} (hk : ∀ e t A, K e t A → K' e t A) :
    ∀ {k : Nat} {t : Tm} {A : AHeap}, aiter body k t A K → aiter body k t A K'
  | 0, t, A, h => h
  | k + 1, t, A, h => by
    refine hb _ _ _ _ (fun e t' A' h => ?_) h
    cases e with
    | normal => exact aiter_mono hb hk h
    | _ => exact hk _ _ _ h

theorem aiter_more {body : Tm → AHeap → Kont → Prop} (hb : ∀ t A (K K' : Kont), (∀ e t A, K e t A → K' e t A) → body t A K → body t A K') {K : Kont} :
    ∀ {k k' : Nat} {t : Tm} {A : AHeap}, k ≤ k' → aiter body k t A K → aiter body k' t A K
  | 0, k', t, A, _, h => h.elim
  | k + 1, 0, t, A, hk, h => absurd hk (by omega)
  | k + 1, k' + 1, t, A, hk, h => by
    refine hb _ _ _ _ (fun e t' A' h => ?_) h
    cases e with
    | normal => exact aiter_more hb (by omega) h
    | _ => exact h

theorem awp_mono (P : Program) (n : Nat) : ∀ (c : Code) {t : Tm} {A : AHeap} {K K' : Kont}, (∀ e t A, K e t A → K' e t A) → awp P n c t A K → awp P n c t A K'
  | .skip, t, A, K, K', hk, h => hk _ _ _ h
  | .label _, t, A, K, K', hk, h => hk _ _ _ h
  | .exit _, t, A, K, K', hk, h => hk _ _ _ h
  | .ret, t, A, K, K', hk, h => hk _ _ _ h
  | .region _ ops false, t, A, K, K', hk, h => aops_mono (K := K .normal) (K' := K' .normal) (hk .normal) h
  | .region _ ops true, t, A, K, K', hk, h => by
    obtain ⟨h1, rd, h2⟩ := h
    exact ⟨h1, rd, adrawn_mono (K := K .normal) (K' := K' .normal) (hk .normal) h2⟩
  | .seq a b, t, A, K, K', hk, h => awp_mono P n a (fun e t A h => by
      cases e with
      | normal => exact awp_mono P n b hk h
      | _ => exact hk _ _ _ h) h
  | .cond c a b, t, A, K, K', hk, h => by
    have h : acond (aeval t c) (awp P n a t A K) (awp P n b t A K) := h
    show acond (aeval t c) (awp P n a t A K') (awp P n b t A K')
    unfold acond at h ⊢
    split at h
    · exact awp_mono P n a hk h
    · exact awp_mono P n b hk h
    · exact h
  | .block id c, t, A, K, K', hk, h => awp_mono P n c (fun e t A h => by
      cases e with
      | exit id' =>
        simp only [Kont.block] at h ⊢
        split
        · rename_i hid; rw [if_pos hid] at h; exact hk _ _ _ h
        · rename_i hid; rw [if_neg hid] at h; exact hk _ _ _ h
      | _ => exact hk _ _ _ h) h
  | .scope c, t, A, K, K', hk, h => awp_mono P n c hk h
  | .loop c, t, A, K, K', hk, h => by
    obtain ⟨k, h⟩ : ∃ k, aiter (fun t A K => awp P n c t A K) k t A K := h
    exact ⟨k, aiter_mono (body := fun t A K => awp P n c t A K) (fun t A K K' hk h => awp_mono P n c hk h) hk h⟩
  | .goto _, t, A, K, K', hk, h => h.elim
  | .rangeFunc _ _ _ _, t, A, K, K', hk, h => h.elim
  | .refuse _, t, A, K, K', hk, h => h.elim

/-- a loop by what holds at its head, and a number that goes down -/
theorem awp_loop {c : Code} {K : Kont} (I : Nat → Tm → AHeap → Prop) (m : Nat) (h0 : I m t A)
    (round : ∀ m t A, I m t A → ∀ N : Tm → AHeap → Prop, (∀ t' A' m', m' < m → I m' t' A' → N t' A') → awp P n c t A (Kont.then N K)) : awp P n (.loop c) t A K := by
  have hb : ∀ t A (K K' : Kont), (∀ e t A, K e t A → K' e t A) → awp P n c t A K → awp P n c t A K' := fun t A K K' hk h => awp_mono P n c hk h
  have key : ∀ m t A, I m t A → aiter (fun t A K => awp P n c t A K) (m + 1) t A K := by
    intro m
    induction m using Nat.strongRecOn with
    | _ m ih =>
      intro t A hI
      refine hb _ _ _ _ (fun e t' A' h => ?_) (round m t A hI (fun t' A' => aiter (fun t A K => awp P n c t A K) m t' A' K) ?_)
      · cases e <;> exact h
      · intro t' A' m' hm hI'
        exact aiter_more hb (by omega) (ih m' hm t' A' hI')
  exact ⟨m + 1, key m t A h0⟩

end
end Go.AB
