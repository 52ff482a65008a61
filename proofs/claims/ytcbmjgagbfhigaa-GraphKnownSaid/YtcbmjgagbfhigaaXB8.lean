/-
  Operations that look at no memory; the order among a region's operations.
-/
import Derived.Test.YtcbmjgagbfhigaaXB7
import Derived.Orders
namespace Go.AB
open Go
set_option linter.unusedSimpArgs false
set_option linter.unusedVariables false

/-- may it look at memory, or change it? -/
def touches : Op → Bool
  | .move _ | .assign _ | .pick .. | .build .. | .nilCheck _ | .binOp .. | .unOp .. | .convert .. | .makeInterface .. | .makeFunc .. | .fieldAddr .. | .field .. | .indexAddr .. | .index ..
  | .typeAssert .. | .extract .. => false
  | _ => true

theorem pure_aop {P : Program} {o : Op} {ev : Operand → Value} {A A' : AHeap} {v : Value} (ht : touches o = false) (h : aop P o ev A = some (v, A')) :
    A' = A ∧ ∀ B, aop P o ev B = some (v, B) := by
  have one : ∀ {x : Option Value}, x.map (·, A) = some (v, A') → A' = A ∧ ∀ B : AHeap, x.map (·, B) = some (v, B) := by
    intro x hx; cases x <;> cases hx; exact ⟨rfl, fun _ => rfl⟩
  cases o <;> simp [touches] at ht <;> simp only [aop] at h ⊢ <;> first
    | exact one h
    | (cases h; exact ⟨rfl, fun _ => rfl⟩)

theorem pure_sound {P : Program} (F : Fine P) {ρ : Rho} {A A' : AHeap} {o : Oper} {ev rev : Operand → Value} {v : Value} (ht : touches o.op = false) (he : ∀ x, VR ρ (ev x) (rev x))
    (h : aop P o.op ev A = some (v, A')) (w : World) : ∃ r, (execOp rev o).run P w = .ok (.value r) w ∧ VR ρ v r := by
  have val : ∀ {s : Sem Value}, (∃ r, s.run P w = .ok r w ∧ VR ρ v r) → ∃ r, ((do pure (.value (← s)) : Sem Next).run P w) = .ok (.value r) w ∧ VR ρ v r := by
    rintro s ⟨r, h1, h2⟩
    exact ⟨r, by simp only [Sem.run_bind, h1, Result.andThen_ok, Sem.run_pure], h2⟩
  have one : ∀ {x : Option Value}, x.map (·, A) = some (v, A') → x = some v := by
    intro x hx; cases x <;> cases hx; rfl
  obtain ⟨dst, op, ty, pos, after, guard⟩ := o
  simp only at h ht
  unfold aop at h
  split at h <;> try (simp [touches] at ht; done)
  · cases h; exact ⟨_, rfl, he _⟩
  · cases h; exact ⟨_, rfl, he _⟩
  · rename_i c a b
    have h1 := one h
    unfold apick at h1
    split at h1
    · rename_i t hc
      cases h1
      have hcr := he c
      rw [hc] at hcr
      cases hrc : rev c <;> rw [hrc] at hcr <;> cases hcr
      refine ⟨if t then rev a else rev b, by simp [execOp, hrc, asBool], ?_⟩
      cases t <;> exact he _
    · cases h1
  · rename_i t ps
    obtain ⟨r, k1, k2⟩ := build_sound (P := P) (evParts_VR he ps).1 (evParts_VR he ps).2 (one h) w
    refine val ⟨r, ?_, k2⟩
    rw [parts_eq]; exact k1
  · rename_i x
    have h1 := one h
    unfold anilCheck at h1
    split at h1
    · rename_i a hx
      cases h1
      have hc := he x
      rw [hx] at hc
      cases hrc : rev x with
      | pointer p =>
        cases p with
        | none => rw [hrc] at hc; cases hc
        | some p => exact ⟨.pointer (some p), by simp [execOp, hrc], by rw [← hrc, ← hx]; exact he x⟩
      | _ => rw [hrc] at hc; cases hc
    · cases h1
  · rename_i op t x y yt
    exact val ⟨v, abin_sound F (he x) (he y) (one h) w, plain1_self (abin_plain (one h))⟩
  · exact val (unary_sound (P := P) (he _) (one h) w)
  · exact val (convert_sound (P := P) (he _) (one h) w)
  · exact val (makeInterface_sound (P := P) (he _) (one h) w)
  · rename_i fn f c
    cases h
    refine ⟨.func fn (f.map rev) (c.map rev), rfl, .func _ _ _ _ _ (by simp) (by simp) ?_ ?_⟩
    · intro i v v' h1 h2
      simp only [Array.getElem?_map] at h1 h2
      cases hx : f[i]? with
      | none => rw [hx] at h1; cases h1
      | some q => rw [hx] at h1 h2; cases h1; cases h2; exact he q
    · intro i v v' h1 h2
      simp only [Array.getElem?_map] at h1 h2
      cases hx : c[i]? with
      | none => rw [hx] at h1; cases h1
      | some q => rw [hx] at h1 h2; cases h1; cases h2; exact he q
  · exact val (fieldAddr_sound (P := P) (he _) (one h) w)
  · exact val (field_sound (P := P) (he _) (one h) w)
  · exact val (indexAddr_sound (P := P) (he _) (he _) (one h) w)
  · exact val (index_sound (P := P) (he _) (he _) (one h) w)
  · exact val (typeAssert_sound (P := P) (he _) (one h) w)
  · exact val (extract_sound (P := P) (he _) (one h) w)

/-- operations that only read -/
def reads : Op → Bool
  | .load .. | .lookup .. | .slice .. => true
  | _ => false

theorem reader_sound {P : Program} (F : Fine P) {ρ : Rho} {A A' : AHeap} {w : World} {o : Oper} {ev rev : Operand → Value} {v : Value} (hr : Rel ρ A w) (ht : reads o.op = true) (he : ∀ x, VR ρ (ev x) (rev x))
    (h : aop P o.op ev A = some (v, A')) : ∃ r, (execOp rev o).run P w = .ok (.value r) w ∧ VR ρ v r := by
  have val : ∀ {s : Sem Value}, (∃ r, s.run P w = .ok r w ∧ VR ρ v r) → ∃ r, ((do pure (.value (← s)) : Sem Next).run P w) = .ok (.value r) w ∧ VR ρ v r := by
    rintro s ⟨r, h1, h2⟩
    exact ⟨r, by simp only [Sem.run_bind, h1, Result.andThen_ok, Sem.run_pure], h2⟩
  have one : ∀ {x : Option Value}, x.map (·, A) = some (v, A') → x = some v := by
    intro x hx; cases x <;> cases hx; rfl
  obtain ⟨dst, op, ty, pos, after, guard⟩ := o
  simp only at h ht
  cases op <;> simp [reads] at ht <;> simp only [aop] at h
  · exact val (load_sound (P := P) hr (he _) (one h))
  · exact val (slice_sound (P := P) hr (he _) (opt_VO he _) (opt_VO he _) (opt_VO he _) (one h))
  · exact val (lookup_sound F hr (he _) (he _) (one h))

/-! ### operands -/
theorem aop_congr {P : Program} {o : Op} {ev ev' : Operand → Value} (h : ∀ x ∈ o.operands, ev x = ev' x) (A : AHeap) : aop P o ev A = aop P o ev' A := by
  have parts : ∀ ps : Array (Nat × Operand), (∀ x ∈ (ps.toList.map (·.2)), ev x = ev' x) → evParts ev ps = evParts ev' ps := by
    intro ps hp
    unfold evParts
    apply List.map_congr_left
    intro p hpm
    rw [hp p.2 (List.mem_map_of_mem hpm)]
  have opt : ∀ x : Option Operand, (∀ y ∈ x.toArray, ev y = ev' y) → x.map ev = x.map ev' := by
    intro x hx; cases x <;> simp_all
  cases o with
  | move x => simp [aop, h x (by simp [Op.operands])]
  | assign x => simp [aop, h x (by simp [Op.operands])]
  | pick a b c => simp [aop, h a (by simp [Op.operands]), h b (by simp [Op.operands]), h c (by simp [Op.operands])]
  | alloc e => rfl
  | box e x => simp [aop, h x (by simp [Op.operands])]
  | build t ps => simp only [aop]; rw [parts ps (fun x hx => h x (by simpa [Op.operands] using hx))]
  | buildSlice t n ps => simp only [aop]; rw [parts ps (fun x hx => h x (by simpa [Op.operands] using hx))]
  | insert t a b c => simp [aop, h a (by simp [Op.operands]), h b (by simp [Op.operands]), h c (by simp [Op.operands])]
  | load t x => simp [aop, h x (by simp [Op.operands])]
  | store t a b => simp [aop, h a (by simp [Op.operands]), h b (by simp [Op.operands])]
  | nilCheck x => simp [aop, h x (by simp [Op.operands])]
  | binOp op t a b u => simp [aop, h a (by simp [Op.operands]), h b (by simp [Op.operands])]
  | unOp op t x => simp [aop, h x (by simp [Op.operands])]
  | convert s d x => simp [aop, h x (by simp [Op.operands])]
  | makeInterface t x => simp [aop, h x (by simp [Op.operands])]
  | makeFunc fn f c =>
    have h1 : f.map ev = f.map ev' := Array.map_congr_left fun x hx => h x (by simp [Op.operands, hx])
    have h2 : c.map ev = c.map ev' := Array.map_congr_left fun x hx => h x (by simp [Op.operands, hx])
    simp only [aop, h1, h2]
  | makeMap t r => simp only [aop]; rw [opt r (fun y hy => h y (by simpa [Op.operands] using hy))]
  | slice t x lo hi mx =>
    simp only [aop]
    rw [h x (by simp [Op.operands]), opt lo (fun y hy => h y (by simp [Op.operands]; simp at hy; simp [hy])), opt hi (fun y hy => h y (by simp [Op.operands]; simp at hy; simp [hy])),
      opt mx (fun y hy => h y (by simp [Op.operands]; simp at hy; simp [hy]))]
  | fieldAddr s x f => simp [aop, h x (by simp [Op.operands])]
  | field s x f => simp [aop, h x (by simp [Op.operands])]
  | indexAddr t a b => simp [aop, h a (by simp [Op.operands]), h b (by simp [Op.operands])]
  | index t a b => simp [aop, h a (by simp [Op.operands]), h b (by simp [Op.operands])]
  | lookup t a b ok => simp [aop, h a (by simp [Op.operands]), h b (by simp [Op.operands])]
  | mapUpdate t a b c => simp [aop, h a (by simp [Op.operands]), h b (by simp [Op.operands]), h c (by simp [Op.operands])]
  | mapEntry t a b => simp [aop, h a (by simp [Op.operands]), h b (by simp [Op.operands])]
  | entryStore t a b c => simp [aop, h a (by simp [Op.operands]), h b (by simp [Op.operands]), h c (by simp [Op.operands])]
  | range t x => simp [aop, h x (by simp [Op.operands])]
  | next x s => cases s <;> simp [aop, h x (by simp [Op.operands])]
  | typeAssert x t a ok => simp [aop, h x (by simp [Op.operands])]
  | extract x i => simp [aop, h x (by simp [Op.operands])]
  | entry x => simp [aop, h x (by simp [Op.operands])]
  | call c =>
    obtain ⟨ca, xs, ts⟩ := c
    cases ca with
    | builtin b =>
      simp only [aop]
      have : xs.toList.map ev = xs.toList.map ev' := List.map_congr_left fun x hx => h x (by simp [Op.operands, Call.operands]; simpa using hx)
      rw [this]
    | _ => rfl
  | _ => rfl

theorem acallee_congr {P : Program} {c : Call} {t t' : Tm} (h : ∀ x ∈ c.operands, aeval t x = aeval t' x) (A : AHeap) : acallee P A t c = acallee P A t' c := by
  obtain ⟨ca, xs, ts⟩ := c
  have hargs : xs.toList.map (aeval t) = xs.toList.map (aeval t') := List.map_congr_left fun x hx => h x (by simp [Call.operands]; exact .inr (by simpa using hx))
  unfold acallee
  cases ca with
  | value f =>
    have hf : aeval t f = aeval t' f := h f (by simp [Call.operands])
    simp only [hargs, hf]
  | invoke r name =>
    have hf : aeval t r = aeval t' r := h r (by simp [Call.operands])
    simp only [hargs, hf]
  | builtin b => rfl

theorem aop1_congr {P : Program} {o : Oper} {t t' : Tm} {A : AHeap} {K : Value → AHeap → Prop} (h : ∀ x ∈ o.op.operands, aeval t x = aeval t' x) (ha : aop1 P o t A K) : aop1 P o t' A K := by
  unfold aop1 at ha ⊢
  split at ha
  · rename_i c hk
    have hop : o.op = .call c := by
      unfold opKind at hk
      split at hk <;> first | (cases hk; done) | (cases hk; assumption)
    have := acallee_congr (P := P) (c := c) (t := t) (t' := t') (fun x hx => h x (by rw [hop]; exact hx)) A
    rw [this] at ha; exact ha
  · rename_i it hk
    have hop : o.op = .next it false := by
      unfold opKind at hk
      split at hk <;> first | (cases hk; done) | (cases hk; assumption)
    have : aeval t it = aeval t' it := h it (by rw [hop]; simp [Op.operands])
    rw [this] at ha; exact ha
  · rw [aop_congr (P := P) h A] at ha; exact ha

/-! ### the order -/
/-- masks of what stands before each operation -/
def preMask (acc : List Nat) (o : Oper) : Nat := o.after.toList.foldl (fun s e => if Region.binds .any e then s ||| 2 ^ e.on ||| acc.getD e.on 0 else s) 0
def preMasks : List Nat → List Oper → List Nat
  | acc, [] => acc
  | acc, o :: os => preMasks (acc ++ [preMask acc o]) os

inductive Before (ops : Array Oper) : Nat → Nat → Prop
  | edge (i j : Nat) (o : Oper) (e : Edge) (h1 : ops[j]? = some o) (h2 : e ∈ o.after.toList) (h3 : Region.binds .any e = true) (h4 : e.on = i) : Before ops i j
  | trans (i k j : Nat) (h1 : Before ops i k) (h2 : Before ops k j) : Before ops i j

theorem mask_before (ops : Array Oper) (acc : List Nat) (hacc : ∀ (j : Nat) m i, acc[j]? = some m → m.testBit i = true → Before ops i j) (j : Nat) (o : Oper) (ho : ops[j]? = some o) :
    ∀ (l : List Edge) (s : Nat), (∀ e ∈ l, e ∈ o.after.toList) → (∀ i, s.testBit i = true → Before ops i j) →
    ∀ i, (l.foldl (fun s e => if Region.binds .any e then s ||| 2 ^ e.on ||| acc.getD e.on 0 else s) s).testBit i = true → Before ops i j
  | [], s, _, hs, i, h => hs i h
  | e :: l, s, hl, hs, i, h => by
    rw [List.foldl_cons] at h
    refine mask_before ops acc hacc j o ho l _ (fun x hx => hl x (by simp [hx])) ?_ i h
    intro i hi
    split at hi
    · rename_i hb
      have hedge : Before ops e.on j := .edge _ j o e ho (hl e (by simp)) hb rfl
      rw [Nat.testBit_or, Nat.testBit_or, Bool.or_eq_true, Bool.or_eq_true] at hi
      rcases hi with (hi | hi) | hi
      · exact hs i hi
      · rw [Nat.testBit_two_pow] at hi
        have : e.on = i := of_decide_eq_true hi
        subst this; exact hedge
      · cases hm : acc[e.on]? with
        | none => simp [List.getD, hm] at hi
        | some m =>
          simp only [List.getD, hm, Option.getD_some] at hi
          exact .trans i e.on j (hacc _ _ _ hm hi) hedge
    · exact hs i hi

theorem preMasks_before (ops : Array Oper) : ∀ (os : List Oper) (acc : List Nat), (∀ (j : Nat) o, os[j]? = some o → ops[acc.length + j]? = some o) →
    (∀ (j : Nat) m i, acc[j]? = some m → m.testBit i = true → Before ops i j) → ∀ (j : Nat) m i, (preMasks acc os)[j]? = some m → m.testBit i = true → Before ops i j
  | [], acc, _, hacc, j, m, i, h, hi => hacc j m i h hi
  | o :: os, acc, hos, hacc, j, m, i, h, hi => by
    refine preMasks_before ops os (acc ++ [preMask acc o]) ?_ ?_ j m i h hi
    · intro k o' hk
      have := hos (k + 1) o' (by simpa using hk)
      rw [List.length_append, List.length_singleton]
      rwa [show acc.length + 1 + k = acc.length + (k + 1) by omega]
    · intro k m' i' hk hi'
      rw [List.getElem?_append] at hk
      split at hk
      · exact hacc k m' i' hk hi'
      · rename_i hlt
        have hk0 : k = acc.length := by
          have := (List.getElem?_eq_some_iff.1 hk).1
          simp at this; omega
        subst hk0
        simp at hk
        subst hk
        exact mask_before ops acc hacc _ o (by simpa using hos 0 o rfl) o.after.toList 0 (fun e he => he) (by simp) i' hi'

def isBefore (ms : List Nat) (i j : Nat) : Bool := (ms.getD j 0).testBit i

theorem isBefore_sound {ops : Array Oper} {i j : Nat} (h : isBefore (preMasks [] ops.toList) i j = true) : Before ops i j := by
  unfold isBefore at h
  cases hm : (preMasks [] ops.toList)[j]? with
  | none => simp [List.getD, hm] at h
  | some m =>
    simp only [List.getD, hm, Option.getD_some] at h
    exact preMasks_before ops ops.toList [] (by intro j o ho; simpa using ho) (by intro j m i h; simp at h) j m i hm h

/-- two operations in order, or apart in their temporaries -/
def okPair (ops : Array Oper) (ms : List Nat) (i j : Nat) : Bool :=
  isBefore ms i j || (match ops[i]?, ops[j]? with | some x, some y => x.apart ops y | _, _ => true)

/-- a region that may be gone through in the order of the text -/
def okDraw (ops : Array Oper) : Bool :=
  let ms := preMasks [] ops.toList
  (List.range ops.size).all fun j => (match ops[j]? with | some o => o.after.toList.all fun e => !Region.binds .any e || decide (e.on < j) | none => true) &&
    (List.range j).all fun i => okPair ops ms i j

/-- an operation in order with all others that touch memory, but for readers -/
def barrier (ops : Array Oper) (rd : List Nat) (i : Nat) : Bool :=
  let ms := preMasks [] ops.toList
  (List.range ops.size).all fun j => decide (j = i) || rd.contains j || (match ops[j]? with | some o => !touches o.op | none => true) || (if j < i then isBefore ms j i else isBefore ms i j)

end Go.AB
