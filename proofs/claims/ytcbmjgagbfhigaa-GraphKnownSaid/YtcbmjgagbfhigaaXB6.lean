/-
  Calls, regions, code: the abstract run of a function and what it says of the model's.
-/
import Derived.Test.YtcbmjgagbfhigaaXB5
import Derived.LoopN
import Derived.Scope
namespace Go.AB
open Go
set_option linter.unusedSimpArgs false
set_option linter.unusedVariables false

/-- a method by its name: the function, and whether its receiver is a pointer -/
def methOf (P : Program) (t : TypeId) (name : String) : Option (FuncId × Bool) :=
  match P.info? t with
  | some i => match i.methods.find? (·.name == name) with
    | some m => if m.path.isEmpty then m.func else none
    | none => none
  | none => none

def amethod (P : Program) (A : AHeap) (t : TypeId) (v : Value) (name : String) : Option (FuncId × Value) :=
  match methOf P t name with
  | none => none
  | some (f, true) => match P.underlying t with
    | some (.pointer _) => some (f, v)
    | _ => none
  | some (f, false) => match P.underlying t with
    | some (.pointer elem) => (aload P A elem v).map fun x => (f, x)
    | some _ => some (f, v)
    | none => none

theorem aload_ptr {P : Program} {A : AHeap} {t : TypeId} {a v : Value} (h : aload P A t a = some v) : ∃ i o, a = .pointer (some ⟨i, o, none⟩) := by
  unfold aload at h
  split at h
  · exact ⟨_, _, rfl⟩
  · cases h

theorem run_wrapnil {P : Program} (ts : Array TypeId) (ty : TypeId) (a : Addr) (s1 s2 : ByteArray) (w : World) :
    (Builtin.ssaWrapNilChk_ ts ty #[.pointer (some a), .string s1, .string s2]).run P w = .ok (.pointer (some a)) w := rfl

theorem method_sound {P : Program} {ρ : Rho} {A : AHeap} {w : World} {t : TypeId} {v r : Value} {name : String} {f : FuncId} {x : Value} (hr : Rel ρ A w) (hv : VR ρ v r)
    (h : amethod P A t v name = some (f, x)) (d : Nat) : ∃ rx, (method (d + 1) t r name).run P w = .ok (f, rx) w ∧ VR ρ x rx := by
  unfold amethod at h
  have meth : ∀ {g p}, methOf P t name = some (g, p) → ∃ i m, P.info? t = some i ∧ i.methods.find? (·.name == name) = some m ∧ m.path.isEmpty = true ∧ m.func = some (g, p) := by
    intro g p hm
    unfold methOf at hm
    split at hm
    · rename_i i hi
      split at hm
      · rename_i m hf
        split at hm
        · rename_i he; exact ⟨i, m, hi, hf, he, hm⟩
        · cases hm
      · cases hm
    · cases hm
  have follow0 : ∀ {m : Method}, m.path.isEmpty = true → m.path.toList = [] := by
    intro m hm
    have : m.path = #[] := by simpa using hm
    rw [this]
  split at h
  · cases h
  · rename_i g hm
    obtain ⟨i, m, h1, h2, h3, h4⟩ := meth hm
    split at h
    · rename_i el hu
      cases h
      refine ⟨r, ?_, hv⟩
      simp only [method, Sem.run_bind, typeInfo, run_program, Result.andThen_ok, h1, Sem.run_pure, h2, follow0 h3, follow, h4, receiverAt, run_und hu, Place.get]
    · cases h
  · rename_i g hm
    obtain ⟨i, m, h1, h2, h3, h4⟩ := meth hm
    split at h
    · rename_i el hu
      cases hl : aload P A el v with
      | none => rw [hl] at h; cases h
      | some y =>
        rw [hl] at h; cases h
        obtain ⟨b, o, rfl⟩ := aload_ptr hl
        obtain ⟨rx, k1, k2⟩ := load_sound (P := P) hr hv hl
        obtain ⟨e, he, rfl⟩ := hv.ptr_inv
        refine ⟨rx, ?_, k2⟩
        simp only [Instr.loadAt, Instr.sureAddr, Sem.run_bind, Sem.run_pure, Result.andThen_ok] at k1
        simp only [method, Sem.run_bind, typeInfo, run_program, Result.andThen_ok, h1, Sem.run_pure, h2, follow0 h3, follow, h4, receiverAt, run_und hu, Place.get, h3, if_true,
          strVal, run_wrapnil, asAddr, k1]
    · rename_i dd hn hu
      cases h
      refine ⟨r, ?_, hv⟩
      simp only [method, Sem.run_bind, typeInfo, run_program, Result.andThen_ok, h1, Sem.run_pure, h2, follow0 h3, follow, h4, receiverAt, run_und hu, Place.get]
    · cases h

/-- a function called with such arguments comes to one of such outcomes -/
def SimW (P : Program) (f : FuncId) (args : List Value) (A : AHeap) (K : Value → AHeap → Prop) : Prop :=
  ∀ ρ w rargs, Rel ρ A w → VL ρ args rargs → OpDone P (Out ρ A w K) ((callFunc f ⟨rargs⟩).run P w)

theorem OpDone.mono {P : Program} {R R' : Value → World → Prop} (hr : ∀ v w, R v w → R' v w) {x : Result Next} (h : OpDone P R x) : OpDone P R' x := by
  unfold OpDone at h ⊢
  split at h
  · exact hr _ _ h
  · exact hr _ _ h
  · exact h.mono fun e w' ⟨v, h1, h2⟩ => ⟨v, h1, hr _ _ h2⟩
  · exact h.mono hr
  · exact h.elim

theorem SimW.mono {P : Program} {f : FuncId} {args : List Value} {A : AHeap} {K K' : Value → AHeap → Prop} (h : SimW P f args A K) (hk : ∀ v A', K v A' → K' v A') : SimW P f args A K' :=
  fun ρ w rargs hr hv => (h ρ w rargs hr hv).mono fun v w' ⟨ρ', v', A', h1, h2⟩ => ⟨ρ', v', A', hk _ _ h1, h2⟩

/-- the function and the arguments of a call -/
def acallee (P : Program) (A : AHeap) (t : Tm) (c : Call) : Option (FuncId × List Value) :=
  match c.callee with
  | .value f => match aeval t f with
    | .func (.func g) first cap => some (g, first.toList ++ c.args.toList.map (aeval t) ++ cap.toList)
    | _ => none
  | .invoke r name => match aeval t r with
    | .iface ty v => (amethod P A ty v name).map fun x => (x.1, x.2 :: c.args.toList.map (aeval t))
    | _ => none
  | .builtin _ => none

inductive OpKind where
  | call (c : Call)
  | next (it : Operand)
  | other

def opKind : Op → OpKind
  | .call ⟨.builtin _, _, _⟩ => .other
  | .call c => .call c
  | .next it false => .next it
  | _ => .other

/-- one operation, with what must hold of its outcome -/
def aop1 (P : Program) (o : Oper) (t : Tm) (A : AHeap) (K : Value → AHeap → Prop) : Prop :=
  match opKind o.op with
  | .call c => match acallee P A t c with
    | some (f, args) => SimW P f args A K
    | none => False
  | .next it => match anextMap A (aeval t it) with
    | some (r, m, since, seen, _, es, _) => ∀ v A', NextMap A r m since seen es v A' → K v A'
    | none => False
  | .other => match aop P o.op (aeval t) A with
    | some (v, A') => K v A'
    | none => False

theorem VL.of_arrays {ρ : Rho} {a b : Array Value} (hs : a.size = b.size) (h : ∀ (i : Nat) v v', a[i]? = some v → b[i]? = some v' → VR ρ v v') : VL ρ a.toList b.toList :=
  ⟨by simpa using hs, fun i v v' h1 h2 => h i v v' (by simpa using h1) (by simpa using h2)⟩

theorem aop1_sound {P : Program} (F : Fine P) {ρ : Rho} {A : AHeap} {w : World} {o : Oper} {n : Nat} {t : Tm} {tmps : Array Value} {ds : List Deferred} {K : Value → AHeap → Prop}
    (hr : Rel ρ A w) (ht : TR ρ n t tmps) (h : aop1 P o t A K) : OpDone P (Out ρ A w K) ((execOp (⟨tmps, ds⟩ : Act).eval o).run P w) := by
  have he : ∀ x, VR ρ (aeval t x) ((⟨tmps, ds⟩ : Act).eval x) := ht.eval ds
  unfold aop1 at h
  obtain ⟨dst, op, ty, pos, after, guard⟩ := o
  simp only at h
  split at h
  · rename_i c hk
    have hop : op = .call c ∧ (∀ b, c.callee ≠ .builtin b) := by
      unfold opKind at hk
      split at hk
      · cases hk
      · rename_i c' hn; cases hk; exact ⟨rfl, fun b hb => by obtain ⟨ca, xs, ts⟩ := c; simp only at hb; subst hb; exact hn b xs ts rfl⟩
      · cases hk
      · cases hk
    obtain ⟨rfl, hnb⟩ := hop
    split at h
    · rename_i f args hc
      unfold acallee at hc
      have hargs : VL ρ (c.args.toList.map (aeval t)) (c.args.toList.map (⟨tmps, ds⟩ : Act).eval) := map_VL he _
      split at hc
      · rename_i fo hcal
        split at hc
        · rename_i g first cap hf
          cases hc
          have hv := he fo
          rw [hf] at hv
          obtain ⟨f', g', hrf, s1, s2, v1, v2⟩ : ∃ f' g', (⟨tmps, ds⟩ : Act).eval fo = .func (.func f) f' g' ∧ first.size = f'.size ∧ cap.size = g'.size ∧
              (∀ (i : Nat) v v', first[i]? = some v → f'[i]? = some v' → VR ρ v v') ∧ (∀ (i : Nat) v v', cap[i]? = some v → g'[i]? = some v' → VR ρ v v') := by
            cases hrc : (⟨tmps, ds⟩ : Act).eval fo <;> rw [hrc] at hv <;> cases hv
            rename_i q1 q2 q3 q4
            exact ⟨_, _, rfl, q1, q3, q2, q4⟩
          have hall := ((VL.of_arrays s1 v1).append hargs).append (VL.of_arrays s2 v2)
          have := h ρ w _ hr hall
          have hrun : (execOp (⟨tmps, ds⟩ : Act).eval { dst := dst, op := .call c, type := ty, pos := pos, after := after, guard := guard }).run P w =
              (callFunc f ⟨f'.toList ++ c.args.toList.map (⟨tmps, ds⟩ : Act).eval ++ g'.toList⟩).run P w := by
            simp only [execOp, resolve, hcal, hrf, Deferred.ofValue, Sem.run_bind, Sem.run_pure, Result.andThen_ok, invoke]
            congr 2
            apply Array.ext'; simp
          rw [hrun]; exact this
        · cases hc
      · rename_i ro name hcal
        split at hc
        · rename_i ity v hf
          cases hm : amethod P A ity v name with
          | none => rw [hm] at hc; cases hc
          | some x =>
            rw [hm] at hc; cases hc
            obtain ⟨f, x⟩ := x
            have hv := he ro
            rw [hf] at hv
            obtain ⟨v', hrf, hvv⟩ : ∃ v', (⟨tmps, ds⟩ : Act).eval ro = .iface ity v' ∧ VR ρ v v' := by
              cases hrc : (⟨tmps, ds⟩ : Act).eval ro <;> rw [hrc] at hv <;> cases hv
              exact ⟨_, rfl, by assumption⟩
            obtain ⟨rx, k1, k2⟩ := method_sound (P := P) hr hvv hm (P.types.size + 99)
            have := h ρ w _ hr (VL.cons k2 hargs)
            have hrun : (execOp (⟨tmps, ds⟩ : Act).eval { dst := dst, op := .call c, type := ty, pos := pos, after := after, guard := guard }).run P w =
                (callFunc f ⟨rx :: c.args.toList.map (⟨tmps, ds⟩ : Act).eval⟩).run P w := by
              have hx0 : (#[(⟨tmps, ds⟩ : Act).eval ro] ++ c.args.map (⟨tmps, ds⟩ : Act).eval)[0]? = some (.iface ity v') := by
                rw [Array.getElem?_append_left (by simp)]; simp [hrf]
              have hx1 : (#[(⟨tmps, ds⟩ : Act).eval ro] ++ c.args.map (⟨tmps, ds⟩ : Act).eval).extract 1 (#[(⟨tmps, ds⟩ : Act).eval ro] ++ c.args.map (⟨tmps, ds⟩ : Act).eval).size = c.args.map (⟨tmps, ds⟩ : Act).eval := by
                apply Array.ext'
                simp only [Array.toList_extract, Array.toList_append, List.extract_eq_take_drop, Array.size_append]
                simp [List.take_of_length_le]
              simp only [execOp, resolve, hcal, Sem.run_bind, Sem.run_pure, Result.andThen_ok, invoke, hx0, callMethod, hx1, run_program]
              rw [show P.types.size + Made.depth = P.types.size + 99 + 1 from rfl, k1]
              simp only [Result.andThen_ok]
              congr 2
              apply Array.ext'; simp
            rw [hrun]; exact this
        · cases hc
      · rename_i b hcal; exact absurd hcal (hnb b)
    · exact h.elim
  · rename_i it hk
    have hop : op = .next it false := by
      unfold opKind at hk
      split at hk <;> first | (cases hk; done) | (cases hk; rfl)
    subst hop
    split at h
    · rename_i r m since seen last es clock hn
      obtain ⟨v, A', r', w', k1, k2, k3, k4⟩ := nextMap_sound (P := P) hr (he it) hn ty
      have hrun : (execOp (⟨tmps, ds⟩ : Act).eval { dst := dst, op := .next it false, type := ty, pos := pos, after := after, guard := guard }).run P w = .ok (.value r') w' := by
        simp only [execOp, Sem.run_bind, k2, Result.andThen_ok, Sem.run_pure]
      rw [hrun]
      exact ⟨ρ, v, A', h v A' k1, k3, k4⟩
    · exact h.elim
  · split at h
    · rename_i v A' ha
      exact aop_sound F (o := { dst := dst, op := op, type := ty, pos := pos, after := after, guard := guard }) hr he ha K h
    · exact h.elim

end Go.AB
