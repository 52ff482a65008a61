/-
  Code and functions.
-/
import Derived.Test.YtcbmjgagbfhigaaXC3
namespace Go.AB
open Go
set_option linter.unusedSimpArgs false
set_option linter.unusedVariables false

abbrev Kont := Exit → Tm → AHeap → Prop

/-- so many rounds at most -/
def aiter (body : Tm → AHeap → Kont → Prop) : Nat → Tm → AHeap → Kont → Prop
  | 0, _, _, _ => False
  | k + 1, t, A, K => body t A fun e t' A' => match e with
    | .normal => aiter body k t' A' K
    | e => K e t' A'

def Kont.then (next : Tm → AHeap → Prop) (K : Kont) : Kont
  | .normal, t, A => next t A
  | e, t, A => K e t A

def Kont.block (id : Nat) (K : Kont) : Kont
  | .exit id', t, A => if id' = id then K .normal t A else K (.exit id') t A
  | e, t, A => K e t A

def acond (v : Value) (a b : Prop) : Prop := match v with
  | .bool true => a
  | .bool false => b
  | _ => False

/-- what holds behind code -/
def awp (P : Program) (n : Nat) : Code → Tm → AHeap → Kont → Prop
  | .skip, t, A, K => K .normal t A
  | .label _, t, A, K => K .normal t A
  | .region _ ops false, t, A, K => aops P n ops ops.toList t A (K .normal)
  | .region _ ops true, t, A, K => okDraw ops = true ∧ ∃ rd, adrawn P n ops rd ops.toList 0 t A [] [] (K .normal)
  | .seq a b, t, A, K => awp P n a t A (Kont.then (fun t' A' => awp P n b t' A' K) K)
  | .cond c a b, t, A, K => acond (aeval t c) (awp P n a t A K) (awp P n b t A K)
  | .block id c, t, A, K => awp P n c t A (Kont.block id K)
  | .loop c, t, A, K => ∃ k, aiter (fun t A K => awp P n c t A K) k t A K
  | .scope c, t, A, K => awp P n c t A K
  | .exit id, t, A, K => K (.exit id) t A
  | .ret, t, A, K => K .ret t A
  | _, _, _, _ => False

/-- an end that code may come to -/
def Fair : Exit → Prop
  | .normal | .exit _ | .ret => True
  | _ => False

theorem PostK.weaken {ρ : Rho} {A : AHeap} {w : World} {n : Nat} {K K' : Kont} (hk : ∀ e t A, K e t A → K' e t A) {e : Exit} {a : Act} {w' : World} (h : PostK ρ A w n K e a w') : PostK ρ A w n K' e a w' := by
  obtain ⟨h1, ρ', t', A', h2, h3, h4⟩ := h
  exact ⟨h1, ρ', t', A', hk _ _ _ h2, h3, h4⟩

/-- 'K', at a fair end -/
def FK (K : Kont) : Kont := fun e t A => Fair e ∧ K e t A

theorem awp_sound {P : Program} (F : Fine P) (hm : P.follows .mixedOrders = true) (n : Nat) : ∀ (c : Code) {t : Tm} {A : AHeap} {K : Kont} {ρ : Rho} {w : World} {a : Act}, awp P n c t A K → Rel ρ A w → TR ρ n t a.tmps →
    a.defers = [] → c.wp P (PostK ρ A w n (FK K)) a w
  | .skip, t, A, K, ρ, w, a, h, hr, ht, hd => wp_skip ⟨hd, ρ, t, A, ⟨trivial, h⟩, Step.refl hr, ht⟩
  | .label _, t, A, K, ρ, w, a, h, hr, ht, hd => wp_label ⟨hd, ρ, t, A, ⟨trivial, h⟩, Step.refl hr, ht⟩
  | .exit id, t, A, K, ρ, w, a, h, hr, ht, hd => wp_exit ⟨hd, ρ, t, A, ⟨trivial, h⟩, Step.refl hr, ht⟩
  | .ret, t, A, K, ρ, w, a, h, hr, ht, hd => wp_ret ⟨hd, ρ, t, A, ⟨trivial, h⟩, Step.refl hr, ht⟩
  | .region id ops false, t, A, K, ρ, w, a, h, hr, ht, hd => by
    refine wp_region ?_
    have := aops_sound F (K := FK K) ops.toList 0 (by intro j o ho; simpa using ho) hr ht hd (by
      have h : aops P n ops ops.toList t A (K .normal) := h
      have : (K .normal) = (FK K .normal) := by funext t A; simp [FK, Fair]
      rw [this] at h; exact h)
    simpa using this
  | .region id ops true, t, A, K, ρ, w, a, h, hr, ht, hd => by
    have h : okDraw ops = true ∧ ∃ rd, adrawn P n ops rd ops.toList 0 t A [] [] (K .normal) := h
    have hK : (K .normal) = (FK K .normal) := by funext t A; simp [FK, Fair]
    rw [hK] at h
    obtain ⟨h1, rd, h2⟩ := h
    exact adrawn_sound F hm h1 hr ht hd h2
  | .seq x y, t, A, K, ρ, w, a, h, hr, ht, hd => by
    refine wp_seq (wp_mono (awp_sound F hm n x h hr ht hd) ?_)
    rintro e a' w' ⟨h1, ρ', t', A', ⟨hf, h2⟩, h3, h4⟩
    cases e with
    | normal => exact wp_mono (awp_sound F hm n y h2 h3.rel h4 h1) fun e a w q => PostK.step h3 q
    | exit id => exact ⟨h1, ρ', t', A', ⟨hf, h2⟩, h3, h4⟩
    | ret => exact ⟨h1, ρ', t', A', ⟨hf, h2⟩, h3, h4⟩
    | _ => exact hf.elim
  | .cond c x y, t, A, K, ρ, w, a, h, hr, ht, hd => by
    have h : acond (aeval t c) (awp P n x t A K) (awp P n y t A K) := h
    have he : VR ρ (aeval t c) (a.eval c) := by obtain ⟨tm, df⟩ := a; exact ht.eval df c
    unfold acond at h
    split at h
    · rename_i hb
      rw [hb] at he
      refine wp_cond_true ?_ (awp_sound F hm n x h hr ht hd)
      cases hc : a.eval c <;> rw [hc] at he <;> cases he; rfl
    · rename_i hb
      rw [hb] at he
      refine wp_cond_false ?_ (awp_sound F hm n y h hr ht hd)
      cases hc : a.eval c <;> rw [hc] at he <;> cases he; rfl
    · exact h.elim
  | .block id c, t, A, K, ρ, w, a, h, hr, ht, hd => by
    refine wp_block (wp_mono (awp_sound F hm n c h hr ht hd) ?_)
    rintro e a' w' ⟨h1, ρ', t', A', ⟨hf, h2⟩, h3, h4⟩
    cases e with
    | exit id' =>
      simp only [Exit.inBlock]
      simp only [Kont.block] at h2
      split
      · rename_i hid; rw [if_pos hid] at h2; exact ⟨h1, ρ', t', A', ⟨trivial, h2⟩, h3, h4⟩
      · rename_i hid; rw [if_neg hid] at h2; exact ⟨h1, ρ', t', A', ⟨trivial, h2⟩, h3, h4⟩
    | normal => exact ⟨h1, ρ', t', A', ⟨hf, h2⟩, h3, h4⟩
    | ret => exact ⟨h1, ρ', t', A', ⟨hf, h2⟩, h3, h4⟩
    | _ => exact hf.elim
  | .scope c, t, A, K, ρ, w, a, h, hr, ht, hd => by
    refine wp_scope_straight (wp_mono (awp_sound F hm n c h hr ht hd) ?_)
    rintro e a' w' ⟨h1, ρ', t', A', ⟨hf, h2⟩, h3, h4⟩
    cases e with
    | goto l => exact hf.elim
    | _ => exact ⟨h1, ρ', t', A', ⟨hf, h2⟩, h3, h4⟩
  | .loop c, t, A, K, ρ, w, a, h, hr, ht, hd => by
    obtain ⟨k, h⟩ : ∃ k, aiter (fun t A K => awp P n c t A K) k t A K := h
    refine wp_loop_rounds k ?_
    have key : ∀ (k : Nat) (t : Tm) (A : AHeap) (ρ1 : Rho) (w1 : World) (a : Act), aiter (fun t A K => awp P n c t A K) k t A K → Rel ρ1 A w1 → TR ρ1 n t a.tmps → a.defers = [] →
        ∀ {ρ0 A0 w0}, Step ρ0 A0 w0 ρ1 A w1 → Code.rounds P c (PostK ρ0 A0 w0 n (FK K)) k a w1 := by
      intro k
      induction k with
      | zero => intro t A ρ1 w1 a h; exact h.elim
      | succ k ih =>
        intro t A ρ1 w1 a h hr ht hd ρ0 A0 w0 hst
        rw [rounds_succ]
        simp only [aiter] at h
        refine wp_mono (awp_sound F hm n c h hr ht hd) ?_
        rintro e a' w' ⟨h1, ρ', t', A', ⟨hf, h2⟩, h3, h4⟩
        cases e with
        | normal => exact ih t' A' ρ' w' a' h2 h3.rel h4 h1 (hst.trans h3)
        | exit id => exact ⟨h1, ρ', t', A', ⟨hf, h2⟩, hst.trans h3, h4⟩
        | ret => exact ⟨h1, ρ', t', A', ⟨hf, h2⟩, hst.trans h3, h4⟩
        | _ => exact hf.elim
    exact key k t A ρ w a h hr ht hd (Step.refl hr)
  | .goto _, t, A, K, ρ, w, a, h, hr, ht, hd => h.elim
  | .rangeFunc _ _ _ _, t, A, K, ρ, w, a, h, hr, ht, hd => h.elim
  | .refuse _, t, A, K, ρ, w, a, h, hr, ht, hd => h.elim

/-! ### results -/
def ares1 (P : Program) (t : Tm) (A : AHeap) : ResultVar → Option Value
  | .tmp i => some (t i)
  | .cell i ty => aload P A ty (t i)

def ares (P : Program) (rs : List ResultVar) (t : Tm) (A : AHeap) : Option Value :=
  match rs with
  | [r] => ares1 P t A r
  | rs => (rs.mapM (ares1 P t A)).map fun l => .tuple ⟨l⟩

def resOne (tmps : Array Value) : ResultVar → Sem Value
  | .tmp t => pure (tmps.getD t undef)
  | .cell a t => do loadVar t (← asAddr (tmps.getD a undef))

theorem results_eq (fn : Func) (tmps : Array Value) : results fn tmps = (do
    let vs ← fn.results.mapM (resOne tmps)
    pure (if h : vs.size = 1 then vs[0] else .tuple vs)) := rfl

theorem ares1_sound {P : Program} {ρ : Rho} {A : AHeap} {w : World} {n : Nat} {t : Tm} {tmps : Array Value} {r : ResultVar} {v : Value} (hr : Rel ρ A w) (ht : TR ρ n t tmps) (h : ares1 P t A r = some v) :
    ∃ rv, (resOne tmps r).run P w = .ok rv w ∧ VR ρ v rv := by
  cases r with
  | tmp i => simp only [ares1, Option.some.injEq] at h; subst h; exact ⟨_, rfl, ht.each i⟩
  | cell i ty =>
    simp only [ares1] at h
    obtain ⟨b, o, hb⟩ := aload_ptr h
    have hv := ht.each i
    rw [hb] at hv h
    obtain ⟨rx, k1, k2⟩ := load_sound (P := P) hr hv h
    obtain ⟨e, he, hp⟩ := hv.ptr_inv
    refine ⟨rx, ?_, k2⟩
    have hres : resOne tmps (.cell i ty) = (do loadVar ty (← asAddr (tmps.getD i undef))) := rfl
    rw [hres]
    rw [hp] at k1 ⊢
    simp only [Instr.loadAt, Instr.sureAddr, Sem.run_bind, Sem.run_pure, Result.andThen_ok] at k1
    simp only [asAddr, Sem.run_bind, Sem.run_pure, Result.andThen_ok, k1]

theorem ares_sound {P : Program} {ρ : Rho} {A : AHeap} {w : World} {n : Nat} {t : Tm} {tmps : Array Value} {fn : Func} {v : Value} (hr : Rel ρ A w) (ht : TR ρ n t tmps)
    (h : ares P fn.results.toList t A = some v) : ∃ rv, (results fn tmps).run P w = .ok rv w ∧ VR ρ v rv := by
  have key : ∀ (rs : List ResultVar) (vs : List Value), rs.mapM (ares1 P t A) = some vs →
      vs.length = rs.length ∧ ∃ l, (rs.mapM (resOne tmps)).run P w = .ok l w ∧ VL ρ vs l := by
    intro rs
    induction rs with
    | nil => intro vs hvs; simp at hvs; subst hvs; exact ⟨rfl, [], by simp, .nil⟩
    | cons r rs ih =>
      intro vs hvs
      rw [List.mapM_cons] at hvs
      cases h1 : ares1 P t A r with
      | none => rw [h1] at hvs; simp at hvs
      | some x =>
        rw [h1] at hvs
        simp only [Option.bind_eq_bind, Option.bind_some] at hvs
        cases h2 : rs.mapM (ares1 P t A) with
        | none => rw [h2] at hvs; cases hvs
        | some xs =>
          rw [h2] at hvs; cases hvs
          obtain ⟨rv, g1, g2⟩ := ares1_sound hr ht h1
          obtain ⟨k0, l, k1, k2⟩ := ih xs h2
          refine ⟨by simp [k0], rv :: l, ?_, .cons g2 k2⟩
          rw [List.mapM_cons]
          simp only [Sem.run_bind, g1, Result.andThen_ok, k1, Sem.run_pure]
  have hmm : fn.results.mapM (resOne tmps) = List.toArray <$> fn.results.toList.mapM (resOne tmps) := Array.mapM_eq_mapM_toList ..
  rw [results_eq]
  unfold ares at h
  split at h
  · rename_i r hrs
    obtain ⟨_, l, k1, k2⟩ := key [r] [v] (by simp [h])
    rw [hrs] at hmm
    obtain ⟨x, rfl⟩ : ∃ x, l = [x] := by
      match l, k2 with
      | [x], _ => exact ⟨x, rfl⟩
      | [], h => simp [VL] at h
      | _ :: _ :: _, h => simp [VL] at h
    refine ⟨x, ?_, k2.2 0 _ _ rfl rfl⟩
    simp only [Sem.run_bind, hmm, Sem.run_map, k1, Result.andThen_ok]
    simp
  · rename_i hrs
    cases hv : fn.results.toList.mapM (ares1 P t A) with
    | none => rw [hv] at h; cases h
    | some vs =>
      rw [hv] at h; cases h
      obtain ⟨k0, l, k1, k2⟩ := key _ vs hv
      have hlen : l.length ≠ 1 := by
        intro h1
        have h3 : fn.results.toList.length = 1 := by rw [← k0, k2.1, h1]
        match hl : fn.results.toList, h3 with
        | [r], _ => exact hrs r hl
      refine ⟨.tuple ⟨l⟩, ?_, k2.tuple⟩
      simp only [Sem.run_bind, hmm, Sem.run_map, k1, Result.andThen_ok]
      rw [dif_neg (by simpa using hlen)]
      rfl

/-- the temporaries at a function's start -/
def start (args : List Value) : Tm := fun i => args.getD i (.tuple ⟨[]⟩)

/-- what a function's body must come to -/
def AEnd (P : Program) (rs : List ResultVar) (K : Value → AHeap → Prop) : Kont := fun e t A =>
  match e with
  | .normal | .ret => match ares P rs t A with | some v => K v A | none => False
  | _ => False

theorem simW_of_awp {P : Program} (F : Fine P) (hm : P.follows .mixedOrders = true) {f : FuncId} {fn : Func} {c : Code} (hf : P.funcs[f]? = some fn) (hb : fn.body = some c)
    (hname : (fn.name == "runtime.NumGoroutine") = false) {args : List Value} (hlen : args.length ≤ fn.ntmps) {A : AHeap} {K : Value → AHeap → Prop}
    (h : awp P fn.ntmps c (start args) A (AEnd P fn.results.toList K)) : SimW P f args A K := by
  intro ρ w rargs hr hv
  have hcall : (callFunc f ⟨rargs⟩).run P w = .ok (.enter f ⟨rargs⟩) w := by
    unfold callFunc
    simp only [Sem.run_bind, run_program, Result.andThen_ok, hf, hname, Bool.false_eq_true, if_false, hb, Option.isNone_some, Sem.run_pure]
  rw [hcall]
  show Calls P f ⟨rargs⟩ w _
  have hrl : rargs.length = args.length := hv.1.symm
  have ht : TR ρ fn.ntmps (start args) ((⟨rargs⟩ : Array Value) ++ Array.replicate (fn.ntmps - (⟨rargs⟩ : Array Value).size) undef) := by
    refine ⟨by simp; omega, fun i => ?_⟩
    unfold start
    rw [Array.getD_eq_getD_getElem?, Array.getElem?_append]
    by_cases hi : i < args.length
    · rw [if_pos (by simp; omega)]
      obtain ⟨v', h1, h2⟩ := hv.get (List.getElem?_eq_getElem hi)
      simp only [List.getElem?_toArray, h1, Option.getD_some]
      rw [List.getD_eq_getElem?_getD, List.getElem?_eq_getElem hi]
      exact h2
    · rw [if_neg (by simp; omega), List.getD_eq_getElem?_getD, List.getElem?_eq_none (by omega)]
      rw [Array.getElem?_replicate]
      split <;> exact VL.tuple .nil
  refine calls_of_wp hf hb (wp_mono (awp_sound F hm fn.ntmps c h hr ht rfl) ?_)
  rintro e a w' ⟨h1, ρ', t', A', ⟨hfair, h2⟩, h3, h4⟩
  have fin : ∀ (h2 : match ares P fn.results.toList t' A' with | some v => K v A' | none => False), a.defers = [] ∧ ∃ v, (results fn a.tmps).run P w' = .ok v w' ∧
      (∃ v_1, Ending.returned v = .returned v_1 ∧ Out ρ A w K v_1 w') := by
    intro h2
    split at h2
    · rename_i v hv'
      obtain ⟨rv, k1, k2⟩ := ares_sound (fn := fn) h3.rel h4 hv'
      exact ⟨h1, rv, k1, rv, rfl, ρ', v, A', h2, k2, h3⟩
    · exact h2.elim
  cases e with
  | normal => exact fin h2
  | ret => exact fin h2
  | _ => exact h2.elim

end Go.AB
