/-
  Regions in the order of the text, code, functions.
-/
import Derived.Test.YtcbmjgagbfhigaaXB6
namespace Go.AB
open Go
set_option linter.unusedSimpArgs false
set_option linter.unusedVariables false

/-- is an operation wanted? none: not known -/
def awanted (ops : Array Oper) (t : Tm) (o : Oper) : Option Bool :=
  match o.guard with
  | none => some true
  | some (j, want) => match (ops[j]?).bind (·.dst) with
    | none => some false
    | some d => match t d with
      | .bool b => some (b == want)
      | .tuple ⟨[]⟩ => some false
      | _ => none

theorem awanted_sound {ρ : Rho} {n : Nat} {ops : Array Oper} {t : Tm} {tmps : Array Value} {o : Oper} {b : Bool} (ht : TR ρ n t tmps) (h : awanted ops t o = some b) :
    Region.wanted o (yielded ops tmps) = b := by
  unfold awanted at h
  unfold Region.wanted
  split at h
  · rename_i hg; cases h; rw [hg]
  · rename_i j want hg
    rw [hg]
    simp only
    unfold yielded
    split at h
    · rename_i hd
      cases h
      rw [hd]; rfl
    · rename_i d hd
      rw [hd]
      have hv := ht.each d
      rw [Array.getD_eq_getD_getElem?] at hv
      simp only [Option.bind_some]
      split at h
      · rename_i bb htd
        cases h
        rw [htd] at hv
        cases hx : tmps[d]? with
        | none => rw [hx] at hv; simp [undef] at hv; cases hv
        | some y =>
          rw [hx] at hv; simp at hv
          cases hv
          simp
      · rename_i htd
        cases h
        rw [htd] at hv
        cases hx : tmps[d]? with
        | none => rfl
        | some y =>
          rw [hx] at hv; simp at hv
          cases hv
          rfl
      · cases h

def aput (n : Nat) (t : Tm) (d : Option Tmp) (v : Value) (K : Tm → Prop) : Prop :=
  match d with
  | none => K t
  | some d => d < n ∧ K (upd t d v)

theorem aput_sound {ρ : Rho} {n : Nat} {t : Tm} {a : Act} {d : Option Tmp} {v r : Value} {K : Tm → Prop} (ht : TR ρ n t a.tmps) (hv : VR ρ v r) (h : aput n t d v K) :
    ∃ t', K t' ∧ TR ρ n t' (a.put d r).tmps ∧ (a.put d r).defers = a.defers := by
  unfold aput at h
  cases d with
  | none => exact ⟨t, h, ht, rfl⟩
  | some d => exact ⟨_, h.2, ht.put h.1 hv, rfl⟩

/-- operations, one by one -/
def aops (P : Program) (n : Nat) (ops : Array Oper) : List Oper → Tm → AHeap → (Tm → AHeap → Prop) → Prop
  | [], t, A, K => K t A
  | o :: os, t, A, K => match awanted ops t o with
    | none => False
    | some false => aput n t o.dst (.tuple ⟨[]⟩) fun t' => aops P n ops os t' A K
    | some true => aop1 P o t A fun v A' => aput n t o.dst v fun t' => aops P n ops os t' A' K

/-- what a run of code comes to -/
def PostK (ρ : Rho) (A : AHeap) (w : World) (n : Nat) (K : Exit → Tm → AHeap → Prop) (e : Exit) (a : Act) (w' : World) : Prop :=
  a.defers = [] ∧ ∃ ρ' t' A', K e t' A' ∧ Step ρ A w ρ' A' w' ∧ TR ρ' n t' a.tmps

theorem PostK.step {ρ ρ1 : Rho} {A A1 : AHeap} {w w1 : World} {n : Nat} {K : Exit → Tm → AHeap → Prop} (h : Step ρ A w ρ1 A1 w1) {e : Exit} {a : Act} {w' : World}
    (k : PostK ρ1 A1 w1 n K e a w') : PostK ρ A w n K e a w' := by
  obtain ⟨h1, ρ', t', A', h2, h3, h4⟩ := k
  exact ⟨h1, ρ', t', A', h2, h.trans h3, h4⟩

theorem upon_of_done {P : Program} {o : Oper} {a : Act} {next : Act → World → Prop} {Q : Exit → Act → World → Prop} {R : Value → World → Prop} {x : Result Next}
    (h : OpDone P R x) (hn : ∀ r w', R r w' → next (a.put o.dst r) w') : o.upon P a next Q x := by
  unfold OpDone at h
  split at h
  · exact hn _ _ h
  · exact hn _ _ h
  · rename_i f args w
    refine h.mono ?_
    rintro e w' ⟨v, rfl, hr⟩
    exact hn _ _ hr
  · exact h.mono hn
  · exact h.elim

theorem wpOps_cons {P : Program} {ops : Array Oper} {Q : Exit → Act → World → Prop} {i : Nat} {rest : List Nat} {a : Act} {w : World} {o : Oper} (ho : ops[i]? = some o)
    (h : if Region.wanted o (yielded ops a.tmps) then o.wp P a w (wpOps P ops Q rest) Q else wpOps P ops Q rest (a.put o.dst undef) w) : wpOps P ops Q (i :: rest) a w := by
  unfold wpOps
  rw [ho]
  simp only
  split
  · rename_i hw; rw [if_pos hw] at h; exact .inl h
  · rename_i hw; rw [if_neg hw] at h; exact h

theorem LetsOut.mono {Q Q' : Exit → Act → World → Prop} (hq : ∀ e a w, Q e a w → Q' e a w) (h : LetsOut Q) : LetsOut Q' := by
  obtain ⟨a, w, h⟩ := h; exact ⟨a, w, hq _ _ _ h⟩

theorem upon_mono {P : Program} {o : Oper} {a : Act} {next next' : Act → World → Prop} {Q Q' : Exit → Act → World → Prop} (hn : ∀ a w, next a w → next' a w) (hq : ∀ e a w, Q e a w → Q' e a w) :
    ∀ {x : Result Next}, o.upon P a next Q x → o.upon P a next' Q' x := by
  intro x h
  cases x with
  | ok nx w =>
    cases nx with
    | value v => exact hn _ _ h
    | skip => exact hn _ _ h
    | defer d => exact hn _ _ h
    | enter f args =>
      refine Calls.mono (R := fun | .returned v, w'' => next (a.put o.dst v) w'' | .panicked chain, w'' => Q (.panic chain) a w'' | .outgrown, _ => LetsOut Q) h ?_
      intro e w' he
      cases e with
      | returned v => exact hn _ _ he
      | panicked c => exact hq _ _ _ he
      | outgrown => exact LetsOut.mono hq he
    | row r args => exact Rows.mono h fun v w' => hn _ _
    | _ => exact False.elim h
  | halt hh w =>
    cases hh with
    | panic v => exact hq _ _ _ h
    | _ => exact False.elim h

theorem wpOps_mono {P : Program} {ops : Array Oper} {Q Q' : Exit → Act → World → Prop} (hq : ∀ e a w, Q e a w → Q' e a w) : ∀ {l : List Nat} {a : Act} {w : World}, wpOps P ops Q l a w → wpOps P ops Q' l a w
  | [], a, w, h => hq _ _ _ h
  | i :: rest, a, w, h => by
    unfold wpOps at h ⊢
    cases ho : ops[i]? with
    | none => rw [ho] at h; exact wpOps_mono hq h
    | some o =>
      rw [ho] at h
      simp only at h ⊢
      split
      · rename_i hw
        rw [if_pos hw] at h
        rcases h with h | h
        · exact .inl (upon_mono (fun a w => wpOps_mono hq) hq h)
        · exact .inr ⟨h.1, LetsOut.mono hq h.2⟩
      · rename_i hw
        rw [if_neg hw] at h
        exact wpOps_mono hq h

theorem aops_sound {P : Program} (F : Fine P) {n : Nat} {ops : Array Oper} {K : Exit → Tm → AHeap → Prop} : ∀ (os : List Oper) (i : Nat), (∀ (j : Nat) o, os[j]? = some o → ops[i + j]? = some o) →
    ∀ {ρ : Rho} {A : AHeap} {w : World} {t : Tm} {a : Act}, Rel ρ A w → TR ρ n t a.tmps → a.defers = [] → aops P n ops os t A (K .normal) →
    wpOps P ops (PostK ρ A w n K) ((List.range os.length).map (i + ·)) a w
  | [], i, _, ρ, A, w, t, a, hr, ht, hd, h => by
    show PostK ρ A w n K .normal a w
    exact ⟨hd, ρ, t, A, h, Step.refl hr, ht⟩
  | o :: os, i, hops, ρ, A, w, t, a, hr, ht, hd, h => by
    have ho : ops[i]? = some o := by simpa using hops 0 o rfl
    have hrest : (List.range (o :: os).length).map (i + ·) = i :: (List.range os.length).map (i + 1 + ·) := by
      rw [List.length_cons, List.range_succ_eq_map, List.map_cons, List.map_map]
      congr 1
      apply List.map_congr_left
      intro x _; simp; omega
    rw [hrest]
    have hops' : ∀ (j : Nat) o', os[j]? = some o' → ops[i + 1 + j]? = some o' := by
      intro j o' hj
      have := hops (j + 1) o' (by simpa using hj)
      rwa [show i + (j + 1) = i + 1 + j by omega] at this
    simp only [aops] at h
    refine wpOps_cons ho ?_
    split at h
    · exact h.elim
    · rename_i hw
      rw [awanted_sound ht hw]
      simp only [Bool.false_eq_true, if_false]
      obtain ⟨t', h1, h2, h3⟩ := aput_sound (a := a) ht (VL.tuple (ρ := ρ) .nil) h
      exact aops_sound F os (i + 1) hops' hr h2 (h3.trans hd) h1
    · rename_i hw
      rw [awanted_sound ht hw]
      simp only [if_true]
      have hdone := aop1_sound F (ds := a.defers) hr ht h
      unfold Oper.wp
      refine upon_of_done hdone ?_
      rintro r w' ⟨ρ', v, A', k1, k2, k3⟩
      obtain ⟨t', h1, h2, h3⟩ := aput_sound (a := a) (ht.mono k3.sub) k2 k1
      have := aops_sound F os (i + 1) hops' k3.rel h2 (h3.trans hd) h1
      exact wpOps_mono (fun e a w q => PostK.step k3 q) this

end Go.AB
