/-
  The operations, all together.
-/
import Derived.Test.YtcbmjgagbfhigaaXB3
namespace Go.AB
open Go
set_option linter.unusedSimpArgs false
set_option linter.unusedVariables false

abbrev Tm := Nat → Value
def upd (t : Tm) (i : Nat) (v : Value) : Tm := fun j => if j = i then v else t j
theorem upd_same (t : Tm) (i : Nat) (v : Value) : upd t i v i = v := by simp [upd]
theorem upd_other (t : Tm) {i j : Nat} (v : Value) (h : j ≠ i) : upd t i v j = t j := by simp [upd, h]

/-- a constant -/
def cst (v : Value) : Value :=
  match v with
  | .agg c => if c.toList.all plain1 then .agg c else top
  | .tuple ⟨[]⟩ => .tuple ⟨[]⟩
  | v => if plain1 v then v else top

theorem VL.self {ρ : Rho} {l : List Value} (h : l.all plain1 = true) : VL ρ l l := plainL_self h

theorem cst_VR (ρ : Rho) (v : Value) : VR ρ (cst v) v := by
  unfold cst
  split
  · rename_i c
    split
    · rename_i h
      have := (plainL_self (ρ := ρ) h).agg
      simpa using this
    · exact .top _
  · exact VL.tuple .nil
  · split
    · rename_i h; exact plain1_self h
    · exact .top _

def aeval (t : Tm) : Operand → Value
  | .tmp n => t n
  | .const v => cst v
  | .global _ => top
  | .func f => .func (.func f) #[] #[]

/-- temporaries -/
structure TR (ρ : Rho) (n : Nat) (t : Tm) (tmps : Array Value) : Prop where
  size : tmps.size = n
  each : ∀ i, VR ρ (t i) (tmps.getD i undef)

theorem TR.mono {ρ ρ' : Rho} {n : Nat} {t : Tm} {tmps : Array Value} (h : TR ρ n t tmps) (hs : Sub ρ ρ') : TR ρ' n t tmps :=
  ⟨h.size, fun i => (h.each i).mono hs⟩

theorem TR.eval {ρ : Rho} {n : Nat} {t : Tm} {tmps : Array Value} (h : TR ρ n t tmps) (ds : List Deferred) (x : Operand) :
    VR ρ (aeval t x) ((⟨tmps, ds⟩ : Act).eval x) := by
  cases x with
  | tmp i => exact h.each i
  | const v => exact cst_VR ρ v
  | global g => exact .top _
  | func f => exact .func _ _ _ _ _ rfl rfl (fun i v v' h => by simp at h) (fun i v v' h => by simp at h)

theorem TR.put {ρ : Rho} {n : Nat} {t : Tm} {tmps : Array Value} (h : TR ρ n t tmps) {d : Nat} (hd : d < n) {v r : Value} (hv : VR ρ v r) :
    TR ρ n (upd t d v) (tmps.setIfInBounds d r) := by
  refine ⟨by simp [h.size], fun i => ?_⟩
  unfold upd
  rw [Array.getD_eq_getD_getElem?, Array.getElem?_setIfInBounds]
  by_cases hid : i = d
  · subst hid
    rw [if_pos rfl, if_pos rfl, if_pos (by rw [h.size]; exact hd)]
    exact hv
  · rw [if_neg hid, if_neg (fun e => hid e.symm), ← Array.getD_eq_getD_getElem?]
    exact h.each i

def amin2 (lt : Bool) : Value → Value → Option Value
  | .int k a, .int _ b => some (.int k (if lt then (if b < a then b else a) else (if b > a then b else a)))
  | _, _ => none

def acap (P : Program) (t : TypeId) (x : Value) : Option Value :=
  match P.underlying t, x with
  | some (.slice _), .slice a _ c => if c < ucap then some (goInt c) else none
  | some (.array n _), _ => some (goInt n)
  | _, _ => none

/-- copy -/
def acopy (P : Program) (A : AHeap) (dt : TypeId) (d s : Value) : Option (Value × AHeap) :=
  match sliceOf P dt with
  | none => none
  | some e => match szOf P e with
    | none => none
    | some size => match appCells A size s with
      | none => none
      | some (n, new) => match d with
        | .slice none dl _ => if min n dl = 0 then some (goInt 0, A) else none
        | .slice (some ⟨b, o, none⟩) dl c =>
          if min n dl = 0 then some (goInt 0, A)
          else if c = ecap then none
          else match A.f b with
            | some (.row cs k) => if k = .ro then none else
              (putCells cs o (new.take (min n dl * size))).map fun cs' => (goInt (min n dl : Nat), A.set b (.row cs' k))
            | _ => none
        | _ => none

def abuiltin (P : Program) (A : AHeap) (b : Builtin) (ts : List TypeId) (xs : List Value) : Option (Value × AHeap) :=
  match b, ts, xs with
  | .len, [t], [x] => (alen P A t x).map (·, A)
  | .cap, [t], [x] => (acap P t x).map (·, A)
  | .append, [st, xt], [s, x] => aappend P A st xt s x
  | .delete, [t, _], [m, k] => (adelete P A t m k).map (.tuple ⟨[]⟩, ·)
  | .clear, [t], [x] => (aclear P A t x).map (.tuple ⟨[]⟩, ·)
  | .min, _, [x, y] => (amin2 true x y).map (·, A)
  | .max, _, [x, y] => (amin2 false x y).map (·, A)
  | _, _, _ => none

theorem list_eq {l : List Value} {a : Array Value} (h : a.toList = l) : a = ⟨l⟩ := by apply Array.ext'; simpa using h

theorem builtin_sound {P : Program} (F : Fine P) {ρ : Rho} {A A' : AHeap} {w : World} {b : Builtin} {ts : Array TypeId} {xs rs : List Value} {v : Value} (hr : Rel ρ A w) (hx : VL ρ xs rs)
    (h : abuiltin P A b ts.toList xs = some (v, A')) (ty : TypeId) (cs : Array Bool) :
    ∃ ρ' r w', (builtin b ts ty cs ⟨rs⟩).run P w = .ok (.value r) w' ∧ VR ρ' v r ∧ Step ρ A w ρ' A' w' := by
  unfold abuiltin at h
  split at h
  · rename_i t x hts
    obtain ⟨rx, rfl⟩ : ∃ rx, rs = [rx] := by
      cases rs with
      | nil => simp [VL] at hx
      | cons a l => cases l with
        | nil => exact ⟨a, rfl⟩
        | cons _ _ => simp [VL] at hx
    have hvx : VR ρ x rx := hx.2 0 _ _ rfl rfl
    have htt : ts = #[t] := by apply Array.ext'; simpa using hts
    subst htt
    cases hl : alen P A t x with
    | none => rw [hl] at h; cases h
    | some y =>
      rw [hl] at h; cases h
      have := len_sound (P := P) hr hvx hl ty
      refine ⟨ρ, v, w, ?_, ?_, Step.refl hr⟩
      · simp only [builtin, Sem.run_bind, this, Result.andThen_ok, Sem.run_pure]
      · unfold alen at hl
        split at hl <;> first
          | (cases hl; exact .int _ _)
          | (split at hl <;> cases hl; exact .int _ _)
          | cases hl
  · rename_i t x hts
    obtain ⟨rx, rfl⟩ : ∃ rx, rs = [rx] := by
      cases rs with
      | nil => simp [VL] at hx
      | cons a l => cases l with
        | nil => exact ⟨a, rfl⟩
        | cons _ _ => simp [VL] at hx
    have hvx : VR ρ x rx := hx.2 0 _ _ rfl rfl
    have htt : ts = #[t] := by apply Array.ext'; simpa using hts
    subst htt
    cases hl : acap P t x with
    | none => rw [hl] at h; cases h
    | some y =>
      rw [hl] at h; cases h
      refine ⟨ρ, v, w, ?_, ?_, Step.refl hr⟩
      · unfold acap at hl
        split at hl
        · rename_i el a n c hu
          split at hl
          · rename_i hc
            cases hl
            cases hvx with
            | snil n c => simp [builtin, Builtin.cap_, run_und hu]
            | slice i o q n c e h hq hc => simp [builtin, Builtin.cap_, run_und hu]
            | sliceU => exact absurd hc (Nat.lt_irrefl _)
            | sliceE => exact absurd hc (by unfold ecap ucap; omega)
          · cases hl
        · rename_i n el hu
          cases hl
          simp [builtin, Builtin.cap_, run_und hu]
        · cases hl
      · unfold acap at hl
        split at hl
        · split at hl <;> cases hl; exact .int _ _
        · cases hl; exact .int _ _
        · cases hl
  · rename_i st xt s x hts
    obtain ⟨r1, r2, rfl⟩ : ∃ r1 r2, rs = [r1, r2] := by
      match rs, hx with
      | [a, b], _ => exact ⟨a, b, rfl⟩
      | [], h => simp [VL] at h
      | [_], h => simp [VL] at h
      | _ :: _ :: _ :: _, h => simp [VL] at h
    have htt : ts = #[st, xt] := by apply Array.ext'; simpa using hts
    subst htt
    obtain ⟨ρ', r, w', g1, g2, g3⟩ := append_sound (P := P) (ty := ty) hr (hx.2 0 _ _ rfl rfl) (hx.2 1 _ _ rfl rfl) h
    exact ⟨ρ', r, w', by simp only [builtin, Sem.run_bind, g1, Result.andThen_ok, Sem.run_pure], g2, g3⟩
  · rename_i t kt m k hts
    obtain ⟨r1, r2, rfl⟩ : ∃ r1 r2, rs = [r1, r2] := by
      match rs, hx with
      | [a, b], _ => exact ⟨a, b, rfl⟩
      | [], h => simp [VL] at h
      | [_], h => simp [VL] at h
      | _ :: _ :: _ :: _, h => simp [VL] at h
    have htt : ts = #[t, kt] := by apply Array.ext'; simpa using hts
    subst htt
    cases hl : adelete P A t m k with
    | none => rw [hl] at h; cases h
    | some y =>
      rw [hl] at h; cases h
      obtain ⟨w', g1, g2⟩ := delete_sound (P := P) F (kt' := kt) (ty := ty) hr (hx.2 0 _ _ rfl rfl) (hx.2 1 _ _ rfl rfl) hl
      exact ⟨ρ, .tuple #[], w', by simp only [builtin, Sem.run_bind, g1, Result.andThen_ok, Sem.run_pure], VL.tuple .nil, g2⟩
  · rename_i t x hts
    obtain ⟨rx, rfl⟩ : ∃ rx, rs = [rx] := by
      cases rs with
      | nil => simp [VL] at hx
      | cons a l => cases l with
        | nil => exact ⟨a, rfl⟩
        | cons _ _ => simp [VL] at hx
    have htt : ts = #[t] := by apply Array.ext'; simpa using hts
    subst htt
    cases hl : aclear P A t x with
    | none => rw [hl] at h; cases h
    | some y =>
      rw [hl] at h; cases h
      obtain ⟨w', g1, g2⟩ := clear_sound (P := P) (ty := ty) hr (hx.2 0 _ _ rfl rfl) hl
      exact ⟨ρ, .tuple #[], w', by simp only [builtin, Sem.run_bind, g1, Result.andThen_ok, Sem.run_pure], VL.tuple .nil, g2⟩
  · rename_i x y
    obtain ⟨r1, r2, rfl⟩ : ∃ r1 r2, rs = [r1, r2] := by
      match rs, hx with
      | [a, b], _ => exact ⟨a, b, rfl⟩
      | [], h => simp [VL] at h
      | [_], h => simp [VL] at h
      | _ :: _ :: _ :: _, h => simp [VL] at h
    have h1 : VR ρ x r1 := hx.2 0 _ _ rfl rfl
    have h2 : VR ρ y r2 := hx.2 1 _ _ rfl rfl
    unfold amin2 at h
    split at h
    · cases h1; cases h2; cases h
      exact ⟨ρ, _, w, rfl, .int _ _, Step.refl hr⟩
    · cases h
  · rename_i x y
    obtain ⟨r1, r2, rfl⟩ : ∃ r1 r2, rs = [r1, r2] := by
      match rs, hx with
      | [a, b], _ => exact ⟨a, b, rfl⟩
      | [], h => simp [VL] at h
      | [_], h => simp [VL] at h
      | _ :: _ :: _ :: _, h => simp [VL] at h
    have h1 : VR ρ x r1 := hx.2 0 _ _ rfl rfl
    have h2 : VR ρ y r2 := hx.2 1 _ _ rfl rfl
    unfold amin2 at h
    split at h
    · cases h1; cases h2; cases h
      exact ⟨ρ, _, w, rfl, .int _ _, Step.refl hr⟩
    · cases h
  · cases h

end Go.AB
