/-
  Lengths, composite values, function values, appending.
-/
import Derived.Test.YtcbmjgagbfhigaaXA6
namespace Go.AB
open Go
set_option linter.unusedSimpArgs false
set_option linter.unusedVariables false

def alen (P : Program) (A : AHeap) (t : TypeId) (x : Value) : Option Value :=
  match P.underlying t, x with
  | some .string, .string s => some (goInt s.size)
  | some (.array n _), _ => some (goInt n)
  | some (.slice _), .slice _ n _ => some (goInt n)
  | some (.map _ _), .map none => some (goInt 0)
  | some (.map _ _), .map (some r) => match A.f r with
    | some (.map es _) => some (goInt es.length)
    | _ => none
  | _, _ => none

theorem VR.map_inv {ρ : Rho} {i : Nat} {r : Value} (h : VR ρ (.map (some i)) r) : ∃ e, ρ i = some e ∧ r = .map (some e.blk) := by
  cases h with
  | map i e h => exact ⟨e, h, rfl⟩

theorem map_obj {ρ : Rho} {A : AHeap} {w : World} {i clock : Nat} {e : Ent} {es : List MapEntry} (h : Rel ρ A w) (hi : ρ i = some e) (hf : A.f i = some (.map es clock)) :
    ∃ ents, w.heap[e.blk]? = some (.map ents clock) ∧ MapR ρ es ents clock := by
  obtain ⟨ob, h1, h2⟩ := h.obj i e hi
  rw [hf] at h1; cases h1
  exact h2

theorem getMap {P : Program} {w : World} {r : Nat} {es : Array MapEntry} {clock : Nat} (h : w.heap[r]? = some (.map es clock)) :
    (getObj r).run P w = .ok (.map es clock) w := by simp [getObj, Sem.run, h]
theorem setMap {P : Program} {w : World} {r : Nat} {es : Array MapEntry} {clock : Nat} (o : Obj) (h : w.heap[r]? = some (.map es clock)) :
    (setObj r o).run P w = .ok () { w with heap := w.heap.setIfInBounds r o } := by simp [setObj, Sem.run, h]

theorem len_sound {P : Program} {ρ : Rho} {A : AHeap} {w : World} {t : TypeId} {x r v : Value} (hr : Rel ρ A w) (hx : VR ρ x r) (h : alen P A t x = some v) (ty : TypeId) :
    (Builtin.len_ #[t] ty #[r]).run P w = .ok v w := by
  unfold alen at h
  split at h
  · rename_i s hu; cases hx; cases h
    simp [Builtin.len_, run_und hu]
  · rename_i n e hu; cases h
    simp [Builtin.len_, run_und hu]
  · rename_i el a n c hu
    cases h
    cases hx <;> simp [Builtin.len_, run_und hu]
  · rename_i k e hu; cases hx; cases h
    simp [Builtin.len_, run_und hu]
  · rename_i k e r0 hu
    obtain ⟨en, he, rfl⟩ := hx.map_inv
    split at h
    · rename_i es ver hf
      cases h
      obtain ⟨ents, h1, h2⟩ := map_obj hr he hf
      simp only [Builtin.len_, Sem.run_bind, Sem.run_pure]
      simp [run_und hu, getMap h1, h2.size]
    · cases h
  · cases h

/-- the places of a struct's fields -/
def places (P : Program) (t : TypeId) : Option (List (Nat × Nat)) :=
  match P.underlying t with
  | some (.struct fs) => fs.toList.mapM fun f => (szOf P f.type).map fun n => (f.offset, n)
  | _ => none

/-- parts laid into cells -/
def afill (place : Nat → Option (Nat × Nat)) (cells : List Value) : List (Nat × Value) → Option (List Value)
  | [] => some cells
  | (i, v) :: rest => match place i, acells v with
    | some (off, size), some vs => if vs.length = size then (putCells cells off vs).bind fun c => afill place c rest else none
    | _, _ => none

def abuild (P : Program) (t : TypeId) (parts : List (Nat × Value)) : Option Value :=
  match zcells P t with
  | none => none
  | some z => match P.underlying t with
    | some (.struct _) => match places P t with
      | some ps => (afill (ps[·]?) z parts).map fun l => .agg ⟨l⟩
      | none => none
    | some (.array _ e) => match szOf P e with
      | some n => (afill (fun i => some (i * n, n)) z parts).map fun l => .agg ⟨l⟩
      | none => none
    | _ => none

theorem foldl_put (l : List Value) : ∀ (j0 off : Nat) (c : Array Value), off + j0 + l.length ≤ c.size →
    ((l.zipIdx j0).foldl (fun cs (x : Value × Nat) => cs.setIfInBounds (off + x.2) x.1) c).toList = c.toList.take (off + j0) ++ l ++ c.toList.drop (off + j0 + l.length) := by
  induction l with
  | nil => intro j0 off c h; simp
  | cons v l ih =>
    intro j0 off c h
    simp only [List.zipIdx_cons, List.foldl_cons]
    have hlen : off + (j0 + 1) + l.length ≤ (c.setIfInBounds (off + j0) v).size := by simp at h ⊢; omega
    rw [ih (j0 + 1) off _ hlen]
    apply List.ext_getElem?
    intro k
    have hc : c.toList.length = c.size := by simp
    simp only [List.length_cons] at h
    simp only [List.length_cons, Array.toList_setIfInBounds, List.append_assoc]
    rw [List.getElem?_append, List.getElem?_append, List.getElem?_append, List.getElem?_append]
    simp only [List.length_take, List.length_set, hc, List.getElem?_take, List.getElem?_drop, List.getElem?_set, List.length_cons]
    have m1 : min (off + (j0 + 1)) c.size = off + j0 + 1 := by omega
    have m2 : min (off + j0) c.size = off + j0 := by omega
    rw [m1, m2]
    by_cases h1 : k < off + j0
    · rw [if_pos (by omega), if_pos (by omega), if_neg (by omega), if_pos h1, if_pos h1]
    · by_cases h2 : k = off + j0
      · subst h2
        rw [if_pos (by omega), if_pos (by omega), if_pos rfl, if_pos (by omega), if_neg (by omega), if_pos (by omega)]
        simp
      · have e1 : ¬ k < off + j0 + 1 := by omega
        rw [if_neg e1, if_neg h1]
        by_cases h3 : k < off + j0 + 1 + l.length
        · rw [if_pos (by omega), if_pos (by omega)]
          have : k - (off + j0) = (k - (off + j0 + 1)) + 1 := by omega
          rw [this, List.getElem?_cons_succ]
        · rw [if_neg (by omega), if_neg (by omega), if_neg (by omega)]
          congr 1; omega

theorem putCells_VL {ρ : Rho} {cs rs vs us cs' : List Value} {o : Nat} (h : VL ρ cs rs) (hv : VL ρ vs us) (hp : putCells cs o vs = some cs') :
    VL ρ cs' (rs.take o ++ us ++ rs.drop (o + us.length)) := by
  unfold putCells at hp
  split at hp
  · cases hp
    rw [← hv.1]
    exact ((h.take o).append hv).append (h.drop _)
  · cases hp

theorem fill_sound {ρ : Rho} {place : Nat → Option (Nat × Nat)} : ∀ {parts : List (Nat × Value)} {parts' : List (Nat × Value)} {cs cs' rs : List Value},
    VL ρ cs rs → parts.length = parts'.length → (∀ (i : Nat) p p', parts[i]? = some p → parts'[i]? = some p' → p.1 = p'.1 ∧ VR ρ p.2 p'.2) →
    afill place cs parts = some cs' → ∃ rs', Instr.fill place ⟨rs⟩ parts' = some ⟨rs'⟩ ∧ VL ρ cs' rs' := by
  intro parts
  induction parts with
  | nil =>
    intro parts' cs cs' rs h hl _ hf
    cases parts' with
    | nil => simp [afill] at hf; subst hf; exact ⟨rs, rfl, h⟩
    | cons _ _ => simp at hl
  | cons p parts ih =>
    intro parts' cs cs' rs h hl hp hf
    cases parts' with
    | nil => simp at hl
    | cons p' parts' =>
      obtain ⟨i, v⟩ := p
      obtain ⟨i', v'⟩ := p'
      obtain ⟨h1, h2⟩ := hp 0 _ _ rfl rfl
      simp only at h1 h2
      subst h1
      simp only [afill] at hf
      split at hf
      · rename_i off size vs hpl hac
        split at hf
        · rename_i hsz
          cases hput : putCells cs off vs with
          | none => rw [hput] at hf; cases hf
          | some c1 =>
            rw [hput] at hf
            simp only [Option.bind_some] at hf
            obtain ⟨g1, _, _⟩ := acells_sound h2 hac
            have hvl : v'.cells.toList.length = vs.length := g1.1.symm
            have hvs : v'.cells.size = size := by rw [← hsz, ← hvl]; simp
            have hle : off + vs.length ≤ cs.length := by
              unfold putCells at hput; split at hput
              · assumption
              · cases hput
            have hle' : off + v'.cells.size ≤ rs.length := by rw [← h.1, hvs, ← hsz]; exact hle
            have hfold := foldl_put v'.cells.toList 0 off ⟨rs⟩ (by simp; omega)
            obtain ⟨rs', k1, k2⟩ := ih (parts' := parts') (putCells_VL h g1 hput) (by simpa using hl) (fun j p p' a b => hp (j + 1) p p' (by simpa using a) (by simpa using b)) hf
            refine ⟨rs', ?_, k2⟩
            simp only [Instr.fill, hpl]
            rw [if_neg (by simp [hvs]; omega)]
            rw [← k1]
            congr 1
            apply Array.ext'
            have : (v'.cells.zipIdx.foldl (fun cs (x : Value × Nat) => cs.setIfInBounds (off + x.2) x.1) (⟨rs⟩ : Array Value)) =
                ((v'.cells.toList.zipIdx 0).foldl (fun cs (x : Value × Nat) => cs.setIfInBounds (off + x.2) x.1) (⟨rs⟩ : Array Value)) := by
              rw [← Array.foldl_toList, Array.toList_zipIdx]
            rw [this, hfold]
            simp
        · cases hf
      · cases hf

theorem run_places {P : Program} {t : TypeId} {fs : Array Field} {ps : List (Nat × Nat)} (hu : P.underlying t = some (.struct fs)) (h : places P t = some ps) (w : World) :
    (fs.mapM (m := Sem) fun f => do pure (f.offset, ← sizeOf f.type)).run P w = .ok ⟨ps⟩ w := by
  unfold places at h
  rw [hu] at h
  simp only at h
  rw [Array.mapM_eq_mapM_toList]
  simp only [Sem.run_map]
  have key : ∀ (l : List Field) (q : List (Nat × Nat)), (l.mapM fun f => (szOf P f.type).map fun n => (f.offset, n)) = some q →
      (l.mapM (m := Sem) fun f => do pure (f.offset, ← sizeOf f.type)).run P w = .ok q w := by
    intro l
    induction l with
    | nil => intro q hq; simp at hq; subst hq; simp
    | cons f l ih =>
      intro q hq
      rw [List.mapM_cons] at hq
      cases hs : szOf P f.type with
      | none => rw [hs] at hq; simp at hq
      | some n =>
        rw [hs] at hq
        simp only [Option.map_some, Option.bind_eq_bind, Option.bind_some] at hq
        cases hr : (l.mapM fun f => (szOf P f.type).map fun n => (f.offset, n)) with
        | none => rw [hr] at hq; cases hq
        | some q' =>
          rw [hr] at hq; cases hq
          rw [List.mapM_cons]
          simp only [Sem.run_bind, run_szOf hs, Result.andThen_ok, Sem.run_pure, ih _ hr]
  rw [key _ _ h]
  rfl

theorem build_sound {P : Program} {ρ : Rho} {t : TypeId} {parts parts' : List (Nat × Value)} {v : Value}
    (hl : parts.length = parts'.length) (hp : ∀ (i : Nat) p p', parts[i]? = some p → parts'[i]? = some p' → p.1 = p'.1 ∧ VR ρ p.2 p'.2)
    (h : abuild P t parts = some v) (w : World) : ∃ r, (Instr.build t ⟨parts'⟩).run P w = .ok r w ∧ VR ρ v r := by
  unfold abuild at h
  split at h
  · cases h
  · rename_i z hz
    obtain ⟨zv, h1, h2, _, h4⟩ := zcells_run hz w
    have hzz : zv.cells = ⟨z⟩ := by apply Array.ext'; rw [h2]
    split at h
    · rename_i fs hu
      split at h
      · rename_i ps hps
        cases hf : afill (ps[·]?) z parts with
        | none => rw [hf] at h; cases h
        | some l =>
          rw [hf] at h; cases h
          obtain ⟨rs', k1, k2⟩ := fill_sound (plainL_self (ρ := ρ) h4) hl hp hf
          refine ⟨.agg ⟨rs'⟩, ?_, k2.agg⟩
          have hpl : (fun i : Nat => ps[i]?) = fun i : Nat => (⟨ps⟩ : Array (Nat × Nat))[i]? := by funext i; simp
          rw [hpl] at k1
          simp only [Instr.build, Sem.run_bind, h1, Result.andThen_ok, run_und hu, hzz, run_places hu hps, k1, Sem.run_pure]
      · cases h
    · rename_i n e hu
      split at h
      · rename_i sz hsz
        cases hf : afill (fun i => some (i * sz, sz)) z parts with
        | none => rw [hf] at h; cases h
        | some l =>
          rw [hf] at h; cases h
          obtain ⟨rs', k1, k2⟩ := fill_sound (plainL_self (ρ := ρ) h4) hl hp hf
          refine ⟨.agg ⟨rs'⟩, ?_, k2.agg⟩
          simp only [Instr.build, Sem.run_bind, h1, Result.andThen_ok, run_und hu, hzz, run_szOf hsz, k1, Sem.run_pure]
      · cases h
    · cases h

end Go.AB
