/-
  One operation; calls; methods.
-/
import Derived.Test.YtcbmjgagbfhigaaXB4
namespace Go.AB
open Go
set_option linter.unusedSimpArgs false
set_option linter.unusedVariables false

/-- a step of an iterator over a string -/
def anextStr (A : AHeap) (it : Value) : Option (Value × AHeap) :=
  match it with
  | .pointer (some ⟨r, 0, none⟩) => match A.f r with
    | some (.siter s pos) =>
      if pos < s.size then some (.tuple ⟨[.bool true, goInt pos, .int .i32 (Utf8.decode s pos).1]⟩, A.set r (.siter s (pos + (Utf8.decode s pos).2)))
      else some (.tuple ⟨[.bool false]⟩, A)
    | _ => none
  | _ => none

theorem nextStr_sound {P : Program} {ρ : Rho} {A A' : AHeap} {w : World} {it rit v : Value} (hr : Rel ρ A w) (hx : VR ρ it rit) (h : anextStr A it = some (v, A')) (ty : TypeId) :
    ∃ r' w', (Instr.next rit true ty).run P w = .ok r' w' ∧ VR ρ v r' ∧ Step ρ A w ρ A' w' := by
  unfold anextStr at h
  split at h
  · rename_i r
    obtain ⟨e, he, rfl⟩ := hx.ptr_inv
    split at h
    · rename_i s pos hf
      obtain ⟨ob, g1, g2⟩ := hr.obj _ _ he
      rw [hf] at g1; cases g1
      obtain ⟨g3, g4⟩ := g2
      have hptr : (⟨e.blk, e.sh + 0, none⟩ : Addr) = ⟨e.blk, 0, none⟩ := by rw [g4]
      have hget : (getObj e.blk).run P w = .ok (.stringIter s pos) w := by simp [getObj, Sem.run, g3]
      have hset : ∀ o, (setObj e.blk o).run P w = .ok () { w with heap := w.heap.setIfInBounds e.blk o } := by intro o; simp [setObj, Sem.run, g3]
      rw [hptr]
      split at h
      · rename_i hp
        cases h
        refine ⟨.tuple #[.bool true, goInt pos, .int .i32 (Utf8.decode s pos).1], _, ?_, VL.tuple (.cons (.bool _) (.cons (.int _ _) (.cons (.int _ _) .nil))),
          Step.set hr he _ (.stringIter s (pos + (Utf8.decode s pos).2)) (by unfold writable; rw [hf]; trivial) ⟨Array.getElem?_setIfInBounds_self_of_lt (hr.bnd _ _ he), g4⟩⟩
        simp only [Instr.next, Sem.run_bind, hget, Result.andThen_ok, if_pos hp, hset, Sem.run_pure]
      · rename_i hp
        cases h
        refine ⟨.tuple #[.bool false], w, ?_, VL.tuple (.cons (.bool _) .nil), Step.refl hr⟩
        simp only [Instr.next, Sem.run_bind, hget, Result.andThen_ok, if_neg hp, Sem.run_pure]
    · cases h
  · cases h

def evParts (ev : Operand → Value) (ps : Array (Nat × Operand)) : List (Nat × Value) := ps.toList.map fun p => (p.1, ev p.2)

/-- an operation that is no call, but for steps of iterators over maps -/
def aop (P : Program) (o : Op) (ev : Operand → Value) (A : AHeap) : Option (Value × AHeap) :=
  match o with
  | .move x => some (ev x, A)
  | .assign x => some (ev x, A)
  | .pick c a b => (apick (ev c) (ev a) (ev b)).map (·, A)
  | .alloc e => aalloc P A e
  | .box _ x => abox A (ev x)
  | .build t ps => (abuild P t (evParts ev ps)).map (·, A)
  | .buildSlice t len ps => abuildSlice P A t len (evParts ev ps)
  | .load t a => (aload P A t (ev a)).map (·, A)
  | .store t a x => (astore P A t (ev a) (ev x)).map (.tuple ⟨[]⟩, ·)
  | .nilCheck x => (anilCheck (ev x)).map (·, A)
  | .binOp op t x y _ => (abin P op t (ev x) (ev y)).map (·, A)
  | .unOp op _ x => (aunary op (ev x)).map (·, A)
  | .convert s d x => (aconvert P s d (ev x)).map (·, A)
  | .makeInterface t x => (amakeInterface P t (ev x)).map (·, A)
  | .makeFunc fn f c => some (.func fn (f.map ev) (c.map ev), A)
  | .makeMap t r => amakeMap P A t (r.map ev)
  | .slice t x lo hi mx => (aslice P A t (ev x) (lo.map ev) (hi.map ev) (mx.map ev)).map (·, A)
  | .fieldAddr s x f => (afieldAddr P s (ev x) f).map (·, A)
  | .field s x f => (afield P s (ev x) f).map (·, A)
  | .indexAddr t x i => (aindexAddr P t (ev x) (ev i)).map (·, A)
  | .index t x i => (aindex P t (ev x) (ev i)).map (·, A)
  | .lookup t x i ok => (alookup P A t (ev x) (ev i) ok).map (·, A)
  | .mapUpdate t m k x => (amapUpdate P A t (ev m) (ev k) (ev x)).map (.tuple ⟨[]⟩, ·)
  | .insert t m k x => (amapUpdate P A t (ev m) (ev k) (ev x)).map (.tuple ⟨[]⟩, ·)
  | .mapEntry t m k => amapEntry P A t (ev m) (ev k)
  | .entryStore _ m s x => (aentryStore A (ev m) (ev s) (ev x)).map (.tuple ⟨[]⟩, ·)
  | .range t x => arange P A t (ev x)
  | .next it true => anextStr A (ev it)
  | .entry it => (aentry A (ev it)).map (·, A)
  | .typeAssert x _ a ok => (atypeAssert P (ev x) a ok).map (·, A)
  | .extract t i => (aextract (ev t) i).map (·, A)
  | .call ⟨.builtin b, xs, ts⟩ => abuiltin P A b ts.toList (xs.toList.map ev)
  | _ => none

/-- what an operation comes to in the model -/
def OpDone (P : Program) (R : Value → World → Prop) : Result Next → Prop
  | .ok (.value v) w => R v w
  | .ok .skip w => R undef w
  | .ok (.enter f args) w => Calls P f args w fun e w' => ∃ v, e = .returned v ∧ R v w'
  | .ok (.row row args) w => Rows P row args w R
  | _ => False

/-- what stands for an abstract outcome -/
def Out (ρ : Rho) (A : AHeap) (w : World) (K : Value → AHeap → Prop) (r : Value) (w' : World) : Prop :=
  ∃ ρ' v A', K v A' ∧ VR ρ' v r ∧ Step ρ A w ρ' A' w'

theorem evParts_VR {ρ : Rho} {ev rev : Operand → Value} (he : ∀ x, VR ρ (ev x) (rev x)) (ps : Array (Nat × Operand)) :
    (evParts ev ps).length = (evParts rev ps).length ∧
    ∀ (i : Nat) p p', (evParts ev ps)[i]? = some p → (evParts rev ps)[i]? = some p' → p.1 = p'.1 ∧ VR ρ p.2 p'.2 := by
  refine ⟨by simp [evParts], fun i p p' h h' => ?_⟩
  unfold evParts at h h'
  rw [List.getElem?_map] at h h'
  cases hx : ps.toList[i]? with
  | none => rw [hx] at h; cases h
  | some q => rw [hx] at h h'; cases h; cases h'; exact ⟨rfl, he _⟩

theorem map_VL {ρ : Rho} {ev rev : Operand → Value} (he : ∀ x, VR ρ (ev x) (rev x)) (xs : List Operand) : VL ρ (xs.map ev) (xs.map rev) := by
  induction xs with
  | nil => exact .nil
  | cons x xs ih => exact .cons (he x) ih

theorem opt_VO {ρ : Rho} {ev rev : Operand → Value} (he : ∀ x, VR ρ (ev x) (rev x)) (x : Option Operand) : VO ρ (x.map ev) (x.map rev) := by
  cases x <;> first | trivial | exact he _

theorem parts_eq (rev : Operand → Value) (ps : Array (Nat × Operand)) : (ps.map fun (i, x) => (i, rev x)) = ⟨evParts rev ps⟩ := by
  apply Array.ext'; simp [evParts]

theorem aop_sound {P : Program} (F : Fine P) {ρ : Rho} {A A' : AHeap} {w : World} {o : Oper} {ev rev : Operand → Value} {v : Value} (hr : Rel ρ A w) (he : ∀ x, VR ρ (ev x) (rev x))
    (h : aop P o.op ev A = some (v, A')) (K : Value → AHeap → Prop) (hK : K v A') : OpDone P (Out ρ A w K) ((execOp rev o).run P w) := by
  have val : ∀ {r : Value} {s : Sem Value}, s.run P w = .ok r w → VR ρ v r → A' = A → OpDone P (Out ρ A w K) ((do pure (.value (← s)) : Sem Next).run P w) := by
    intro r s h1 h2 h3
    subst h3
    simp only [Sem.run_bind, h1, Result.andThen_ok, Sem.run_pure]
    exact ⟨ρ, v, _, hK, h2, Step.refl hr⟩
  have val' : ∀ {s : Sem Value}, (∃ ρ' r w', s.run P w = .ok r w' ∧ VR ρ' v r ∧ Step ρ A w ρ' A' w') → OpDone P (Out ρ A w K) ((do pure (.value (← s)) : Sem Next).run P w) := by
    rintro s ⟨ρ', r, w', h1, h2, h3⟩
    simp only [Sem.run_bind, h1, Result.andThen_ok, Sem.run_pure]
    exact ⟨ρ', v, _, hK, h2, h3⟩
  have unit : ∀ {s : Sem Unit}, v = .tuple ⟨[]⟩ → (∃ w', s.run P w = .ok () w' ∧ Step ρ A w ρ A' w') → OpDone P (Out ρ A w K) ((do s; pure .skip : Sem Next).run P w) := by
    rintro s hv ⟨w', h1, h3⟩
    simp only [Sem.run_bind, h1, Result.andThen_ok, Sem.run_pure]
    exact ⟨ρ, v, _, hK, by rw [hv]; exact VL.tuple .nil, h3⟩
  have one : ∀ {x : Option Value}, x.map (·, A) = some (v, A') → x = some v ∧ A' = A := by
    intro x hx; cases x <;> cases hx; exact ⟨rfl, rfl⟩
  have two : ∀ {x : Option AHeap}, x.map ((.tuple ⟨[]⟩ : Value), ·) = some (v, A') → x = some A' ∧ v = .tuple ⟨[]⟩ := by
    intro x hx; cases x <;> cases hx; exact ⟨rfl, rfl⟩
  obtain ⟨dst, op, ty, pos, after, guard⟩ := o
  simp only at h
  unfold aop at h
  split at h
  · cases h; exact ⟨ρ, _, _, hK, he _, Step.refl hr⟩
  · cases h; exact ⟨ρ, _, _, hK, he _, Step.refl hr⟩
  · rename_i c a b
    obtain ⟨h1, h2⟩ := one h
    subst h2
    unfold apick at h1
    split at h1
    · rename_i t ht
      cases h1
      have hc := he c
      rw [ht] at hc
      cases hrc : rev c <;> rw [hrc] at hc <;> cases hc
      have hrun : (execOp rev { dst := dst, op := Op.pick c a b, type := ty, pos := pos, after := after, guard := guard }).run P w = .ok (.value (if t then rev a else rev b)) w := by
        simp [execOp, hrc, asBool]
      rw [hrun]
      refine ⟨ρ, _, _, hK, ?_, Step.refl hr⟩
      cases t <;> exact he _
    · cases h1
  · rename_i e; exact val' (alloc_sound hr h)
  · rename_i e x; exact val' (box_sound hr (he x) h)
  · rename_i t ps
    obtain ⟨h1, h2⟩ := one h
    obtain ⟨r, k1, k2⟩ := build_sound (P := P) (evParts_VR he ps).1 (evParts_VR he ps).2 h1 w
    refine val (r := r) ?_ k2 h2
    rw [parts_eq]; exact k1
  · rename_i t len ps
    obtain ⟨ρ', r, w', k1, k2, k3⟩ := buildSlice_sound (P := P) hr (evParts_VR he ps).1 (evParts_VR he ps).2 h
    refine val' ⟨ρ', r, w', ?_, k2, k3⟩
    rw [parts_eq]; exact k1
  · rename_i t a
    obtain ⟨h1, h2⟩ := one h
    obtain ⟨r, k1, k2⟩ := load_sound (P := P) hr (he a) h1
    exact val k1 k2 h2
  · rename_i t a x
    obtain ⟨h1, h2⟩ := two h
    exact unit h2 (store_sound hr (he a) (he x) h1)
  · rename_i x
    obtain ⟨h1, h2⟩ := one h
    subst h2
    unfold anilCheck at h1
    split at h1
    · rename_i a hx
      cases h1
      have hc := he x
      rw [hx] at hc
      cases hrc : rev x with
      | pointer p =>
        cases p with
        | none => rw [hrc] at hc; cases hc
        | some p =>
          have hrun : (execOp rev { dst := dst, op := Op.nilCheck x, type := ty, pos := pos, after := after, guard := guard }).run P w = .ok (.value (.pointer (some p))) w := by
            simp [execOp, hrc]
          rw [hrun]
          exact ⟨ρ, _, _, hK, by rw [← hrc, ← hx]; exact he x, Step.refl hr⟩
      | _ => rw [hrc] at hc; cases hc
    · cases h1
  · rename_i op t x y yt
    obtain ⟨h1, h2⟩ := one h
    exact val (abin_sound F (he x) (he y) h1 w) (plain1_self (abin_plain h1)) h2
  · rename_i op t x
    obtain ⟨h1, h2⟩ := one h
    obtain ⟨r, k1, k2⟩ := unary_sound (P := P) (he x) h1 w
    exact val k1 k2 h2
  · rename_i s d x
    obtain ⟨h1, h2⟩ := one h
    obtain ⟨r, k1, k2⟩ := convert_sound (P := P) (he x) h1 w
    exact val k1 k2 h2
  · rename_i t x
    obtain ⟨h1, h2⟩ := one h
    obtain ⟨r, k1, k2⟩ := makeInterface_sound (P := P) (he x) h1 w
    exact val k1 k2 h2
  · rename_i fn f c
    cases h
    refine val (r := .func fn (f.map rev) (c.map rev)) rfl ?_ rfl
    refine .func _ _ _ _ _ (by simp) (by simp) ?_ ?_
    · intro i v v' h1 h2
      simp only [Array.getElem?_map] at h1 h2
      cases hx : f[i]? with
      | none => rw [hx] at h1; cases h1
      | some q => rw [hx] at h1 h2; cases h1; cases h2; exact he q
    · intro i v v' h1 h2
      simp only [Array.getElem?_map] at h1 h2
      cases hx : c[i]? with
      | none => rw [hx] at h1; cases h1
      | some q => rw [hx] at h1 h2; cases h1; cases h2; exact he q
  · rename_i t r; exact val' (makeMap_sound hr (opt_VO he r) h)
  · rename_i t x lo hi mx
    obtain ⟨h1, h2⟩ := one h
    obtain ⟨r, k1, k2⟩ := slice_sound (P := P) hr (he x) (opt_VO he lo) (opt_VO he hi) (opt_VO he mx) h1
    exact val k1 k2 h2
  · rename_i s x f
    obtain ⟨h1, h2⟩ := one h
    obtain ⟨r, k1, k2⟩ := fieldAddr_sound (P := P) (he x) h1 w
    exact val k1 k2 h2
  · rename_i s x f
    obtain ⟨h1, h2⟩ := one h
    obtain ⟨r, k1, k2⟩ := field_sound (P := P) (he x) h1 w
    exact val k1 k2 h2
  · rename_i t x i
    obtain ⟨h1, h2⟩ := one h
    obtain ⟨r, k1, k2⟩ := indexAddr_sound (P := P) (he x) (he i) h1 w
    exact val k1 k2 h2
  · rename_i t x i
    obtain ⟨h1, h2⟩ := one h
    obtain ⟨r, k1, k2⟩ := index_sound (P := P) (he x) (he i) h1 w
    exact val k1 k2 h2
  · rename_i t x i ok
    obtain ⟨h1, h2⟩ := one h
    obtain ⟨r, k1, k2⟩ := lookup_sound F hr (he x) (he i) h1
    exact val k1 k2 h2
  · rename_i t m k x
    obtain ⟨h1, h2⟩ := two h
    exact unit h2 (mapUpdate_sound F hr (he m) (he k) (he x) h1)
  · rename_i t m k x
    obtain ⟨h1, h2⟩ := two h
    exact unit h2 (mapUpdate_sound F hr (he m) (he k) (he x) h1)
  · rename_i t m k
    obtain ⟨r, w', k1, k2, k3⟩ := mapEntry_sound F hr (he m) (he k) h
    exact val' ⟨ρ, r, w', k1, k2, k3⟩
  · rename_i t m s x
    obtain ⟨h1, h2⟩ := two h
    exact unit h2 (entryStore_sound hr (he m) (he s) (he x) h1)
  · rename_i t x; exact val' (range_sound hr (he x) h)
  · rename_i it
    obtain ⟨r, w', k1, k2, k3⟩ := nextStr_sound (P := P) hr (he it) h ty
    exact val' ⟨ρ, r, w', k1, k2, k3⟩
  · rename_i it
    obtain ⟨h1, h2⟩ := one h
    obtain ⟨r, k1, k2⟩ := entry_sound (P := P) hr (he it) h1
    exact val k1 k2 h2
  · rename_i x t a ok
    obtain ⟨h1, h2⟩ := one h
    obtain ⟨r, k1, k2⟩ := typeAssert_sound (P := P) (t := t) (he x) h1 w
    exact val k1 k2 h2
  · rename_i t i
    obtain ⟨h1, h2⟩ := one h
    obtain ⟨r, k1, k2⟩ := extract_sound (P := P) (he t) h1 w
    exact val k1 k2 h2
  · rename_i b xs ts
    obtain ⟨ρ', r, w', k1, k2, k3⟩ := builtin_sound F (ts := ts) hr (map_VL he xs.toList) h ty (xs.map fun | .const _ => true | _ => false)
    have hx : xs.map rev = ⟨xs.toList.map rev⟩ := by apply Array.ext'; simp
    have hrun : (execOp rev { dst := dst, op := Op.call ⟨.builtin b, xs, ts⟩, type := ty, pos := pos, after := after, guard := guard }).run P w = .ok (.value r) w' := by
      simp only [execOp, resolve, Sem.run_bind, Sem.run_pure, Result.andThen_ok, invoke, hx]
      exact k1
    rw [hrun]
    exact ⟨ρ', v, A', hK, k2, k3⟩
  · cases h

end Go.AB
