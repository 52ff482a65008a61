/-
  Maps: entries, deleting, ranging. Clearing a slice. min.
-/
import Derived.Test.YtcbmjgagbfhigaaXB2
namespace Go.AB
open Go
set_option linter.unusedSimpArgs false
set_option linter.unusedVariables false

theorem keyOk_veq {P : Program} {t : TypeId} {v : Value} (h : keyOk P t v = true) : veq v v = true := by
  unfold keyOk at h; simp only [Bool.and_eq_true] at h; exact h.2

def amapEntry (P : Program) (A : AHeap) (t : TypeId) (x k : Value) : Option (Value × AHeap) :=
  match mapOf P t, x with
  | some (kt, et), .map (some r) => match A.f r with
    | some (.map es clock) =>
      if keyTy P kt && keyOk P kt k && akeysOk P kt es then
        match afind k es 0 with
        | some (i, v) => (es[i]?).map fun e => (.tuple ⟨[v, goInt e.born]⟩, A.set r (.map (setVal es i v) clock))
        | none => (zval P et).map fun z => (.tuple ⟨[z, goInt clock]⟩, A.set r (.map (es ++ [⟨k, z, clock⟩]) (clock + 1)))
      else none
    | _ => none
  | _, _ => none

theorem mapEntry_sound {P : Program} (F : Fine P) {ρ : Rho} {A A' : AHeap} {w : World} {t : TypeId} {x k v rx rk : Value} (hr : Rel ρ A w) (hx : VR ρ x rx) (hk : VR ρ k rk)
    (h : amapEntry P A t x k = some (v, A')) : ∃ r w', (Instr.mapEntry t rx rk).run P w = .ok r w' ∧ VR ρ v r ∧ Step ρ A w ρ A' w' := by
  unfold amapEntry at h
  split at h
  · rename_i kt et r hm
    obtain ⟨e, he, rfl⟩ := hx.map_inv
    split at h
    · rename_i es clock hf
      split at h
      · rename_i hc
        simp only [Bool.and_eq_true] at hc
        have hrk : rk = k := veq_VR (keyOk_veq hc.1.2) hk
        subst hrk
        obtain ⟨ents, h1, h2⟩ := map_obj hr he hf
        obtain ⟨g1, g2, g3⟩ := run_find F hc.1.1 hc.1.2 hc.2 h2 w
        split at h
        · rename_i i v0 hfi
          rw [hfi] at g3
          obtain ⟨v', k1, kv, en, k3, k4, k5⟩ := g3
          cases hei : es[i]? with
          | none => rw [hei] at h; cases h
          | some a =>
            rw [hei] at h; cases h
            obtain ⟨_, hb, _⟩ := h2.each i a en hei k3
            have hmr := h2.setVal i kv k3 k4
            have hsame : (ents.modify i fun e => { e with key := rk, val := v' }) = ents.modify i fun e => { e with key := rk } := by
              apply Array.ext_getElem?
              intro j
              rw [Array.getElem?_modify, Array.getElem?_modify]
              by_cases hij : i = j
              · subst hij; rw [if_pos rfl, if_pos rfl, k3]; simp [← k5]
              · rw [if_neg hij, if_neg hij]
            rw [hsame] at hmr
            refine ⟨.tuple #[v', goInt a.born], _, ?_, VL.tuple (.cons kv (.cons (.int _ _) .nil)), map_step hr he hf hmr⟩
            simp only [Instr.mapEntry, Sem.run_bind, run_und (mapOf_some hm), Result.andThen_ok, getMap h1, g1, k1, k3, Option.map_some, Option.getD_some, k4, g2, setMap _ h1, hb, Sem.run_pure]
        · rename_i hfi
          rw [hfi] at g3
          cases hz : zval P et with
          | none => rw [hz] at h; cases h
          | some z =>
            rw [hz] at h; cases h
            obtain ⟨z1, z2⟩ := zval_run hz
            refine ⟨.tuple #[z, goInt clock], _, ?_, VL.tuple (.cons (z2 ρ) (.cons (.int _ _) .nil)), map_step hr he hf (h2.push (z2 ρ) (afind_none (keyOk_veq hc.1.2) hfi) fun ρ' => veq_self (keyOk_veq hc.1.2))⟩
            simp only [Instr.mapEntry, Sem.run_bind, run_und (mapOf_some hm), Result.andThen_ok, getMap h1, g1, g3, z1, setMap _ h1, Sem.run_pure]
      · cases h
    · cases h
  · cases h

def aentryStore (A : AHeap) (x stamp v : Value) : Option AHeap :=
  match x, stamp with
  | .map (some r), .int _ n => match A.f r with
    | some (.map es clock) => (es.findIdx? fun e => decide ((e.born : Int) = n)).map fun i => A.set r (.map (setVal es i v) clock)
    | _ => none
  | _, _ => none

theorem entryStore_sound {P : Program} {ρ : Rho} {A A' : AHeap} {w : World} {t : TypeId} {x k v rx rk rv : Value} (hr : Rel ρ A w) (hx : VR ρ x rx) (hk : VR ρ k rk) (hv : VR ρ v rv)
    (h : aentryStore A x k v = some A') : ∃ w', (Instr.entryStore t rx rk rv).run P w = .ok () w' ∧ Step ρ A w ρ A' w' := by
  unfold aentryStore at h
  split at h
  · rename_i r kd n
    obtain ⟨e, he, rfl⟩ := hx.map_inv
    cases hk
    split at h
    · rename_i es clock hf
      obtain ⟨ents, h1, h2⟩ := map_obj hr he hf
      cases hi : es.findIdx? fun e => decide ((e.born : Int) = n) with
      | none => rw [hi] at h; cases h
      | some i =>
        rw [hi] at h; cases h
        have hreal : ents.findIdx? (fun e => (e.born : Int) == n) = some i := by
          have hfl : ents.findIdx? (fun e => (e.born : Int) == n) = ents.toList.findIdx? (fun e => (e.born : Int) == n) := by cases ents; simp
          rw [hfl]
          rw [List.findIdx?_eq_some_iff_getElem] at hi ⊢
          obtain ⟨g1, g2, g3⟩ := hi
          have hlen : ents.toList.length = es.length := by simp [h2.size]
          have born : ∀ (j : Nat) (hj : j < es.length), (ents.toList[j]'(by omega)).born = es[j].born := by
            intro j hj
            have hj' : j < ents.size := by rw [h2.size]; exact hj
            have := (h2.each j es[j] ents[j] (List.getElem?_eq_getElem hj) (Array.getElem?_eq_getElem hj')).2.1
            simpa using this
          refine ⟨by omega, ?_, ?_⟩
          · rw [born i g1]; simpa using g2
          · intro j hj
            rw [born j (by omega)]
            simpa using g3 j hj
        obtain ⟨g1, _, _⟩ := List.findIdx?_eq_some_iff_getElem.1 hi
        have hlt : i < ents.size := by rw [h2.size]; exact g1
        have hmr := h2.setVal i hv (Array.getElem?_eq_getElem hlt) rfl
        have hsame : (ents.modify i fun e => { e with key := ents[i].key, val := rv }) = ents.modify i fun e => { e with val := rv } := by
          apply Array.ext_getElem?
          intro j
          rw [Array.getElem?_modify, Array.getElem?_modify]
          by_cases hij : i = j
          · subst hij; rw [if_pos rfl, if_pos rfl, Array.getElem?_eq_getElem hlt]; rfl
          · rw [if_neg hij, if_neg hij]
        rw [hsame] at hmr
        refine ⟨_, ?_, map_step hr he hf hmr⟩
        simp only [Instr.entryStore, Sem.run_bind, Sem.run_pure, Result.andThen_ok, getMap h1, asInt, asIntOf, hreal, setMap _ h1]
    · cases h
  · cases h

theorem MapR.erase {ρ : Rho} {es : List MapEntry} {ents : Array MapEntry} {clock : Nat} (h : MapR ρ es ents clock) (i : Nat) : MapR ρ (es.eraseIdx i) (ents.eraseIdxIfInBounds i) clock := by
  have hreal : ∀ (j : Nat), (ents.eraseIdxIfInBounds i)[j]? = if j < i then ents[j]? else ents[j + 1]? := by
    intro j
    rw [Array.eraseIdxIfInBounds_eq]
    split
    · rw [Array.getElem?_eraseIdx]
    · rename_i hn
      split
      · rfl
      · rw [Array.getElem?_eq_none (by omega), Array.getElem?_eq_none (by omega)]
  have habs : ∀ (j : Nat), (es.eraseIdx i)[j]? = if j < i then es[j]? else es[j + 1]? := fun j => List.getElem?_eraseIdx ..
  have place : ∀ (j : Nat) (a : MapEntry), (es.eraseIdx i)[j]? = some a → es[if j < i then j else j + 1]? = some a := by
    intro j a ha
    rw [habs] at ha
    by_cases hj : j < i
    · rw [if_pos hj] at ha ⊢; exact ha
    · rw [if_neg hj] at ha ⊢; exact ha
  have same : ∀ (j k : Nat), (if j < i then j else j + 1) = (if k < i then k else k + 1) → j = k := by
    intro j k hjk
    split at hjk <;> split at hjk <;> omega
  refine ⟨?_, ?_, ?_, ?_, ?_, fun j a ha ρ' => h.self _ a (place j a ha) ρ'⟩
  · rw [Array.eraseIdxIfInBounds_eq, List.length_eraseIdx, ← h.size]
    split
    · simp
    · rfl
  · intro j a en ha he
    rw [hreal] at he
    rw [habs] at ha
    split at ha
    · rename_i hj; rw [if_pos hj] at he; exact h.each _ a en ha he
    · rename_i hj; rw [if_neg hj] at he; exact h.each _ a en ha he
  · intro j k a b ha hb hab
    exact same j k (h.keys _ _ a b (place j a ha) (place k b hb) hab)
  · intro j k a b ha hb hab
    exact same j k (h.born _ _ a b (place j a ha) (place k b hb) hab)
  · intro j a ha
    exact h.clock _ a (place j a ha)

def adelete (P : Program) (A : AHeap) (t : TypeId) (x k : Value) : Option AHeap :=
  match mapOf P t, x with
  | some (kt, _), .map (some r) => match A.f r with
    | some (.map es clock) =>
      if keyTy P kt && keyOk P kt k && akeysOk P kt es then
        match afind k es 0 with
        | some (i, _) => some (A.set r (.map (es.eraseIdx i) clock))
        | none => some A
      else none
    | _ => none
  | _, _ => none

theorem delete_sound {P : Program} (F : Fine P) {ρ : Rho} {A A' : AHeap} {w : World} {t kt' ty : TypeId} {x k rx rk : Value} (hr : Rel ρ A w) (hx : VR ρ x rx) (hk : VR ρ k rk)
    (h : adelete P A t x k = some A') : ∃ w', (Builtin.delete_ #[t, kt'] ty #[rx, rk]).run P w = .ok (.tuple #[]) w' ∧ Step ρ A w ρ A' w' := by
  unfold adelete at h
  split at h
  · rename_i kt et r hm
    obtain ⟨e, he, rfl⟩ := hx.map_inv
    split at h
    · rename_i es clock hf
      split at h
      · rename_i hc
        simp only [Bool.and_eq_true] at hc
        have hrk : rk = k := veq_VR (keyOk_veq hc.1.2) hk
        subst hrk
        obtain ⟨ents, h1, h2⟩ := map_obj hr he hf
        obtain ⟨g1, g2, g3⟩ := run_find F hc.1.1 hc.1.2 hc.2 h2 w
        have hself : w.heap.setIfInBounds e.blk (.map ents clock) = w.heap := by
          apply Array.ext_getElem?
          intro j
          rw [Array.getElem?_setIfInBounds]
          split
          · rename_i hj; subst hj; rw [if_pos (hr.bnd _ _ he), h1]
          · rfl
        split at h
        · rename_i i v0 hfi
          rw [hfi] at g3
          obtain ⟨v', k1, _⟩ := g3
          cases h
          refine ⟨_, ?_, map_step hr he hf (h2.erase i)⟩
          simp only [Builtin.delete_, List.getElem?_toArray, List.getElem?_cons_zero, List.getElem?_cons_succ, Sem.run_bind, run_und (mapOf_some hm), Result.andThen_ok, getMap h1, g1, k1, setMap _ h1, Sem.run_pure]
        · rename_i hfi
          rw [hfi] at g3
          cases h
          refine ⟨w, ?_, Step.refl hr⟩
          simp only [Builtin.delete_, List.getElem?_toArray, List.getElem?_cons_zero, List.getElem?_cons_succ, Sem.run_bind, run_und (mapOf_some hm), Result.andThen_ok, getMap h1, g1, g3, setMap _ h1, Sem.run_pure, hself]
      · cases h
    · cases h
  · cases h

/-- clear of a slice -/
def aclear (P : Program) (A : AHeap) (t : TypeId) (x : Value) : Option AHeap :=
  match sliceOf P t with
  | none => none
  | some e => match x with
    | .slice none _ _ => some A
    | .slice (some ⟨b, o, none⟩) n c =>
      if n = 0 then some A else if c = ecap then none else
      match zcells P e, A.f b with
      | some z, some (.row cs k) => if k = .ro then none else (putCells cs o (List.replicate n z).flatten).map fun cs' => A.set b (.row cs' k)
      | _, _ => none
    | _ => none

theorem zero_list (z : Array Value) (n : Nat) : (Builtin.zeroCells z n).toList = (List.replicate n z.toList).flatten := by
  unfold Builtin.zeroCells
  apply List.ext_getElem?
  intro i
  have hl : (List.replicate n z.toList).flatten.length = n * z.size := by simp
  by_cases hi : i < n * z.size
  · have hz : 0 < z.size := by
      rcases Nat.eq_zero_or_pos z.size with h | h
      · rw [h] at hi; omega
      · exact h
    rw [Array.toList_map, List.getElem?_map, Array.toList_range, List.getElem?_range hi]
    simp only [Option.map_some]
    have hmod : i % z.size < z.size := Nat.mod_lt _ hz
    rw [getElem!_pos z (i % z.size) hmod]
    have : ∀ (n i : Nat), i < n * z.size → (List.replicate n z.toList).flatten[i]? = some (z[i % z.size]'(Nat.mod_lt _ hz)) := by
      intro n
      induction n with
      | zero => intro i hi; omega
      | succ n ih =>
        intro i hi
        rw [List.replicate_succ, List.flatten_cons, List.getElem?_append]
        rw [Array.length_toList]
        by_cases h : i < z.size
        · rw [if_pos h, Array.getElem?_toList, Array.getElem?_eq_getElem h]
          congr 1
          simp [Nat.mod_eq_of_lt h]
        · rw [if_neg h, ih _ (by rw [Nat.add_mul] at hi; omega)]
          congr 1
          have e1 : (i - z.size) % z.size = i % z.size := by
            conv => rhs; rw [show i = (i - z.size) + z.size by omega]
            rw [Nat.add_mod_right]
          simp only [e1]
    rw [this n i hi]
  · rw [List.getElem?_eq_none (by simp; omega), List.getElem?_eq_none (by omega)]

theorem clear_sound {P : Program} {ρ : Rho} {A A' : AHeap} {w : World} {t ty : TypeId} {x rx : Value} (hr : Rel ρ A w) (hx : VR ρ x rx) (h : aclear P A t x = some A') :
    ∃ w', (Builtin.clear_ #[t] ty #[rx]).run P w = .ok (.tuple #[]) w' ∧ Step ρ A w ρ A' w' := by
  unfold aclear at h
  split at h
  · cases h
  · rename_i e he
    split at h
    · cases h; cases hx
      refine ⟨w, ?_, Step.refl hr⟩
      simp only [Builtin.clear_, List.getElem?_toArray, List.getElem?_cons_zero, Sem.run_bind, run_und (sliceOf_some he), Result.andThen_ok, Sem.run_pure]
    · rename_i b o n c
      split at h
      · rename_i hn; subst hn; cases h
        have : ∃ a' c', rx = .slice (some a') 0 c' := by
          cases hx with
          | slice i o q n c e h hq hc => exact ⟨_, _, rfl⟩
          | sliceU i o q n c e h hq h1 h2 h3 => exact ⟨_, _, rfl⟩
          | sliceE a a' c => exact ⟨_, _, rfl⟩
        obtain ⟨a', c', rfl⟩ := this
        refine ⟨w, ?_, Step.refl hr⟩
        simp only [Builtin.clear_, List.getElem?_toArray, List.getElem?_cons_zero, Sem.run_bind, run_und (sliceOf_some he), Result.andThen_ok, Sem.run_pure]
      · rename_i hn
        split at h
        · cases h
        · rename_i hc
          obtain ⟨en, c', hen, rfl, _, _, _⟩ := hx.slice_inv hc
          split at h
          · rename_i z cs k hz hf
            split at h
            · cases h
            · rename_i hk
              cases hp : putCells cs o (List.replicate n z).flatten with
              | none => rw [hp] at h; cases h
              | some cs' =>
                rw [hp] at h; cases h
                obtain ⟨zv, h1, h2, _, h4⟩ := zcells_run hz w
                have hall : ((List.replicate n z).flatten).all plain1 = true := by
                  rw [List.all_flatten, List.all_eq_true]
                  intro x hx'
                  rw [(List.mem_replicate.1 hx').2]; exact h4
                have hzl : (Builtin.zeroCells zv.cells n).toList = (List.replicate n z).flatten := by rw [zero_list, h2]
                obtain ⟨w', g1, g2⟩ := run_put (P := P) hr hen hf hk hp (plainL_self hall) (vl_one (plainL_self (ρ := ρ) hall) (plainL_scalar hall)) (plainL_scalar hall)
                refine ⟨w', ?_, g2⟩
                obtain ⟨m, rfl⟩ : ∃ m, n = m + 1 := ⟨n - 1, by omega⟩
                simp only [Builtin.clear_, List.getElem?_toArray, List.getElem?_cons_zero, Sem.run_bind, run_und (sliceOf_some he), Result.andThen_ok, h1, hzl, g1, Sem.run_pure]
          · cases h
    · cases h

def amakeMap (P : Program) (A : AHeap) (t : TypeId) (hint : Option Value) : Option (Value × AHeap) :=
  match hint with
  | none => some (.map (some A.n), A.push (.map [] 0))
  | some (.int _ _) => match mapOf P t with
    | some _ => some (.map (some A.n), A.push (.map [] 0))
    | none => none
  | _ => none

theorem MapR.nil (ρ : Rho) : MapR ρ [] #[] 0 :=
  ⟨rfl, fun i a en h => by simp at h, fun i j a b h => by simp at h, fun i j a b h => by simp at h, fun i a h => by simp at h, fun i a h => by simp at h⟩

theorem makeMap_sound {P : Program} {ρ : Rho} {A A' : AHeap} {w : World} {t : TypeId} {hint rhint : Option Value} {v : Value} (hr : Rel ρ A w) (hx : VO ρ hint rhint)
    (h : amakeMap P A t hint = some (v, A')) : ∃ ρ' r w', (Instr.makeMap t rhint).run P w = .ok r w' ∧ VR ρ' v r ∧ Step ρ A w ρ' A' w' := by
  have hnew := Step.push hr (.map [] 0) (.map #[] 0) 0 0 ⟨#[], by simp, MapR.nil _⟩
  have hv : VR (ext ρ A.n ⟨w.heap.size, 0, 0, 0⟩) (.map (some A.n)) (.map (some w.heap.size)) := .map _ _ (ext_same _ _ _)
  unfold amakeMap at h
  split at h
  · cases rhint with
    | some _ => exact hx.elim
    | none =>
      cases h
      exact ⟨_, _, _, by simp [Instr.makeMap], hv, hnew⟩
  · cases rhint with
    | none => exact hx.elim
    | some r =>
      have hx : VR ρ (.int _ _) r := hx
      cases hx
      split at h
      · rename_i x hm
        cases h
        exact ⟨_, _, _, by simp [Instr.makeMap, run_und (mapOf_some hm), asInt, asIntOf], hv, hnew⟩
      · cases h
  · cases h

/-! ### ranging over maps and strings -/
def arange (P : Program) (A : AHeap) (t : TypeId) (x : Value) : Option (Value × AHeap) :=
  match P.underlying t, x with
  | some .string, .string s => some (.pointer (some ⟨A.n, 0, none⟩), A.push (.siter s 0))
  | some (.map _ _), .map (some m) => match A.f m with
    | some (.map _ clock) => some (.pointer (some ⟨A.n, 0, none⟩), A.push (.iter m clock [] clock))
    | _ => none
  | _, _ => none

theorem range_sound {P : Program} {ρ : Rho} {A A' : AHeap} {w : World} {t : TypeId} {x rx v : Value} (hr : Rel ρ A w) (hx : VR ρ x rx)
    (h : arange P A t x = some (v, A')) : ∃ ρ' r w', (Instr.range t rx).run P w = .ok r w' ∧ VR ρ' v r ∧ Step ρ A w ρ' A' w' := by
  unfold arange at h
  split at h
  · rename_i s hu; cases hx; cases h
    refine ⟨_, .pointer (some ⟨w.heap.size, 0, none⟩), _, ?_, ptr_new _ _ _ rfl, Step.push hr (.siter s 0) (.stringIter s 0) 0 0 ⟨by show (w.heap.push _)[w.heap.size]? = _; simp, rfl⟩⟩
    simp [Instr.range, run_und hu]
  · rename_i k e m hu
    obtain ⟨em, hm, rfl⟩ := hx.map_inv
    split at h
    · rename_i es clock hf
      cases h
      obtain ⟨ents, h1, h2⟩ := map_obj hr hm hf
      refine ⟨_, .pointer (some ⟨w.heap.size, 0, none⟩), _, ?_, ptr_new _ _ _ rfl,
        Step.push hr (.iter m clock [] clock) (.mapIter (some em.blk) clock #[] clock) 0 0 ⟨em, ext_sub _ hr.none_n _ _ hm, by simp, rfl⟩⟩
      simp only [Instr.range, Sem.run_bind, run_und hu, Result.andThen_ok, getMap h1, Sem.run_pure, run_newObj]
    · cases h
  · cases h

/-- what a map's iterator has left -/
def left (es : List MapEntry) (seen : List Nat) : List MapEntry := es.filter fun e => !seen.contains e.born

/-- the next step of an iterator over a map that has got no new entries since: any of what is left -/
def anextMap (A : AHeap) (it : Value) : Option (Nat × Nat × Nat × List Nat × Nat × List MapEntry × Nat) :=
  match it with
  | .pointer (some ⟨r, 0, none⟩) => match A.f r with
    | some (.iter m since seen last) => match A.f m with
      | some (.map es clock) => if clock = since && last = since then some (r, m, since, seen, last, es, clock) else none
      | _ => none
    | _ => none
  | _ => none

/-- what may come of it -/
inductive NextMap (A : AHeap) (r m since : Nat) (seen : List Nat) (es : List MapEntry) : Value → AHeap → Prop
  | over (h : left es seen = []) : NextMap A r m since seen es (.tuple ⟨[.bool false]⟩) A
  | one (e : MapEntry) (h : e ∈ left es seen) : NextMap A r m since seen es (.tuple ⟨[.bool true, e.key, e.val]⟩) (A.set r (.iter m since (seen ++ [e.born]) since))

theorem filter_array {α : Type} (p : α → Bool) (a : Array α) : a.filter p = (a.toList.filter p).toArray := by
  cases a; simp

theorem isEmpty_mk {α : Type} (l : List α) : (⟨l⟩ : Array α).isEmpty = l.isEmpty := by cases l <;> simp

theorem nextMap_sound {P : Program} {ρ : Rho} {A : AHeap} {w : World} {it rit : Value} {r m since last clock : Nat} {seen : List Nat} {es : List MapEntry} (hr : Rel ρ A w) (hx : VR ρ it rit)
    (h : anextMap A it = some (r, m, since, seen, last, es, clock)) (ty : TypeId) :
    ∃ v A' r' w', NextMap A r m since seen es v A' ∧ (Instr.next rit false ty).run P w = .ok r' w' ∧ VR ρ v r' ∧ Step ρ A w ρ A' w' := by
  unfold anextMap at h
  split at h
  · rename_i r0
    obtain ⟨e, he, rfl⟩ := hx.ptr_inv
    split at h
    · rename_i m0 since0 seen0 last0 hf
      split at h
      · rename_i es0 clock0 hfm
        split at h
        · rename_i hc
          simp only [Bool.and_eq_true, decide_eq_true_eq] at hc
          obtain ⟨rfl, rfl⟩ := hc
          cases h
          obtain ⟨ob, g1, g2⟩ := hr.obj _ _ he
          rw [hf] at g1; cases g1
          obtain ⟨em, g3, g4, gsh⟩ := g2
          obtain ⟨ents, g5, g6⟩ := map_obj hr g3 hfm
          -- the real entries that are left, against the abstract ones
          let rl : List MapEntry := ents.toList.filter fun e => !(⟨seen⟩ : Array Nat).contains e.born
          have toAbs : ∀ e' ∈ rl, ∃ a ∈ left es seen, e'.key = a.key ∧ e'.born = a.born ∧ VR ρ a.val e'.val ∧ e'.born < since := by
            intro e' he'
            obtain ⟨h1, h2⟩ := List.mem_filter.1 he'
            obtain ⟨i, hi⟩ := List.getElem?_of_mem h1
            have hlt : i < es.length := by
              have := (List.getElem?_eq_some_iff.1 hi).1
              rw [Array.length_toList, g6.size] at this; exact this
            obtain ⟨k1, k2, k3⟩ := g6.each i es[i] e' (List.getElem?_eq_getElem hlt) (by simpa using hi)
            refine ⟨es[i], List.mem_filter.2 ⟨List.getElem_mem hlt, ?_⟩, k1, k2, k3, ?_⟩
            · rw [← k2]; simpa using h2
            · rw [k2]; exact g6.clock i _ (List.getElem?_eq_getElem hlt)
          have toReal : ∀ a ∈ left es seen, ∃ e', e' ∈ rl := by
            intro a ha
            obtain ⟨h1, h2⟩ := List.mem_filter.1 ha
            obtain ⟨i, hi⟩ := List.getElem?_of_mem h1
            have hlt : i < ents.size := by
              have := (List.getElem?_eq_some_iff.1 hi).1
              rw [g6.size]; exact this
            obtain ⟨k1, k2, k3⟩ := g6.each i a ents[i] hi (Array.getElem?_eq_getElem hlt)
            refine ⟨ents[i], List.mem_filter.2 ⟨by simp, ?_⟩⟩
            rw [k2]; simpa using h2
          have hold : (ents.filter fun e => !(⟨seen⟩ : Array Nat).contains e.born).filter (fun e => decide (e.born < since)) = ⟨rl⟩ := by
            rw [filter_array, filter_array]
            congr 1
            rw [List.filter_eq_self]
            intro a ha
            obtain ⟨_, _, _, _, _, hlt⟩ := toAbs a ha
            simpa using hlt
          have hnew : (ents.filter fun e => !(⟨seen⟩ : Array Nat).contains e.born).filter (fun e => decide (e.born ≥ since)) = #[] := by
            rw [filter_array, filter_array]
            have : (rl.filter fun e => decide (e.born ≥ since)) = [] := by
              rw [List.filter_eq_nil_iff]
              intro a ha
              obtain ⟨_, _, _, _, _, hlt⟩ := toAbs a ha
              simp; omega
            show ((rl.toArray.toList).filter _).toArray = _
            rw [this]
          have hguard : (!(⟨seen⟩ : Array Nat).isEmpty && !ents.isEmpty && ents.all fun e => decide (e.born ≥ since)) = false := by
            cases hz : ents.isEmpty with
            | true => simp
            | false =>
              have hpos : 0 < ents.size := by
                rcases Nat.eq_zero_or_pos ents.size with h0 | h0
                · simp [Array.isEmpty, h0] at hz
                · exact h0
              have : (ents.all fun e => decide (e.born ≥ since)) = false := by
                rw [Bool.eq_false_iff]
                intro hall
                rw [Array.all_eq_true] at hall
                have h1 := hall 0 hpos
                have hlt : 0 < es.length := by rw [← g6.size]; exact hpos
                obtain ⟨_, k2, _⟩ := g6.each 0 es[0] ents[0] (List.getElem?_eq_getElem hlt) (Array.getElem?_eq_getElem hpos)
                have := g6.clock 0 _ (List.getElem?_eq_getElem hlt)
                simp at h1; omega
              simp [this]
          have hget : (getObj e.blk).run P w = .ok (.mapIter (some em.blk) since ⟨seen⟩ since) w := by simp [getObj, Sem.run, g4]
          have hset : ∀ (w' : World) (o : Obj), w'.heap = w.heap → (setObj e.blk o).run P w' = .ok () { w' with heap := w'.heap.setIfInBounds e.blk o } := by
            intro w' o hw'; simp [setObj, Sem.run, hw', g4]
          have hwr : writable A r := by unfold writable; rw [hf]; trivial
          have stepTo : ∀ (nd : Nat) (b : Nat), Step ρ A w ρ (A.set r (.iter m since (seen ++ [b]) since))
              { w with drawn := nd, heap := w.heap.setIfInBounds e.blk (.mapIter (some em.blk) since ((⟨seen⟩ : Array Nat).push b) since) } := by
            intro nd b
            refine (Step.drew hr nd).trans (Step.set (hr.drew nd) he _ _ hwr ?_)
            refine ⟨em, g3, ?_, gsh⟩
            rw [Array.getElem?_setIfInBounds_self_of_lt (hr.bnd _ _ he)]
            congr 2
            apply Array.ext'; simp
          have head : ∀ (nd : Nat), True := fun _ => trivial
          have hptr : (⟨e.blk, e.sh + 0, none⟩ : Addr) = ⟨e.blk, 0, none⟩ := by rw [gsh]
          have hrun : (Instr.next (.pointer (some ⟨e.blk, e.sh + 0, none⟩)) false ty).run P w =
              (do
                let candidates := (if rl.isEmpty then #[none] else #[]) ++ (⟨rl⟩ : Array MapEntry).map some
                match candidates[← choose (.mapNext candidates.size)]? with
                | some (some e') =>
                  setObj e.blk (.mapIter (some em.blk) since ((⟨seen⟩ : Array Nat).push e'.born) since)
                  pure (.tuple #[.bool true, e'.key, e'.val])
                | some none => pure (.tuple #[.bool false])
                | none => stuck "Next: no such candidate" : Sem Value).run P w := by
            rw [hptr]
            unfold Instr.next
            simp only [Sem.run_bind, Sem.run_pure, hget, Result.andThen_ok, getMap g5]
            rw [hguard]
            simp only [Bool.false_eq_true, if_false, Sem.run_bind, hold, hnew, Array.append_empty]
            simp only [isEmpty_mk]
            rfl
          cases hcase : rl with
          | nil =>
            rw [hcase] at hrun
            have hleft : left es seen = [] := by
              cases hl : left es seen with
              | nil => rfl
              | cons a l =>
                obtain ⟨e', he'⟩ := toReal a (by rw [hl]; simp)
                rw [hcase] at he'; simp at he'
            refine ⟨_, A, .tuple #[.bool false], w, .over hleft, ?_, VL.tuple (.cons (.bool false) .nil), Step.refl hr⟩
            rw [hrun]
            simp [Question.forced]
          | cons e0 rest =>
            have hcand : ((if rl.isEmpty then #[none] else #[]) ++ (⟨rl⟩ : Array MapEntry).map some) = (⟨rl.map some⟩ : Array (Option MapEntry)) := by
              rw [hcase]; apply Array.ext'; simp
            rw [hcand] at hrun
            have hlen : (⟨rl.map some⟩ : Array (Option MapEntry)).size = rl.length := by simp
            have hpos : 0 < rl.length := by rw [hcase]; simp
            obtain ⟨k, nd, hk, hch⟩ : ∃ k nd, k < rl.length ∧ (choose (.mapNext (⟨rl.map some⟩ : Array (Option MapEntry)).size)).run P w = .ok k { w with drawn := nd } := by
              rw [run_choose, hlen]
              by_cases hf1 : (Question.mapNext rl.length).forced = true
              · rw [if_pos hf1]; exact ⟨0, w.drawn, hpos, rfl⟩
              · rw [if_neg hf1]; exact ⟨_, _, Nat.mod_lt _ hpos, rfl⟩
            have hk2 : (⟨rl.map some⟩ : Array (Option MapEntry))[k]? = some (some rl[k]) := by
              simp [hk]
            obtain ⟨a, ha1, ha2, ha3, ha4, _⟩ := toAbs rl[k] (List.getElem_mem hk)
            refine ⟨_, _, .tuple #[.bool true, rl[k].key, rl[k].val], _, .one a ha1, ?_, ?_, stepTo nd a.born⟩
            · rw [hrun]
              simp only [Sem.run_bind, hch, Result.andThen_ok, hk2, hset { w with drawn := nd } _ rfl, Sem.run_pure, ha3]
            · rw [ha2]
              obtain ⟨i, hi⟩ := List.getElem?_of_mem (List.mem_filter.1 ha1).1
              exact VL.tuple (.cons (.bool true) (.cons (g6.self i a hi ρ) (.cons ha4 .nil)))
        · cases h
      · cases h
    · cases h
  · cases h

/-- the entry at which an iterator stands -/
def aentry (A : AHeap) (it : Value) : Option Value :=
  match it with
  | .pointer (some ⟨r, 0, none⟩) => match A.f r with
    | some (.iter m _ seen last) => match seen.getLast? with
      | some st => match A.f m with
        | some (.map es clock) => if clock = last then (es.find? fun e => e.born == st).map fun e => .tuple ⟨[e.key, e.val]⟩ else none
        | _ => none
      | none => none
    | _ => none
  | _ => none

theorem find_born {ρ : Rho} {st : Nat} : ∀ {es rs : List MapEntry}, es.length = rs.length → (∀ (i : Nat) (a en : MapEntry), es[i]? = some a → rs[i]? = some en → en.key = a.key ∧ en.born = a.born ∧ VR ρ a.val en.val) →
    ∀ {a : MapEntry}, es.find? (fun e => e.born == st) = some a → ∃ (i : Nat) (en : MapEntry), rs.find? (fun e => e.born == st) = some en ∧ es[i]? = some a ∧ en.key = a.key ∧ VR ρ a.val en.val
  | [], _, _, _, a, h => by simp at h
  | x :: es, [], hl, _, a, h => by simp at hl
  | x :: es, y :: rs, hl, hall, a, h => by
    obtain ⟨h1, h2, h3⟩ := hall 0 x y rfl rfl
    rw [List.find?_cons] at h ⊢
    rw [h2]
    split at h
    · cases h
      exact ⟨0, y, rfl, rfl, h1, h3⟩
    · obtain ⟨i, en, k1, k2, k3, k4⟩ := find_born (by simpa using hl) (fun i a en ha hen => hall (i + 1) a en (by simpa using ha) (by simpa using hen)) h
      exact ⟨i + 1, en, k1, by simpa using k2, k3, k4⟩

theorem entry_sound {P : Program} {ρ : Rho} {A : AHeap} {w : World} {it rit v : Value} (hr : Rel ρ A w) (hx : VR ρ it rit) (h : aentry A it = some v) :
    ∃ r, (Instr.entry rit).run P w = .ok r w ∧ VR ρ v r := by
  unfold aentry at h
  split at h
  · rename_i r0
    obtain ⟨e, he, rfl⟩ := hx.ptr_inv
    split at h
    · rename_i m since seen last hf
      split at h
      · rename_i st hst
        split at h
        · rename_i es clock hfm
          split at h
          · rename_i hc
            subst hc
            cases hfi : es.find? fun e => e.born == st with
            | none => rw [hfi] at h; cases h
            | some a =>
              rw [hfi] at h; cases h
              obtain ⟨ob, g1, g2⟩ := hr.obj _ _ he
              rw [hf] at g1; cases g1
              obtain ⟨em, g3, g4, gsh⟩ := g2
              obtain ⟨ents, g5, g6⟩ := map_obj hr g3 hfm
              obtain ⟨i, en, k1, k2, k3, k4⟩ := find_born (ρ := ρ) (es := es) (rs := ents.toList) (by rw [Array.length_toList]; exact g6.size.symm) (fun i a en ha hen => g6.each i a en ha (by simpa using hen)) hfi
              have hkey : VR ρ a.key en.key := by rw [k3]; exact g6.self i a k2 ρ
              refine ⟨.tuple #[en.key, en.val], ?_, VL.tuple (.cons hkey (.cons k4 .nil))⟩
              have hget : (getObj e.blk).run P w = .ok (.mapIter (some em.blk) since ⟨seen⟩ clock) w := by
                simp [getObj, Sem.run, g4]
              have hback : (⟨seen⟩ : Array Nat).back? = some st := by simpa [Array.back?, List.getLast?_eq_getElem?] using hst
              have hfind : ents.find? (fun e => e.born == st) = some en := by
                cases ents; simpa using k1
              simp only [Instr.entry, Sem.run_bind, gsh, Nat.add_zero, Result.andThen_ok, hget, hback, getMap g5, bne_self_eq_false, Bool.false_eq_true, if_false, hfind, Sem.run_pure]
          · cases h
        · cases h
      · cases h
    · cases h
  · cases h

end Go.AB
