/-
  Maps whose keys are vertices.
-/
import Derived.Test.YtcbmjgagbfhigaaXG3
namespace Go.AB
open Go
set_option linter.unusedSimpArgs false
set_option linter.unusedVariables false

/-- an entry -/
structure VE where
  k : List Int
  v : Value
  b : Nat

def VE.ent (x : VE) : MapEntry := ⟨vagg x.k, x.v, x.b⟩
def vents (L : List VE) : List MapEntry := L.map VE.ent

theorem vents_born (L : List VE) : (vents L).map (·.born) = L.map (·.b) := by unfold vents; rw [List.map_map]; rfl

structure VM (L : List VE) (clock : Nat) : Prop where
  ok : ∀ x ∈ L, vok x.k = true
  keys : (L.map (·.k)).Nodup
  born : (L.map (·.b)).Nodup
  clock : ∀ x ∈ L, x.b < clock

def vfind (k : List Int) : List VE → Option VE
  | [] => none
  | x :: L => if x.k = k then some x else vfind k L

def vidx (k : List Int) : List VE → Nat → Option (Nat × Value)
  | [], _ => none
  | x :: L, i => if x.k = k then some (i, x.v) else vidx k L (i + 1)

def vput (k : List Int) (v : Value) (c : Nat) : List VE → List VE
  | [] => [⟨k, v, c⟩]
  | x :: L => if x.k = k then ⟨x.k, v, x.b⟩ :: L else x :: vput k v c L

theorem afind_vents {k : List Int} (hk : vok k = true) : ∀ {L : List VE} {i : Nat}, (∀ x ∈ L, vok x.k = true) → afind (vagg k) (vents L) i = vidx k L i
  | [], _, _ => rfl
  | x :: L, i, h => by
    show (if veq (vagg x.k) (vagg k) then _ else _) = _
    rw [veq_vagg (h x (List.mem_cons_self ..)) hk]
    unfold vidx
    by_cases hx : x.k = k
    · simp [hx, VE.ent]
    · simp only [hx, decide_false, if_false]
      exact afind_vents hk fun y hy => h y (List.mem_cons_of_mem _ hy)

theorem vidx_some {k : List Int} : ∀ {L : List VE} {i j : Nat} {v : Value}, vidx k L i = some (j, v) → ∃ n x, j = i + n ∧ L[n]? = some x ∧ x.k = k ∧ x.v = v ∧ vfind k L = some x ∧
    (∀ v' c, setVal (vents L) n v' = vents (vput k v' c L))
  | [], _, _, _, h => by simp [vidx] at h
  | x :: L, i, j, v, h => by
    unfold vidx at h
    by_cases hx : x.k = k
    · rw [if_pos hx] at h
      cases h
      refine ⟨0, x, rfl, rfl, hx, rfl, by unfold vfind; rw [if_pos hx], fun v' c => ?_⟩
      unfold vput
      rw [if_pos hx]
      rfl
    · rw [if_neg hx] at h
      obtain ⟨n, y, h1, h2, h3, h4, h5, h6⟩ := vidx_some h
      refine ⟨n + 1, y, by omega, by simpa using h2, h3, h4, by unfold vfind; rw [if_neg hx]; exact h5, fun v' c => ?_⟩
      unfold vput
      rw [if_neg hx]
      show setVal (x.ent :: vents L) (n + 1) v' = x.ent :: vents (vput k v' c L)
      rw [← h6 v' c]
      rfl

theorem vidx_none {k : List Int} : ∀ {L : List VE} {i : Nat}, vidx k L i = none → vfind k L = none ∧ (∀ x ∈ L, x.k ≠ k) ∧ (∀ v c, vput k v c L = L ++ [⟨k, v, c⟩])
  | [], _, _ => ⟨rfl, fun x hx => by simp at hx, fun _ _ => rfl⟩
  | x :: L, i, h => by
    unfold vidx at h
    by_cases hx : x.k = k
    · rw [if_pos hx] at h; cases h
    · rw [if_neg hx] at h
      obtain ⟨h1, h2, h3⟩ := vidx_none h
      refine ⟨by unfold vfind; rw [if_neg hx]; exact h1, fun y hy => ?_, fun v c => by unfold vput; rw [if_neg hx, h3]; rfl⟩
      rcases List.mem_cons.1 hy with rfl | hy
      · exact hx
      · exact h2 y hy

theorem vput_keys {k : List Int} {v : Value} {c : Nat} : ∀ {L : List VE}, (vput k v c L).map (·.k) = if (vfind k L).isSome then L.map (·.k) else L.map (·.k) ++ [k]
  | [] => rfl
  | x :: L => by
    unfold vput vfind
    by_cases hx : x.k = k
    · simp [hx]
    · simp only [if_neg hx, List.map_cons, vput_keys (L := L)]
      split <;> rfl

theorem vput_born {k : List Int} {v : Value} {c : Nat} : ∀ {L : List VE}, (vput k v c L).map (·.b) = if (vfind k L).isSome then L.map (·.b) else L.map (·.b) ++ [c]
  | [] => rfl
  | x :: L => by
    unfold vput vfind
    by_cases hx : x.k = k
    · simp [hx]
    · simp only [if_neg hx, List.map_cons, vput_born (L := L)]
      split <;> rfl

theorem vfind_none {k : List Int} : ∀ {L : List VE}, vfind k L = none ↔ ∀ x ∈ L, x.k ≠ k
  | [] => by simp [vfind]
  | x :: L => by
    unfold vfind
    by_cases hx : x.k = k
    · simp [hx]
    · simp [hx, vfind_none (L := L)]

theorem vfind_some {k : List Int} {x : VE} : ∀ {L : List VE}, vfind k L = some x → x ∈ L ∧ x.k = k
  | [], h => by simp [vfind] at h
  | y :: L, h => by
    unfold vfind at h
    by_cases hx : y.k = k
    · rw [if_pos hx] at h; cases h; exact ⟨List.mem_cons_self .., hx⟩
    · rw [if_neg hx] at h
      obtain ⟨h1, h2⟩ := vfind_some h
      exact ⟨List.mem_cons_of_mem _ h1, h2⟩

theorem vfind_mem {k : List Int} {x : VE} : ∀ {L : List VE}, (L.map (·.k)).Nodup → x ∈ L → x.k = k → vfind k L = some x
  | [], _, h, _ => by simp at h
  | y :: L, hn, h, hk => by
    unfold vfind
    rw [List.map_cons, List.nodup_cons] at hn
    rcases List.mem_cons.1 h with rfl | h
    · rw [if_pos hk]
    · rw [if_neg (fun e => hn.1 (by rw [e, ← hk]; exact List.mem_map_of_mem h))]
      exact vfind_mem hn.2 h hk

theorem vfind_put {k k' : List Int} {v : Value} {c : Nat} : ∀ {L : List VE}, (vfind k' (vput k v c L)).map (·.v) = if k' = k then some v else (vfind k' L).map (·.v)
  | [] => by
    unfold vput vfind
    by_cases h : k' = k
    · subst h; simp
    · rw [if_neg h]; simp only [if_neg (fun e => h (Eq.symm e))]; rfl
  | x :: L => by
    unfold vput
    by_cases hx : x.k = k
    · rw [if_pos hx]
      unfold vfind
      by_cases h : k' = k
      · subst h; simp [hx]
      · have : ¬ x.k = k' := fun e => h (by rw [← e, hx])
        simp only [if_neg this, if_neg h]
    · rw [if_neg hx]
      unfold vfind
      by_cases h : x.k = k'
      · have : ¬ k' = k := fun e => hx (by rw [h, e])
        simp [h, this]
      · simp only [if_neg h]
        exact vfind_put (L := L)

theorem vput_mem {k : List Int} {v : Value} {c : Nat} {y : VE} : ∀ {L : List VE}, y ∈ vput k v c L → (y.k = k ∧ y.v = v) ∨ y ∈ L
  | [], h => by simp [vput] at h; subst h; exact .inl ⟨rfl, rfl⟩
  | x :: L, h => by
    unfold vput at h
    by_cases hx : x.k = k
    · rw [if_pos hx] at h
      rcases List.mem_cons.1 h with rfl | h
      · exact .inl ⟨hx, rfl⟩
      · exact .inr (List.mem_cons_of_mem _ h)
    · rw [if_neg hx] at h
      rcases List.mem_cons.1 h with rfl | h
      · exact .inr (List.mem_cons_self ..)
      · rcases vput_mem h with h | h
        · exact .inl h
        · exact .inr (List.mem_cons_of_mem _ h)

/-- the clock behind a put -/
def vclock (k : List Int) (L : List VE) (c : Nat) : Nat := if (vfind k L).isSome then c else c + 1

theorem VM.put {L : List VE} {c : Nat} (h : VM L c) {k : List Int} (hk : vok k = true) (v : Value) : VM (vput k v c L) (vclock k L c) := by
  refine ⟨fun x hx => ?_, ?_, ?_, fun x hx => ?_⟩
  · rcases vput_mem hx with ⟨h1, _⟩ | h1
    · rw [h1]; exact hk
    · exact h.ok x h1
  · rw [vput_keys]
    split
    · exact h.keys
    · rename_i hs
      rw [List.nodup_append]
      refine ⟨h.keys, by simp, fun a ha b hb e => ?_⟩
      simp only [List.mem_singleton] at hb
      subst hb; subst e
      obtain ⟨x, hx, rfl⟩ := List.mem_map.1 ha
      have : vfind x.k L = none := by simpa using hs
      exact vfind_none.1 this x hx rfl
  · rw [vput_born]
    split
    · exact h.born
    · rw [List.nodup_append]
      refine ⟨h.born, by simp, fun a ha b hb e => ?_⟩
      simp only [List.mem_singleton] at hb
      subst hb; subst e
      obtain ⟨x, hx, rfl⟩ := List.mem_map.1 ha
      exact Nat.lt_irrefl _ (h.clock x hx)
  · have hb : x.b ∈ (vput k v c L).map (·.b) := List.mem_map_of_mem hx
    rw [vput_born] at hb
    unfold vclock
    split at hb
    · rename_i hs
      rw [if_pos hs]
      obtain ⟨y, hy, e⟩ := List.mem_map.1 hb
      rw [← e]; exact h.clock y hy
    · rename_i hs
      rw [if_neg hs]
      rcases List.mem_append.1 hb with hb | hb
      · obtain ⟨y, hy, e⟩ := List.mem_map.1 hb
        rw [← e]; exact Nat.lt_succ_of_lt (h.clock y hy)
      · simp only [List.mem_singleton] at hb
        omega

theorem setVal_last (e : MapEntry) (v : Value) : ∀ es : List MapEntry, setVal (es ++ [e]) es.length v = es ++ [{ e with val := v }]
  | [] => rfl
  | a :: es => by
    show a :: setVal (es ++ [e]) es.length v = a :: (es ++ [{ e with val := v }])
    rw [setVal_last e v es]

section
variable {P : Program} {A : AHeap} {t kt et : TypeId} {m c : Nat} {L : List VE} {k : List Int}

theorem vguard (hl : layQ P kt = some vlay) (h : VM L c) (hk : vok k = true) : (keyTy P kt && keyOk P kt (vagg k) && akeysOk P kt (vents L)) = true := by
  rw [layQ_keyTy hl, vok_key hl hk]
  simp only [Bool.true_and]
  unfold akeysOk vents
  rw [List.all_map, List.all_eq_true]
  intro x hx
  exact vok_key hl (h.ok x hx)

theorem lookup_v (hm : mapOf P t = some (kt, et)) (hl : layQ P kt = some vlay) (hf : A.f m = some (.map (vents L) c)) (h : VM L c) (hk : vok k = true) (ok : Bool) :
    alookup P A t (.map (some m)) (vagg k) ok = match vfind k L with
      | some x => some (if ok then .tuple ⟨[x.v, .bool true]⟩ else x.v)
      | none => (zval P et).map fun z => if ok then .tuple ⟨[z, .bool false]⟩ else z := by
  unfold alookup
  simp only [hm, aentries, hf, vguard hl h hk, if_true, afind_vents hk h.ok]
  cases hi : vidx k L 0 with
  | none => rw [(vidx_none hi).1]
  | some x =>
    obtain ⟨j, v⟩ := x
    obtain ⟨n, y, _, _, _, h4, h5, _⟩ := vidx_some hi
    rw [h5]
    simp only [h4]

theorem update_v (hm : mapOf P t = some (kt, et)) (hl : layQ P kt = some vlay) (hf : A.f m = some (.map (vents L) c)) (h : VM L c) (hk : vok k = true) (v : Value) :
    amapUpdate P A t (.map (some m)) (vagg k) v = some (A.set m (.map (vents (vput k v c L)) (vclock k L c))) := by
  unfold amapUpdate
  simp only [hm, hf, vguard hl h hk, if_true, afind_vents hk h.ok]
  cases hi : vidx k L 0 with
  | none =>
    obtain ⟨h1, _, h3⟩ := vidx_none hi
    unfold vclock
    simp only [h3, h1, Option.isSome_none, Bool.false_eq_true, if_false]
    unfold vents
    rw [List.map_append]
    rfl
  | some x =>
    obtain ⟨j, v'⟩ := x
    obtain ⟨n, y, e, _, _, _, h5, h6⟩ := vidx_some hi
    have : j = n := by omega
    subst this
    unfold vclock
    simp only [h5, Option.isSome_some, if_true, h6 v c]

theorem findIdx_born {st : Nat} : ∀ {es : List MapEntry} {i : Nat} {e : MapEntry}, es[i]? = some e → e.born = st → (es.map (·.born)).Nodup →
    es.findIdx? (fun e => decide ((e.born : Int) = (st : Int))) = some i
  | [], _, _, h, _, _ => by simp at h
  | a :: es, 0, e, h, hb, _ => by
    simp only [List.getElem?_cons_zero, Option.some.injEq] at h
    subst h
    rw [List.findIdx?_cons]
    simp [hb]
  | a :: es, i + 1, e, h, hb, hn => by
    simp only [List.getElem?_cons_succ] at h
    rw [List.map_cons, List.nodup_cons] at hn
    have hne : ¬ a.born = st := fun x => hn.1 (by rw [x, ← hb]; exact List.mem_map_of_mem (List.mem_of_getElem? h))
    rw [List.findIdx?_cons, findIdx_born h hb hn.2]
    simp only [Int.natCast_inj, hne, decide_false, Bool.false_eq_true, if_false, Option.map_some]

/-- an entry found or made, then set -/
theorem entry_v (hm : mapOf P t = some (kt, et)) (hl : layQ P kt = some vlay) (hf : A.f m = some (.map (vents L) c)) (h : VM L c) (hk : vok k = true) {z : Value} (hz : zval P et = some z) :
    ∃ st v1 L1, L1 = vput k v1 c L ∧ (match vfind k L with | some x => v1 = x.v | none => v1 = z) ∧ amapEntry P A t (.map (some m)) (vagg k) = some (.tuple ⟨[v1, goInt (st : Nat)]⟩, A.set m (.map (vents L1) (vclock k L c))) ∧
      ∀ (A2 : AHeap) (v : Value), A2.f m = some (.map (vents L1) (vclock k L c)) → aentryStore A2 (.map (some m)) (goInt (st : Nat)) v = some (A2.set m (.map (vents (vput k v c L)) (vclock k L c))) := by
  unfold amapEntry
  simp only [hm, hf, vguard hl h hk, if_true, afind_vents hk h.ok]
  cases hi : vidx k L 0 with
  | none =>
    obtain ⟨h1, h2, h3⟩ := vidx_none hi
    refine ⟨c, z, L ++ [⟨k, z, c⟩], (h3 z c).symm, by rw [h1], ?_, fun A2 v hA2 => ?_⟩
    · simp only [hz, Option.map_some]
      unfold vclock
      simp only [h1, Option.isSome_none, Bool.false_eq_true, if_false]
      unfold vents
      rw [List.map_append]; rfl
    · unfold aentryStore goInt
      simp only [hA2]
      have hlen : (vents (L ++ [⟨k, z, c⟩]))[L.length]? = some (VE.ent ⟨k, z, c⟩) := by
        unfold vents; rw [List.map_append, List.getElem?_append_right (by simp)]; simp
      have hnod : ((vents (L ++ [⟨k, z, c⟩])).map (·.born)).Nodup := by
        rw [vents_born]
        have hb := (h.put hk z).born
        rwa [h3 z c] at hb
      rw [findIdx_born (st := c) hlen rfl hnod]
      simp only [Option.map_some, h3]
      have := setVal_last (VE.ent ⟨k, z, c⟩) v (vents L)
      have hl1 : (vents L).length = L.length := by unfold vents; rw [List.length_map]
      rw [hl1] at this
      have e1 : vents (L ++ [⟨k, z, c⟩]) = vents L ++ [VE.ent ⟨k, z, c⟩] := by unfold vents; rw [List.map_append]; rfl
      have e2 : vents (L ++ [⟨k, v, c⟩]) = vents L ++ [VE.ent ⟨k, v, c⟩] := by unfold vents; rw [List.map_append]; rfl
      rw [e1, e2, this]
      rfl
  | some x =>
    obtain ⟨j, v'⟩ := x
    obtain ⟨n, y, e, g2, g3, g4, h5, h6⟩ := vidx_some hi
    have : j = n := by omega
    subst this
    have hc : vclock k L c = c := by unfold vclock; rw [h5]; rfl
    have hget : (vents L)[j]? = some y.ent := by unfold vents; rw [List.getElem?_map, g2]; rfl
    refine ⟨y.b, v', vput k v' c L, rfl, by rw [h5]; exact g4.symm, ?_, fun A2 v hA2 => ?_⟩
    · simp only [hget, Option.map_some, h6 v' c, hc]
      rfl
    · unfold aentryStore goInt
      rw [hc] at hA2 ⊢
      simp only [hA2]
      have e1 : (vents (vput k v' c L))[j]? = some (VE.ent ⟨y.k, v', y.b⟩) := by
        rw [← h6 v' c]
        unfold setVal
        rw [List.getElem?_modify, hget]
        simp [VE.ent]
      have hnod : ((vents (vput k v' c L)).map (·.born)).Nodup := by
        rw [vents_born]
        exact (h.put hk v').born
      rw [findIdx_born (st := y.b) e1 rfl hnod]
      simp only [Option.map_some]
      congr 3
      rw [← h6 v' c, ← h6 v c]
      unfold setVal
      rw [List.modify_modify_eq]
      rfl
end
end Go.AB
