/-
  A graph read out of the machine's memory.
-/
import Derived.Test.YtcbmjgagbfhigaaXG5
import Derived.Test.YtcbmjgagbfhigaaXD4
namespace Go.AB
open Go
set_option linter.unusedSimpArgs false
set_option linter.unusedVariables false

def ints : List Value → List Int
  | [] => []
  | v :: l => match v with
    | .int _ n => n :: ints l
    | _ => ints l

/-- cells that are a vertex's -/
def dvert (cs : List Value) : Option (List Int) :=
  match vok (ints cs) with
  | false => none
  | true => match qeqL (vcells (ints cs)) cs with
    | true => some (ints cs)
    | false => none

theorem dvert_ok {cs : List Value} {v : List Int} (h : dvert cs = some v) : vok v = true ∧ cs = vcells v := by
  unfold dvert at h
  split at h
  · cases h
  · rename_i hv
    split at h
    · rename_i he
      cases h
      rw [qeqL_eq] at he
      exact ⟨hv, (veqL_eq he).symm⟩
    · cases h

/-- n vertices of a row, from a cell on -/
noncomputable def dnext (cs : List Value) : Nat → Nat → Option (List (List Int))
  | 0, _ => some []
  | n + 1, o => match qgetCells cs o 33 with
    | none => none
    | some l => match dvert l with
      | none => none
      | some v => match dnext cs n (o + 33) with
        | none => none
        | some r => some (v :: r)

theorem dnext_ok {cs : List Value} : ∀ {n o : Nat} {r : List (List Int)}, dnext cs n o = some r → r.length = n ∧ (∀ v ∈ r, vok v = true) ∧ ∀ i, i < n → getCells cs (o + i * 33) 33 = some (vcells (at' [] r i))
  | 0, o, r, h => by
    unfold dnext at h; cases h
    exact ⟨rfl, fun v hv => by simp at hv, fun i hi => by omega⟩
  | n + 1, o, r, h => by
    unfold dnext at h
    split at h
    · cases h
    · rename_i l hl
      split at h
      · cases h
      · rename_i v hv
        split at h
        · cases h
        · rename_i r' hr
          cases h
          obtain ⟨h1, h2, h3⟩ := dnext_ok hr
          obtain ⟨k1, k2⟩ := dvert_ok hv
          rw [qgetCells_eq] at hl
          refine ⟨by simp [h1], fun w hw => ?_, fun i hi => ?_⟩
          · rcases List.mem_cons.1 hw with rfl | hw
            · exact k1
            · exact h2 w hw
          · cases i with
            | zero => rw [Nat.zero_mul, Nat.add_zero, hl, k2]; rfl
            | succ i =>
              have := h3 i (by omega)
              rw [show o + (i + 1) * 33 = o + 33 + i * 33 by omega, this]
              rfl

def row? (H : CH) (b : Nat) : Option (List Value) :=
  match Nat.blt b H.n with
  | false => none
  | true => match H.t.get b with
    | some (.row cs _) => some cs
    | _ => none
theorem row?_ok {H : CH} {b : Nat} {cs : List Value} (h : row? H b = some cs) : b < H.n ∧ ∃ k, H.abs.f b = some (.row cs k) := by
  unfold row? at h
  split at h
  · cases h
  · rename_i hb
    have hb := blt_of hb
    split at h
    · rename_i cs' k hk
      cases h
      exact ⟨hb, k, by rw [CH.abs_f, if_pos hb, hk]⟩
    · cases h

noncomputable def dslice (H : CH) (s : Value) : Option (List (List Int)) :=
  match s with
  | .slice none 0 _ => some []
  | .slice (some ⟨b, o, none⟩) n c => match Nat.beq c ecap with
    | true => none
    | false => match row? H b with
      | some cs => dnext cs n o
      | none => none
  | _ => none

theorem dslice_ok {H : CH} {s : Value} {r : List (List Int)} (h : dslice H s = some r) : ReadsV H.abs s r ∧ ∀ v ∈ r, vok v = true := by
  unfold dslice at h
  split at h
  · rename_i c
    cases h
    exact ⟨⟨none, c, rfl, fun i hi => by simp at hi⟩, fun v hv => by simp at hv⟩
  · rename_i b o n c
    split at h
    · cases h
    · rename_i hc
      split at h
      · rename_i cs hcs
        obtain ⟨h1, h2, h3⟩ := dnext_ok h
        obtain ⟨k1, k, k2⟩ := row?_ok hcs
        subst h1
        refine ⟨⟨some ⟨b, o, none⟩, c, rfl, fun i hi => ⟨b, o, cs, k, rfl, k1, ?_, k2, h3 i hi⟩⟩, h2⟩
        intro e; subst e; simp at hc
      · cases h
  · cases h

noncomputable def dnode (H : CH) (e : MapEntry) : Option NE :=
  match e with
  | ⟨.agg ⟨kc⟩, .agg ⟨[.string t, .int .i64 gn, .int .i64 nm, s]⟩, b⟩ => match dvert kc with
    | none => none
    | some k => match dslice H s with
      | none => none
      | some nx => some ⟨k, t, gn, nm, nx, s, b⟩
  | _ => none

theorem dnode_ok {H : CH} {e : MapEntry} {x : NE} (h : dnode H e = some x) : e = x.ve.ent ∧ vok x.k = true ∧ ReadsV H.abs x.s x.next ∧ ∀ v ∈ x.next, vok v = true := by
  unfold dnode at h
  split at h
  · rename_i kc t gn nm s b
    split at h
    · cases h
    · rename_i k hk
      split at h
      · cases h
      · rename_i nx hnx
        cases h
        obtain ⟨k1, k2⟩ := dvert_ok hk
        obtain ⟨s1, s2⟩ := dslice_ok hnx
        exact ⟨by rw [k2]; rfl, k1, s1, s2⟩
  · cases h

noncomputable def dnodes (H : CH) : List MapEntry → Option (List NE)
  | [] => some []
  | e :: es => match dnode H e with
    | none => none
    | some x => match dnodes H es with
      | none => none
      | some G => some (x :: G)

theorem dnodes_ok {H : CH} : ∀ {es : List MapEntry} {G : List NE}, dnodes H es = some G → es = vents (G.map NE.ve) ∧ ∀ x ∈ G, vok x.k = true ∧ ReadsV H.abs x.s x.next ∧ ∀ v ∈ x.next, vok v = true
  | [], G, h => by unfold dnodes at h; cases h; exact ⟨rfl, fun x hx => by simp at hx⟩
  | e :: es, G, h => by
    unfold dnodes at h
    split at h
    · cases h
    · rename_i x hx
      split at h
      · cases h
      · rename_i G' hG
        cases h
        obtain ⟨h1, h2⟩ := dnodes_ok hG
        obtain ⟨k1, k2⟩ := dnode_ok hx
        refine ⟨by rw [k1, h1]; rfl, fun y hy => ?_⟩
        rcases List.mem_cons.1 hy with rfl | hy
        · exact k2
        · exact h2 y hy

/-- no key, no stamp is there twice; the stamps are before the clock -/
def freeK (k : List Int) (b : Nat) : List NE → Bool
  | [] => true
  | x :: G => match leq x.k k with
    | true => false
    | false => match Nat.beq x.b b with
      | true => false
      | false => freeK k b G
def uniq (c : Nat) : List NE → Bool
  | [] => true
  | x :: G => match freeK x.k x.b G with
    | false => false
    | true => match Nat.blt x.b c with
      | false => false
      | true => uniq c G

theorem freeK_ok {k : List Int} {b : Nat} : ∀ {G : List NE}, freeK k b G = true → k ∉ G.map (·.k) ∧ b ∉ G.map (·.b)
  | [], _ => by simp
  | x :: G, h => by
    unfold freeK at h
    split at h
    · cases h
    · rename_i h1
      split at h
      · cases h
      · rename_i h2
        obtain ⟨h3, h4⟩ := freeK_ok h
        rw [leq_eq] at h1
        have h1 : ¬ x.k = k := by simpa using h1
        have h2 : ¬ x.b = b := by intro e; subst e; simp at h2
        simp only [List.map_cons, List.mem_cons, not_or]
        exact ⟨⟨fun e => h1 e.symm, h3⟩, ⟨fun e => h2 e.symm, h4⟩⟩

theorem uniq_ok {c : Nat} : ∀ {G : List NE}, uniq c G = true → (G.map (·.k)).Nodup ∧ (G.map (·.b)).Nodup ∧ ∀ x ∈ G, x.b < c
  | [], _ => by simp
  | x :: G, h => by
    unfold uniq at h
    split at h
    · cases h
    · rename_i h1
      split at h
      · cases h
      · rename_i h2
        obtain ⟨h3, h4, h5⟩ := uniq_ok h
        obtain ⟨k1, k2⟩ := freeK_ok h1
        simp only [List.map_cons, List.nodup_cons]
        refine ⟨⟨k1, h3⟩, ⟨k2, h4⟩, fun y hy => ?_⟩
        rcases List.mem_cons.1 hy with rfl | hy
        · exact blt_of h2
        · exact h5 y hy

/-- the nodes of a map of memory -/
noncomputable def dgraph (H : CH) (m : Nat) : Option (List NE) :=
  match Nat.blt m H.n with
  | false => none
  | true => match H.t.get m with
    | some (.map es c) => match dnodes H es with
      | none => none
      | some G => match uniq c G with
        | false => none
        | true => match Nat.ble ((G.length + 1) * (edges G + 1)) 1000000000 with
          | false => none
          | true => some G
    | _ => none

theorem dgraph_ok {H : CH} {m : Nat} {G : List NE} (h : dgraph H m = some G) : (∃ c, NodesA H.abs m c G) ∧ (G.length + 1) * (edges G + 1) ≤ 1000000000 := by
  unfold dgraph at h
  split at h
  · cases h
  · rename_i hm
    have hm := blt_of hm
    split at h
    · rename_i es c hes
      split at h
      · cases h
      · rename_i G' hG
        split at h
        · cases h
        · rename_i hu
          split at h
          · cases h
          · rename_i hb
            cases h
            obtain ⟨h1, h2⟩ := dnodes_ok hG
            obtain ⟨k1, k2, k3⟩ := uniq_ok hu
            refine ⟨⟨c, hm, by rw [CH.abs_f, if_pos hm, hes, h1], ⟨fun x hx => ?_, ?_, ?_, fun x hx => ?_⟩, fun x hx => (h2 x hx).2.1, fun x hx => (h2 x hx).2.2⟩, Nat.le_of_ble_eq_true hb⟩
            · obtain ⟨y, hy, rfl⟩ := List.mem_map.1 hx; exact (h2 y hy).1
            · rw [List.map_map]; exact k1
            · rw [List.map_map]; exact k2
            · obtain ⟨y, hy, rfl⟩ := List.mem_map.1 hx; exact k3 y hy
    · cases h
end Go.AB
