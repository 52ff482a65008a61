/-
  Maps.
-/
import Derived.Test.YtcbmjgagbfhigaaXB1
namespace Go.AB
open Go
set_option linter.unusedSimpArgs false
set_option linter.unusedVariables false

/-- the types of keys that the laws cover -/
def keyTy (P : Program) (k : TypeId) : Bool :=
  match P.underlying k with
  | some (.int _) | some .string | some .bool => true
  | _ => wideKey P k

theorem keyed {P : Program} (F : Fine P) {k : TypeId} (h : keyTy P k = true) : Go.Maps.Keyed P k := by
  unfold keyTy at h
  split at h
  · rename_i q hu; exact Go.Maps.int_keyed hu
  · rename_i hu; exact Go.Maps.string_keyed hu
  · rename_i hu; exact Go.Maps.bool_keyed hu
  · exact Go.Maps.Keyed.of_law (wide_law F h)

def mapOf (P : Program) (t : TypeId) : Option (TypeId × TypeId) := match P.underlying t with | some (.map k e) => some (k, e) | _ => none
theorem mapOf_some {P : Program} {t : TypeId} {x : TypeId × TypeId} (h : mapOf P t = some x) : P.underlying t = some (.map x.1 x.2) := by
  unfold mapOf at h; split at h <;> first | (cases h; assumption) | cases h

/-- the first entry with a key -/
def afind (k : Value) : List MapEntry → Nat → Option (Nat × Value)
  | [], _ => none
  | e :: es, i => if veq e.key k then some (i, e.val) else afind k es (i + 1)

theorem afind_some {k : Value} : ∀ {es : List MapEntry} {i j : Nat} {v : Value}, afind k es i = some (j, v) →
    ∃ n e, j = i + n ∧ es[n]? = some e ∧ e.key = k ∧ e.val = v
  | [], _, _, _, h => by simp [afind] at h
  | e :: es, i, j, v, h => by
    simp only [afind] at h
    split at h
    · rename_i hk; cases h; exact ⟨0, e, rfl, rfl, veq_eq hk, rfl⟩
    · obtain ⟨n, e', h1, h2, h3, h4⟩ := afind_some h
      exact ⟨n + 1, e', by omega, by simpa using h2, h3, h4⟩
theorem afind_none {k : Value} (hk : veq k k = true) : ∀ {es : List MapEntry} {i : Nat}, afind k es i = none → ∀ e ∈ es, e.key ≠ k
  | [], _, _, e, he => by simp at he
  | e :: es, i, h, e', he => by
    simp only [afind] at h
    split at h
    · cases h
    · rename_i hn
      rcases List.mem_cons.1 he with rfl | he
      · intro hc; rw [hc] at hn; exact hn hk
      · exact afind_none hk h e' he

/-- the zero value of a type -/
def zval (P : Program) (t : TypeId) : Option Value :=
  match (P.info? t).bind (·.zero) with
  | some (.agg c) => if c.toList.all plain1 then some (.agg c) else none
  | some z => if plain1 z then some z else none
  | none => none

theorem zval_run {P : Program} {t : TypeId} {z : Value} (h : zval P t = some z) : (∀ w, (zeroValue t).run P w = .ok z w) ∧ ∀ ρ, VR ρ z z := by
  have key : ∀ z', (P.info? t).bind (·.zero) = some z' → ∀ w, (zeroValue t).run P w = .ok z' w := by
    intro z' hz w
    cases hi : P.info? t with
    | none => rw [hi] at hz; cases hz
    | some i => rw [hi] at hz; simp at hz; simp [zeroValue, typeInfo, hi, hz]
  unfold zval at h
  split at h
  · rename_i c hz
    split at h
    · rename_i hall; cases h
      refine ⟨key _ hz, fun ρ => ?_⟩
      have := (plainL_self (ρ := ρ) hall).agg
      simpa using this
    · cases h
  · rename_i z' hn hz
    split at h
    · rename_i hp; cases h; exact ⟨key _ hz, fun ρ => plain1_self hp⟩
    · cases h
  · cases h

theorem veq1_self {ρ : Rho} {a : Value} (h : veq1 a a = true) : VR ρ a a := by
  cases a <;> simp [veq1] at h <;> first | exact .bool _ | exact .int _ _ | exact .string _
theorem veq_self {ρ : Rho} {a : Value} (h : veq a a = true) : VR ρ a a := by
  cases a with
  | agg x =>
    have hl : VL ρ x.toList x.toList := ⟨rfl, fun i v v' h1 h2 => by
      rw [h1] at h2; cases h2
      exact veq1_self (veqL_mem h v (List.mem_of_getElem? h1))⟩
    simpa using hl.agg
  | _ => exact veq1_self h

def akeysOk (P : Program) (kt : TypeId) (es : List MapEntry) : Bool := es.all fun e => keyOk P kt e.key

/-- the key is looked for -/
theorem run_find {P : Program} (F : Fine P) {ρ : Rho} {kt : TypeId} {k : Value} {es : List MapEntry} {ents : Array MapEntry} {clock : Nat} (hkt : keyTy P kt = true)
    (hk : keyOk P kt k = true) (hes : akeysOk P kt es = true) (hm : MapR ρ es ents clock) (w : World) :
    (∀ em, (Instr.checkKey em 10000 kt k).run P w = .ok () w) ∧
    (Instr.keyThatStays k k).run P w = .ok k w ∧
    (match afind k es 0 with
      | none => (Instr.findKey kt k ents.toList).run P w = .ok none w
      | some (i, v) => ∃ v', (Instr.findKey kt k ents.toList).run P w = .ok (some (i, v')) w ∧ VR ρ v v' ∧ ∃ en, ents[i]? = some en ∧ en.key = k ∧ en.val = v') := by
  have K := keyed F hkt
  unfold keyOk at hk
  simp only [Bool.and_eq_true, Option.isSome_iff_exists] at hk
  obtain ⟨⟨l, hl⟩, hv⟩ := hk
  refine ⟨fun em => K.check w em hl, K.stays w hl, ?_⟩
  have hlen : ents.toList.length = es.length := by simp [hm.size]
  have pair : ∀ (i : Nat) (en : MapEntry), ents.toList[i]? = some en → ∃ a, es[i]? = some a ∧ en.key = a.key ∧ VR ρ a.val en.val := by
    intro i en hi
    have hlt : i < es.length := by rw [← hlen]; exact (List.getElem?_eq_some_iff.1 hi).1
    obtain ⟨a, ha⟩ : ∃ a, es[i]? = some a := ⟨_, List.getElem?_eq_getElem hlt⟩
    obtain ⟨x, _, z⟩ := hm.each i a en ha (by simpa using hi)
    exact ⟨a, ha, x, z⟩
  have hall : ∀ e ∈ ents.toList, ∃ l, keyOf P kt e.key = some l := by
    intro e he
    obtain ⟨i, hi⟩ := List.getElem?_of_mem he
    obtain ⟨a, ha, hka, _⟩ := pair i e hi
    unfold akeysOk at hes
    have := List.all_eq_true.1 hes a (List.mem_of_getElem? ha)
    unfold keyOk at this
    simp only [Bool.and_eq_true, Option.isSome_iff_exists] at this
    rw [hka]; exact this.1
  rcases K.find w hl ents.toList hall with ⟨h1, h2⟩ | ⟨j, e, h1, h2, h3⟩
  · have hnone : afind k es 0 = none := by
      cases hf : afind k es 0 with
      | none => rfl
      | some x =>
        obtain ⟨n, a, _, g2, g3, _⟩ := afind_some (j := x.1) (v := x.2) hf
        have hlt : n < ents.toList.length := by rw [hlen]; exact (List.getElem?_eq_some_iff.1 g2).1
        obtain ⟨a', ha', hka, _⟩ := pair n _ (List.getElem?_eq_getElem hlt)
        rw [g2] at ha'; cases ha'
        exact absurd (hka.trans g3) (h2 _ (List.getElem_mem hlt))
    rw [hnone]
    exact h1
  · obtain ⟨a, ha, hka, hva⟩ := pair j e h2
    cases hf : afind k es 0 with
    | none =>
      have := afind_none hv hf a (List.mem_of_getElem? ha)
      exact absurd (hka.symm.trans h3) this
    | some x =>
      obtain ⟨n, b, g1, g2, g3, g4⟩ := afind_some (j := x.1) (v := x.2) hf
      have hnj : n = j := hm.keys n j b a g2 ha (by rw [g3, ← hka, h3])
      subst hnj
      have hab : b = a := by rw [g2] at ha; exact Option.some.inj ha
      subst hab
      have hx : x = (n, b.val) := by cases x; simp at g1 g4; simp [g1, g4]
      rw [hx]
      exact ⟨e.val, h1, hva, e, by simpa using h2, h3, rfl⟩

def aentries (A : AHeap) (x : Value) : Option (List MapEntry) :=
  match x with
  | .map none => some []
  | .map (some r) => match A.f r with
    | some (.map es _) => some es
    | _ => none
  | _ => none

def alookup (P : Program) (A : AHeap) (t : TypeId) (x ix : Value) (ok : Bool) : Option Value :=
  match mapOf P t with
  | none => none
  | some (kt, et) => match aentries A x with
    | none => none
    | some es =>
      if keyTy P kt && keyOk P kt ix && akeysOk P kt es then
        match afind ix es 0 with
        | some (_, v) => some (if ok then .tuple ⟨[v, .bool true]⟩ else v)
        | none => (zval P et).map fun z => if ok then .tuple ⟨[z, .bool false]⟩ else z
      else none

theorem lookup_sound {P : Program} (F : Fine P) {ρ : Rho} {A : AHeap} {w : World} {t : TypeId} {x ix rx rix v : Value} {ok : Bool} (hr : Rel ρ A w) (hx : VR ρ x rx) (hix : VR ρ ix rix)
    (h : alookup P A t x ix ok = some v) : ∃ r, (Instr.lookup t rx rix ok).run P w = .ok r w ∧ VR ρ v r := by
  unfold alookup at h
  split at h
  · cases h
  · rename_i kt et hm
    split at h
    · cases h
    · rename_i es hes
      split at h
      · rename_i hc
        simp only [Bool.and_eq_true] at hc
        have hrix : rix = ix := veq_VR (by have := hc.1.2; unfold keyOk at this; simp only [Bool.and_eq_true] at this; exact this.2) hix
        subst hrix
        have hent : ∃ ents clock, MapR ρ es ents clock ∧ ((rx = .map none ∧ ents = #[]) ∨ ∃ b, rx = .map (some b) ∧ w.heap[b]? = some (.map ents clock)) := by
          unfold aentries at hes
          split at hes
          · cases hes; cases hx
            exact ⟨#[], 0, ⟨rfl, fun i a en h => by simp at h, fun i j a b h => by simp at h, fun i j a b h => by simp at h, fun i a h => by simp at h, fun i a h => by simp at h⟩, .inl ⟨rfl, rfl⟩⟩
          · obtain ⟨e, he, rfl⟩ := hx.map_inv
            split at hes
            · rename_i es' clock hf
              cases hes
              obtain ⟨ents, h1, h2⟩ := map_obj hr he hf
              exact ⟨ents, clock, h2, .inr ⟨_, rfl, h1⟩⟩
            · cases hes
          · cases hes
        obtain ⟨ents, clock, hmr, hrun⟩ := hent
        obtain ⟨g1, _, g3⟩ := run_find F hc.1.1 hc.1.2 hc.2 hmr w
        split at h
        · rename_i i v0 hfi
          rw [hfi] at g3
          obtain ⟨v', k1, k2, _⟩ := g3
          cases h
          refine ⟨if ok then .tuple #[v', .bool true] else v', ?_, ?_⟩
          · simp only [Instr.lookup, Sem.run_bind, run_und (mapOf_some hm), Result.andThen_ok]
            rcases hrun with ⟨rfl, rfl⟩ | ⟨b, rfl, h1⟩
            · simp only [Result.andThen_ok, Sem.run_bind, g1, k1, Sem.run_pure]
            · simp only [Result.andThen_ok, Sem.run_bind, getMap h1, g1, k1, Sem.run_pure]
          · cases ok
            · exact k2
            · exact VL.tuple (.cons k2 (.cons (.bool true) .nil))
        · rename_i hfi
          rw [hfi] at g3
          cases hz : zval P et with
          | none => rw [hz] at h; cases h
          | some z =>
            rw [hz] at h; cases h
            obtain ⟨z1, z2⟩ := zval_run hz
            refine ⟨if ok then .tuple #[z, .bool false] else z, ?_, ?_⟩
            · simp only [Instr.lookup, Sem.run_bind, run_und (mapOf_some hm), Result.andThen_ok]
              rcases hrun with ⟨rfl, rfl⟩ | ⟨b, rfl, h1⟩
              · simp only [Result.andThen_ok, Sem.run_bind, g1, g3, z1, Sem.run_pure]
              · simp only [Result.andThen_ok, Sem.run_bind, getMap h1, g1, g3, z1, Sem.run_pure]
            · cases ok
              · exact z2 ρ
              · exact VL.tuple (.cons (z2 ρ) (.cons (.bool false) .nil))
      · cases h

/-- an entry's value set at a place -/
def setVal (es : List MapEntry) (i : Nat) (v : Value) : List MapEntry := es.modify i fun e => { e with val := v }

theorem map_step {ρ : Rho} {A : AHeap} {w : World} {i clock clock' : Nat} {e : Ent} {es es' : List MapEntry} {ents' : Array MapEntry} (h : Rel ρ A w) (he : ρ i = some e)
    (hf : A.f i = some (.map es clock)) (hm : MapR ρ es' ents' clock') :
    Step ρ A w ρ (A.set i (.map es' clock')) { w with heap := w.heap.setIfInBounds e.blk (.map ents' clock') } :=
  Step.set h he _ _ (by unfold writable; rw [hf]; trivial) ⟨ents', Array.getElem?_setIfInBounds_self_of_lt (h.bnd _ _ he), hm⟩

theorem MapR.setVal {ρ : Rho} {es : List MapEntry} {ents : Array MapEntry} {clock : Nat} (h : MapR ρ es ents clock) (i : Nat) {k v v' : Value} (hv : VR ρ v v')
    {en : MapEntry} (hen : ents[i]? = some en) (hk : en.key = k) : MapR ρ (setVal es i v) (ents.modify i fun e => { e with key := k, val := v' }) clock := by
  have hget : ∀ (j : Nat) (a : MapEntry), (AB.setVal es i v)[j]? = some a → ∃ a0, es[j]? = some a0 ∧ a.key = a0.key ∧ a.born = a0.born ∧ a.val = if i = j then v else a0.val := by
    intro j a ha
    unfold AB.setVal at ha
    rw [List.getElem?_modify] at ha
    cases ho : es[j]? with
    | none => rw [ho] at ha; cases ha
    | some a0 =>
      rw [ho] at ha
      have ha := Option.some.inj ha
      refine ⟨a0, rfl, ?_⟩
      subst ha
      by_cases hij : i = j <;> simp [hij]
  refine ⟨by simp [AB.setVal, h.size], ?_, ?_, ?_, ?_, ?_⟩
  · intro j a e ha hej
    obtain ⟨a0, g1, g2, g3, g4⟩ := hget j a ha
    rw [Array.getElem?_modify] at hej
    by_cases hij : i = j
    · subst hij
      rw [if_pos rfl, hen] at hej
      simp only [Option.map_some, Option.some.injEq] at hej
      subst hej
      obtain ⟨x, y, _⟩ := h.each i a0 en g1 hen
      rw [if_pos rfl] at g4
      exact ⟨by simp only; rw [g2, ← x, hk], by simp only; rw [g3, ← y], by simp only; rw [g4]; exact hv⟩
    · rw [if_neg hij] at hej
      obtain ⟨x, y, z⟩ := h.each j a0 e g1 hej
      rw [if_neg hij] at g4
      exact ⟨x.trans g2.symm, y.trans g3.symm, by rw [g4]; exact z⟩
  · intro j k a b ha hb hab
    obtain ⟨a0, g1, g2, _, _⟩ := hget j a ha
    obtain ⟨b0, k1, k2, _, _⟩ := hget k b hb
    exact h.keys j k a0 b0 g1 k1 (by rw [← g2, ← k2, hab])
  · intro j k a b ha hb hab
    obtain ⟨a0, g1, _, g3, _⟩ := hget j a ha
    obtain ⟨b0, k1, _, k3, _⟩ := hget k b hb
    exact h.born j k a0 b0 g1 k1 (by rw [← g3, ← k3, hab])
  · intro j a ha
    obtain ⟨a0, g1, _, g3, _⟩ := hget j a ha
    rw [g3]; exact h.clock j a0 g1
  · intro j a ha ρ'
    obtain ⟨a0, g1, g2, _, _⟩ := hget j a ha
    rw [g2]; exact h.self j a0 g1 ρ'

theorem MapR.push {ρ : Rho} {es : List MapEntry} {ents : Array MapEntry} {clock : Nat} (h : MapR ρ es ents clock) {k v v' : Value} (hv : VR ρ v v')
    (hk : ∀ e ∈ es, e.key ≠ k) (hself : ∀ ρ', VR ρ' k k) : MapR ρ (es ++ [⟨k, v, clock⟩]) (ents.push ⟨k, v', clock⟩) (clock + 1) := by
  have hget : ∀ (j : Nat) (a : MapEntry), (es ++ [(⟨k, v, clock⟩ : MapEntry)])[j]? = some a → es[j]? = some a ∨ (j = es.length ∧ a = ⟨k, v, clock⟩) := by
    intro j a ha
    rw [List.getElem?_append] at ha
    split at ha
    · exact .inl ha
    · rename_i hj
      right
      have : j - es.length = 0 := by
        have := (List.getElem?_eq_some_iff.1 ha).1
        simp at this; omega
      rw [this] at ha
      simp at ha
      exact ⟨by omega, ha.symm⟩
  refine ⟨by simp [h.size], ?_, ?_, ?_, ?_, ?_⟩
  · intro j a e ha he
    rw [Array.getElem?_push] at he
    rcases hget j a ha with h1 | ⟨h1, h2⟩
    · have hlt : j < es.length := (List.getElem?_eq_some_iff.1 h1).1
      rw [if_neg (by rw [h.size]; omega)] at he
      exact h.each j a e h1 he
    · rw [if_pos (by rw [h.size]; exact h1)] at he
      cases he; subst h2
      exact ⟨rfl, rfl, hv⟩
  · intro i j a b ha hb hab
    rcases hget i a ha with h1 | ⟨h1, h2⟩ <;> rcases hget j b hb with k1 | ⟨k1, k2⟩
    · exact h.keys i j a b h1 k1 hab
    · subst k2; exact absurd hab (hk a (List.mem_of_getElem? h1))
    · subst h2; exact absurd hab.symm (hk b (List.mem_of_getElem? k1))
    · omega
  · intro i j a b ha hb hab
    rcases hget i a ha with h1 | ⟨h1, h2⟩ <;> rcases hget j b hb with k1 | ⟨k1, k2⟩
    · exact h.born i j a b h1 k1 hab
    · subst k2; have := h.clock i a h1; simp at hab; omega
    · subst h2; have := h.clock j b k1; simp at hab; omega
    · omega
  · intro i a ha
    rcases hget i a ha with h1 | ⟨h1, h2⟩
    · have := h.clock i a h1; omega
    · subst h2; simp
  · intro i a ha ρ'
    rcases hget i a ha with h1 | ⟨h1, h2⟩
    · exact h.self i a h1 ρ'
    · subst h2; exact hself ρ'

def amapUpdate (P : Program) (A : AHeap) (t : TypeId) (x k v : Value) : Option AHeap :=
  match mapOf P t, x with
  | some (kt, _), .map (some r) => match A.f r with
    | some (.map es clock) =>
      if keyTy P kt && keyOk P kt k && akeysOk P kt es then
        match afind k es 0 with
        | some (i, _) => some (A.set r (.map (setVal es i v) clock))
        | none => some (A.set r (.map (es ++ [⟨k, v, clock⟩]) (clock + 1)))
      else none
    | _ => none
  | _, _ => none

theorem mapUpdate_sound {P : Program} (F : Fine P) {ρ : Rho} {A A' : AHeap} {w : World} {t : TypeId} {x k v rx rk rv : Value} (hr : Rel ρ A w) (hx : VR ρ x rx) (hk : VR ρ k rk) (hv : VR ρ v rv)
    (h : amapUpdate P A t x k v = some A') : ∃ w', (Instr.mapUpdate t rx rk rv).run P w = .ok () w' ∧ Step ρ A w ρ A' w' := by
  unfold amapUpdate at h
  split at h
  · rename_i kt et r hm
    obtain ⟨e, he, rfl⟩ := hx.map_inv
    split at h
    · rename_i es clock hf
      split at h
      · rename_i hc
        simp only [Bool.and_eq_true] at hc
        have hrk : rk = k := veq_VR (by have := hc.1.2; unfold keyOk at this; simp only [Bool.and_eq_true] at this; exact this.2) hk
        subst hrk
        obtain ⟨ents, h1, h2⟩ := map_obj hr he hf
        obtain ⟨g1, g2, g3⟩ := run_find F hc.1.1 hc.1.2 hc.2 h2 w
        split at h
        · rename_i i v0 hfi
          rw [hfi] at g3
          obtain ⟨v', k1, _, en, k3, k4, _⟩ := g3
          cases h
          refine ⟨_, ?_, map_step hr he hf (h2.setVal i hv k3 k4)⟩
          simp only [Instr.mapUpdate, Sem.run_bind, run_und (mapOf_some hm), Result.andThen_ok, getMap h1, g1, k1, k3, Option.map_some, Option.getD_some, k4, g2, setMap _ h1]
        · rename_i hfi
          rw [hfi] at g3
          cases h
          have hvk : veq rk rk = true := by have := hc.1.2; unfold keyOk at this; simp only [Bool.and_eq_true] at this; exact this.2
          refine ⟨_, ?_, map_step hr he hf (h2.push hv (afind_none hvk hfi) fun ρ' => veq_self hvk)⟩
          simp only [Instr.mapUpdate, Sem.run_bind, run_und (mapOf_some hm), Result.andThen_ok, getMap h1, g1, g3, setMap _ h1]
      · cases h
    · cases h
  · cases h

end Go.AB
