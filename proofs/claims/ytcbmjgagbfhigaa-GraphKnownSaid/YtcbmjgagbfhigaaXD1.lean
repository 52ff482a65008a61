/-
  A machine for closed runs: persistent trees for memory and temporaries; what an operation changes.
-/
import Derived.Test.YtcbmjgagbfhigaaXC5
namespace Go.AB
open Go
set_option linter.unusedSimpArgs false
set_option linter.unusedVariables false

inductive Tr (α : Type) where
  | nil
  | node (v : Option α) (l r : Tr α)

namespace Tr
variable {α : Type}

def get : Tr α → Nat → Option α
  | .nil, _ => none
  | .node v l r, i => match Nat.beq i 0 with
    | true => v
    | false => match Nat.beq (i % 2) 1 with
      | true => l.get (i / 2)
      | false => r.get (i / 2 - 1)

def put : Nat → Tr α → Nat → α → Tr α
  | 0, t, _, _ => t
  | f + 1, .nil, i, a => match Nat.beq i 0 with
    | true => .node (some a) .nil .nil
    | false => match Nat.beq (i % 2) 1 with
      | true => .node none (put f .nil (i / 2) a) .nil
      | false => .node none .nil (put f .nil (i / 2 - 1) a)
  | f + 1, .node v l r, i, a => match Nat.beq i 0 with
    | true => .node (some a) l r
    | false => match Nat.beq (i % 2) 1 with
      | true => .node v (put f l (i / 2) a) r
      | false => .node v l (put f r (i / 2 - 1) a)

theorem get_node (v : Option α) (l r : Tr α) (i : Nat) : (Tr.node v l r).get i = if i = 0 then v else if i % 2 = 1 then l.get (i / 2) else r.get (i / 2 - 1) := by
  simp only [get]
  by_cases h : i = 0
  · subst h; rfl
  · rw [if_neg h, show Nat.beq i 0 = false from by cases hb : Nat.beq i 0 with | false => rfl | true => exact absurd (Nat.eq_of_beq_eq_true hb) h]
    by_cases h2 : i % 2 = 1
    · rw [if_pos h2, h2]
    · rw [if_neg h2, show Nat.beq (i % 2) 1 = false from by cases hb : Nat.beq (i % 2) 1 with | false => rfl | true => exact absurd (Nat.eq_of_beq_eq_true hb) h2]

theorem put_nil (f : Nat) (i : Nat) (a : α) : put (f + 1) .nil i a = put (f + 1) (.node none .nil .nil) i a := rfl

theorem put_node (f : Nat) (v : Option α) (l r : Tr α) (i : Nat) (a : α) :
    put (f + 1) (.node v l r) i a = if i = 0 then .node (some a) l r else if i % 2 = 1 then .node v (put f l (i / 2) a) r else .node v l (put f r (i / 2 - 1) a) := by
  simp only [put]
  by_cases h : i = 0
  · subst h; rfl
  · rw [if_neg h, show Nat.beq i 0 = false from by cases hb : Nat.beq i 0 with | false => rfl | true => exact absurd (Nat.eq_of_beq_eq_true hb) h]
    by_cases h2 : i % 2 = 1
    · rw [if_pos h2, h2]
    · rw [if_neg h2, show Nat.beq (i % 2) 1 = false from by cases hb : Nat.beq (i % 2) 1 with | false => rfl | true => exact absurd (Nat.eq_of_beq_eq_true hb) h2]

theorem get_put : ∀ (f : Nat) (t : Tr α) (i j : Nat) (a : α), i < 2 ^ f → (put (f + 1) t i a).get j = if j = i then some a else t.get j := by
  have nodes : ∀ (f : Nat) (v : Option α) (l r : Tr α) (i j : Nat) (a : α), i < 2 ^ f →
      (∀ f', f = f' + 1 → ∀ (t : Tr α) (i j : Nat), i < 2 ^ f' → (put (f' + 1) t i a).get j = if j = i then some a else t.get j) →
      (put (f + 1) (.node v l r) i a).get j = if j = i then some a else (Tr.node v l r).get j := by
    intro f v l r i j a hi ih
    rw [put_node]
    by_cases h0 : i = 0
    · subst h0
      rw [if_pos rfl, get_node, get_node]
      by_cases hj : j = 0 <;> simp [hj]
    · rw [if_neg h0]
      cases f with
      | zero => simp at hi; exact absurd hi h0
      | succ f' =>
        have hp : 2 ^ (f' + 1) = 2 * 2 ^ f' := by rw [Nat.pow_succ]; omega
        by_cases h1 : i % 2 = 1
        · rw [if_pos h1, get_node, get_node, ih f' rfl l (i / 2) (j / 2) (by omega)]
          by_cases hj : j = 0
          · subst hj; rw [if_pos rfl, if_neg (fun h => h0 h.symm), if_pos rfl]
          · rw [if_neg hj, if_neg hj]
            by_cases hj1 : j % 2 = 1
            · rw [if_pos hj1, if_pos hj1]
              by_cases hji : j = i
              · subst hji; simp
              · rw [if_neg hji, if_neg (by omega)]
            · rw [if_neg hj1, if_neg hj1, if_neg (by intro h; subst h; exact hj1 h1)]
        · rw [if_neg h1, get_node, get_node, ih f' rfl r (i / 2 - 1) (j / 2 - 1) (by omega)]
          by_cases hj : j = 0
          · subst hj; rw [if_pos rfl, if_neg (fun h => h0 h.symm), if_pos rfl]
          · rw [if_neg hj, if_neg hj]
            by_cases hj1 : j % 2 = 1
            · rw [if_pos hj1, if_pos hj1, if_neg (by intro h; subst h; exact h1 hj1)]
            · rw [if_neg hj1, if_neg hj1]
              by_cases hji : j = i
              · subst hji; simp
              · rw [if_neg hji, if_neg (by omega)]
  intro f
  induction f with
  | zero =>
    intro t i j a hi
    cases t with
    | nil =>
      rw [put_nil, nodes 0 none .nil .nil i j a hi (by intro f' h; cases h)]
      congr 1
      rw [get_node]; simp [get]
    | node v l r => exact nodes 0 v l r i j a hi (by intro f' h; cases h)
  | succ f ih =>
    intro t i j a hi
    cases t with
    | nil =>
      rw [put_nil, nodes (f + 1) none .nil .nil i j a hi (by intro f' h; cases h; exact fun t i j hi => ih t i j a hi)]
      congr 1
      rw [get_node]; simp [get]
    | node v l r => exact nodes (f + 1) v l r i j a hi (by intro f' h; cases h; exact fun t i j hi => ih t i j a hi)
end Tr

/-- memory -/
structure CH where
  n : Nat
  t : Tr AObj

namespace CH
def abs (H : CH) : AHeap := ⟨H.n, fun i => if i < H.n then H.t.get i else none⟩
def set (H : CH) (i : Nat) (o : AObj) : CH := ⟨H.n, H.t.put 21 i o⟩
def push (H : CH) (o : AObj) : CH := ⟨H.n + 1, H.t.put 21 H.n o⟩
def empty : CH := ⟨0, .nil⟩
theorem abs_n (H : CH) : H.abs.n = H.n := rfl
theorem abs_f (H : CH) (i : Nat) : H.abs.f i = if i < H.n then H.t.get i else none := rfl

theorem ext {A B : AHeap} (hn : A.n = B.n) (hf : ∀ i, A.f i = B.f i) : A = B := by
  cases A; cases B; simp at hn hf; subst hn; congr; funext i; exact hf i

theorem abs_set (H : CH) {i : Nat} (o : AObj) (hi : i < H.n) (hb : H.n < 1048576) : (H.set i o).abs = H.abs.set i o := by
  refine ext rfl fun j => ?_
  rw [AHeap.set_f, abs_f, abs_f]
  show (if j < H.n then (H.t.put 21 i o).get j else none) = _
  rw [Tr.get_put 20 _ _ _ _ (by have : (2:Nat) ^ 20 = 1048576 := by decide
                                omega)]
  by_cases h : j = i
  · subst h; rw [if_pos hi, if_pos rfl, if_pos rfl]
  · rw [if_neg h, if_neg h]

theorem abs_push (H : CH) (o : AObj) (hb : H.n < 1048576) : (H.push o).abs = H.abs.push o := by
  refine ext rfl fun j => ?_
  rw [AHeap.push_f, abs_f, abs_f]
  show (if j < H.n + 1 then (H.t.put 21 H.n o).get j else none) = _
  rw [Tr.get_put 20 _ _ _ _ (by have : (2:Nat) ^ 20 = 1048576 := by decide
                                omega)]
  by_cases h : j = H.n
  · subst h; rw [if_pos (by omega), if_pos rfl, abs_n, if_pos rfl]
  · rw [if_neg h, abs_n, if_neg h]
    by_cases h2 : j < H.n
    · rw [if_pos (by omega), if_pos h2]
    · rw [if_neg (by omega), if_neg h2]
end CH

/-- temporaries -/
structure CT where
  base : List Value
  t : Tr Value

namespace CT
def abs (T : CT) : Tm := fun i => match T.t.get i with | some v => v | none => T.base.getD i (.tuple ⟨[]⟩)
def put (T : CT) (i : Nat) (v : Value) : CT := ⟨T.base, T.t.put 21 i v⟩
theorem abs_put (T : CT) {i : Nat} (v : Value) (hi : i < 1048576) : (T.put i v).abs = upd T.abs i v := by
  funext j
  unfold abs put upd
  simp only
  rw [Tr.get_put 20 _ _ _ _ (by have : (2:Nat) ^ 20 = 1048576 := by decide
                                omega)]
  by_cases h : j = i <;> simp [h]
theorem abs_start (args : List Value) : (CT.mk args .nil).abs = start args := rfl
end CT

/-! ### what an operation changes -/
def blk : Value → Option Nat
  | .pointer (some a) => some a.block
  | .slice (some a) _ _ => some a.block
  | .map (some b) => some b
  | _ => none

/-- .. of a slice to which is appended: one that is full is never written -/
def blkA : Value → Option Nat
  | .slice (some a) n c => match Nat.beq n c && Nat.blt c ucap with
    | true => none
    | false => some a.block
  | v => blk v
def blkB (b : Builtin) (v : Value) : Option Nat := match b with
  | .append => blkA v
  | .len => none
  | .cap => none
  | .min => none
  | .max => none
  | _ => blk v

def touch (ev : Operand → Value) : Op → Option Nat
  | .store _ a _ => blk (ev a)
  | .mapUpdate _ m _ _ => blk (ev m)
  | .insert _ m _ _ => blk (ev m)
  | .mapEntry _ m _ => blk (ev m)
  | .entryStore _ m _ _ => blk (ev m)
  | .next it _ => blk (ev it)
  | .call ⟨.builtin b, xs, _⟩ => match xs.toList with
    | x :: _ => blkB b (ev x)
    | [] => none
  | _ => none

inductive Delta (A : AHeap) (b : Option Nat) : AHeap → Prop
  | same : Delta A b A
  | push (o : AObj) : Delta A b (A.push o)
  | set (i : Nat) (o : AObj) (h : b = some i) (hs : (A.f i).isSome = true) : Delta A b (A.set i o)
  | setPush (i : Nat) (o o' : AObj) (h : b = some i) (hs : (A.f i).isSome = true) : Delta A b ((A.set i o).push o')

theorem map_same {A A' : AHeap} {v : Value} {x : Option Value} (h : x.map (·, A) = some (v, A')) : A' = A := by
  cases x <;> cases h; rfl
theorem map_unit {A' : AHeap} {v u : Value} {x : Option AHeap} (h : x.map (u, ·) = some (v, A')) : x = some A' := by
  cases x <;> cases h; rfl

theorem store_delta {P : Program} {A A' : AHeap} {t : TypeId} {a v : Value} (h : astore P A t a v = some A') : Delta A (blk a) A' := by
  unfold astore at h
  split at h
  · split at h
    · rename_i hf
      split at h
      · cases h
      · split at h
        · split at h
          · obtain ⟨z, hz, h⟩ := Option.map_eq_some_iff.1 h
            cases h; exact .set _ _ rfl (by rw [hf]; rfl)
          · cases h
        · cases h
    · cases h
  · cases h

theorem update_delta {P : Program} {A A' : AHeap} {t : TypeId} {m k v : Value} (h : amapUpdate P A t m k v = some A') : Delta A (blk m) A' := by
  unfold amapUpdate at h
  split at h
  · split at h
    · rename_i hf
      split at h
      · split at h
        · cases h; exact .set _ _ rfl (by rw [hf]; rfl)
        · cases h; exact .set _ _ rfl (by rw [hf]; rfl)
      · cases h
    · cases h
  · cases h

theorem entry_delta {P : Program} {A A' : AHeap} {t : TypeId} {m k v : Value} (h : amapEntry P A t m k = some (v, A')) : Delta A (blk m) A' := by
  unfold amapEntry at h
  split at h
  · split at h
    · rename_i es clock hf
      split at h
      · split at h
        · obtain ⟨z, hz, h⟩ := Option.map_eq_some_iff.1 h
          cases h; exact .set _ _ rfl (by rw [hf]; rfl)
        · obtain ⟨z, hz, h⟩ := Option.map_eq_some_iff.1 h
          cases h; exact .set _ _ rfl (by rw [hf]; rfl)
      · cases h
    · cases h
  · cases h

theorem entryStore_delta {A A' : AHeap} {m s v : Value} (h : aentryStore A m s v = some A') : Delta A (blk m) A' := by
  unfold aentryStore at h
  split at h
  · split at h
    · rename_i hf
      obtain ⟨z, hz, h⟩ := Option.map_eq_some_iff.1 h
      cases h; exact .set _ _ rfl (by rw [hf]; rfl)
    · cases h
  · cases h

theorem delete_delta {P : Program} {A A' : AHeap} {t : TypeId} {m k : Value} (h : adelete P A t m k = some A') : Delta A (blk m) A' := by
  unfold adelete at h
  split at h
  · split at h
    · rename_i hf
      split at h
      · split at h
        · cases h; exact .set _ _ rfl (by rw [hf]; rfl)
        · cases h; exact .same
      · cases h
    · cases h
  · cases h

theorem clear_delta {P : Program} {A A' : AHeap} {t : TypeId} {x : Value} (h : aclear P A t x = some A') : Delta A (blk x) A' := by
  unfold aclear at h
  split at h
  · cases h
  · split at h
    · cases h; exact .same
    · split at h
      · cases h; exact .same
      · split at h
        · cases h
        · split at h
          · rename_i hf
            split at h
            · cases h
            · obtain ⟨z, hz, h⟩ := Option.map_eq_some_iff.1 h
              cases h; exact .set _ _ rfl (by rw [hf]; rfl)
          · cases h
    · cases h

theorem makeMap_delta {P : Program} {A A' : AHeap} {t : TypeId} {x : Option Value} {v : Value} (h : amakeMap P A t x = some (v, A')) : Delta A none A' := by
  unfold amakeMap at h
  split at h
  · cases h; exact .push _
  · split at h
    · cases h; exact .push _
    · cases h
  · cases h

theorem range_delta {P : Program} {A A' : AHeap} {t : TypeId} {x v : Value} (h : arange P A t x = some (v, A')) : Delta A none A' := by
  unfold arange at h
  split at h
  · cases h; exact .push _
  · split at h
    · cases h; exact .push _
    · cases h
  · cases h

theorem nextStr_delta {A A' : AHeap} {x v : Value} (h : anextStr A x = some (v, A')) : Delta A (blk x) A' := by
  unfold anextStr at h
  split at h
  · split at h
    · rename_i hf
      split at h
      · cases h; exact .set _ _ rfl (by rw [hf]; rfl)
      · cases h; exact .same
    · cases h
  · cases h

theorem buildSlice_delta {P : Program} {A A' : AHeap} {t : TypeId} {n : Nat} {ps : List (Nat × Value)} {v : Value} (h : abuildSlice P A t n ps = some (v, A')) : Delta A none A' := by
  unfold abuildSlice at h
  split at h
  · cases h
  · split at h
    · split at h
      · obtain ⟨z, hz, h⟩ := Option.map_eq_some_iff.1 h
        cases h; exact .push _
      · cases h
    · cases h

theorem inPlace_delta {A A' : AHeap} {b o l s n c : Nat} {new : List Value} {v : Value} (h : inPlace A b o l s n new c = some (v, A')) : Delta A (some b) A' := by
  unfold inPlace at h
  split at h
  · cases h; exact .same
  · split at h
    · rename_i hf
      split at h
      · cases h
      · obtain ⟨z, hz, h⟩ := Option.map_eq_some_iff.1 h
        cases h; exact .set _ _ rfl (by rw [hf]; rfl)
    · cases h

theorem append_delta {P : Program} {A A' : AHeap} {st xt : TypeId} {s x v : Value} (h : aappend P A st xt s x = some (v, A')) : Delta A (blk s) A' := by
  unfold aappend at h
  split at h
  · cases h
  · split at h
    · cases h
    · split at h
      · split at h
        · cases h; exact .same
        · split at h
          · cases h; exact .push _
          · cases h
      · split at h
        · split at h
          · exact inPlace_delta h
          · split at h
            · split at h
              · obtain ⟨z, hz, h⟩ := Option.map_eq_some_iff.1 h
                cases h; exact .push _
              · cases h
            · cases h
        · split at h
          · split at h
            · cases h
            · split at h
              · exact inPlace_delta h
              · split at h
                · rename_i hf
                  split at h
                  · cases h; exact .setPush _ _ _ rfl (by rw [hf]; rfl)
                  · cases h
                · cases h
          · cases h
      · cases h

theorem copy_delta {P : Program} {A A' : AHeap} {t : TypeId} {d s v : Value} (h : acopy P A t d s = some (v, A')) : Delta A (blk d) A' := by
  unfold acopy at h
  split at h
  · cases h
  · split at h
    · cases h
    · split at h
      · cases h
      · split at h
        · split at h
          · cases h; exact .same
          · cases h
        · split at h
          · cases h; exact .same
          · split at h
            · cases h
            · split at h
              · rename_i hf
                split at h
                · cases h
                · obtain ⟨z, hz, h⟩ := Option.map_eq_some_iff.1 h
                  cases h; exact .set _ _ rfl (by rw [hf]; rfl)
              · cases h
        · cases h

theorem Delta.any {A A' : AHeap} {b : Option Nat} (h : Delta A none A') : Delta A b A' := by
  cases h with
  | same => exact .same
  | push o => exact .push o
  | set i o h _ => cases h
  | setPush i o o' h _ => cases h

theorem append_deltaA {P : Program} {A A' : AHeap} {st xt : TypeId} {s x v : Value} (h : aappend P A st xt s x = some (v, A')) : Delta A (blkA s) A' := by
  by_cases hb : blkA s = blk s
  · rw [hb]; exact append_delta h
  · obtain ⟨a, n, rfl, hn⟩ : ∃ a n, s = .slice (some a) n n ∧ n < ucap := by
      unfold blkA at hb
      split at hb
      · rename_i a n c
        split at hb
        · rename_i hc
          rw [Bool.and_eq_true] at hc
          have h1 := Nat.eq_of_beq_eq_true hc.1
          have h2 := Nat.le_of_ble_eq_true hc.2
          subst h1
          exact ⟨a, n, rfl, h2⟩
        · exact absurd rfl hb
      · exact absurd rfl hb
    refine Delta.any ?_
    unfold aappend at h
    split at h
    · cases h
    · split at h
      · cases h
      · split at h
        · rename_i heq; cases heq
        · rename_i b o len c heq
          cases heq
          rw [if_pos hn] at h
          split at h
          · rename_i hle
            unfold inPlace at h
            rw [if_pos (by omega)] at h
            cases h; exact .same
          · split at h
            · split at h
              · obtain ⟨z, hz, h⟩ := Option.map_eq_some_iff.1 h
                cases h; exact .push _
              · cases h
            · cases h
        · cases h

theorem builtin_delta {P : Program} {A A' : AHeap} {b : Builtin} {ts : List TypeId} {x v : Value} {xs : List Value} (h : abuiltin P A b ts (x :: xs) = some (v, A')) : Delta A (blkB b x) A' := by
  unfold abuiltin at h
  split at h
  all_goals first
    | (rename_i hx; cases hx; first
        | (rw [map_same h]; exact .same)
        | exact append_deltaA h
        | exact delete_delta (map_unit h)
        | exact clear_delta (map_unit h))
    | (first
        | (rw [map_same h]; exact .same)
        | exact append_deltaA h
        | exact delete_delta (map_unit h)
        | exact clear_delta (map_unit h))
    | cases h

theorem aop_delta {P : Program} {A A' : AHeap} {o : Op} {ev : Operand → Value} {v : Value} (h : aop P o ev A = some (v, A')) : Delta A (touch ev o) A' := by
  have unit : ∀ {b : Option Nat}, (A' = A) → Delta A b A' := by rintro b rfl; exact .same
  unfold aop at h
  split at h
  all_goals first
    | (cases h; exact .same)
    | exact unit (map_same h)
    | exact store_delta (map_unit h)
    | exact update_delta (map_unit h)
    | exact entry_delta h
    | exact entryStore_delta (map_unit h)
    | exact (makeMap_delta h).any
    | exact (range_delta h).any
    | exact nextStr_delta h
    | exact (buildSlice_delta h).any
    | (obtain ⟨z, hz, h⟩ := Option.map_eq_some_iff.1 h; cases h; exact .push _)
    | (cases h; done)
    | skip
  rename_i b xs ts
  cases hx : xs.toList with
  | nil => rw [hx] at h; simp [abuiltin] at h
  | cons x l =>
    rw [hx] at h
    have : touch ev (.call ⟨.builtin b, xs, ts⟩) = blkB b (ev x) := by simp only [touch, hx]
    rw [this]
    exact builtin_delta (by simpa using h)

end Go.AB
