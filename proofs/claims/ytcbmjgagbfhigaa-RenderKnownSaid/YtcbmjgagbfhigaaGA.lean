/-
  The abstract heap and how it stands to the model's memory: a machine for proofs that a call's answer hangs neither on the tape nor on block numbers.
-/
import Derived.WalkKit
import Derived.Maps.Own
import Derived.DeepKeys5
namespace Go.AB
open Go
set_option linter.unusedSimpArgs false
set_option linter.unusedVariables false

/-- the real side of an abstract block: its block, where in it the abstract row begins, and for rows that grew by append the size of an element and of the row, in cells -/
structure Ent where
  blk : Nat
  sh : Nat
  esz : Nat
  rsz : Nat

abbrev Rho := Nat → Option Ent

/-- an abstract capacity that is not known -/
def ucap : Nat := 18446744073709551616
/-- that of an empty slice whose address is not known either -/
def ecap : Nat := 18446744073709551617
/-- a value of which nothing is known -/
def top : Value := .chan (some 0)

/-- an abstract value stands for a real one -/
inductive VR (ρ : Rho) : Value → Value → Prop
  | top (v : Value) : VR ρ (.chan (some 0)) v
  | bool (b : Bool) : VR ρ (.bool b) (.bool b)
  | int (k : IntKind) (n : Int) : VR ρ (.int k n) (.int k n)
  | string (s : ByteArray) : VR ρ (.string s) (.string s)
  | pnil : VR ρ (.pointer none) (.pointer none)
  | ptr (i o q : Nat) (e : Ent) (h : ρ i = some e) (hq : q = e.sh + o) : VR ρ (.pointer (some ⟨i, o, none⟩)) (.pointer (some ⟨e.blk, q, none⟩))
  | snil (n c : Nat) : VR ρ (.slice none n c) (.slice none n c)
  | slice (i o q n c : Nat) (e : Ent) (h : ρ i = some e) (hq : q = e.sh + o) (hc : c < ucap) : VR ρ (.slice (some ⟨i, o, none⟩) n c) (.slice (some ⟨e.blk, q, none⟩) n c)
  | sliceU (i o q n c : Nat) (e : Ent) (h : ρ i = some e) (hq : q = e.sh + o) (hs : o + c * e.esz = e.rsz) (hn : n ≤ c) (he : 0 < e.esz) :
      VR ρ (.slice (some ⟨i, o, none⟩) n ucap) (.slice (some ⟨e.blk, q, none⟩) n c)
  | sliceE (a a' : Addr) (c : Nat) : VR ρ (.slice (some a) 0 ecap) (.slice (some a') 0 c)
  | mnil : VR ρ (.map none) (.map none)
  | map (i : Nat) (e : Ent) (h : ρ i = some e) : VR ρ (.map (some i)) (.map (some e.blk))
  | nilFunc : VR ρ .nilFunc .nilFunc
  | func (fn : Fn) (f g f' g' : Array Value) (hf : f.size = f'.size) (hg : g.size = g'.size)
      (h1 : ∀ (i : Nat) v v', f[i]? = some v → f'[i]? = some v' → VR ρ v v') (h2 : ∀ (i : Nat) v v', g[i]? = some v → g'[i]? = some v' → VR ρ v v') :
      VR ρ (.func fn f g) (.func fn f' g')
  | nilIface : VR ρ .nilIface .nilIface
  | iface (t : TypeId) (v v' : Value) (h : VR ρ v v') : VR ρ (.iface t v) (.iface t v')
  | agg (c c' : Array Value) (hs : c.size = c'.size) (h : ∀ (i : Nat) v v', c[i]? = some v → c'[i]? = some v' → VR ρ v v') : VR ρ (.agg c) (.agg c')
  | tuple (c c' : Array Value) (hs : c.size = c'.size) (h : ∀ (i : Nat) v v', c[i]? = some v → c'[i]? = some v' → VR ρ v v') : VR ρ (.tuple c) (.tuple c')

/-- one map of blocks holds another one -/
def Sub (ρ ρ' : Rho) : Prop := ∀ i e, ρ i = some e → ρ' i = some e

theorem Sub.refl (ρ : Rho) : Sub ρ ρ := fun _ _ h => h
theorem Sub.trans {a b c : Rho} (h : Sub a b) (k : Sub b c) : Sub a c := fun i e x => k i e (h i e x)

theorem VR.mono {ρ ρ' : Rho} (hs : Sub ρ ρ') {a r : Value} (h : VR ρ a r) : VR ρ' a r := by
  induction h with
  | top v => exact .top v
  | bool b => exact .bool b
  | int k n => exact .int k n
  | string s => exact .string s
  | pnil => exact .pnil
  | ptr i o q e h hq => exact .ptr i o q e (hs _ _ h) hq
  | snil n c => exact .snil n c
  | slice i o q n c e h hq hc => exact .slice i o q n c e (hs _ _ h) hq hc
  | sliceU i o q n c e h hq h1 h2 h3 => exact .sliceU i o q n c e (hs _ _ h) hq h1 h2 h3
  | sliceE a a' c => exact .sliceE a a' c
  | mnil => exact .mnil
  | map i e h => exact .map i e (hs _ _ h)
  | nilFunc => exact .nilFunc
  | func fn f g f' g' hf hg _ _ h1 h2 => exact .func fn f g f' g' hf hg h1 h2
  | nilIface => exact .nilIface
  | iface t v v' _ h => exact .iface t v v' h
  | agg c c' hs' _ h => exact .agg c c' hs' h
  | tuple c c' hs' _ h => exact .tuple c c' hs' h

/-- the value of one cell, of which something is known -/
def scalar : Value → Bool
  | .bool _ | .int .. | .string _ | .pointer _ | .slice .. | .map _ | .func .. | .nilFunc | .nilIface | .iface .. => true
  | _ => false

/-- rows: of an argument (never written), of a fixed size, grown by append -/
inductive Kind where
  | ro | fix
  | grown (esz : Nat)
  deriving DecidableEq

/-- abstract blocks -/
inductive AObj where
  | row (cs : List Value) (k : Kind)
  | map (es : List MapEntry) (clock : Nat)
  | iter (m : Nat) (since : Nat) (seen : List Nat) (last : Nat)
  | siter (s : ByteArray) (pos : Nat)
  | dead

/-- the abstract heap -/
structure AHeap where
  n : Nat
  f : Nat → Option AObj

namespace AHeap
def push (A : AHeap) (o : AObj) : AHeap := ⟨A.n + 1, fun i => if i = A.n then some o else A.f i⟩
def set (A : AHeap) (i : Nat) (o : AObj) : AHeap := ⟨A.n, fun j => if j = i then some o else A.f j⟩
@[simp] theorem push_n (A : AHeap) (o : AObj) : (A.push o).n = A.n + 1 := rfl
@[simp] theorem set_n (A : AHeap) (i : Nat) (o : AObj) : (A.set i o).n = A.n := rfl
theorem push_f (A : AHeap) (o : AObj) (i : Nat) : (A.push o).f i = if i = A.n then some o else A.f i := rfl
theorem set_f (A : AHeap) (i j : Nat) (o : AObj) : (A.set i o).f j = if j = i then some o else A.f j := rfl
theorem push_new (A : AHeap) (o : AObj) : (A.push o).f A.n = some o := by simp [push_f]
theorem push_old (A : AHeap) (o : AObj) {i : Nat} (h : i < A.n) : (A.push o).f i = A.f i := by rw [push_f, if_neg (by omega)]
theorem set_same (A : AHeap) (i : Nat) (o : AObj) : (A.set i o).f i = some o := by simp [set_f]
theorem set_other (A : AHeap) {i j : Nat} (o : AObj) (h : j ≠ i) : (A.set i o).f j = A.f j := by rw [set_f, if_neg h]
end AHeap

/-- may it be written? -/
def writable (A : AHeap) (i : Nat) : Prop :=
  match A.f i with
  | some (.row _ .ro) | some .dead | none => False
  | _ => True

def live (A : AHeap) (i : Nat) : Prop := A.f i ≠ some .dead

/-- entries of a map: the same keys and stamps, values one by one -/
structure MapR (ρ : Rho) (es : List MapEntry) (ents : Array MapEntry) (clock : Nat) : Prop where
  size : ents.size = es.length
  each : ∀ (i : Nat) (a en : MapEntry), es[i]? = some a → ents[i]? = some en → en.key = a.key ∧ en.born = a.born ∧ VR ρ a.val en.val
  keys : ∀ (i j : Nat) (a b : MapEntry), es[i]? = some a → es[j]? = some b → a.key = b.key → i = j
  born : ∀ (i j : Nat) (a b : MapEntry), es[i]? = some a → es[j]? = some b → a.born = b.born → i = j
  clock : ∀ (i : Nat) (a : MapEntry), es[i]? = some a → a.born < clock
  self : ∀ (i : Nat) (a : MapEntry), es[i]? = some a → ∀ ρ', VR ρ' a.key a.key

/-- an abstract block stands for a real one -/
def OR (ρ : Rho) (H : Array Obj) (e : Ent) : AObj → Prop
  | .dead => True
  | .row cs k => ∃ c t fz, H[e.blk]? = some (.cells c t fz) ∧ (∀ (i : Nat) v, cs[i]? = some v → ∃ v', c[e.sh + i]? = some v' ∧ VR ρ v v') ∧ cs.all scalar = true ∧
      (match k with
        | .ro => True
        | .fix => fz = (0, 0) ∧ c.size = cs.length ∧ e.sh = 0
        | .grown n => fz = (0, 0) ∧ c.size = e.rsz ∧ e.sh = 0 ∧ e.esz = n)
  | .map es clock => ∃ ents, H[e.blk]? = some (.map ents clock) ∧ MapR ρ es ents clock
  | .iter m since seen last => ∃ em, ρ m = some em ∧ H[e.blk]? = some (.mapIter (some em.blk) since ⟨seen⟩ last) ∧ e.sh = 0
  | .siter s pos => H[e.blk]? = some (.stringIter s pos) ∧ e.sh = 0

/-- the abstract heap stands for the real one, as far as ρ goes -/
structure Rel (ρ : Rho) (A : AHeap) (w : World) : Prop where
  lt : ∀ i e, ρ i = some e → i < A.n
  obj : ∀ i e, ρ i = some e → ∃ o, A.f i = some o ∧ OR ρ w.heap e o
  bnd : ∀ i e, ρ i = some e → e.blk < w.heap.size
  inj : ∀ i j e e', ρ i = some e → ρ j = some e' → e.blk = e'.blk → writable A i → live A j → i = j

/-- which cells of a block are shared with a string -/
def fzOf : Option Obj → Nat × Nat
  | some (.cells _ _ fz) => fz
  | _ => (0, 0)
theorem frozen_fz (w : World) (a : Addr) : w.frozen? a = (decide ((fzOf w.heap[a.block]?).1 ≤ a.off) && decide (a.off < (fzOf w.heap[a.block]?).2)) := by
  unfold World.frozen?
  cases h : w.heap[a.block]? with
  | none => simp [fzOf]
  | some o =>
    cases o with
    | cells c t fz => obtain ⟨lo, hi⟩ := fz; rfl
    | _ => simp [fzOf]
theorem frozen_same {w w' : World} (h : ∀ B : Nat, fzOf w'.heap[B]? = fzOf w.heap[B]?) (a : Addr) : w'.frozen? a = w.frozen? a := by
  rw [frozen_fz, frozen_fz, h]
theorem frozen_push {w : World} {O : Obj} (h : fzOf (some O) = (0, 0)) (a : Addr) : World.frozen? { w with heap := w.heap.push O } a = w.frozen? a := by
  refine frozen_same (fun B => ?_) a
  show fzOf (w.heap.push O)[B]? = _
  rw [Array.getElem?_push]
  split
  · rename_i hB; subst hB; rw [h]; simp [fzOf]
  · rfl
theorem frozen_set {w : World} {O : Obj} {b : Nat} (h : fzOf (some O) = fzOf w.heap[b]?) (a : Addr) : World.frozen? { w with heap := w.heap.setIfInBounds b O } a = w.frozen? a := by
  refine frozen_same (fun B => ?_) a
  show fzOf (w.heap.setIfInBounds b O)[B]? = _
  rw [Array.getElem?_setIfInBounds]
  split
  · rename_i hB; subst hB
    split
    · exact h
    · rename_i hlt; rw [Array.getElem?_eq_none (by omega)]
  · rfl
theorem fz_writable {ρ : Rho} {A : AHeap} {w : World} (h : Rel ρ A w) {i : Nat} {e : Ent} (hi : ρ i = some e) (hw : writable A i) : fzOf w.heap[e.blk]? = (0, 0) := by
  obtain ⟨o, h1, h2⟩ := h.obj i e hi
  unfold writable at hw
  rw [h1] at hw
  cases o with
  | row cs k =>
    obtain ⟨c, t, fz, g1, _, _, g2⟩ := h2
    cases k with
    | ro => exact hw.elim
    | fix => rw [g1]; exact g2.1
    | grown n => rw [g1]; exact g2.1
  | map es c => obtain ⟨ents, g1, _⟩ := h2; rw [g1]; rfl
  | iter m s se l => obtain ⟨em, _, g1, _⟩ := h2; rw [g1]; rfl
  | siter s p => obtain ⟨g1, _⟩ := h2; rw [g1]; rfl
  | dead => exact hw.elim

/-- what a run may do -/
structure Step (ρ : Rho) (A : AHeap) (w : World) (ρ' : Rho) (A' : AHeap) (w' : World) : Prop where
  sub : Sub ρ ρ'
  rel : Rel ρ' A' w'
  os : w'.os = w.os
  tape : w'.tape = w.tape ∧ ∀ a, w'.frozen? a = w.frozen? a
  output : w'.output = w.output
  size : w.heap.size ≤ w'.heap.size
  frame : ∀ B, B < w.heap.size → (∀ i e, ρ i = some e → writable A i → e.blk ≠ B) → w'.heap[B]? = w.heap[B]?
  fresh : ∀ i e, ρ' i = some e → ρ i = none → w.heap.size ≤ e.blk ∨ ∃ j e', ρ j = some e' ∧ writable A j ∧ e'.blk = e.blk
  keep : ∀ i e, ρ i = some e → writable A' i → writable A i
  grow : A.n ≤ A'.n
  news : ∀ i e, ρ' i = some e → ρ i = none → A.n ≤ i

theorem Step.refl {ρ : Rho} {A : AHeap} {w : World} (h : Rel ρ A w) : Step ρ A w ρ A w :=
  ⟨Sub.refl _, h, rfl, ⟨rfl, fun _ => rfl⟩, rfl, Nat.le_refl _, fun _ _ _ => rfl, fun i e h1 h2 => by simp [h1] at h2, fun _ _ _ h => h, Nat.le_refl _, fun i e h1 h2 => by simp [h1] at h2⟩

theorem Step.trans {ρ ρ1 ρ2 : Rho} {A A1 A2 : AHeap} {w w1 w2 : World} (h : Step ρ A w ρ1 A1 w1) (k : Step ρ1 A1 w1 ρ2 A2 w2) :
    Step ρ A w ρ2 A2 w2 where
  sub := h.sub.trans k.sub
  rel := k.rel
  os := k.os.trans h.os
  tape := ⟨k.tape.1.trans h.tape.1, fun a => (k.tape.2 a).trans (h.tape.2 a)⟩
  output := k.output.trans h.output
  size := Nat.le_trans h.size k.size
  frame := fun B hB hn => by
    rw [k.frame B (Nat.lt_of_lt_of_le hB h.size) ?_, h.frame B hB hn]
    intro i e hi hw
    cases ho : ρ i with
    | some e0 =>
      have := h.sub _ _ ho
      rw [hi] at this; cases this
      exact hn i e ho (h.keep i e ho hw)
    | none =>
      rcases h.fresh i e hi ho with hf | ⟨j, e', hj, hwj, hb⟩
      · omega
      · rw [← hb]; exact hn j e' hj hwj
  fresh := fun i e hi ho => by
    cases h1 : ρ1 i with
    | some e1 =>
      have := k.sub _ _ h1
      rw [hi] at this; cases this
      exact h.fresh i e h1 ho
    | none =>
      rcases k.fresh i e hi h1 with hf | ⟨j, e', hj, hwj, hb⟩
      · exact .inl (Nat.le_trans h.size hf)
      · cases hoj : ρ j with
        | some e0 =>
          have := h.sub _ _ hoj
          rw [hj] at this; cases this
          exact .inr ⟨j, e', hoj, h.keep j e' hoj hwj, hb⟩
        | none =>
          rcases h.fresh j e' hj hoj with hf | ⟨j2, e2, hj2, hw2, hb2⟩
          · exact .inl (by omega)
          · exact .inr ⟨j2, e2, hj2, hw2, by omega⟩
  keep := fun i e hi hw => h.keep i e hi (k.keep i e (h.sub _ _ hi) hw)
  grow := Nat.le_trans h.grow k.grow
  news := fun i e hi ho => by
    cases h1 : ρ1 i with
    | some e1 => exact h.news i e1 h1 ho
    | none => exact Nat.le_trans h.grow (k.news i e hi h1)

/-- a draw leaves memory as it is -/
theorem Rel.drew {ρ : Rho} {A : AHeap} {w : World} (h : Rel ρ A w) (n : Nat) : Rel ρ A { w with drawn := n } :=
  ⟨h.lt, h.obj, h.bnd, h.inj⟩
theorem Step.drew {ρ : Rho} {A : AHeap} {w : World} (h : Rel ρ A w) (n : Nat) : Step ρ A w ρ A { w with drawn := n } :=
  ⟨Sub.refl _, h.drew n, rfl, ⟨rfl, fun _ => rfl⟩, rfl, Nat.le_refl _, fun _ _ _ => rfl, fun i e h1 h2 => by simp [h1] at h2, fun _ _ _ h => h, Nat.le_refl _, fun i e h1 h2 => by simp [h1] at h2⟩

end Go.AB

/-
  Steps of the abstract heap: a new block, a row that is written, a map that is changed.
-/
namespace Go.AB
open Go
set_option linter.unusedSimpArgs false
set_option linter.unusedVariables false

theorem OR.mono {ρ ρ' : Rho} {H H' : Array Obj} {e : Ent} {o : AObj} (h : OR ρ H e o) (hs : Sub ρ ρ') (hb : H'[e.blk]? = H[e.blk]?) : OR ρ' H' e o := by
  cases o with
  | dead => trivial
  | row cs k =>
    obtain ⟨c, t, fz, h1, h2, h3⟩ := h
    refine ⟨c, t, fz, hb.trans h1, ?_, h3⟩
    intro i v hv
    obtain ⟨v', a, b⟩ := h2 i v hv
    exact ⟨v', a, b.mono hs⟩
  | map es clock =>
    obtain ⟨ents, h1, h2⟩ := h
    refine ⟨ents, hb.trans h1, h2.size, ?_, h2.keys, h2.born, h2.clock, h2.self⟩
    intro i a en hk hen
    obtain ⟨x, y, z⟩ := h2.each i a en hk hen
    exact ⟨x, y, z.mono hs⟩
  | iter m since seen last =>
    obtain ⟨em, h1, h2, h3⟩ := h
    exact ⟨em, hs _ _ h1, hb.trans h2, h3⟩
  | siter s p => exact ⟨hb.trans h.1, h.2⟩

def ext (ρ : Rho) (i : Nat) (e : Ent) : Rho := fun j => if j = i then some e else ρ j
theorem ext_same (ρ : Rho) (i : Nat) (e : Ent) : ext ρ i e i = some e := by simp [ext]
theorem ext_sub {ρ : Rho} {i : Nat} (e : Ent) (h : ρ i = none) : Sub ρ (ext ρ i e) := by
  intro j e' hj
  unfold ext
  split
  · rename_i hji; subst hji; rw [h] at hj; cases hj
  · exact hj

theorem Rel.none_n {ρ : Rho} {A : AHeap} {w : World} (h : Rel ρ A w) : ρ A.n = none := by
  cases hc : ρ A.n with
  | none => rfl
  | some e => exact absurd (h.lt _ _ hc) (Nat.lt_irrefl _)

/-- a new block -/
theorem Step.push {ρ : Rho} {A : AHeap} {w : World} (h : Rel ρ A w) (o : AObj) (O : Obj) (esz rsz : Nat)
    (ho : OR (ext ρ A.n ⟨w.heap.size, 0, esz, rsz⟩) (w.heap.push O) ⟨w.heap.size, 0, esz, rsz⟩ o) (hz : fzOf (some O) = (0, 0) := by rfl) :
    Step ρ A w (ext ρ A.n ⟨w.heap.size, 0, esz, rsz⟩) (A.push o) { w with heap := w.heap.push O } := by
  have hnone := h.none_n
  have hsub : Sub ρ (ext ρ A.n ⟨w.heap.size, 0, esz, rsz⟩) := ext_sub _ hnone
  have hold : ∀ B, B < w.heap.size → (w.heap.push O)[B]? = w.heap[B]? := fun B hB => by rw [Array.getElem?_push, if_neg (by omega)]
  refine ⟨hsub, ⟨?_, ?_, ?_, ?_⟩, rfl, ⟨rfl, frozen_push hz⟩, rfl, by simp, fun B hB _ => hold B hB, ?_, ?_, by simp, ?_⟩
  · intro i e hi
    unfold ext at hi
    split at hi
    · rename_i hin; subst hin; simp
    · have := h.lt _ _ hi; simp; omega
  · intro i e hi
    unfold ext at hi
    split at hi
    · rename_i hin; subst hin; cases hi
      exact ⟨o, AHeap.push_new _ _, ho⟩
    · obtain ⟨o', h1, h2⟩ := h.obj _ _ hi
      refine ⟨o', by rw [AHeap.push_old _ _ (h.lt _ _ hi)]; exact h1, h2.mono hsub (hold _ (h.bnd _ _ hi))⟩
  · intro i e hi
    unfold ext at hi
    split at hi
    · cases hi; simp
    · have := h.bnd _ _ hi; simp; omega
  · intro i j e e' hi hj hb hw hl
    unfold ext at hi hj
    split at hi <;> split at hj
    · omega
    · cases hi; have := h.bnd _ _ hj; simp at hb; omega
    · cases hj; have := h.bnd _ _ hi; simp at hb; omega
    · have hi' := h.lt _ _ hi
      have hj' := h.lt _ _ hj
      refine h.inj i j e e' hi hj hb ?_ ?_
      · unfold writable at hw ⊢; rw [AHeap.push_old _ _ hi'] at hw; exact hw
      · unfold live at hl ⊢; rw [AHeap.push_old _ _ hj'] at hl; exact hl
  · intro i e hi ho'
    unfold ext at hi
    split at hi
    · cases hi; exact .inl (Nat.le_refl _)
    · rw [ho'] at hi; cases hi
  · intro i e hi hw
    have hi' := h.lt _ _ hi
    unfold writable at hw ⊢; rw [AHeap.push_old _ _ hi'] at hw; exact hw
  · intro i e hi ho'
    unfold ext at hi
    split at hi
    · rename_i hin; omega
    · rw [ho'] at hi; cases hi

/-- a block that may be written is written; iterators over it fall behind -/
theorem Step.set {ρ : Rho} {A : AHeap} {w : World} (h : Rel ρ A w) {i : Nat} {e : Ent} (hi : ρ i = some e) (o : AObj) (O : Obj)
    (hw : writable A i)
    (ho : OR ρ (w.heap.setIfInBounds e.blk O) e o) (hz : fzOf (some O) = (0, 0) := by rfl) :
    Step ρ A w ρ (A.set i o) { w with heap := w.heap.setIfInBounds e.blk O } := by
  have hother : ∀ B, B ≠ e.blk → (w.heap.setIfInBounds e.blk O)[B]? = w.heap[B]? := fun B hB => by
    rw [Array.getElem?_setIfInBounds_ne (by omega)]
  have hlive : live A i := by
    unfold live; unfold writable at hw; intro hd; rw [hd] at hw; exact hw
  refine ⟨Sub.refl _, ⟨?_, ?_, ?_, ?_⟩, rfl, ⟨rfl, frozen_set (by rw [hz, fz_writable h hi hw])⟩, rfl, by simp, ?_, ?_, ?_, Nat.le_refl _, fun j e' h1 h2 => by rw [h1] at h2; cases h2⟩
  · intro j e' hj; exact h.lt _ _ hj
  · intro j e' hj
    by_cases hji : j = i
    · subst hji; rw [hi] at hj; cases hj
      exact ⟨o, AHeap.set_same _ _ _, ho⟩
    · obtain ⟨o', h1, h2⟩ := h.obj _ _ hj
      refine ⟨o', by rw [AHeap.set_other _ _ hji]; exact h1, ?_⟩
      by_cases hlj : live A j
      · have hne : e'.blk ≠ e.blk := fun hb => hji (h.inj i j e e' hi hj hb.symm hw hlj).symm
        exact h2.mono (Sub.refl _) (hother _ hne)
      · have : o' = .dead := by
          unfold live at hlj
          have : A.f j = some .dead := Classical.byContradiction hlj
          rw [h1] at this; cases this; rfl
        subst this; trivial
  · intro j e' hj; have := h.bnd _ _ hj; simpa using this
  · intro j k e1 e2 hj hk hb hwj hlk
    have key : ∀ x, live (A.set i o) x → live A x := by
      intro x hx
      by_cases hxi : x = i
      · subst hxi; exact hlive
      · unfold live at hx ⊢; rw [AHeap.set_other _ _ hxi] at hx; exact hx
    have keyw : ∀ x, writable (A.set i o) x → writable A x := by
      intro x hx
      by_cases hxi : x = i
      · subst hxi; exact hw
      · unfold writable at hx ⊢; rw [AHeap.set_other _ _ hxi] at hx; exact hx
    exact h.inj j k e1 e2 hj hk hb (keyw _ hwj) (key _ hlk)
  · intro B hB hn
    exact hother B fun hb => hn i e hi hw hb.symm
  · intro j e' h1 h2; rw [h1] at h2; cases h2
  · intro j e' hj hwj
    by_cases hji : j = i
    · subst hji; exact hw
    · unfold writable at hwj ⊢; rw [AHeap.set_other _ _ hji] at hwj; exact hwj

end Go.AB

/-
  Loads, stores and blocks of the abstract heap against the model's.
-/
namespace Go.AB
open Go
set_option linter.unusedSimpArgs false
set_option linter.unusedVariables false

def szOf (P : Program) (t : TypeId) : Option Nat := (P.info? t).map (·.size)
def byOf (P : Program) (t : TypeId) : Option Nat := (P.info? t).map (·.bytes)
def aggOf (P : Program) (t : TypeId) : Option Bool := (P.underlying t).map fun | .struct _ | .array _ _ => true | _ => false

theorem run_szOf {P : Program} {t : TypeId} {n : Nat} (h : szOf P t = some n) (w : World) : (sizeOf t).run P w = .ok n w := by
  unfold szOf at h
  cases hi : P.info? t with
  | none => rw [hi] at h; cases h
  | some i =>
    rw [hi] at h; cases h
    simp [sizeOf, typeInfo, hi]

theorem run_byOf {P : Program} {t : TypeId} {n : Nat} (h : byOf P t = some n) : ∃ i, P.info? t = some i ∧ i.bytes = n := by
  unfold byOf at h
  cases hi : P.info? t with
  | none => rw [hi] at h; cases h
  | some i => rw [hi] at h; cases h; exact ⟨i, rfl, rfl⟩

theorem run_aggOf {P : Program} {t : TypeId} {b : Bool} (h : aggOf P t = some b) (w : World) : (isAgg t).run P w = .ok b w := by
  unfold aggOf at h
  cases hi : P.underlying t with
  | none => rw [hi] at h; cases h
  | some d =>
    rw [hi] at h; simp only [Option.map_some, Option.some.injEq] at h
    simp only [isAgg, Sem.run_bind, run_underlying hi, Result.andThen_ok]
    subst h
    cases d <;> rfl

/-- a value's cells -/
def acells : Value → Option (List Value)
  | .agg c => if c.toList.all scalar then some c.toList else none
  | v => if scalar v then some [v] else none

/-- lists of values, one by one -/
def VL (ρ : Rho) (cs rs : List Value) : Prop :=
  cs.length = rs.length ∧ ∀ (i : Nat) v v', cs[i]? = some v → rs[i]? = some v' → VR ρ v v'

theorem VL.mono {ρ ρ' : Rho} (hs : Sub ρ ρ') {a b : List Value} (h : VL ρ a b) : VL ρ' a b :=
  ⟨h.1, fun i v v' x y => (h.2 i v v' x y).mono hs⟩
theorem VL.nil {ρ : Rho} : VL ρ [] [] := ⟨rfl, fun i v v' h => by simp at h⟩
theorem VL.cons {ρ : Rho} {a b : Value} {x y : List Value} (h : VR ρ a b) (k : VL ρ x y) : VL ρ (a :: x) (b :: y) := by
  refine ⟨by simp [k.1], fun i v v' hx hy => ?_⟩
  cases i with
  | zero => simp at hx hy; subst hx; subst hy; exact h
  | succ i => simp at hx hy; exact k.2 i v v' hx hy
theorem VL.append {ρ : Rho} {a b x y : List Value} (h : VL ρ a b) (k : VL ρ x y) : VL ρ (a ++ x) (b ++ y) := by
  refine ⟨by simp [h.1, k.1], fun i v v' hx hy => ?_⟩
  rw [List.getElem?_append] at hx hy
  rw [h.1] at hx
  split at hx
  · rename_i hi
    rw [if_pos hi] at hy
    exact h.2 _ _ _ hx hy
  · rename_i hi
    rw [if_neg hi] at hy
    exact k.2 _ _ _ hx hy
theorem VL.take {ρ : Rho} {a b : List Value} (h : VL ρ a b) (n : Nat) : VL ρ (a.take n) (b.take n) := by
  refine ⟨by simp [h.1], fun i v v' hx hy => ?_⟩
  rw [List.getElem?_take] at hx hy
  split at hx
  · rename_i hi; rw [if_pos hi] at hy; exact h.2 _ _ _ hx hy
  · cases hx
theorem VL.drop {ρ : Rho} {a b : List Value} (h : VL ρ a b) (n : Nat) : VL ρ (a.drop n) (b.drop n) := by
  refine ⟨by simp [h.1], fun i v v' hx hy => ?_⟩
  rw [List.getElem?_drop] at hx hy
  exact h.2 _ _ _ hx hy
theorem VL.get {ρ : Rho} {a b : List Value} (h : VL ρ a b) {i : Nat} {v : Value} (hi : a[i]? = some v) : ∃ v', b[i]? = some v' ∧ VR ρ v v' := by
  have hlt : i < b.length := by rw [← h.1]; exact (List.getElem?_eq_some_iff.1 hi).1
  exact ⟨b[i], List.getElem?_eq_getElem hlt, h.2 i v _ hi (List.getElem?_eq_getElem hlt)⟩
theorem VL.agg {ρ : Rho} {a b : List Value} (h : VL ρ a b) : VR ρ (.agg ⟨a⟩) (.agg ⟨b⟩) :=
  .agg _ _ (by simpa using h.1) fun i v v' hx hy => h.2 i v v' (by simpa using hx) (by simpa using hy)
theorem VL.tuple {ρ : Rho} {a b : List Value} (h : VL ρ a b) : VR ρ (.tuple ⟨a⟩) (.tuple ⟨b⟩) :=
  .tuple _ _ (by simpa using h.1) fun i v v' hx hy => h.2 i v v' (by simpa using hx) (by simpa using hy)
theorem VR.agg_inv {ρ : Rho} {a : Array Value} {r : Value} (h : VR ρ (.agg a) r) : ∃ b, r = .agg b ∧ VL ρ a.toList b.toList := by
  cases h with
  | agg c c' hs h => exact ⟨c', rfl, by simpa using hs, fun i v v' x y => h i v v' (by simpa using x) (by simpa using y)⟩
theorem VR.tuple_inv {ρ : Rho} {a : Array Value} {r : Value} (h : VR ρ (.tuple a) r) : ∃ b, r = .tuple b ∧ VL ρ a.toList b.toList := by
  cases h with
  | tuple c c' hs h => exact ⟨c', rfl, by simpa using hs, fun i v v' x y => h i v v' (by simpa using x) (by simpa using y)⟩

theorem VR.oneCell {ρ : Rho} {a r : Value} (h : VR ρ a r) (hs : scalar a = true) : r.oneCell' = true := by
  cases h <;> first | rfl | (simp [scalar] at hs)

theorem VR.cells_one {ρ : Rho} {a r : Value} (h : VR ρ a r) (hs : scalar a = true) : r.cells = #[r] := by
  have := h.oneCell hs
  cases r <;> first | rfl | (simp [Value.oneCell'] at this)

theorem acells_sound {ρ : Rho} {a r : Value} {cs : List Value} (h : VR ρ a r) (hc : acells a = some cs) :
    VL ρ cs r.cells.toList ∧ (∀ v ∈ r.cells.toList, v.oneCell' = true) ∧ cs.all scalar = true := by
  unfold acells at hc
  split at hc
  · rename_i c
    split at hc
    · rename_i hall
      cases hc
      obtain ⟨b, rfl, hb⟩ := h.agg_inv
      refine ⟨hb, fun v hv => ?_, hall⟩
      obtain ⟨i, hi⟩ := List.getElem?_of_mem hv
      have hlt : i < c.toList.length := by rw [hb.1]; exact (List.getElem?_eq_some_iff.1 hi).1
      have := hb.2 i _ v (List.getElem?_eq_getElem hlt) hi
      exact this.oneCell (by rw [List.all_eq_true] at hall; exact hall _ (List.getElem_mem hlt))
    · cases hc
  · split at hc
    · rename_i hs
      cases hc
      rw [h.cells_one hs]
      exact ⟨.cons h .nil, by simpa using h.oneCell hs, by simpa using hs⟩
    · cases hc

/-- n cells of a row, from one on -/
def getCells (cs : List Value) (o n : Nat) : Option (List Value) := if o + n ≤ cs.length then some ((cs.drop o).take n) else none

def aload (P : Program) (A : AHeap) (t : TypeId) : Value → Option Value
  | .pointer (some ⟨i, o, none⟩) => match A.f i with
    | some (.row cs _) => match aggOf P t with
      | some true => match szOf P t with
        | some n => (getCells cs o n).map fun l => .agg ⟨l⟩
        | none => none
      | some false => cs[o]?
      | none => none
    | _ => none
  | _ => none

theorem add_none (b o i : Nat) : (⟨b, o, none⟩ : Addr).add i = ⟨b, o + i, none⟩ := by
  unfold Addr.add; split <;> simp_all

theorem row_cell {ρ : Rho} {A : AHeap} {w : World} {i : Nat} {e : Ent} {cs : List Value} {k : Kind} (h : Rel ρ A w) (hi : ρ i = some e)
    (hf : A.f i = some (.row cs k)) {o : Nat} {v : Value} (hv : cs[o]? = some v) : ∃ v', w.cell? ⟨e.blk, e.sh + o, none⟩ = some v' ∧ VR ρ v v' := by
  obtain ⟨ob, h1, h2⟩ := h.obj i e hi
  rw [hf] at h1; cases h1
  obtain ⟨c, t, fz, g1, g2, _⟩ := h2
  obtain ⟨v', g3, g4⟩ := g2 o v hv
  exact ⟨v', by simp [World.cell?, g1, g3], g4⟩

theorem getCells_some {cs : List Value} {o n : Nat} {l : List Value} (h : getCells cs o n = some l) :
    l.length = n ∧ ∀ (j : Nat) v, l[j]? = some v → cs[o + j]? = some v := by
  unfold getCells at h
  split at h
  · rename_i hle
    cases h
    refine ⟨by simp; omega, fun j v hj => ?_⟩
    rw [List.getElem?_take] at hj
    split at hj
    · rwa [List.getElem?_drop] at hj
    · cases hj
  · cases h

/-- the cells of a row, read -/
theorem run_row {P : Program} {ρ : Rho} {A : AHeap} {w : World} {i : Nat} {e : Ent} {cs : List Value} {k : Kind} (h : Rel ρ A w) (hi : ρ i = some e)
    (hf : A.f i = some (.row cs k)) {o n : Nat} {l : List Value} (hl : getCells cs o n = some l) :
    ∃ rs : List Value, (loadCells ⟨e.blk, e.sh + o, none⟩ n).run P w = .ok ⟨rs⟩ w ∧ VL ρ l rs := by
  obtain ⟨hn, hg⟩ := getCells_some hl
  let f : Nat → Value := fun j => (w.cell? ⟨e.blk, e.sh + (o + j), none⟩).getD undef
  refine ⟨(List.range n).map f, ?_, by simp [hn], ?_⟩
  · rw [run_loadCells w ⟨e.blk, e.sh + o, none⟩ n f]
    intro j hj
    rw [add_none, Nat.add_assoc]
    have hj' : j < l.length := by omega
    obtain ⟨v', h1, _⟩ := row_cell h hi hf (hg j l[j] (List.getElem?_eq_getElem hj'))
    simp [f, h1]
  · intro j v v' hv hv'
    obtain ⟨v2, h1, h2⟩ := row_cell h hi hf (hg j v hv)
    have hj : j < n := by rw [← hn]; exact (List.getElem?_eq_some_iff.1 hv).1
    rw [List.getElem?_map, List.getElem?_range hj] at hv'
    simp [f, h1] at hv'
    subst hv'; exact h2

theorem VR.ptr_inv {ρ : Rho} {i o : Nat} {r : Value} (h : VR ρ (.pointer (some ⟨i, o, none⟩)) r) :
    ∃ e, ρ i = some e ∧ r = .pointer (some ⟨e.blk, e.sh + o, none⟩) := by
  cases h with
  | ptr i o q e h hq => subst hq; exact ⟨e, h, rfl⟩

theorem load_sound {P : Program} {ρ : Rho} {A : AHeap} {w : World} {t : TypeId} {a r v : Value} (h : Rel ρ A w) (ha : VR ρ a r) (hl : aload P A t a = some v) :
    ∃ r', (Instr.loadAt t r).run P w = .ok r' w ∧ VR ρ v r' := by
  unfold aload at hl
  split at hl
  · rename_i i o
    obtain ⟨e, he, rfl⟩ := ha.ptr_inv
    split at hl
    · rename_i cs k hf
      split at hl
      · rename_i hag
        split at hl
        · rename_i n hn
          cases hg : getCells cs o n with
          | none => rw [hg] at hl; cases hl
          | some l =>
            rw [hg] at hl; cases hl
            obtain ⟨rs, h1, h2⟩ := run_row (P := P) h he hf hg
            refine ⟨.agg ⟨rs⟩, ?_, h2.agg⟩
            simp [Instr.loadAt, Instr.sureAddr, loadVar, run_aggOf hag, run_szOf hn, h1]
        · cases hl
      · rename_i hag
        obtain ⟨v', h1, h2⟩ := row_cell h he hf hl
        refine ⟨v', ?_, h2⟩
        simp [Instr.loadAt, Instr.sureAddr, loadVar, run_aggOf hag, h1]
      · cases hl
    · cases hl
  · cases hl

/-- cells of a row written, from one on -/
def putCells (cs : List Value) (o : Nat) (vs : List Value) : Option (List Value) :=
  if o + vs.length ≤ cs.length then some (cs.take o ++ vs ++ cs.drop (o + vs.length)) else none

theorem setRow_eq {w : World} {g : Nat} {c c' : Array Value} {t : TypeId} {fz : Nat × Nat} (h : w.heap[g]? = some (.cells c t fz)) :
    w.setRow g c' = { w with heap := w.heap.setIfInBounds g (.cells c' t fz) } := by
  unfold World.setRow
  congr 1
  have hlt : g < w.heap.size := (Array.getElem?_eq_some_iff.1 h).1
  have hv : w.heap[g] = .cells c t fz := (Array.getElem?_eq_some_iff.1 h).2
  apply Array.ext_getElem?
  intro i
  rw [Array.getElem?_modify, Array.getElem?_setIfInBounds]
  by_cases hgi : g = i
  · subst hgi
    rw [if_pos rfl, if_pos rfl, if_pos hlt, h]; rfl
  · rw [if_neg hgi, if_neg hgi]

/-- cells of a row that may be written, written -/
theorem run_put {P : Program} {ρ : Rho} {A : AHeap} {w : World} {i : Nat} {e : Ent} {cs : List Value} {k : Kind} (h : Rel ρ A w) (hi : ρ i = some e)
    (hf : A.f i = some (.row cs k)) (hk : k ≠ .ro) {o : Nat} {vs cs' rs : List Value} (hp : putCells cs o vs = some cs') (hv : VL ρ vs rs)
    (h1 : ∀ v ∈ rs, v.oneCell' = true) (hsc : vs.all scalar = true) :
    ∃ w', (storeCells ⟨e.blk, e.sh + o, none⟩ rs).run P w = .ok () w' ∧ Step ρ A w ρ (A.set i (.row cs' k)) w' := by
  obtain ⟨ob, g1, g2⟩ := h.obj i e hi
  rw [hf] at g1; cases g1
  obtain ⟨c, t, fz, g3, g4, gs, g5⟩ := g2
  have hfz : fz = (0, 0) := by cases k <;> first | exact absurd rfl hk | exact g5.1
  have hsh : e.sh = 0 := by cases k <;> first | exact absurd rfl hk | exact g5.2.2 | exact g5.2.2.1
  subst hfz
  simp only [hsh, Nat.zero_add] at g4 ⊢
  have hlen : cs.length ≤ c.size := by
    rcases Nat.lt_or_ge c.size cs.length with hlt | hge
    · obtain ⟨v', hv', _⟩ := g4 c.size cs[c.size] (List.getElem?_eq_getElem hlt)
      simp at hv'
    · exact hge
  unfold putCells at hp
  split at hp
  · rename_i hle
    cases hp
    have hrl : rs.length = vs.length := hv.1.symm
    have hrun := run_storeCells_at (P := P) e.blk o t rs 0 c w g3 (by omega) h1
    rw [setRow_eq g3] at hrun
    refine ⟨_, hrun, ?_⟩
    refine Step.set h hi _ _ (by unfold writable; rw [hf]; cases k <;> first | exact absurd rfl hk | trivial) ?_
    have hlt : e.blk < w.heap.size := h.bnd _ _ hi
    refine ⟨_, t, (0, 0), by rw [Array.getElem?_setIfInBounds_self_of_lt hlt], ?_, ?_, ?_⟩
    · intro j v hj
      rw [hsh, Nat.zero_add]
      simp only [Nat.add_zero]
      by_cases hjo : j < o
      · rw [List.append_assoc, List.getElem?_append_left (by simp; omega), List.getElem?_take, if_pos hjo] at hj
        obtain ⟨v', a, b⟩ := g4 j v hj
        refine ⟨v', ?_, b⟩
        rw [List.getElem?_toArray, List.append_assoc, List.getElem?_append_left (by simp; omega), List.getElem?_take, if_pos hjo]
        simpa using a
      · by_cases hjv : j < o + vs.length
        · rw [List.append_assoc, List.getElem?_append_right (by simp; omega), List.getElem?_append_left (by simp; omega)] at hj
          have hmin : min o cs.length = o := by omega
          simp only [List.length_take, hmin] at hj
          obtain ⟨v', a, b⟩ := hv.get hj
          refine ⟨v', ?_, b⟩
          have hmin' : min o c.toList.length = o := by simp; omega
          rw [List.getElem?_toArray, List.append_assoc, List.getElem?_append_right (by simp; omega), List.getElem?_append_left (by simp; omega)]
          simp only [List.length_take, hmin']
          exact a
        · rw [List.getElem?_append_right (by simp; omega)] at hj
          rw [List.getElem?_drop] at hj
          have hl1 : (cs.take o ++ vs).length = o + vs.length := by simp; omega
          rw [hl1, show o + vs.length + (j - (o + vs.length)) = j by omega] at hj
          obtain ⟨v', a, b⟩ := g4 j v hj
          refine ⟨v', ?_, b⟩
          rw [List.getElem?_toArray, List.getElem?_append_right (by simp; omega), List.getElem?_drop]
          have hl2 : (c.toList.take o ++ rs).length = o + vs.length := by simp; omega
          rw [hl2, hrl, show o + vs.length + (j - (o + vs.length)) = j by omega]
          simpa using a
    · rw [List.all_append, List.all_append, hsc, Bool.and_true, Bool.and_eq_true]
      rw [List.all_eq_true] at gs
      exact ⟨List.all_eq_true.2 fun x hx => gs x (List.mem_of_mem_take hx), List.all_eq_true.2 fun x hx => gs x (List.mem_of_mem_drop hx)⟩
    · have hs : (c.toList.take (o + 0) ++ rs ++ c.toList.drop (o + 0 + rs.length)).toArray.size = c.size := by simp; omega
      cases k with
      | ro => exact absurd rfl hk
      | fix => refine ⟨rfl, ?_, hsh⟩; rw [hs, g5.2.1]; simp; omega
      | grown n => exact ⟨rfl, by rw [hs]; exact g5.2.1, hsh, g5.2.2.2⟩
  · cases hp

def astore (P : Program) (A : AHeap) (t : TypeId) (a v : Value) : Option AHeap :=
  match a with
  | .pointer (some ⟨i, o, none⟩) => match A.f i with
    | some (.row cs k) => if k = .ro then none else
      match acells v, szOf P t with
      | some vs, some n => if vs.length = n then (putCells cs o vs).map fun cs' => A.set i (.row cs' k) else none
      | _, _ => none
    | _ => none
  | _ => none

theorem store_sound {P : Program} {ρ : Rho} {A A' : AHeap} {w : World} {t : TypeId} {a r v v' : Value} (h : Rel ρ A w) (ha : VR ρ a r) (hv : VR ρ v v')
    (hl : astore P A t a v = some A') : ∃ w', (Instr.storeAt t r v').run P w = .ok () w' ∧ Step ρ A w ρ A' w' := by
  unfold astore at hl
  split at hl
  · rename_i i o
    obtain ⟨e, he, rfl⟩ := ha.ptr_inv
    split at hl
    · rename_i cs k hf
      split at hl
      · cases hl
      · rename_i hk
        split at hl
        · rename_i vs n hc hn
          split at hl
          · rename_i hlen
            cases hp : putCells cs o vs with
            | none => rw [hp] at hl; cases hl
            | some cs' =>
              rw [hp] at hl; cases hl
              obtain ⟨h1, h2, h2'⟩ := acells_sound hv hc
              obtain ⟨w', h3, h4⟩ := run_put (P := P) h he hf hk hp h1 h2 h2'
              refine ⟨w', ?_, h4⟩
              have hsz : v'.cells.size = n := by rw [← hlen, h1.1]; simp
              simp [Instr.storeAt, Instr.sureAddr, storeVar, run_szOf hn, hsz, h3]
          · cases hl
        · cases hl
    · cases hl
  · cases hl

/-- a new row -/
theorem run_newRow {P : Program} {ρ : Rho} {A : AHeap} {w : World} (h : Rel ρ A w) (t : TypeId) {cs rs : List Value} (hv : VL ρ cs rs) (hsc : cs.all scalar = true) (c : Array Value) (hc : c.toList = rs) :
    (newRow t c).run P w = .ok ⟨w.heap.size, 0, none⟩ { w with heap := w.heap.push (.cells c t) } ∧
    Step ρ A w (ext ρ A.n ⟨w.heap.size, 0, 0, 0⟩) (A.push (.row cs .fix)) { w with heap := w.heap.push (.cells c t) } := by
  refine ⟨by simp [newRow], Step.push h _ _ _ _ ?_⟩
  subst hc
  refine ⟨c, t, (0, 0), by simp, ?_, hsc, rfl, by rw [hv.1]; simp, rfl⟩
  intro i v hi
  obtain ⟨v', a, b⟩ := hv.get hi
  exact ⟨v', by simpa using a, b.mono (ext_sub _ h.none_n)⟩

theorem ptr_new (ρ : Rho) (A : AHeap) (e : Ent) (h : e.sh = 0) : VR (ext ρ A.n e) (.pointer (some ⟨A.n, 0, none⟩)) (.pointer (some ⟨e.blk, 0, none⟩)) :=
  .ptr _ _ _ _ (ext_same _ _ _) (by omega)

def abox (A : AHeap) (v : Value) : Option (Value × AHeap) :=
  (acells v).map fun cs => (.pointer (some ⟨A.n, 0, none⟩), A.push (.row cs .fix))

theorem box_sound {P : Program} {ρ : Rho} {A A' : AHeap} {w : World} {t : TypeId} {v v' p : Value} (h : Rel ρ A w) (hv : VR ρ v v')
    (hl : abox A v = some (p, A')) : ∃ ρ' r w', (Instr.box t v').run P w = .ok r w' ∧ VR ρ' p r ∧ Step ρ A w ρ' A' w' := by
  unfold abox at hl
  cases hc : acells v with
  | none => rw [hc] at hl; cases hl
  | some cs =>
    rw [hc] at hl; cases hl
    obtain ⟨h1, _, h1'⟩ := acells_sound hv hc
    obtain ⟨h2, h3⟩ := run_newRow (P := P) h t h1 h1' v'.cells rfl
    exact ⟨_, _, _, by simp [Instr.box, newVar, h2], ptr_new _ _ _ rfl, h3⟩

/-- a value without blocks: it stands for itself -/
def plain1 : Value → Bool
  | .bool _ | .int .. | .string _ | .pointer none | .slice none _ _ | .map none | .nilFunc | .nilIface => true
  | _ => false

theorem plain1_self {ρ : Rho} {v : Value} (h : plain1 v = true) : VR ρ v v := by
  cases v with
  | bool b => exact .bool b
  | int k n => exact .int k n
  | string s => exact .string s
  | pointer a => cases a <;> first | exact .pnil | (simp [plain1] at h)
  | slice a n c => cases a <;> first | exact .snil n c | (simp [plain1] at h)
  | map r => cases r <;> first | exact .mnil | (simp [plain1] at h)
  | nilFunc => exact .nilFunc
  | nilIface => exact .nilIface
  | _ => simp [plain1] at h

theorem plainL_self {ρ : Rho} {l : List Value} (h : l.all plain1 = true) : VL ρ l l := by
  refine ⟨rfl, fun i v v' hx hy => ?_⟩
  rw [hx] at hy; cases hy
  exact plain1_self (List.all_eq_true.1 h _ (List.mem_of_getElem? hx))

theorem plain1_scalar {v : Value} (h : plain1 v = true) : scalar v = true := by
  cases v <;> first | rfl | (simp [plain1] at h)

theorem plainL_scalar {l : List Value} (h : l.all plain1 = true) : l.all scalar = true :=
  List.all_eq_true.2 fun x hx => plain1_scalar (List.all_eq_true.1 h x hx)

/-- a type's zero value, by its cells -/
def zcells (P : Program) (t : TypeId) : Option (List Value) :=
  match (P.info? t).bind (·.zero) with
  | some z => if z.cells.toList.all plain1 then some z.cells.toList else none
  | none => none
def zagg (P : Program) (t : TypeId) : Option Bool :=
  match (P.info? t).bind (·.zero) with
  | some (.agg _) => some true
  | some _ => some false
  | none => none

theorem zcells_run {P : Program} {t : TypeId} {cs : List Value} (h : zcells P t = some cs) (w : World) :
    ∃ z, (zeroValue t).run P w = .ok z w ∧ z.cells.toList = cs ∧ (P.info? t).bind (·.zero) = some z ∧ cs.all plain1 = true := by
  unfold zcells at h
  split at h
  · rename_i z hz
    split at h
    · rename_i hall
      cases h
      refine ⟨z, ?_, rfl, hz, hall⟩
      cases hi : P.info? t with
      | none => rw [hi] at hz; cases hz
      | some i =>
        rw [hi] at hz
        simp at hz
        simp [zeroValue, typeInfo, hi, hz]
    · cases h
  · cases h

def aalloc (P : Program) (A : AHeap) (t : TypeId) : Option (Value × AHeap) :=
  (zcells P t).map fun cs => (.pointer (some ⟨A.n, 0, none⟩), A.push (.row cs .fix))

theorem alloc_sound {P : Program} {ρ : Rho} {A A' : AHeap} {w : World} {t : TypeId} {p : Value} (h : Rel ρ A w)
    (hl : aalloc P A t = some (p, A')) : ∃ ρ' r w', (Instr.alloc t true (.tuple #[])).run P w = .ok r w' ∧ VR ρ' p r ∧ Step ρ A w ρ' A' w' := by
  unfold aalloc at hl
  cases hc : zcells P t with
  | none => rw [hc] at hl; cases hl
  | some cs =>
    rw [hc] at hl; cases hl
    obtain ⟨z, h1, h2, _, h4⟩ := zcells_run hc w
    obtain ⟨h5, h6⟩ := run_newRow (P := P) h t (plainL_self (ρ := ρ) h4) (plainL_scalar h4) z.cells h2
    exact ⟨_, _, _, by simp [Instr.alloc, newVar, h1, h5], ptr_new _ _ _ rfl, h6⟩

end Go.AB

/-
  Operations that leave the abstract heap alone.
-/
namespace Go.AB
open Go
set_option linter.unusedSimpArgs false
set_option linter.unusedVariables false

/-! ### equality -/
def veq1 : Value → Value → Bool
  | .bool a, .bool b => a == b
  | .int k a, .int k' b => decide (k = k') && a == b
  | .string a, .string b => a.data.toList == b.data.toList
  | _, _ => false
def veqL : List Value → List Value → Bool
  | [], [] => true
  | a :: x, b :: y => veq1 a b && veqL x y
  | _, _ => false
def veq : Value → Value → Bool
  | .agg a, .agg b => veqL a.toList b.toList
  | a, b => veq1 a b

theorem bytes_ext {a b : ByteArray} (h : a.data.toList = b.data.toList) : a = b := by
  cases a; cases b; simp at h; simp [h]

theorem veq1_eq {a b : Value} (h : veq1 a b = true) : a = b := by
  cases a <;> cases b <;> simp [veq1] at h
  · exact congrArg _ h
  · obtain ⟨rfl, h⟩ := h; rw [h]
  · exact congrArg _ (bytes_ext (by simpa using h))
theorem veqL_eq : ∀ {a b : List Value}, veqL a b = true → a = b
  | [], [], _ => rfl
  | a :: x, b :: y, h => by
    simp [veqL] at h
    rw [veq1_eq h.1, veqL_eq h.2]
  | [], _ :: _, h => by simp [veqL] at h
  | _ :: _, [], h => by simp [veqL] at h
theorem veq_eq {a b : Value} (h : veq a b = true) : a = b := by
  unfold veq at h
  split at h
  · rename_i x y; exact congrArg _ (Array.ext' (veqL_eq h))
  · exact veq1_eq h

theorem veq1_VR {ρ : Rho} {a r : Value} (h : veq1 a a = true) (hv : VR ρ a r) : r = a := by
  cases a <;> simp [veq1] at h <;> (cases hv; rfl)
theorem veqL_mem : ∀ {a : List Value}, veqL a a = true → ∀ v ∈ a, veq1 v v = true
  | [], _, v, hv => by simp at hv
  | x :: a, h, v, hv => by
    simp [veqL] at h
    rcases List.mem_cons.1 hv with rfl | hv
    · exact h.1
    · exact veqL_mem h.2 v hv
theorem veqL_VR {ρ : Rho} {x b : List Value} (h : veqL x x = true) (hb : VL ρ x b) : b = x := by
  apply List.ext_getElem?
  intro i
  cases hi : x[i]? with
  | none =>
    have : x.length ≤ i := List.getElem?_eq_none_iff.1 hi
    exact List.getElem?_eq_none_iff.2 (by rw [← hb.1]; exact this)
  | some v =>
    obtain ⟨v', h1, h2⟩ := hb.get hi
    rw [h1, veq1_VR (veqL_mem h v (List.mem_of_getElem? hi)) h2]
theorem veq_VR {ρ : Rho} {a r : Value} (h : veq a a = true) (hv : VR ρ a r) : r = a := by
  cases a with
  | agg x =>
    obtain ⟨b, rfl, hb⟩ := hv.agg_inv
    exact congrArg _ (Array.ext' (veqL_VR h hb))
  | _ => exact veq1_VR h hv

/-- a key of a type, as the kit's laws want it -/
def keyOk (P : Program) (t : TypeId) (v : Value) : Bool := (keyOf P t v).isSome && veq v v

/-- a struct or an array of bools, integers and strings -/
def wideKey (P : Program) (t : TypeId) : Bool :=
  P.keyType t && decide (t < P.types.size) && (match P.underlying t with | some (.array _ _) | some (.struct _) => true | _ => false) && !P.eqGuardType P.depth t

structure Fine (P : Program) : Prop where
  laid : laidOutB P = true
  small : P.types.size + 2 ≤ 10000

theorem wide_law {P : Program} (F : Fine P) {t : TypeId} (h : wideKey P t = true) : WideMaps.KeyLaw P t := by
  unfold wideKey at h
  simp only [Bool.and_eq_true, decide_eq_true_eq] at h
  exact deep_law_gate F.laid F.small h.1.1.2 h.1.1.1 h.1.2

theorem run_equal_wide {P : Program} (F : Fine P) {t : TypeId} (h : wideKey P t = true) {x y : Value} (hx : keyOk P t x = true) (hy : keyOk P t y = true) (w : World) :
    (Op.equal t x y).run P w = .ok (veq x y) w := by
  have hl := wide_law F h
  unfold wideKey at h
  simp only [Bool.and_eq_true, decide_eq_true_eq] at h
  unfold keyOk at hx hy
  simp only [Bool.and_eq_true, Option.isSome_iff_exists] at hx hy
  obtain ⟨⟨lx, h1⟩, h2⟩ := hx
  obtain ⟨⟨ly, h3⟩, h4⟩ := hy
  obtain ⟨r, h5, h6⟩ := run_equal_deep w (m := P.types.size + 1) (by have := F.small; omega) h.1.1.1 h.1.2 h1 h3
  rw [h5]
  congr 1
  rw [Bool.eq_iff_iff, h6]
  constructor
  · intro e; rw [← e] at h3; have := hl.inj h1 h3; subst this; exact h2
  · intro e; have := veq_eq e; subst this; rw [h1] at h3; exact Option.some.inj h3

/-- '==' on two values of a type -/
def aeq (P : Program) (t : TypeId) : Value → Value → Option Bool
  | .int k a, .int k' b => if k = k' then some (a == b) else none
  | .string a, .string b => some (a.data.toList == b.data.toList)
  | .bool a, .bool b => match P.underlying t with | some .bool => some (a == b) | _ => none
  | .pointer none, .pointer none => match P.underlying t with | some (.pointer _) => some true | _ => none
  | .pointer none, .pointer (some _) => match P.underlying t with | some (.pointer _) => some false | _ => none
  | .pointer (some _), .pointer none => match P.underlying t with | some (.pointer _) => some false | _ => none
  | .slice none _ _, .slice none _ _ => match P.underlying t with | some (.slice _) => some true | _ => none
  | .slice (some _) _ _, .slice none _ _ => match P.underlying t with | some (.slice _) => some false | _ => none
  | .agg a, .agg b => if wideKey P t && keyOk P t (.agg a) && keyOk P t (.agg b) then some (veq (.agg a) (.agg b)) else none
  | _, _ => none

def intBin (op : BinOp) (k : IntKind) (a b : Int) : Option Value :=
  match op with
  | .add => some (.int k (k.wrap (a + b)))
  | .sub => some (.int k (k.wrap (a - b)))
  | .mul => some (.int k (k.wrap (a * b)))
  | .quo => if b = 0 then none else some (.int k (k.wrap (a.tdiv b)))
  | .rem => if b = 0 then none else some (.int k (a.tmod b))
  | .and => some (.int k (k.wrap (BitVec.ofInt k.bits a &&& BitVec.ofInt k.bits b).toNat))
  | .or => some (.int k (k.wrap (BitVec.ofInt k.bits a ||| BitVec.ofInt k.bits b).toNat))
  | .xor => some (.int k (k.wrap (BitVec.ofInt k.bits a ^^^ BitVec.ofInt k.bits b).toNat))
  | .andNot => some (.int k (k.wrap (BitVec.ofInt k.bits a &&& ~~~ BitVec.ofInt k.bits b).toNat))
  | .lss => some (.bool (decide (a < b)))
  | .leq => some (.bool (decide (a ≤ b)))
  | .gtr => some (.bool (decide (a > b)))
  | .geq => some (.bool (decide (a ≥ b)))
  | .eql => some (.bool (a == b))
  | .neq => some (.bool (a != b))
  | _ => none

def strBin (op : BinOp) (a b : ByteArray) : Option Value :=
  match op with
  | .add => if a.size + b.size < 1048576 then some (.string ⟨(a.data.toList ++ b.data.toList).toArray⟩) else none
  | .eql => some (.bool (a.data.toList == b.data.toList))
  | .neq => some (.bool !(a.data.toList == b.data.toList))
  | .lss => some (.bool (Op.bytesLess a.data.toList b.data.toList))
  | .leq => some (.bool (Op.bytesLess a.data.toList b.data.toList || a.data.toList == b.data.toList))
  | .gtr => some (.bool !(Op.bytesLess a.data.toList b.data.toList || a.data.toList == b.data.toList))
  | .geq => some (.bool !(Op.bytesLess a.data.toList b.data.toList))
  | _ => none

def abin (P : Program) (op : BinOp) (t : TypeId) (x y : Value) : Option Value :=
  match op, x, y with
  | .shl, .int k a, .int _ b => if b < 0 then none else some (.int k (k.wrap (a * 2 ^ (min b.toNat k.bits))))
  | .shr, .int k a, .int _ b => if b < 0 then none else some (.int k (a.fdiv (2 ^ (min b.toNat k.bits))))
  | op, .int k a, .int k' b => if k = k' then intBin op k a b else none
  | op, .string a, .string b => strBin op a b
  | .eql, x, y => (aeq P t x y).map .bool
  | .neq, x, y => (aeq P t x y).map fun b => .bool !b
  | _, _, _ => none

theorem toList_bytes (a : ByteArray) : a.toList = a.data.toList := by
  exact ByteArray.toList_eq a

theorem intBin_sound {P : Program} {op : BinOp} {k : IntKind} {a b : Int} {v : Value} (h : intBin op k a b = some v) (xt : TypeId) (w : World)
    (h1 : op ≠ .shl) (h2 : op ≠ .shr) : (binOp op xt (.int k a) (.int k b)).run P w = .ok v w := by
  unfold intBin at h
  cases op <;> simp at h <;> first
    | (obtain ⟨hb, rfl⟩ := h; simp [binOp, Op.intDiv, hb])
    | (subst h; simp [binOp, Op.intArith, Op.intBits, Op.intCmp]; done)
    | (subst h; simp [binOp, Op.intArith, Op.intBits, Op.intCmp]; rfl)
    | exact absurd rfl h1
    | exact absurd rfl h2

theorem strBin_sound {P : Program} {op : BinOp} {a b : ByteArray} {v : Value} (h : strBin op a b = some v) (xt : TypeId) (w : World) :
    (binOp op xt (.string a) (.string b)).run P w = .ok v w := by
  by_cases hop : op = .add
  · subst hop
    have hadd : strBin .add a b = if a.size + b.size < 1048576 then some (.string ⟨(a.data.toList ++ b.data.toList).toArray⟩) else none := rfl
    rw [hadd] at h
    split at h
    · rename_i hlt
      simp only [Option.some.injEq] at h
      subst h
      simp only [binOp, Op.stringOp]
      rw [if_neg (by simp only [IntKind.max, IntKind.signed, IntKind.bits, if_true]; omega)]
      simp only [Sem.run_pure]
      congr 2
    · cases h
  · cases op <;> simp only [strBin] at h <;> first
      | exact absurd rfl hop
      | (cases h; simp only [binOp, Op.stringOp, toList_bytes, Sem.run_pure]; done)
      | (cases h; done)

theorem equal_def : ∃ d, ∀ (t : TypeId) (x y : Value), Op.equal t x y = Op.equalIn (d + 1) t x y := ⟨9999, fun _ _ _ => rfl⟩

theorem run_und {P : Program} {t : TypeId} {d : TypeDesc} (h : P.underlying t = some d) (w : World) : (underlying t).run P w = .ok d w := run_underlying h w

theorem aeq_sound {P : Program} (F : Fine P) {ρ : Rho} {t : TypeId} {x y rx ry : Value} {b : Bool} (hx : VR ρ x rx) (hy : VR ρ y ry) (h : aeq P t x y = some b)
    (w : World) : (∃ k a k' c, x = .int k a ∧ y = .int k' c) ∨ (∃ a c, x = .string a ∧ y = .string c) ∨ (Op.equal t rx ry).run P w = .ok b w := by
  unfold aeq at h
  split at h
  · exact .inl ⟨_, _, _, _, rfl, rfl⟩
  · exact .inr (.inl ⟨_, _, rfl, rfl⟩)
  · refine .inr (.inr ?_)
    cases hx; cases hy
    split at h
    · rename_i hu; cases h; obtain ⟨d, hd⟩ := equal_def; rw [hd]; simp only [Op.equalIn, Sem.run_bind, run_und hu, Result.andThen_ok, Sem.run_pure, Option.isNone_none, Option.isNone_some]
    · cases h
  · refine .inr (.inr ?_)
    cases hx; cases hy
    split at h
    · rename_i hu; cases h; obtain ⟨d, hd⟩ := equal_def; rw [hd]; simp only [Op.equalIn, Sem.run_bind, run_und hu, Result.andThen_ok, Sem.run_pure, Option.isNone_none, Option.isNone_some]
    · cases h
  · refine .inr (.inr ?_)
    cases hx; cases hy
    split at h
    · rename_i hu; cases h; obtain ⟨d, hd⟩ := equal_def; rw [hd]; simp only [Op.equalIn, Sem.run_bind, run_und hu, Result.andThen_ok, Sem.run_pure, Option.isNone_none, Option.isNone_some]
    · cases h
  · refine .inr (.inr ?_)
    cases hx; cases hy
    split at h
    · rename_i hu; cases h; obtain ⟨d, hd⟩ := equal_def; rw [hd]; simp only [Op.equalIn, Sem.run_bind, run_und hu, Result.andThen_ok, Sem.run_pure, Option.isNone_none, Option.isNone_some]
    · cases h
  · refine .inr (.inr ?_)
    cases hx; cases hy
    split at h
    · rename_i hu; cases h; obtain ⟨d, hd⟩ := equal_def; rw [hd]; simp only [Op.equalIn, Sem.run_bind, run_und hu, Result.andThen_ok, Sem.run_pure, Option.isNone_none, Option.isNone_some]
    · cases h
  · refine .inr (.inr ?_)
    cases hy
    cases hx <;> (split at h <;> first | (rename_i hu; cases h; obtain ⟨d, hd⟩ := equal_def; rw [hd]; simp only [Op.equalIn, Sem.run_bind, run_und hu, Result.andThen_ok, Sem.run_pure, Option.isNone_none, Option.isNone_some]; done) | (cases h; done))
  · refine .inr (.inr ?_)
    split at h
    · rename_i hk
      simp only [Bool.and_eq_true] at hk
      cases h
      have e1 : rx = _ := veq_VR (by have := hk.1.2; unfold keyOk at this; simp only [Bool.and_eq_true] at this; exact this.2) hx
      have e2 : ry = _ := veq_VR (by have := hk.2; unfold keyOk at this; simp only [Bool.and_eq_true] at this; exact this.2) hy
      rw [e1, e2]
      exact run_equal_wide F hk.1.1 hk.1.2 hk.2 w
    · cases h
  · cases h

theorem abin_plain {P : Program} {op : BinOp} {t : TypeId} {x y v : Value} (h : abin P op t x y = some v) : plain1 v = true := by
  unfold abin at h
  split at h
  · split at h <;> cases h; rfl
  · split at h <;> cases h; rfl
  · split at h
    · unfold intBin at h
      split at h <;> first | (cases h; rfl) | (split at h <;> cases h; rfl) | cases h
    · cases h
  · unfold strBin at h
    split at h <;> first | (cases h; rfl) | (split at h <;> cases h; rfl) | cases h
  · cases ha : aeq P t _ _ <;> rw [ha] at h <;> cases h; rfl
  · cases ha : aeq P t _ _ <;> rw [ha] at h <;> cases h; rfl
  · cases h

theorem eqGuard_pass {P : Program} {op : BinOp} {t : TypeId} {x y : Operand} {a b : Value} (w : World) (h1 : a ≠ .nilIface)
    (h2 : ∀ c, a = .agg c → P.eqGuardType P.depth t = false) : (eqGuard op t x y a b).run P w = .ok () w := by
  have key : ∀ op', (op' = .eql ∨ op' = .neq) → (eqGuard op' t x y a b).run P w = .ok () w := by
    intro op' ho
    unfold eqGuard
    cases a with
    | nilIface => exact absurd rfl h1
    | agg c =>
      have := h2 c rfl
      cases b <;> rcases ho with rfl | rfl <;> simp [this]
    | _ => cases b <;> rcases ho with rfl | rfl <;> rfl
  cases op <;> first | rfl | exact key _ (.inl rfl) | exact key _ (.inr rfl)

theorem abin_sound {P : Program} (F : Fine P) {ρ : Rho} {op : BinOp} {t : TypeId} {xo yo : Operand} {x y rx ry v : Value} (hx : VR ρ x rx) (hy : VR ρ y ry)
    (h : abin P op t x y = some v) (w : World) : (do eqGuard op t xo yo rx ry; binOp op t rx ry : Sem Value).run P w = .ok v w := by
  have hg : (eqGuard op t xo yo rx ry).run P w = .ok () w := by
    by_cases hop : op = .eql ∨ op = .neq
    · refine eqGuard_pass w ?_ ?_
      · intro hr
        subst hr
        rcases hop with rfl | rfl <;> cases hx <;> simp [abin, aeq] at h
      · intro c hr
        subst hr
        have key : ∀ {b}, aeq P t x y = some b → P.eqGuardType P.depth t = false := by
          intro b hb
          cases hx with
          | top => simp [aeq] at hb
          | agg a _ hs hcell =>
            cases y <;> simp only [aeq] at hb <;> try (cases hb; done)
            split at hb
            · rename_i hk
              simp only [Bool.and_eq_true, wideKey] at hk
              simpa using hk.1.1.2
            · cases hb
        rcases hop with rfl | rfl
        · cases hx with
          | top => simp [abin, aeq] at h
          | agg a _ hs hcell =>
            simp only [abin] at h
            cases hb : aeq P t (.agg a) y with
            | none => rw [hb] at h; cases h
            | some b => exact key hb
        · cases hx with
          | top => simp [abin, aeq] at h
          | agg a _ hs hcell =>
            simp only [abin] at h
            cases hb : aeq P t (.agg a) y with
            | none => rw [hb] at h; cases h
            | some b => exact key hb
    · unfold eqGuard
      cases op <;> simp_all
  simp only [Sem.run_bind, hg, Result.andThen_ok]
  unfold abin at h
  split at h
  · rename_i k a k' b
    cases hx; cases hy
    split at h
    · cases h
    · rename_i hb; cases h
      simp [binOp, Op.shift, hb]
  · rename_i k a k' b
    cases hx; cases hy
    split at h
    · cases h
    · rename_i hb; cases h
      simp [binOp, Op.shift, hb]
  · rename_i op k a k' b h1 h2
    cases hx; cases hy
    split at h
    · rename_i hk; subst hk
      exact intBin_sound h t w (fun e => by subst e; simp_all) (fun e => by subst e; simp_all)
    · cases h
  · cases hx; cases hy
    exact strBin_sound h t w
  · rename_i hn1 hn2
    cases hb : aeq P t x y with
    | none => rw [hb] at h; cases h
    | some b =>
      rw [hb] at h; cases h
      have hu : binOp .eql t rx ry = (do pure (.bool (← Op.equal t rx ry))) := by
        cases hx <;> cases hy <;> first | rfl | exact absurd rfl (hn1 _ _ _ _ rfl) | exact absurd rfl (hn2 _ _ rfl) | (simp [aeq] at hb; done)
      rcases aeq_sound F hx hy hb w with ⟨k, a, k', c, e1, e2⟩ | ⟨a, c, e1, e2⟩ | he
      · exact absurd e2 (hn1 _ _ _ _ e1)
      · exact absurd e2 (hn2 _ _ e1)
      · rw [hu]; simp [he]
  · rename_i hn1 hn2
    cases hb : aeq P t x y with
    | none => rw [hb] at h; cases h
    | some b =>
      rw [hb] at h; cases h
      have hu : binOp .neq t rx ry = (do pure (.bool (!(← Op.equal t rx ry)))) := by
        cases hx <;> cases hy <;> first | rfl | exact absurd rfl (hn1 _ _ _ _ rfl) | exact absurd rfl (hn2 _ _ rfl) | (simp [aeq] at hb; done)
      rcases aeq_sound F hx hy hb w with ⟨k, a, k', c, e1, e2⟩ | ⟨a, c, e1, e2⟩ | he
      · exact absurd e2 (hn1 _ _ _ _ e1)
      · exact absurd e2 (hn2 _ _ e1)
      · rw [hu]; simp [he]
  · cases h

end Go.AB

/-
  More operations that leave the abstract heap alone: fields, indexes, slices, tuples, interface values; and composite values.
-/
namespace Go.AB
open Go
set_option linter.unusedSimpArgs false
set_option linter.unusedVariables false

/-- a struct's field: its offset and its type -/
def fldOf (P : Program) (s : TypeId) (f : Nat) : Option (Nat × TypeId) :=
  match P.underlying s with
  | some (.struct fs) => (fs[f]?).map fun f => (f.offset, f.type)
  | _ => none

theorem fldOf_some {P : Program} {s : TypeId} {f : Nat} {x : Nat × TypeId} (h : fldOf P s f = some x) :
    ∃ fs fd, P.underlying s = some (.struct fs) ∧ fs[f]? = some fd ∧ fd.offset = x.1 ∧ fd.type = x.2 := by
  unfold fldOf at h
  split at h
  · rename_i fs hu
    cases hf : fs[f]? with
    | none => rw [hf] at h; cases h
    | some fd => rw [hf] at h; cases h; exact ⟨fs, fd, hu, hf, rfl, rfl⟩
  · cases h

/-- a part of a struct's or an array's cells -/
def apart (P : Program) (t : TypeId) (cs : List Value) (off : Nat) : Option Value :=
  match aggOf P t with
  | some true => match szOf P t with
    | some n => (getCells cs off n).map fun l => .agg ⟨l⟩
    | none => none
  | some false => cs[off]?
  | none => none

theorem getCells_VL {ρ : Rho} {cs rs l : List Value} {o n : Nat} (h : VL ρ cs rs) (hg : getCells cs o n = some l) : VL ρ l ((rs.drop o).take n) := by
  unfold getCells at hg
  split at hg
  · cases hg; exact (h.drop o).take n
  · cases hg

theorem extract_list (rs : List Value) (o n : Nat) : ((⟨rs⟩ : Array Value).extract o (o + n)) = ⟨(rs.drop o).take n⟩ := by
  apply Array.ext'
  simp [List.extract_eq_take_drop]

theorem apart_sound {P : Program} {ρ : Rho} {t : TypeId} {cs rs : List Value} {off : Nat} {v : Value} (h : VL ρ cs rs) (hp : apart P t cs off = some v) (w : World) :
    ∃ r, (part t ⟨rs⟩ off).run P w = .ok r w ∧ VR ρ v r := by
  unfold apart at hp
  split at hp
  · rename_i hag
    split at hp
    · rename_i n hn
      cases hg : getCells cs off n with
      | none => rw [hg] at hp; cases hp
      | some l =>
        rw [hg] at hp; cases hp
        refine ⟨_, ?_, (getCells_VL h hg).agg⟩
        simp only [part, Sem.run_bind, run_aggOf hag, run_szOf hn, Result.andThen_ok, if_true, Sem.run_pure, extract_list]
    · cases hp
  · rename_i hag
    obtain ⟨v', h1, h2⟩ := h.get hp
    refine ⟨v', ?_, h2⟩
    simp [part, run_aggOf hag, h1]
  · cases hp

def afield (P : Program) (t : TypeId) (x : Value) (f : Nat) : Option Value :=
  match x, fldOf P t f with
  | .agg c, some (off, ft) => apart P ft c.toList off
  | _, _ => none

theorem field_sound {P : Program} {ρ : Rho} {t : TypeId} {x r v : Value} {f : Nat} (hx : VR ρ x r) (h : afield P t x f = some v) (w : World) :
    ∃ r', (Instr.field t r f).run P w = .ok r' w ∧ VR ρ v r' := by
  unfold afield at h
  split at h
  · rename_i c off ft hf
    obtain ⟨b, rfl, hb⟩ := hx.agg_inv
    obtain ⟨fs, fd, h1, h2, h3, h4⟩ := fldOf_some hf
    obtain ⟨r', h5, h6⟩ := apart_sound (P := P) hb h w
    refine ⟨r', ?_, h6⟩
    simp only at h3 h4
    simp only [Instr.field, Sem.run_bind, run_und h1, Result.andThen_ok, h2, asAgg, Sem.run_pure, h3, h4]
    exact h5
  · cases h

def afieldAddr (P : Program) (s : TypeId) (x : Value) (f : Nat) : Option Value :=
  match x with
  | .pointer (some ⟨i, o, none⟩) => match fldOf P s f with
    | some (off, ft) => match szOf P ft with
      | some (_ + 1) => some (.pointer (some ⟨i, o + off, none⟩))
      | _ => none
    | none => none
  | _ => none

theorem fieldAddr_sound {P : Program} {ρ : Rho} {t : TypeId} {x r v : Value} {f : Nat} (hx : VR ρ x r) (h : afieldAddr P t x f = some v) (w : World) :
    ∃ r', (Instr.fieldAt t r f).run P w = .ok r' w ∧ VR ρ v r' := by
  unfold afieldAddr at h
  split at h
  · rename_i i o
    obtain ⟨e, he, rfl⟩ := hx.ptr_inv
    split at h
    · rename_i off ft hf
      obtain ⟨fs, fd, h1, h2, h3, h4⟩ := fldOf_some hf
      split at h
      · rename_i n hn
        cases h
        simp only at h3 h4
        refine ⟨.pointer (some ⟨e.blk, e.sh + o + off, none⟩), ?_, .ptr _ _ _ _ he (by omega)⟩
        subst h3 h4
        simp [Instr.fieldAt, run_und h1, h2, Instr.sureAddr, fieldPlace, run_szOf hn, add_none]
      · cases h
    · cases h
  · cases h

def sliceOf (P : Program) (t : TypeId) : Option TypeId := match P.underlying t with | some (.slice e) => some e | _ => none
def arrOf (P : Program) (t : TypeId) : Option (Nat × TypeId) := match P.underlying t with | some (.array n e) => some (n, e) | _ => none

theorem sliceOf_some {P : Program} {t e : TypeId} (h : sliceOf P t = some e) : P.underlying t = some (.slice e) := by
  unfold sliceOf at h; split at h <;> first | (cases h; assumption) | cases h
theorem arrOf_some {P : Program} {t : TypeId} {x : Nat × TypeId} (h : arrOf P t = some x) : P.underlying t = some (.array x.1 x.2) := by
  unfold arrOf at h; split at h <;> first | (cases h; assumption) | cases h

/-- a slice's first address, length: for one that is not empty or whose address is known -/
def aindexAddr (P : Program) (t : TypeId) (x ix : Value) : Option Value :=
  match ix with
  | .int _ i => match x with
    | .slice (some ⟨b, o, none⟩) len c => if c = ecap then none else match sliceOf P t with
      | some e => match szOf P e with
        | some n => if 0 ≤ i ∧ i < len then some (.pointer (some ⟨b, o + i.toNat * n, none⟩)) else none
        | none => none
      | none => none
    | .pointer (some ⟨b, o, none⟩) => match arrOf P t with
      | some (len, e) => match szOf P e with
        | some n => if 0 ≤ i ∧ i < len then some (.pointer (some ⟨b, o + i.toNat * n, none⟩)) else none
        | none => none
      | none => none
    | _ => none
  | _ => none

theorem VR.slice_inv {ρ : Rho} {b o len c : Nat} {r : Value} (h : VR ρ (.slice (some ⟨b, o, none⟩) len c) r) (hc : c ≠ ecap) :
    ∃ e c', ρ b = some e ∧ r = .slice (some ⟨e.blk, e.sh + o, none⟩) len c' ∧ (c < ucap → c' = c) ∧ (c = ucap → o + c' * e.esz = e.rsz ∧ len ≤ c' ∧ 0 < e.esz) ∧ c ≤ ucap := by
  cases h with
  | slice i o q n c e h hq hc => subst hq; exact ⟨e, _, h, rfl, fun _ => rfl, fun e => absurd e (Nat.ne_of_lt hc), Nat.le_of_lt hc⟩
  | sliceU i o q n c' e h hq h1 h2 h3 => subst hq; exact ⟨e, c', h, rfl, fun h => absurd h (Nat.lt_irrefl _), fun _ => ⟨h1, h2, h3⟩, Nat.le_refl _⟩
  | sliceE => exact absurd rfl hc

theorem indexAddr_sound {P : Program} {ρ : Rho} {t : TypeId} {x ix rx rix v : Value} (hx : VR ρ x rx) (hix : VR ρ ix rix) (h : aindexAddr P t x ix = some v) (w : World) :
    ∃ r', (Instr.indexAt t rx rix).run P w = .ok r' w ∧ VR ρ v r' := by
  unfold aindexAddr at h
  split at h
  · rename_i k i
    cases hix
    split at h
    · rename_i b o len c
      split at h
      · cases h
      · rename_i hc
        obtain ⟨e, c', he, rfl, _, _, _⟩ := hx.slice_inv hc
        split at h
        · rename_i el hel
          split at h
          · rename_i n hn
            split at h
            · rename_i hi
              cases h
              refine ⟨.pointer (some ⟨e.blk, e.sh + o + i.toNat * n, none⟩), ?_, .ptr _ _ _ _ he (by omega)⟩
              simp only [Instr.indexAt, asIntOf, Sem.run_bind, Sem.run_pure, Result.andThen_ok, run_und (sliceOf_some hel), if_pos hi, run_szOf hn, add_none]
            · cases h
          · cases h
        · cases h
    · rename_i b o
      obtain ⟨e, he, rfl⟩ := hx.ptr_inv
      split at h
      · rename_i len el hel
        split at h
        · rename_i n hn
          split at h
          · rename_i hi
            cases h
            refine ⟨.pointer (some ⟨e.blk, e.sh + o + i.toNat * n, none⟩), ?_, .ptr _ _ _ _ he (by omega)⟩
            simp only [Instr.indexAt, asIntOf, Sem.run_bind, Sem.run_pure, Result.andThen_ok, run_und (arrOf_some hel), Instr.sureAddr, if_pos hi, run_szOf hn, add_none]
          · cases h
        · cases h
      · cases h
    · cases h
  · cases h

def aindex (P : Program) (t : TypeId) (x ix : Value) : Option Value :=
  match ix, x with
  | .int _ i, .string s => match P.underlying t with
    | some .string => if 0 ≤ i then (s.data.toList[i.toNat]?).map fun b => .int .u8 b.toNat else none
    | _ => none
  | .int _ i, .agg c => match arrOf P t with
    | some (len, e) => match szOf P e with
      | some n => if 0 ≤ i ∧ i < len then apart P e c.toList (i.toNat * n) else none
      | none => none
    | none => none
  | _, _ => none

theorem bytes_get (s : ByteArray) (i : Nat) : s[i]? = s.data.toList[i]? := by
  simp only [Array.getElem?_toList]
  rfl

theorem index_sound {P : Program} {ρ : Rho} {t : TypeId} {x ix rx rix v : Value} (hx : VR ρ x rx) (hix : VR ρ ix rix) (h : aindex P t x ix = some v) (w : World) :
    ∃ r', (Instr.index t rx rix).run P w = .ok r' w ∧ VR ρ v r' := by
  unfold aindex at h
  split at h
  · rename_i k i s
    cases hix; cases hx
    split at h
    · rename_i hu
      split at h
      · rename_i hi
        cases hb : s.data.toList[i.toNat]? with
        | none => rw [hb] at h; cases h
        | some b =>
          rw [hb] at h; cases h
          refine ⟨.int .u8 b.toNat, ?_, .int _ _⟩
          simp only [Instr.index, asIntOf, Sem.run_bind, Sem.run_pure, Result.andThen_ok, run_und hu, if_pos hi, bytes_get, hb]
      · cases h
    · cases h
  · rename_i k i c
    cases hix
    obtain ⟨b, rfl, hb⟩ := hx.agg_inv
    split at h
    · rename_i len e hel
      split at h
      · rename_i n hn
        split at h
        · rename_i hi
          obtain ⟨r', h5, h6⟩ := apart_sound (P := P) hb h w
          refine ⟨r', ?_, h6⟩
          simp only [Instr.index, asIntOf, Sem.run_bind, Sem.run_pure, Result.andThen_ok, run_und (arrOf_some hel), if_pos hi, run_szOf hn]
          exact h5
        · cases h
      · cases h
    · cases h
  · cases h

def aextract (x : Value) (i : Nat) : Option Value :=
  match x with
  | .tuple vs => vs.toList[i]?
  | _ => none

theorem extract_sound {P : Program} {ρ : Rho} {x r v : Value} {i : Nat} (hx : VR ρ x r) (h : aextract x i = some v) (w : World) :
    ∃ r', (Instr.extract r i).run P w = .ok r' w ∧ VR ρ v r' := by
  unfold aextract at h
  split at h
  · obtain ⟨b, rfl, hb⟩ := hx.tuple_inv
    obtain ⟨v', h1, h2⟩ := hb.get h
    exact ⟨v', by simp only [Array.getElem?_toList] at h1; simp [Instr.extract, h1], h2⟩
  · cases h

def amakeInterface (P : Program) (t : TypeId) (x : Value) : Option Value :=
  match P.underlying t with
  | some (.interface _) | none => none
  | some _ => some (.iface t x)

theorem makeInterface_sound {P : Program} {ρ : Rho} {t : TypeId} {x r v : Value} (hx : VR ρ x r) (h : amakeInterface P t x = some v) (w : World) :
    ∃ r', (Instr.makeInterface t r).run P w = .ok r' w ∧ VR ρ v r' := by
  unfold amakeInterface at h
  split at h
  · cases h
  · cases h
  · rename_i d hn hu
    cases h
    refine ⟨.iface t r, ?_, .iface _ _ _ hx⟩
    simp only [Instr.makeInterface, Sem.run_bind, run_und hu, Result.andThen_ok]
    cases d <;> first | rfl | exact absurd hu (hn _)

/-- an assertion to a type that is no interface -/
def atypeAssert (P : Program) (x : Value) (asserted : TypeId) (commaOk : Bool) : Option Value :=
  match P.underlying asserted, x with
  | some (.interface _), _ | none, _ => none
  | some _, .iface t v => if t = asserted then some (if commaOk then .tuple ⟨[v, .bool true]⟩ else v) else none
  | _, _ => none

theorem typeAssert_sound {P : Program} {ρ : Rho} {t a : TypeId} {x r v : Value} {ok : Bool} (hx : VR ρ x r) (h : atypeAssert P x a ok = some v) (w : World) :
    ∃ r', (Instr.typeAssert r t a ok).run P w = .ok r' w ∧ VR ρ v r' := by
  unfold atypeAssert at h
  split at h
  · cases h
  · cases h
  · rename_i d hu u hn hu'
    cases hx with
    | iface _ _ v' hv =>
      split at h
      · rename_i hta
        cases h
        refine ⟨if ok then .tuple #[v', .bool true] else v', ?_, ?_⟩
        · simp only [Instr.typeAssert, Sem.run_bind, run_und hu', Result.andThen_ok]
          cases d <;> first | (subst hta; simp; done) | exact absurd hu' (hn _)
        · cases ok
          · exact hv
          · exact VL.tuple (.cons hv (.cons (.bool true) .nil))
      · cases h
  · cases h

def aconvert (P : Program) (src dst : TypeId) (x : Value) : Option Value :=
  match P.underlying src, P.underlying dst, x with
  | some _, some (.int k), .int _ n => some (.int k (k.wrap n))
  | some _, some .string, .string s => some (.string s)
  | _, _, _ => none

theorem convert_sound {P : Program} {ρ : Rho} {src dst : TypeId} {x r v : Value} (hx : VR ρ x r) (h : aconvert P src dst x = some v) (w : World) :
    ∃ r', (convert src dst r).run P w = .ok r' w ∧ VR ρ v r' := by
  unfold aconvert at h
  split at h
  · rename_i d k q n h1 h2
    cases hx; cases h
    refine ⟨_, ?_, .int _ _⟩
    simp only [convert, Sem.run_bind, run_und h1, run_und h2, Result.andThen_ok, Conv.intToInt, Sem.run_pure]
  · rename_i d s h1 h2
    cases hx; cases h
    refine ⟨_, ?_, .string _⟩
    simp only [convert, Sem.run_bind, run_und h1, run_und h2, Result.andThen_ok, Sem.run_pure]
  · cases h

def aunary (op : UnOp) (x : Value) : Option Value :=
  match op, x with
  | .not, .bool b => some (.bool !b)
  | .neg, .int k n => some (.int k (k.wrap (0 - n)))
  | .xor, .int k n => intBin .xor k (if k.signed then -1 else k.max) n
  | _, _ => none

theorem unary_sound {P : Program} {ρ : Rho} {op : UnOp} {x r v : Value} (hx : VR ρ x r) (h : aunary op x = some v) (w : World) :
    ∃ r', (Op.unary op r).run P w = .ok r' w ∧ VR ρ v r' := by
  unfold aunary at h
  split at h
  · cases hx; cases h; exact ⟨_, rfl, .bool _⟩
  · cases hx; cases h; exact ⟨_, rfl, .int _ _⟩
  · cases hx; simp only [intBin, Option.some.injEq] at h; subst h; exact ⟨_, rfl, .int _ _⟩
  · cases h

def apick (c a b : Value) : Option Value := match c with | .bool t => some (if t then a else b) | _ => none

def anilCheck (x : Value) : Option Value :=
  match x with
  | .pointer (some a) => some (.pointer (some a))
  | _ => none

end Go.AB

/-
  Slicing, lengths, composite values, appending, copying, clearing.
-/
namespace Go.AB
open Go
set_option linter.unusedSimpArgs false
set_option linter.unusedVariables false

/-- a bound of a slice expression -/
def abound (v : Value) (y : Nat) : Option Nat := match v with | .int _ i => if 0 ≤ i ∧ i ≤ y then some i.toNat else none | _ => none

theorem abound_le {v : Value} {y n : Nat} (h : abound v y = some n) : n ≤ y := by
  unfold abound at h
  split at h
  · split at h
    · cases h; omega
    · cases h
  · cases h

theorem abound_sound {P : Program} {ρ : Rho} {v r : Value} {y y' n : Nat} (hv : VR ρ v r) (h : abound v y = some n) (hy : y ≤ y') (code : BoundsCode) (w : World) :
    (Instr.sliceBound r y' code).run P w = .ok n w := by
  unfold abound at h
  split at h
  · rename_i k i
    cases hv
    split at h
    · rename_i hi
      cases h
      simp only [Instr.sliceBound, asIntOf, Sem.run_bind, Sem.run_pure, Result.andThen_ok]
      rw [if_pos ⟨hi.1, by omega⟩]; rfl
    · cases h
  · cases h

/-- low, high, max; 'cap': what is surely there; 'len': the length -/
def abounds (len cap : Nat) (lo hi mx : Option Value) : Option (Nat × Nat × Nat) :=
  match (match mx with | some v => abound v cap | none => some cap) with
  | none => none
  | some m =>
    match (match hi, mx with | some v, _ => abound v m | none, none => some len | none, some _ => none) with
    | none => none
    | some h => match (match lo with | some v => abound v h | none => some 0) with
      | none => none
      | some l => some (l, h, m)

/-- optional operands -/
def VO (ρ : Rho) : Option Value → Option Value → Prop
  | none, none => True
  | some a, some b => VR ρ a b
  | _, _ => False

/-- the bounds, where the real capacity is at least what is surely there; without a max the real one stands in the place of m -/
theorem abounds_sound {P : Program} {ρ : Rho} {len cap cap' : Nat} {lo hi mx lo' hi' mx' : Option Value} {l h m : Nat}
    (h1 : VO ρ lo lo') (h2 : VO ρ hi hi') (h3 : VO ρ mx mx') (hb : abounds len cap lo hi mx = some (l, h, m)) (hc : cap ≤ cap') (isSlice : Bool) (w : World) :
    (Instr.sliceBounds isSlice len cap' lo' hi' mx').run P w = .ok (l, h, if mx.isSome then m else cap') w := by
  unfold abounds at hb
  unfold Instr.sliceBounds
  cases mx with
  | none =>
    cases mx' with
    | some _ => exact h3.elim
    | none =>
      simp only at hb
      cases hi with
      | none =>
        cases hi' with
        | some _ => exact h2.elim
        | none =>
          simp only at hb
          cases lo with
          | none =>
            cases lo' with
            | some _ => exact h1.elim
            | none => simp at hb; obtain ⟨rfl, rfl, rfl⟩ := hb; simp
          | some vl =>
            cases lo' with
            | none => exact h1.elim
            | some vl' =>
              simp only at hb
              cases hl : abound vl len with
              | none => rw [hl] at hb; cases hb
              | some l0 =>
                rw [hl] at hb; cases hb
                simp only [Sem.run_bind, Sem.run_pure, Result.andThen_ok, abound_sound (P := P) h1 hl (Nat.le_refl _)]
                rfl
      | some vh =>
        cases hi' with
        | none => exact h2.elim
        | some vh' =>
          simp only at hb
          cases hh : abound vh cap with
          | none => rw [hh] at hb; cases hb
          | some h0 =>
            rw [hh] at hb
            simp only at hb
            cases lo with
            | none =>
              cases lo' with
              | some _ => exact h1.elim
              | none =>
                simp at hb; obtain ⟨rfl, rfl, rfl⟩ := hb
                simp only [Sem.run_bind, Sem.run_pure, Result.andThen_ok, abound_sound (P := P) h2 hh hc]
                rfl
            | some vl =>
              cases lo' with
              | none => exact h1.elim
              | some vl' =>
                simp only at hb
                cases hl : abound vl h0 with
                | none => rw [hl] at hb; cases hb
                | some l0 =>
                  rw [hl] at hb; cases hb
                  simp only [Sem.run_bind, Sem.run_pure, Result.andThen_ok, abound_sound (P := P) h2 hh hc, abound_sound (P := P) h1 hl (Nat.le_refl _)]
                  rfl
  | some vm =>
    cases mx' with
    | none => exact h3.elim
    | some vm' =>
      simp only at hb
      cases hm : abound vm cap with
      | none => rw [hm] at hb; cases hb
      | some m0 =>
        rw [hm] at hb
        simp only at hb
        cases hi with
        | none => cases hb
        | some vh =>
          cases hi' with
          | none => exact h2.elim
          | some vh' =>
            simp only at hb
            cases hh : abound vh m0 with
            | none => rw [hh] at hb; cases hb
            | some h0 =>
              rw [hh] at hb
              simp only at hb
              cases lo with
              | none =>
                cases lo' with
                | some _ => exact h1.elim
                | none =>
                  simp at hb; obtain ⟨rfl, rfl, rfl⟩ := hb
                  simp only [Sem.run_bind, Sem.run_pure, Result.andThen_ok, abound_sound (P := P) h3 hm hc, abound_sound (P := P) h2 hh (Nat.le_refl _)]
                  rfl
              | some vl =>
                cases lo' with
                | none => exact h1.elim
                | some vl' =>
                  simp only at hb
                  cases hl : abound vl h0 with
                  | none => rw [hl] at hb; cases hb
                  | some l0 =>
                    rw [hl] at hb; cases hb
                    simp only [Sem.run_bind, Sem.run_pure, Result.andThen_ok, abound_sound (P := P) h3 hm hc, abound_sound (P := P) h2 hh (Nat.le_refl _), abound_sound (P := P) h1 hl (Nat.le_refl _)]
                    rfl

theorem abounds_le {len cap : Nat} {lo hi mx : Option Value} {l h m : Nat} (hb : abounds len cap lo hi mx = some (l, h, m)) (hlen : len ≤ cap) : l ≤ h ∧ h ≤ m ∧ m ≤ cap ∧ (mx = none → m = cap) := by
  unfold abounds at hb
  split at hb
  · cases hb
  · rename_i m0 hm
    split at hb
    · cases hb
    · rename_i h0 hh
      split at hb
      · cases hb
      · rename_i l0 hl
        cases hb
        have a1 : m ≤ cap ∧ (mx = none → m = cap) := by
          split at hm
          · exact ⟨abound_le hm, fun h => by cases h⟩
          · cases hm; exact ⟨Nat.le_refl _, fun _ => rfl⟩
        have a2 : h ≤ m := by
          split at hh
          · exact abound_le hh
          · cases hh; have := a1.2 rfl; omega
          · cases hh
        have a3 : l ≤ h := by
          split at hl
          · exact abound_le hl
          · cases hl; omega
        exact ⟨a3, a2, a1.1, a1.2⟩

/-- how many elements are surely there from one on, in a row that grew -/
def avail (A : AHeap) (b o size : Nat) : Option Nat :=
  match A.f b with
  | some (.row cs (.grown n)) => if n = size ∧ 0 < size ∧ o ≤ cs.length then some ((cs.length - o) / size) else none
  | _ => none

def aslice (P : Program) (A : AHeap) (t : TypeId) (x : Value) (lo hi mx : Option Value) : Option Value :=
  match P.underlying t, x with
  | some .string, .string s => match mx with
    | none => (abounds s.size s.size lo hi none).map fun (l, h, _) => .string ⟨((s.data.toList.take h).drop l).toArray⟩
    | some _ => none
  | some (.slice e), .slice none len c => match szOf P e with
    | some _ => if len ≤ c then (abounds len c lo hi mx).map fun (l, h, m) => .slice none (h - l) (m - l) else none
    | none => none
  | some (.slice e), .slice (some ⟨b, o, none⟩) len c => match szOf P e with
    | some size =>
      if c < ucap then
        if len ≤ c then (abounds len c lo hi mx).map fun (l, h, m) => .slice (some ⟨b, if m = l then o else o + l * size, none⟩) (h - l) (m - l) else none
      else if c = ucap then match avail A b o size with
        | none => none
        | some av => if len ≤ av then match abounds len av lo hi mx with
          | none => none
          | some (l, h, m) =>
            if mx.isSome then (if m < ucap then some (.slice (some ⟨b, if m = l then o else o + l * size, none⟩) (h - l) (m - l)) else none)
            else if l = 0 then some (.slice (some ⟨b, o, none⟩) h ucap)
            else if l < h then some (.slice (some ⟨b, o + l * size, none⟩) (h - l) ucap)
            else some (.slice (some ⟨b, o, none⟩) 0 ecap)
          else none
      else none
    | none => none
  | some (.array n e), .pointer (some ⟨b, o, none⟩) => match szOf P e with
    | some size => if n < ucap then (abounds n n lo hi mx).map fun (l, h, m) => .slice (some ⟨b, if m = l then o else o + l * size, none⟩) (h - l) (m - l) else none
    | none => none
  | _, _ => none

theorem extract_bytes (s : ByteArray) (l h : Nat) : s.extract l h = ⟨((s.data.toList.take h).drop l).toArray⟩ := by
  apply bytes_ext
  simp [ByteArray.data_extract, List.extract_eq_take_drop, List.drop_take]

theorem avail_some {A : AHeap} {b o size av : Nat} (h : avail A b o size = some av) :
    ∃ cs, A.f b = some (.row cs (.grown size)) ∧ 0 < size ∧ o ≤ cs.length ∧ av = (cs.length - o) / size := by
  unfold avail at h
  split at h
  · rename_i cs n hf
    split at h
    · rename_i hc; cases h; obtain ⟨rfl, h2, h3⟩ := hc; exact ⟨cs, hf, h2, h3, rfl⟩
    · cases h
  · cases h

theorem row_size {ρ : Rho} {A : AHeap} {w : World} {i : Nat} {e : Ent} {cs : List Value} {k : Kind} (h : Rel ρ A w) (hi : ρ i = some e)
    (hf : A.f i = some (.row cs k)) : ∃ c t fz, w.heap[e.blk]? = some (.cells c t fz) ∧ cs.length ≤ c.size ∧ (k ≠ .ro → fz = (0, 0)) ∧
      (∀ n, k = .grown n → c.size = e.rsz ∧ e.esz = n) ∧ (k = .fix → c.size = cs.length) ∧ (k ≠ .ro → e.sh = 0) := by
  obtain ⟨ob, h1, h2⟩ := h.obj i e hi
  rw [hf] at h1; cases h1
  obtain ⟨c, t, fz, g1, g2, gs, g3⟩ := h2
  refine ⟨c, t, fz, g1, ?_, ?_, ?_, ?_, ?_⟩
  · rcases Nat.lt_or_ge c.size cs.length with hlt | hge
    · obtain ⟨v', hv', _⟩ := g2 c.size cs[c.size] (List.getElem?_eq_getElem hlt)
      rw [Array.getElem?_eq_none (by omega)] at hv'; cases hv'
    · exact hge
  · intro hk; cases k <;> first | exact absurd rfl hk | exact g3.1
  · intro n hk; subst hk; exact ⟨g3.2.1, g3.2.2.2⟩
  · intro hk; subst hk; exact g3.2.1
  · intro hk; cases k <;> first | exact absurd rfl hk | exact g3.2.2 | exact g3.2.2.1

/-- the real capacity is at least what is surely there -/
theorem avail_le {ρ : Rho} {A : AHeap} {w : World} {b o size av c : Nat} {e : Ent} (h : Rel ρ A w) (hb : ρ b = some e) (ha : avail A b o size = some av)
    (hs : o + c * e.esz = e.rsz) : av ≤ c ∧ e.esz = size ∧ 0 < size := by
  obtain ⟨cs, h1, h2, h3, h4⟩ := avail_some ha
  obtain ⟨cc, t, fz, g1, g2, _, g4, _, _⟩ := row_size h hb h1
  obtain ⟨g5, g6⟩ := g4 _ rfl
  refine ⟨?_, g6, h2⟩
  rw [h4]
  rw [g6] at hs
  apply Nat.div_le_of_le_mul
  rw [Nat.mul_comm]; omega

theorem slice_sound {P : Program} {ρ : Rho} {A : AHeap} {w : World} {t : TypeId} {x r v : Value} {lo hi mx lo' hi' mx' : Option Value} (hr : Rel ρ A w) (hx : VR ρ x r)
    (h1 : VO ρ lo lo') (h2 : VO ρ hi hi') (h3 : VO ρ mx mx') (h : aslice P A t x lo hi mx = some v) :
    ∃ r', (Instr.sliceAt t r lo' hi' mx').run P w = .ok r' w ∧ VR ρ v r' := by
  unfold aslice at h
  split at h
  · rename_i s hu
    cases hx
    split at h
    · cases mx' with
      | some _ => exact h3.elim
      | none =>
        cases hb : abounds s.size s.size lo hi none with
        | none => rw [hb] at h; cases h
        | some x =>
          obtain ⟨l, hh, m⟩ := x
          rw [hb] at h; cases h
          have := abounds_sound (P := P) h1 h2 (mx := none) (mx' := none) trivial hb (Nat.le_refl _) false w
          refine ⟨_, ?_, .string _⟩
          simp only [Instr.sliceAt, Sem.run_bind, run_und hu, Result.andThen_ok, Instr.slice, Option.isSome_none, Bool.false_eq_true, if_false, Sem.run_pure, this, extract_bytes]
    · cases h
  · rename_i e len c hu
    cases hx
    split at h
    · rename_i n hn
      split at h
      · rename_i hlc
        cases hb : abounds len c lo hi mx with
        | none => rw [hb] at h; cases h
        | some x =>
          obtain ⟨l, hh, m⟩ := x
          rw [hb] at h; cases h
          have hs := abounds_sound (P := P) h1 h2 h3 hb (Nat.le_refl _) true w
          have hm : (if mx.isSome = true then m else c) = m := by
            split
            · rfl
            · rename_i hmx; exact ((abounds_le hb hlc).2.2.2 (by cases mx <;> simp_all)).symm
          rw [hm] at hs
          refine ⟨_, ?_, .snil _ _⟩
          simp only [Instr.sliceAt, Sem.run_bind, run_und hu, Result.andThen_ok, Instr.slice, Sem.run_pure, hs, run_szOf hn, Option.map_none]
          simp
      · cases h
    · cases h
  · rename_i e b o len c hu
    split at h
    · rename_i size hsz
      split at h
      · rename_i hcu
        obtain ⟨en, c', he, rfl, hcc, _, _⟩ := hx.slice_inv (by unfold ecap; unfold ucap at hcu; omega)
        have hcc := hcc hcu
        subst hcc
        split at h
        · rename_i hlc
          cases hb : abounds len c' lo hi mx with
          | none => rw [hb] at h; cases h
          | some x =>
            obtain ⟨l, hh, m⟩ := x
            rw [hb] at h; cases h
            have hs := abounds_sound (P := P) h1 h2 h3 hb (Nat.le_refl _) true w
            have hle := abounds_le hb hlc
            have hm : (if mx.isSome = true then m else c') = m := by
              split
              · rfl
              · rename_i hmx; exact (hle.2.2.2 (by cases mx <;> simp_all)).symm
            rw [hm] at hs
            refine ⟨.slice (some ⟨en.blk, if m = l then en.sh + o else en.sh + o + l * size, none⟩) (hh - l) (m - l), ?_, .slice _ _ _ _ _ _ he (by split <;> omega) (by omega)⟩
            simp only [Instr.sliceAt, Sem.run_bind, run_und hu, Result.andThen_ok, Instr.slice, Sem.run_pure, hs, run_szOf hsz, Option.map_some]
            congr 2
            split <;> simp [add_none]
        · cases h
      · split at h
        · rename_i hcu
          subst hcu
          obtain ⟨en, c', he, rfl, _, hcc, _⟩ := hx.slice_inv (by unfold ecap ucap; omega)
          obtain ⟨g1, g2, g3⟩ := hcc rfl
          split at h
          · cases h
          · rename_i av hav
            obtain ⟨k1, k2, k3⟩ := avail_le hr he hav g1
            split at h
            · rename_i hlav
              cases hb : abounds len av lo hi mx with
              | none => rw [hb] at h; cases h
              | some x =>
                obtain ⟨l, hh, m⟩ := x
                rw [hb] at h; simp only at h
                have hs := abounds_sound (P := P) h1 h2 h3 hb k1 true w
                have hle := abounds_le hb hlav
                split at h
                · rename_i hmx
                  split at h
                  case isFalse => cases h
                  rename_i hmu
                  cases h
                  rw [if_pos hmx] at hs
                  refine ⟨.slice (some ⟨en.blk, if m = l then en.sh + o else en.sh + o + l * size, none⟩) (hh - l) (m - l), ?_, .slice _ _ _ _ _ _ he (by split <;> omega) ?_⟩
                  · simp only [Instr.sliceAt, Sem.run_bind, run_und hu, Result.andThen_ok, Instr.slice, Sem.run_pure, hs, run_szOf hsz, Option.map_some]
                    congr 2
                    split <;> simp [add_none]
                  · omega
                · rename_i hmx
                  rw [if_neg hmx] at hs
                  have hrun : (Instr.sliceAt t (.slice (some ⟨en.blk, en.sh + o, none⟩) len c') lo' hi' mx').run P w =
                      .ok (.slice (some (if c' = l then ⟨en.blk, en.sh + o, none⟩ else ⟨en.blk, en.sh + o + l * size, none⟩)) (hh - l) (c' - l)) w := by
                    simp only [Instr.sliceAt, Sem.run_bind, run_und hu, Result.andThen_ok, Instr.slice, Sem.run_pure, hs, run_szOf hsz, Option.map_some]
                    congr 2
                    split <;> simp [add_none]
                  split at h
                  · rename_i hl0; subst hl0; cases h
                    refine ⟨_, hrun, ?_⟩
                    have : (if c' = 0 then (⟨en.blk, en.sh + o, none⟩ : Addr) else ⟨en.blk, en.sh + o + 0 * size, none⟩) = ⟨en.blk, en.sh + o, none⟩ := by split <;> simp
                    rw [this]
                    exact .sliceU _ _ _ _ _ _ he rfl g1 (by omega) g3
                  · split at h
                    · rename_i hl0 hlh; cases h
                      refine ⟨_, hrun, ?_⟩
                      rw [if_neg (by omega)]
                      refine .sliceU _ _ _ _ _ _ he (by omega) ?_ (by omega) g3
                      rw [k2] at g1 ⊢
                      have : c' = l + (c' - l) := by omega
                      rw [this, Nat.add_mul] at g1
                      omega
                    · rename_i hl0 hlh; cases h
                      refine ⟨_, hrun, ?_⟩
                      have : hh - l = 0 := by omega
                      rw [this]
                      exact .sliceE _ _ _
            · cases h
        · cases h
    · cases h
  · rename_i n e b o hu
    obtain ⟨en, he, rfl⟩ := hx.ptr_inv
    split at h
    · rename_i size hsz
      split at h
      · rename_i hcu
        cases hb : abounds n n lo hi mx with
        | none => rw [hb] at h; cases h
        | some x =>
          obtain ⟨l, hh, m⟩ := x
          rw [hb] at h; cases h
          have hs := abounds_sound (P := P) h1 h2 h3 hb (Nat.le_refl _) false w
          have hle := abounds_le hb (Nat.le_refl _)
          have hm : (if mx.isSome = true then m else n) = m := by
            split
            · rfl
            · rename_i hmx; exact (hle.2.2.2 (by cases mx <;> simp_all)).symm
          rw [hm] at hs
          refine ⟨.slice (some ⟨en.blk, if m = l then en.sh + o else en.sh + o + l * size, none⟩) (hh - l) (m - l), ?_, .slice _ _ _ _ _ _ he (by split <;> omega) (by omega)⟩
          simp only [Instr.sliceAt, Sem.run_bind, run_und hu, Result.andThen_ok, Instr.sureAddr, Sem.run_pure, hs, run_szOf hsz]
          congr 2
          split <;> simp [add_none]
      · cases h
    · cases h
  · cases h

end Go.AB

/-
  Lengths, composite values, function values, appending.
-/
namespace Go.AB
open Go
set_option linter.unusedSimpArgs false
set_option linter.unusedVariables false

def alen (P : Program) (A : AHeap) (t : TypeId) (x : Value) : Option Value :=
  match P.underlying t, x with
  | some .string, .string s => some (goInt s.size)
  | some (.array n _), _ => some (goInt n)
  | some (.slice _), .slice _ n _ => some (goInt n)
  | some (.map _ _), .map none => some (goInt 0)
  | some (.map _ _), .map (some r) => match A.f r with
    | some (.map es _) => some (goInt es.length)
    | _ => none
  | _, _ => none

theorem VR.map_inv {ρ : Rho} {i : Nat} {r : Value} (h : VR ρ (.map (some i)) r) : ∃ e, ρ i = some e ∧ r = .map (some e.blk) := by
  cases h with
  | map i e h => exact ⟨e, h, rfl⟩

theorem map_obj {ρ : Rho} {A : AHeap} {w : World} {i clock : Nat} {e : Ent} {es : List MapEntry} (h : Rel ρ A w) (hi : ρ i = some e) (hf : A.f i = some (.map es clock)) :
    ∃ ents, w.heap[e.blk]? = some (.map ents clock) ∧ MapR ρ es ents clock := by
  obtain ⟨ob, h1, h2⟩ := h.obj i e hi
  rw [hf] at h1; cases h1
  exact h2

theorem getMap {P : Program} {w : World} {r : Nat} {es : Array MapEntry} {clock : Nat} (h : w.heap[r]? = some (.map es clock)) :
    (getObj r).run P w = .ok (.map es clock) w := by simp [getObj, Sem.run, h]
theorem setMap {P : Program} {w : World} {r : Nat} {es : Array MapEntry} {clock : Nat} (o : Obj) (h : w.heap[r]? = some (.map es clock)) :
    (setObj r o).run P w = .ok () { w with heap := w.heap.setIfInBounds r o } := by simp [setObj, Sem.run, h]

theorem len_sound {P : Program} {ρ : Rho} {A : AHeap} {w : World} {t : TypeId} {x r v : Value} (hr : Rel ρ A w) (hx : VR ρ x r) (h : alen P A t x = some v) (ty : TypeId) :
    (Builtin.len_ #[t] ty #[r]).run P w = .ok v w := by
  unfold alen at h
  split at h
  · rename_i s hu; cases hx; cases h
    simp [Builtin.len_, run_und hu]
  · rename_i n e hu; cases h
    simp [Builtin.len_, run_und hu]
  · rename_i el a n c hu
    cases h
    cases hx <;> simp [Builtin.len_, run_und hu]
  · rename_i k e hu; cases hx; cases h
    simp [Builtin.len_, run_und hu]
  · rename_i k e r0 hu
    obtain ⟨en, he, rfl⟩ := hx.map_inv
    split at h
    · rename_i es ver hf
      cases h
      obtain ⟨ents, h1, h2⟩ := map_obj hr he hf
      simp only [Builtin.len_, Sem.run_bind, Sem.run_pure]
      simp [run_und hu, getMap h1, h2.size]
    · cases h
  · cases h

/-- the places of a struct's fields -/
def places (P : Program) (t : TypeId) : Option (List (Nat × Nat)) :=
  match P.underlying t with
  | some (.struct fs) => fs.toList.mapM fun f => (szOf P f.type).map fun n => (f.offset, n)
  | _ => none

/-- parts laid into cells -/
def afill (place : Nat → Option (Nat × Nat)) (cells : List Value) : List (Nat × Value) → Option (List Value)
  | [] => some cells
  | (i, v) :: rest => match place i, acells v with
    | some (off, size), some vs => if vs.length = size then (putCells cells off vs).bind fun c => afill place c rest else none
    | _, _ => none

def abuild (P : Program) (t : TypeId) (parts : List (Nat × Value)) : Option Value :=
  match zcells P t with
  | none => none
  | some z => match P.underlying t with
    | some (.struct _) => match places P t with
      | some ps => (afill (ps[·]?) z parts).map fun l => .agg ⟨l⟩
      | none => none
    | some (.array _ e) => match szOf P e with
      | some n => (afill (fun i => some (i * n, n)) z parts).map fun l => .agg ⟨l⟩
      | none => none
    | _ => none

theorem foldl_put (l : List Value) : ∀ (j0 off : Nat) (c : Array Value), off + j0 + l.length ≤ c.size →
    ((l.zipIdx j0).foldl (fun cs (x : Value × Nat) => cs.setIfInBounds (off + x.2) x.1) c).toList = c.toList.take (off + j0) ++ l ++ c.toList.drop (off + j0 + l.length) := by
  induction l with
  | nil => intro j0 off c h; simp
  | cons v l ih =>
    intro j0 off c h
    simp only [List.zipIdx_cons, List.foldl_cons]
    have hlen : off + (j0 + 1) + l.length ≤ (c.setIfInBounds (off + j0) v).size := by simp at h ⊢; omega
    rw [ih (j0 + 1) off _ hlen]
    apply List.ext_getElem?
    intro k
    have hc : c.toList.length = c.size := by simp
    simp only [List.length_cons] at h
    simp only [List.length_cons, Array.toList_setIfInBounds, List.append_assoc]
    rw [List.getElem?_append, List.getElem?_append, List.getElem?_append, List.getElem?_append]
    simp only [List.length_take, List.length_set, hc, List.getElem?_take, List.getElem?_drop, List.getElem?_set, List.length_cons]
    have m1 : min (off + (j0 + 1)) c.size = off + j0 + 1 := by omega
    have m2 : min (off + j0) c.size = off + j0 := by omega
    rw [m1, m2]
    by_cases h1 : k < off + j0
    · rw [if_pos (by omega), if_pos (by omega), if_neg (by omega), if_pos h1, if_pos h1]
    · by_cases h2 : k = off + j0
      · subst h2
        rw [if_pos (by omega), if_pos (by omega), if_pos rfl, if_pos (by omega), if_neg (by omega), if_pos (by omega)]
        simp
      · have e1 : ¬ k < off + j0 + 1 := by omega
        rw [if_neg e1, if_neg h1]
        by_cases h3 : k < off + j0 + 1 + l.length
        · rw [if_pos (by omega), if_pos (by omega)]
          have : k - (off + j0) = (k - (off + j0 + 1)) + 1 := by omega
          rw [this, List.getElem?_cons_succ]
        · rw [if_neg (by omega), if_neg (by omega), if_neg (by omega)]
          congr 1; omega

theorem putCells_VL {ρ : Rho} {cs rs vs us cs' : List Value} {o : Nat} (h : VL ρ cs rs) (hv : VL ρ vs us) (hp : putCells cs o vs = some cs') :
    VL ρ cs' (rs.take o ++ us ++ rs.drop (o + us.length)) := by
  unfold putCells at hp
  split at hp
  · cases hp
    rw [← hv.1]
    exact ((h.take o).append hv).append (h.drop _)
  · cases hp

theorem fill_sound {ρ : Rho} {place : Nat → Option (Nat × Nat)} : ∀ {parts : List (Nat × Value)} {parts' : List (Nat × Value)} {cs cs' rs : List Value},
    VL ρ cs rs → parts.length = parts'.length → (∀ (i : Nat) p p', parts[i]? = some p → parts'[i]? = some p' → p.1 = p'.1 ∧ VR ρ p.2 p'.2) →
    afill place cs parts = some cs' → ∃ rs', Instr.fill place ⟨rs⟩ parts' = some ⟨rs'⟩ ∧ VL ρ cs' rs' := by
  intro parts
  induction parts with
  | nil =>
    intro parts' cs cs' rs h hl _ hf
    cases parts' with
    | nil => simp [afill] at hf; subst hf; exact ⟨rs, rfl, h⟩
    | cons _ _ => simp at hl
  | cons p parts ih =>
    intro parts' cs cs' rs h hl hp hf
    cases parts' with
    | nil => simp at hl
    | cons p' parts' =>
      obtain ⟨i, v⟩ := p
      obtain ⟨i', v'⟩ := p'
      obtain ⟨h1, h2⟩ := hp 0 _ _ rfl rfl
      simp only at h1 h2
      subst h1
      simp only [afill] at hf
      split at hf
      · rename_i off size vs hpl hac
        split at hf
        · rename_i hsz
          cases hput : putCells cs off vs with
          | none => rw [hput] at hf; cases hf
          | some c1 =>
            rw [hput] at hf
            simp only [Option.bind_some] at hf
            obtain ⟨g1, _, _⟩ := acells_sound h2 hac
            have hvl : v'.cells.toList.length = vs.length := g1.1.symm
            have hvs : v'.cells.size = size := by rw [← hsz, ← hvl]; simp
            have hle : off + vs.length ≤ cs.length := by
              unfold putCells at hput; split at hput
              · assumption
              · cases hput
            have hle' : off + v'.cells.size ≤ rs.length := by rw [← h.1, hvs, ← hsz]; exact hle
            have hfold := foldl_put v'.cells.toList 0 off ⟨rs⟩ (by simp; omega)
            obtain ⟨rs', k1, k2⟩ := ih (parts' := parts') (putCells_VL h g1 hput) (by simpa using hl) (fun j p p' a b => hp (j + 1) p p' (by simpa using a) (by simpa using b)) hf
            refine ⟨rs', ?_, k2⟩
            simp only [Instr.fill, hpl]
            rw [if_neg (by simp [hvs]; omega)]
            rw [← k1]
            congr 1
            apply Array.ext'
            have : (v'.cells.zipIdx.foldl (fun cs (x : Value × Nat) => cs.setIfInBounds (off + x.2) x.1) (⟨rs⟩ : Array Value)) =
                ((v'.cells.toList.zipIdx 0).foldl (fun cs (x : Value × Nat) => cs.setIfInBounds (off + x.2) x.1) (⟨rs⟩ : Array Value)) := by
              rw [← Array.foldl_toList, Array.toList_zipIdx]
            rw [this, hfold]
            simp
        · cases hf
      · cases hf

theorem run_places {P : Program} {t : TypeId} {fs : Array Field} {ps : List (Nat × Nat)} (hu : P.underlying t = some (.struct fs)) (h : places P t = some ps) (w : World) :
    (fs.mapM (m := Sem) fun f => do pure (f.offset, ← sizeOf f.type)).run P w = .ok ⟨ps⟩ w := by
  unfold places at h
  rw [hu] at h
  simp only at h
  rw [Array.mapM_eq_mapM_toList]
  simp only [Sem.run_map]
  have key : ∀ (l : List Field) (q : List (Nat × Nat)), (l.mapM fun f => (szOf P f.type).map fun n => (f.offset, n)) = some q →
      (l.mapM (m := Sem) fun f => do pure (f.offset, ← sizeOf f.type)).run P w = .ok q w := by
    intro l
    induction l with
    | nil => intro q hq; simp at hq; subst hq; simp
    | cons f l ih =>
      intro q hq
      rw [List.mapM_cons] at hq
      cases hs : szOf P f.type with
      | none => rw [hs] at hq; simp at hq
      | some n =>
        rw [hs] at hq
        simp only [Option.map_some, Option.bind_eq_bind, Option.bind_some] at hq
        cases hr : (l.mapM fun f => (szOf P f.type).map fun n => (f.offset, n)) with
        | none => rw [hr] at hq; cases hq
        | some q' =>
          rw [hr] at hq; cases hq
          rw [List.mapM_cons]
          simp only [Sem.run_bind, run_szOf hs, Result.andThen_ok, Sem.run_pure, ih _ hr]
  rw [key _ _ h]
  rfl

theorem build_sound {P : Program} {ρ : Rho} {t : TypeId} {parts parts' : List (Nat × Value)} {v : Value}
    (hl : parts.length = parts'.length) (hp : ∀ (i : Nat) p p', parts[i]? = some p → parts'[i]? = some p' → p.1 = p'.1 ∧ VR ρ p.2 p'.2)
    (h : abuild P t parts = some v) (w : World) : ∃ r, (Instr.build t ⟨parts'⟩).run P w = .ok r w ∧ VR ρ v r := by
  unfold abuild at h
  split at h
  · cases h
  · rename_i z hz
    obtain ⟨zv, h1, h2, _, h4⟩ := zcells_run hz w
    have hzz : zv.cells = ⟨z⟩ := by apply Array.ext'; rw [h2]
    split at h
    · rename_i fs hu
      split at h
      · rename_i ps hps
        cases hf : afill (ps[·]?) z parts with
        | none => rw [hf] at h; cases h
        | some l =>
          rw [hf] at h; cases h
          obtain ⟨rs', k1, k2⟩ := fill_sound (plainL_self (ρ := ρ) h4) hl hp hf
          refine ⟨.agg ⟨rs'⟩, ?_, k2.agg⟩
          have hpl : (fun i : Nat => ps[i]?) = fun i : Nat => (⟨ps⟩ : Array (Nat × Nat))[i]? := by funext i; simp
          rw [hpl] at k1
          simp only [Instr.build, Sem.run_bind, h1, Result.andThen_ok, run_und hu, hzz, run_places hu hps, k1, Sem.run_pure]
      · cases h
    · rename_i n e hu
      split at h
      · rename_i sz hsz
        cases hf : afill (fun i => some (i * sz, sz)) z parts with
        | none => rw [hf] at h; cases h
        | some l =>
          rw [hf] at h; cases h
          obtain ⟨rs', k1, k2⟩ := fill_sound (plainL_self (ρ := ρ) h4) hl hp hf
          refine ⟨.agg ⟨rs'⟩, ?_, k2.agg⟩
          simp only [Instr.build, Sem.run_bind, h1, Result.andThen_ok, run_und hu, hzz, run_szOf hsz, k1, Sem.run_pure]
      · cases h
    · cases h

end Go.AB

/-
  Slices written out, and appending.
-/
namespace Go.AB
open Go
set_option linter.unusedSimpArgs false
set_option linter.unusedVariables false

/-! ### a slice written out element by element -/
def seqCells (size : Nat) : Nat → List (Nat × Value) → Option (List Value)
  | _, [] => some []
  | k, (i, v) :: rest => if i = k then match acells v with
    | some vs => if vs.length = size then (seqCells size (k + 1) rest).map (vs ++ ·) else none
    | none => none
    else none

theorem seq_fill (size : Nat) : ∀ (parts : List (Nat × Value)) (k : Nat) (cs pre post : List Value), seqCells size k parts = some cs → pre.length = k * size →
    post.length = parts.length * size → afill (fun i => some (i * size, size)) (pre ++ post) parts = some (pre ++ cs) ∧ cs.all scalar = true ∧ cs.length = parts.length * size
  | [], k, cs, pre, post, h, _, hp => by
    simp [seqCells] at h; subst h
    simp at hp; subst hp
    simp [afill]
  | (i, v) :: rest, k, cs, pre, post, h, hpre, hp => by
    simp only [seqCells] at h
    split at h
    · rename_i hik
      subst hik
      split at h
      · rename_i vs hv
        split at h
        · rename_i hsz
          cases hr : seqCells size (i + 1) rest with
          | none => rw [hr] at h; cases h
          | some cr =>
            rw [hr] at h; cases h
            have hsc : vs.all scalar = true := by
              unfold acells at hv
              split at hv
              · split at hv
                · rename_i hh; cases hv; exact hh
                · cases hv
              · split at hv
                · rename_i hh; cases hv; simpa using hh
                · cases hv
            simp only [List.length_cons, Nat.add_mul, Nat.one_mul] at hp
            obtain ⟨h1, h2, h3⟩ := seq_fill size rest (i + 1) cr (pre ++ vs) (post.drop size) hr (by simp [hpre, hsz, Nat.add_mul]) (by simp; omega)
            have hput : putCells (pre ++ post) (i * size) vs = some (pre ++ vs ++ post.drop size) := by
              unfold putCells
              rw [if_pos (by simp; omega)]
              congr 1
              rw [← hpre, List.take_left, hsz, List.drop_append, List.drop_of_length_le (by omega), show pre.length + size - pre.length = size by omega]
              simp
            refine ⟨?_, by rw [List.all_append, hsc, h2]; rfl, by simp [h3, hsz, Nat.add_mul]; omega⟩
            simp only [afill, hv, hsz, if_true, hput, Option.bind_some, h1]
            simp only [List.append_assoc]
        · cases h
      · cases h
    · cases h

def abuildSlice (P : Program) (A : AHeap) (t : TypeId) (len : Nat) (parts : List (Nat × Value)) : Option (Value × AHeap) :=
  match sliceOf P t with
  | none => none
  | some e => match szOf P e, zcells P e with
    | some size, some z => if parts.length = len ∧ len * size ≤ 16777216 ∧ len ≤ 16777216 then
        (seqCells size 0 parts).map fun cs => (.slice (some ⟨A.n, 0, none⟩) len len, A.push (.row cs .fix)) else none
    | _, _ => none

theorem top_VL (ρ : Rho) (rs : List Value) : VL ρ (List.replicate rs.length top) rs := by
  refine ⟨by simp, fun i v v' h1 h2 => ?_⟩
  have := List.mem_of_getElem? h1
  rw [List.mem_replicate] at this
  rw [this.2]; exact .top _

theorem buildSlice_sound {P : Program} {ρ : Rho} {A A' : AHeap} {w : World} {t : TypeId} {len : Nat} {parts parts' : List (Nat × Value)} {v : Value} (hr : Rel ρ A w)
    (hl : parts.length = parts'.length) (hp : ∀ (i : Nat) p p', parts[i]? = some p → parts'[i]? = some p' → p.1 = p'.1 ∧ VR ρ p.2 p'.2)
    (h : abuildSlice P A t len parts = some (v, A')) : ∃ ρ' r w', (Instr.buildSlice t len ⟨parts'⟩).run P w = .ok r w' ∧ VR ρ' v r ∧ Step ρ A w ρ' A' w' := by
  unfold abuildSlice at h
  split at h
  · cases h
  · rename_i e he
    split at h
    · rename_i size z hsz hz
      split at h
      · rename_i hc
        cases hs : seqCells size 0 parts with
        | none => rw [hs] at h; cases h
        | some cs =>
          rw [hs] at h; cases h
          obtain ⟨zv, h1, h2, _, _⟩ := zcells_run hz w
          let rs : List Value := ((Array.range (len * size)).map (zv.cells[· % zv.cells.size]!)).toList
          have hrl : rs.length = len * size := by simp [rs]
          obtain ⟨g1, g2, g3⟩ := seq_fill size parts 0 cs [] (List.replicate rs.length top) hs (by simp) (by rw [List.length_replicate, hrl, hc.1])
          simp only [List.nil_append] at g1
          obtain ⟨us, k1, k2⟩ := fill_sound (top_VL ρ rs) hl hp g1
          obtain ⟨m1, m2⟩ := run_newRow (P := P) hr e k2 g2 ⟨us⟩ rfl
          refine ⟨_, .slice (some ⟨w.heap.size, 0, none⟩) len len, _, ?_, ?_, m2⟩
          · simp only [Instr.buildSlice, Sem.run_bind, run_und (sliceOf_some he), run_szOf hsz, Result.andThen_ok]
            rw [if_neg (by have := hc.2.1; simp; omega)]
            by_cases h0 : len * size = 0
            · rw [if_pos h0]
              have hus : us = [] := by
                have : us.length = 0 := by rw [← k2.1, g3, hc.1, h0]
                exact List.eq_nil_of_length_eq_zero this
              have hrs : rs = [] := List.eq_nil_of_length_eq_zero (by omega)
              have : (Array.map (fun x => (#[] : Array Value)[x % (#[] : Array Value).size]!) (Array.range (len * size))) = ⟨rs⟩ := by
                apply Array.ext'; rw [hrs]; simp [h0]
              simp only [Sem.run_pure, Result.andThen_ok, this, k1, Sem.run_bind, m1]
            · rw [if_neg h0]
              have : (Array.map (fun x => zv.cells[x % zv.cells.size]!) (Array.range (len * size))) = ⟨rs⟩ := by apply Array.ext'; rfl
              simp only [Sem.run_bind, h1, Sem.run_pure, Result.andThen_ok, this, k1, m1]
          · exact .slice _ _ _ _ _ _ (ext_same _ _ _) rfl (by unfold ucap; omega)
      · cases h
    · cases h

/-! ### what may be in place -/
theorem Step.kill {ρ : Rho} {A : AHeap} {w : World} (h : Rel ρ A w) (i : Nat) (hl : live A i) (hw : writable A i) : Step ρ A w ρ (A.set i .dead) w := by
  have key : ∀ j, live (A.set i .dead) j → live A j ∧ j ≠ i := by
    intro j hj
    by_cases hji : j = i
    · subst hji; exact absurd (AHeap.set_same _ _ _) hj
    · exact ⟨by unfold live at hj ⊢; rwa [AHeap.set_other _ _ hji] at hj, hji⟩
  have keyw : ∀ j, writable (A.set i .dead) j → writable A j := by
    intro j hj
    by_cases hji : j = i
    · subst hji; exact hw
    · unfold writable at hj ⊢; rwa [AHeap.set_other _ _ hji] at hj
  refine ⟨Sub.refl _, ⟨h.lt, ?_, h.bnd, ?_⟩, rfl, ⟨rfl, fun _ => rfl⟩, rfl, Nat.le_refl _, fun _ _ _ => rfl, fun j e h1 h2 => (by rw [h1] at h2; cases h2), fun j e _ hj => keyw j hj, Nat.le_refl _, fun j e h1 h2 => (by rw [h1] at h2; cases h2)⟩
  · intro j e hj
    by_cases hji : j = i
    · subst hji; exact ⟨.dead, AHeap.set_same _ _ _, trivial⟩
    · obtain ⟨o, h1, h2⟩ := h.obj j e hj
      refine ⟨o, by rw [AHeap.set_other _ _ hji]; exact h1, h2.mono (Sub.refl _) rfl⟩
  · intro j k e e' hj hk hb hwj hlk
    exact h.inj j k e e' hj hk hb (keyw _ hwj) (key _ hlk).1

theorem Step.regrow {ρ : Rho} {A : AHeap} {w : World} (h : Rel ρ A w) {i : Nat} {e : Ent} (hi : ρ i = some e) (hw : writable A i) (hl : live A i) (o : AObj) (O : Obj)
    (ho : OR (ext ρ A.n e) (w.heap.setIfInBounds e.blk O) e o) (hz : fzOf (some O) = (0, 0) := by rfl) :
    Step ρ A w (ext ρ A.n e) ((A.set i .dead).push o) { w with heap := w.heap.setIfInBounds e.blk O } := by
  have hnone := h.none_n
  have hsub : Sub ρ (ext ρ A.n e) := ext_sub _ hnone
  have hother : ∀ B, B ≠ e.blk → (w.heap.setIfInBounds e.blk O)[B]? = w.heap[B]? := fun B hB => by
    rw [Array.getElem?_setIfInBounds_ne (by omega)]
  have hin : i < A.n := h.lt _ _ hi
  have fold : ∀ j, j < A.n → j ≠ i → ((A.set i .dead).push o).f j = A.f j := by
    intro j hj hji
    rw [AHeap.push_old _ _ (by simpa using hj), AHeap.set_other _ _ hji]
  have fi : ((A.set i .dead).push o).f i = some .dead := by
    rw [AHeap.push_old _ _ (by simpa using hin), AHeap.set_same]
  have keyl : ∀ j, j < A.n → live ((A.set i .dead).push o) j → live A j ∧ j ≠ i := by
    intro j hj hlj
    by_cases hji : j = i
    · subst hji; exact absurd fi hlj
    · exact ⟨by unfold live at hlj ⊢; rwa [fold j hj hji] at hlj, hji⟩
  have keyw : ∀ j, j < A.n → writable ((A.set i .dead).push o) j → writable A j ∧ j ≠ i := by
    intro j hj hwj
    by_cases hji : j = i
    · subst hji; unfold writable at hwj; rw [fi] at hwj; exact hwj.elim
    · exact ⟨by unfold writable at hwj ⊢; rwa [fold j hj hji] at hwj, hji⟩
  refine ⟨hsub, ⟨?_, ?_, ?_, ?_⟩, rfl, ⟨rfl, frozen_set (by rw [hz, fz_writable h hi hw])⟩, rfl, by simp, ?_, ?_, ?_, by simp, ?_⟩
  · intro j ej hj
    unfold ext at hj
    split at hj
    · rename_i hjn; subst hjn; simp
    · have := h.lt _ _ hj; simp; omega
  · intro j ej hj
    unfold ext at hj
    split at hj
    · rename_i hjn; subst hjn; cases hj
      exact ⟨o, AHeap.push_new _ _, ho⟩
    · have hjn := h.lt _ _ hj
      by_cases hji : j = i
      · subst hji; exact ⟨.dead, fi, trivial⟩
      · obtain ⟨o', h1, h2⟩ := h.obj _ _ hj
        refine ⟨o', by rw [fold j hjn hji]; exact h1, ?_⟩
        by_cases hlj : live A j
        · have hne : ej.blk ≠ e.blk := fun hb => hji (h.inj i j e ej hi hj hb.symm hw hlj).symm
          exact h2.mono hsub (hother _ hne)
        · have hd : A.f j = some .dead := Classical.byContradiction hlj
          rw [h1] at hd; cases hd; trivial
  · intro j ej hj
    unfold ext at hj
    split at hj
    · cases hj; have := h.bnd _ _ hi; simpa using this
    · have := h.bnd _ _ hj; simpa using this
  · intro j k ej ek hj hk hb hwj hlk
    unfold ext at hj hk
    split at hj <;> split at hk
    · omega
    · cases hj
      have hkn := h.lt _ _ hk
      obtain ⟨g1, g2⟩ := keyl k hkn hlk
      exact absurd (h.inj i k e ek hi hk hb hw g1).symm g2
    · cases hk
      have hjn := h.lt _ _ hj
      obtain ⟨g1, g2⟩ := keyw j hjn hwj
      exact absurd (h.inj j i ej e hj hi hb g1 hl) g2
    · exact h.inj j k ej ek hj hk hb (keyw j (h.lt _ _ hj) hwj).1 (keyl k (h.lt _ _ hk) hlk).1
  · intro B hB hn
    exact hother B fun hb => hn i e hi hw hb.symm
  · intro j ej hj ho'
    unfold ext at hj
    split at hj
    · cases hj; exact .inr ⟨i, e, hi, hw, rfl⟩
    · rw [ho'] at hj; cases hj
  · intro j ej hj hwj
    exact (keyw j (h.lt _ _ hj) hwj).1
  · intro j ej hj ho'
    unfold ext at hj
    split at hj
    · omega
    · rw [ho'] at hj; cases hj

theorem growBy_le (newLen : Nat) : ∀ (rounds c : Nat), c ≤ newLen + (newLen + 768) / 4 → Builtin.growBy newLen rounds c ≤ newLen + (newLen + 768) / 4
  | 0, c, h => h
  | r + 1, c, h => by
    unfold Builtin.growBy
    split
    · exact h
    · exact growBy_le newLen r _ (by omega)

theorem nextcap_le (need cap : Nat) (h : cap < need) : Builtin.nextslicecap need cap ≤ 2 * need + 192 := by
  unfold Builtin.nextslicecap
  split
  · omega
  · split
    · omega
    · have := growBy_le need 4 cap (by omega); omega

end Go.AB

/-
  append.
-/
namespace Go.AB
open Go
set_option linter.unusedSimpArgs false
set_option linter.unusedVariables false

/-- what is appended: how many elements, their cells -/
def appCells (A : AHeap) (size : Nat) (x : Value) : Option (Nat × List Value) :=
  match x with
  | .slice none 0 _ => some (0, [])
  | .slice (some ⟨b, o, none⟩) n c =>
    if c = ecap then (if n = 0 then some (0, []) else none)
    else match A.f b with
      | some (.row cs _) => (getCells cs o (n * size)).map fun l => (n, l)
      | _ => none
  | .string s => if size = 1 then some (s.size, s.data.toList.map fun b => .int .u8 b.toNat) else none
  | _ => none

theorem row_scalar {ρ : Rho} {A : AHeap} {w : World} {i : Nat} {e : Ent} {cs : List Value} {k : Kind} (h : Rel ρ A w) (hi : ρ i = some e)
    (hf : A.f i = some (.row cs k)) : cs.all scalar = true := by
  obtain ⟨ob, g1, g2⟩ := h.obj _ _ hi
  rw [hf] at g1; cases g1
  obtain ⟨_, _, _, _, _, hall, _⟩ := g2
  exact hall

theorem getCells_scalar {cs l : List Value} {o n : Nat} (h : cs.all scalar = true) (hg : getCells cs o n = some l) : l.all scalar = true := by
  rw [List.all_eq_true] at h ⊢
  intro v hv
  obtain ⟨i, hi⟩ := List.getElem?_of_mem hv
  exact h v (List.mem_of_getElem? ((getCells_some hg).2 i v hi))

theorem bytes_all (l : List UInt8) : (l.map fun b => (Value.int .u8 b.toNat)).all plain1 = true := by
  induction l with
  | nil => rfl
  | cons a l ih => rw [List.map_cons, List.all_cons, ih]; rfl

theorem extract_self (s : ByteArray) : s.extract 0 s.size = s := by
  apply bytes_ext
  rw [extract_bytes]
  have : s.size = s.data.toList.length := by rw [Array.length_toList]; rfl
  rw [this, List.take_length]; rfl

theorem appCells_sound {P : Program} {ρ : Rho} {A : AHeap} {w : World} {size n : Nat} {x r : Value} {l : List Value} (h : Rel ρ A w) (hx : VR ρ x r)
    (ha : appCells A size x = some (n, l)) : ∃ rs : List Value, (Builtin.firstCells size n r).run P w = .ok ⟨rs⟩ w ∧
      (∀ w, (Builtin.lenOf r).run P w = .ok n w) ∧ VL ρ l rs ∧ l.length = n * size ∧ l.all scalar = true := by
  unfold appCells at ha
  split at ha
  · cases ha; cases hx
    exact ⟨[], rfl, fun _ => rfl, .nil, (Nat.zero_mul _).symm, rfl⟩
  · rename_i b o n' c
    split at ha
    · split at ha
      · rename_i hc hn
        subst hn; cases ha
        have : ∃ a' c', r = .slice (some a') 0 c' := by
          cases hx with
          | slice i o q n c e h hq hc => exact ⟨_, _, rfl⟩
          | sliceU i o q n c e h hq h1 h2 h3 => exact ⟨_, _, rfl⟩
          | sliceE a a' c => exact ⟨_, _, rfl⟩
        obtain ⟨a', c', rfl⟩ := this
        refine ⟨[], ?_, fun _ => rfl, .nil, (by rw [Nat.zero_mul]; rfl), rfl⟩
        simp only [Builtin.firstCells, Nat.zero_mul]; rfl
      · cases ha
    · rename_i hc
      obtain ⟨e, c', he, rfl, _, _, _⟩ := hx.slice_inv hc
      split at ha
      · rename_i cs k hf
        cases hg : getCells cs o (n' * size) with
        | none => rw [hg] at ha; cases ha
        | some l0 =>
          rw [hg] at ha; cases ha
          obtain ⟨rs, h1, h2⟩ := run_row (P := P) h he hf hg
          exact ⟨rs, h1, fun _ => rfl, h2, (getCells_some hg).1, getCells_scalar (row_scalar h he hf) hg⟩
      · cases ha
  · rename_i s
    split at ha
    · rename_i hs
      subst hs; cases ha; cases hx
      refine ⟨s.data.toList.map fun b => .int .u8 b.toNat, ?_, fun _ => rfl, plainL_self (bytes_all _), ?_, plainL_scalar (bytes_all _)⟩
      · simp only [Builtin.firstCells, extract_self, Sem.run_pure]
        congr 1
        apply Array.ext'
        rw [Array.toList_map]
      · rw [List.length_map, Nat.mul_one]; rfl
    · cases ha
  · cases ha

/-- what of the types an append needs: the element's cells and bytes -/
def appType (P : Program) (st xt : TypeId) : Option (Nat × Nat) :=
  match sliceOf P st with
  | some e => match szOf P e with
    | some size => match byOf P e with
      | some bytes => match zcells P e with
        | some z => match P.underlying xt with
          | some (.int _) => none
          | some _ => if 0 < size ∧ 0 < bytes ∧ z.length = size then some (size, bytes) else none
          | none => none
        | none => none
      | none => none
    | none => none
  | none => none

def room : Nat := 1099511627776

def inPlace (A : AHeap) (b o len size n : Nat) (new : List Value) (c : Nat) : Option (Value × AHeap) :=
  if n = 0 then some (.slice (some ⟨b, o, none⟩) (len + n) c, A)
  else match A.f b with
    | some (.row cs k) => if k = .ro then none else
      (putCells cs (o + len * size) new).map fun cs' => (.slice (some ⟨b, o, none⟩) (len + n) c, A.set b (.row cs' k))
    | _ => none

def aappend (P : Program) (A : AHeap) (st xt : TypeId) (s x : Value) : Option (Value × AHeap) :=
  match appType P st xt with
  | none => none
  | some (size, bytes) => match appCells A size x with
    | none => none
    | some (n, new) => match s with
      | .slice none 0 0 =>
        if n = 0 then some (.slice none 0 0, A)
        else if n * bytes ≤ room then some (.slice (some ⟨A.n, 0, none⟩) n ucap, A.push (.row new (.grown size)))
        else none
      | .slice (some ⟨b, o, none⟩) len c =>
        if c < ucap then
          if len + n ≤ c then inPlace A b o len size n new c
          else if (len + n) * bytes ≤ room then match A.f b with
            | some (.row cs _) => (getCells cs o (len * size)).map fun old => (.slice (some ⟨A.n, 0, none⟩) (len + n) ucap, A.push (.row (old ++ new) (.grown size)))
            | _ => none
          else none
        else if c = ucap then match avail A b o size with
          | none => none
          | some av =>
            if len + n ≤ av then inPlace A b o len size n new ucap
            else match A.f b with
              | some (.row cs _) => if o = 0 ∧ len * size = cs.length ∧ (len + n) * bytes ≤ room then
                  some (.slice (some ⟨A.n, 0, none⟩) (len + n) ucap, (A.set b .dead).push (.row (cs ++ new) (.grown size))) else none
              | _ => none
        else none
      | _ => none

theorem appType_some {P : Program} {st xt : TypeId} {size bytes : Nat} (h : appType P st xt = some (size, bytes)) :
    ∃ e z i xd, P.underlying st = some (.slice e) ∧ szOf P e = some size ∧ P.info? e = some i ∧ i.bytes = bytes ∧ zcells P e = some z ∧ z.length = size ∧
      0 < size ∧ 0 < bytes ∧ P.underlying xt = some xd ∧ (∀ k, xd ≠ .int k) := by
  unfold appType at h
  split at h
  case h_2 => cases h
  rename_i e he
  split at h
  case h_2 => cases h
  rename_i sz h1
  split at h
  case h_2 => cases h
  rename_i by_ h2
  split at h
  case h_2 => cases h
  rename_i z h3
  split at h
  · cases h
  · rename_i xd hn h4
    split at h
    · rename_i hc
      cases h
      obtain ⟨i, g1, g2⟩ := run_byOf h2
      exact ⟨e, z, i, xd, sliceOf_some he, h1, g1, g2, h3, hc.2.2, hc.1, hc.2.1, h4, fun k hk => hn k hk⟩
    · cases h
  · cases h

/-- the head of an append's run -/
theorem run_append_head {P : Program} {st xt : TypeId} {size bytes : Nat} (ht : appType P st xt = some (size, bytes)) (ty : TypeId) (base : Option Addr) (sLen sCap n : Nat) (r : Value)
    (hlen : ∀ w, (Builtin.lenOf r).run P w = .ok n w) (hroom : ¬ sLen + n ≤ sCap → Builtin.nextslicecap (sLen + n) sCap * bytes ≤ 2 ^ 48) (w : World) :
    ∃ e i z, P.info? e = some i ∧ i.bytes = bytes ∧ (zeroValue e).run P w = .ok z w ∧ (∀ w', (zeroValue e).run P w' = .ok z w') ∧ z.cells.size = size ∧
    (Builtin.append_ #[st, xt] ty #[.slice base sLen sCap, r]).run P w =
      (if sLen + n ≤ sCap then (do
          let new ← Builtin.firstCells size n r
          if let some a := base then storeCells (a.add (sLen * size)) new.toList
          pure (.slice base (sLen + n) sCap) : Sem Value).run P w
        else (do
          let newCap ← choose (.appendCap (sLen + n) sCap e)
          askRoom (newCap * bytes)
          let old ← Builtin.firstCells size sLen (.slice base sLen sCap)
          let new ← Builtin.firstCells size n r
          let rest := Builtin.zeroCells z.cells (newCap - (sLen + n))
          pure (.slice (some (← newRow e (old ++ new ++ rest))) (sLen + n) newCap) : Sem Value).run P w) := by
  obtain ⟨e, zs, i, xd, h1, h2, h3, h4, h5, h6, h7, h8, h9, h10⟩ := appType_some ht
  obtain ⟨z, g1, g2, g3, g4⟩ := zcells_run h5 w
  have gz : ∀ w', (zeroValue e).run P w' = .ok z w' := by
    intro w'
    obtain ⟨z', k1, _, k3, _⟩ := zcells_run h5 w'
    rw [g3] at k3; cases k3; exact k1
  refine ⟨e, i, z, h3, h4, g1, gz, by rw [← h6, ← g2]; simp, ?_⟩
  have hti : ∀ w', (typeInfo e).run P w' = .ok i w' := fun w' => by simp [typeInfo, h3]
  have hu2 := run_und h9
  unfold Builtin.append_
  simp only [List.getElem?_toArray, List.getElem?_cons_zero, List.getElem?_cons_succ, Sem.run_bind, run_und h1, hu2, run_szOf h2, Result.andThen_ok, Sem.run_pure]
  have hxd : (match xd with | .int _ => true | _ => false) = false := by cases xd <;> first | rfl | exact absurd rfl (h10 _)
  cases xd <;> first
    | exact absurd rfl (h10 _)
    | (simp only [Bool.false_eq_true, if_false]
       simp only [Sem.run_bind, hlen, Result.andThen_ok, Bool.not_false, if_true]
       by_cases hc : sLen + n ≤ sCap
       · simp only [if_pos hc, Sem.run_bind]
         cases base <;> rfl
       · simp only [if_neg hc, Sem.run_bind, hti, Result.andThen_ok, h4]
         rw [if_neg (by rintro ⟨_, h | h⟩ <;> first | exact absurd h (by simp) | omega)]
         simp only [Sem.run_bind, hti, Result.andThen_ok, h4]
         rw [if_neg (Nat.not_lt.2 (hroom hc))]
         simp only [Sem.run_bind, gz, hti, Result.andThen_ok, h4, Sem.run_pure])

end Go.AB
