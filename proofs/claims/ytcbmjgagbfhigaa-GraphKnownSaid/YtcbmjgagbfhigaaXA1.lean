/-
  The abstract heap and how it stands to the model's memory: a machine for proofs that a call's answer hangs neither on the tape nor on block numbers.
-/
import Derived.WalkKit
namespace Go.AB
open Go
set_option linter.unusedSimpArgs false
set_option linter.unusedVariables false

/-- the real side of an abstract block: its block, where in it the abstract row begins, and for rows that grew by append the size of an element and of the row, in cells -/
structure Ent where
  blk : Nat
  sh : Nat
  esz : Nat
  rsz : Nat

abbrev Rho := Nat → Option Ent

/-- an abstract capacity that is not known -/
def ucap : Nat := 18446744073709551616
/-- that of an empty slice whose address is not known either -/
def ecap : Nat := 18446744073709551617
/-- a value of which nothing is known -/
def top : Value := .chan (some 0)

/-- an abstract value stands for a real one -/
inductive VR (ρ : Rho) : Value → Value → Prop
  | top (v : Value) : VR ρ (.chan (some 0)) v
  | bool (b : Bool) : VR ρ (.bool b) (.bool b)
  | int (k : IntKind) (n : Int) : VR ρ (.int k n) (.int k n)
  | string (s : ByteArray) : VR ρ (.string s) (.string s)
  | pnil : VR ρ (.pointer none) (.pointer none)
  | ptr (i o q : Nat) (e : Ent) (h : ρ i = some e) (hq : q = e.sh + o) : VR ρ (.pointer (some ⟨i, o, none⟩)) (.pointer (some ⟨e.blk, q, none⟩))
  | snil (n c : Nat) : VR ρ (.slice none n c) (.slice none n c)
  | slice (i o q n c : Nat) (e : Ent) (h : ρ i = some e) (hq : q = e.sh + o) (hc : c < ucap) : VR ρ (.slice (some ⟨i, o, none⟩) n c) (.slice (some ⟨e.blk, q, none⟩) n c)
  | sliceU (i o q n c : Nat) (e : Ent) (h : ρ i = some e) (hq : q = e.sh + o) (hs : o + c * e.esz = e.rsz) (hn : n ≤ c) (he : 0 < e.esz) :
      VR ρ (.slice (some ⟨i, o, none⟩) n ucap) (.slice (some ⟨e.blk, q, none⟩) n c)
  | sliceE (a a' : Addr) (c : Nat) : VR ρ (.slice (some a) 0 ecap) (.slice (some a') 0 c)
  | mnil : VR ρ (.map none) (.map none)
  | map (i : Nat) (e : Ent) (h : ρ i = some e) : VR ρ (.map (some i)) (.map (some e.blk))
  | nilFunc : VR ρ .nilFunc .nilFunc
  | func (fn : Fn) (f g f' g' : Array Value) (hf : f.size = f'.size) (hg : g.size = g'.size)
      (h1 : ∀ (i : Nat) v v', f[i]? = some v → f'[i]? = some v' → VR ρ v v') (h2 : ∀ (i : Nat) v v', g[i]? = some v → g'[i]? = some v' → VR ρ v v') :
      VR ρ (.func fn f g) (.func fn f' g')
  | nilIface : VR ρ .nilIface .nilIface
  | iface (t : TypeId) (v v' : Value) (h : VR ρ v v') : VR ρ (.iface t v) (.iface t v')
  | agg (c c' : Array Value) (hs : c.size = c'.size) (h : ∀ (i : Nat) v v', c[i]? = some v → c'[i]? = some v' → VR ρ v v') : VR ρ (.agg c) (.agg c')
  | tuple (c c' : Array Value) (hs : c.size = c'.size) (h : ∀ (i : Nat) v v', c[i]? = some v → c'[i]? = some v' → VR ρ v v') : VR ρ (.tuple c) (.tuple c')

/-- one map of blocks holds another one -/
def Sub (ρ ρ' : Rho) : Prop := ∀ i e, ρ i = some e → ρ' i = some e

theorem Sub.refl (ρ : Rho) : Sub ρ ρ := fun _ _ h => h
theorem Sub.trans {a b c : Rho} (h : Sub a b) (k : Sub b c) : Sub a c := fun i e x => k i e (h i e x)

theorem VR.mono {ρ ρ' : Rho} (hs : Sub ρ ρ') {a r : Value} (h : VR ρ a r) : VR ρ' a r := by
  induction h with
  | top v => exact .top v
  | bool b => exact .bool b
  | int k n => exact .int k n
  | string s => exact .string s
  | pnil => exact .pnil
  | ptr i o q e h hq => exact .ptr i o q e (hs _ _ h) hq
  | snil n c => exact .snil n c
  | slice i o q n c e h hq hc => exact .slice i o q n c e (hs _ _ h) hq hc
  | sliceU i o q n c e h hq h1 h2 h3 => exact .sliceU i o q n c e (hs _ _ h) hq h1 h2 h3
  | sliceE a a' c => exact .sliceE a a' c
  | mnil => exact .mnil
  | map i e h => exact .map i e (hs _ _ h)
  | nilFunc => exact .nilFunc
  | func fn f g f' g' hf hg _ _ h1 h2 => exact .func fn f g f' g' hf hg h1 h2
  | nilIface => exact .nilIface
  | iface t v v' _ h => exact .iface t v v' h
  | agg c c' hs' _ h => exact .agg c c' hs' h
  | tuple c c' hs' _ h => exact .tuple c c' hs' h

/-- the value of one cell, of which something is known -/
def scalar : Value → Bool
  | .bool _ | .int .. | .string _ | .pointer _ | .slice .. | .map _ | .func .. | .nilFunc | .nilIface | .iface .. => true
  | _ => false

/-- rows: of an argument (never written), of a fixed size, grown by append -/
inductive Kind where
  | ro | fix
  | grown (esz : Nat)
  deriving DecidableEq

/-- abstract blocks -/
inductive AObj where
  | row (cs : List Value) (k : Kind)
  | map (es : List MapEntry) (clock : Nat)
  | iter (m : Nat) (since : Nat) (seen : List Nat) (last : Nat)
  | siter (s : ByteArray) (pos : Nat)
  | dead

/-- the abstract heap -/
structure AHeap where
  n : Nat
  f : Nat → Option AObj

namespace AHeap
def push (A : AHeap) (o : AObj) : AHeap := ⟨A.n + 1, fun i => if i = A.n then some o else A.f i⟩
def set (A : AHeap) (i : Nat) (o : AObj) : AHeap := ⟨A.n, fun j => if j = i then some o else A.f j⟩
@[simp] theorem push_n (A : AHeap) (o : AObj) : (A.push o).n = A.n + 1 := rfl
@[simp] theorem set_n (A : AHeap) (i : Nat) (o : AObj) : (A.set i o).n = A.n := rfl
theorem push_f (A : AHeap) (o : AObj) (i : Nat) : (A.push o).f i = if i = A.n then some o else A.f i := rfl
theorem set_f (A : AHeap) (i j : Nat) (o : AObj) : (A.set i o).f j = if j = i then some o else A.f j := rfl
theorem push_new (A : AHeap) (o : AObj) : (A.push o).f A.n = some o := by simp [push_f]
theorem push_old (A : AHeap) (o : AObj) {i : Nat} (h : i < A.n) : (A.push o).f i = A.f i := by rw [push_f, if_neg (by omega)]
theorem set_same (A : AHeap) (i : Nat) (o : AObj) : (A.set i o).f i = some o := by simp [set_f]
theorem set_other (A : AHeap) {i j : Nat} (o : AObj) (h : j ≠ i) : (A.set i o).f j = A.f j := by rw [set_f, if_neg h]
end AHeap

/-- may it be written? -/
def writable (A : AHeap) (i : Nat) : Prop :=
  match A.f i with
  | some (.row _ .ro) | some .dead | none => False
  | _ => True

def live (A : AHeap) (i : Nat) : Prop := A.f i ≠ some .dead

/-- entries of a map: the same keys and stamps, values one by one -/
structure MapR (ρ : Rho) (es : List MapEntry) (ents : Array MapEntry) (clock : Nat) : Prop where
  size : ents.size = es.length
  each : ∀ (i : Nat) (a en : MapEntry), es[i]? = some a → ents[i]? = some en → en.key = a.key ∧ en.born = a.born ∧ VR ρ a.val en.val
  keys : ∀ (i j : Nat) (a b : MapEntry), es[i]? = some a → es[j]? = some b → a.key = b.key → i = j
  born : ∀ (i j : Nat) (a b : MapEntry), es[i]? = some a → es[j]? = some b → a.born = b.born → i = j
  clock : ∀ (i : Nat) (a : MapEntry), es[i]? = some a → a.born < clock
  self : ∀ (i : Nat) (a : MapEntry), es[i]? = some a → ∀ ρ', VR ρ' a.key a.key

/-- an abstract block stands for a real one -/
def OR (ρ : Rho) (H : Array Obj) (e : Ent) : AObj → Prop
  | .dead => True
  | .row cs k => ∃ c t fz, H[e.blk]? = some (.cells c t fz) ∧ (∀ (i : Nat) v, cs[i]? = some v → ∃ v', c[e.sh + i]? = some v' ∧ VR ρ v v') ∧ cs.all scalar = true ∧
      (match k with
        | .ro => True
        | .fix => fz = (0, 0) ∧ c.size = cs.length ∧ e.sh = 0
        | .grown n => fz = (0, 0) ∧ c.size = e.rsz ∧ e.sh = 0 ∧ e.esz = n)
  | .map es clock => ∃ ents, H[e.blk]? = some (.map ents clock) ∧ MapR ρ es ents clock
  | .iter m since seen last => ∃ em, ρ m = some em ∧ H[e.blk]? = some (.mapIter (some em.blk) since ⟨seen⟩ last) ∧ e.sh = 0
  | .siter s pos => H[e.blk]? = some (.stringIter s pos) ∧ e.sh = 0

/-- the abstract heap stands for the real one, as far as ρ goes -/
structure Rel (ρ : Rho) (A : AHeap) (w : World) : Prop where
  lt : ∀ i e, ρ i = some e → i < A.n
  obj : ∀ i e, ρ i = some e → ∃ o, A.f i = some o ∧ OR ρ w.heap e o
  bnd : ∀ i e, ρ i = some e → e.blk < w.heap.size
  inj : ∀ i j e e', ρ i = some e → ρ j = some e' → e.blk = e'.blk → writable A i → live A j → i = j

/-- which cells of a block are shared with a string -/
def fzOf : Option Obj → Nat × Nat
  | some (.cells _ _ fz) => fz
  | _ => (0, 0)
theorem frozen_fz (w : World) (a : Addr) : w.frozen? a = (decide ((fzOf w.heap[a.block]?).1 ≤ a.off) && decide (a.off < (fzOf w.heap[a.block]?).2)) := by
  unfold World.frozen?
  cases h : w.heap[a.block]? with
  | none => simp [fzOf]
  | some o =>
    cases o with
    | cells c t fz => obtain ⟨lo, hi⟩ := fz; rfl
    | _ => simp [fzOf]
theorem frozen_same {w w' : World} (h : ∀ B : Nat, fzOf w'.heap[B]? = fzOf w.heap[B]?) (a : Addr) : w'.frozen? a = w.frozen? a := by
  rw [frozen_fz, frozen_fz, h]
theorem frozen_push {w : World} {O : Obj} (h : fzOf (some O) = (0, 0)) (a : Addr) : World.frozen? { w with heap := w.heap.push O } a = w.frozen? a := by
  refine frozen_same (fun B => ?_) a
  show fzOf (w.heap.push O)[B]? = _
  rw [Array.getElem?_push]
  split
  · rename_i hB; subst hB; rw [h]; simp [fzOf]
  · rfl
theorem frozen_set {w : World} {O : Obj} {b : Nat} (h : fzOf (some O) = fzOf w.heap[b]?) (a : Addr) : World.frozen? { w with heap := w.heap.setIfInBounds b O } a = w.frozen? a := by
  refine frozen_same (fun B => ?_) a
  show fzOf (w.heap.setIfInBounds b O)[B]? = _
  rw [Array.getElem?_setIfInBounds]
  split
  · rename_i hB; subst hB
    split
    · exact h
    · rename_i hlt; rw [Array.getElem?_eq_none (by omega)]
  · rfl
theorem fz_writable {ρ : Rho} {A : AHeap} {w : World} (h : Rel ρ A w) {i : Nat} {e : Ent} (hi : ρ i = some e) (hw : writable A i) : fzOf w.heap[e.blk]? = (0, 0) := by
  obtain ⟨o, h1, h2⟩ := h.obj i e hi
  unfold writable at hw
  rw [h1] at hw
  cases o with
  | row cs k =>
    obtain ⟨c, t, fz, g1, _, _, g2⟩ := h2
    cases k with
    | ro => exact hw.elim
    | fix => rw [g1]; exact g2.1
    | grown n => rw [g1]; exact g2.1
  | map es c => obtain ⟨ents, g1, _⟩ := h2; rw [g1]; rfl
  | iter m s se l => obtain ⟨em, _, g1, _⟩ := h2; rw [g1]; rfl
  | siter s p => obtain ⟨g1, _⟩ := h2; rw [g1]; rfl
  | dead => exact hw.elim

/-- what a run may do -/
structure Step (ρ : Rho) (A : AHeap) (w : World) (ρ' : Rho) (A' : AHeap) (w' : World) : Prop where
  sub : Sub ρ ρ'
  rel : Rel ρ' A' w'
  os : w'.os = w.os
  tape : w'.tape = w.tape ∧ ∀ a, w'.frozen? a = w.frozen? a
  output : w'.output = w.output
  size : w.heap.size ≤ w'.heap.size
  frame : ∀ B, B < w.heap.size → (∀ i e, ρ i = some e → writable A i → e.blk ≠ B) → w'.heap[B]? = w.heap[B]?
  fresh : ∀ i e, ρ' i = some e → ρ i = none → w.heap.size ≤ e.blk ∨ ∃ j e', ρ j = some e' ∧ writable A j ∧ e'.blk = e.blk
  keep : ∀ i e, ρ i = some e → writable A' i → writable A i
  grow : A.n ≤ A'.n
  news : ∀ i e, ρ' i = some e → ρ i = none → A.n ≤ i

theorem Step.refl {ρ : Rho} {A : AHeap} {w : World} (h : Rel ρ A w) : Step ρ A w ρ A w :=
  ⟨Sub.refl _, h, rfl, ⟨rfl, fun _ => rfl⟩, rfl, Nat.le_refl _, fun _ _ _ => rfl, fun i e h1 h2 => by simp [h1] at h2, fun _ _ _ h => h, Nat.le_refl _, fun i e h1 h2 => by simp [h1] at h2⟩

theorem Step.trans {ρ ρ1 ρ2 : Rho} {A A1 A2 : AHeap} {w w1 w2 : World} (h : Step ρ A w ρ1 A1 w1) (k : Step ρ1 A1 w1 ρ2 A2 w2) :
    Step ρ A w ρ2 A2 w2 where
  sub := h.sub.trans k.sub
  rel := k.rel
  os := k.os.trans h.os
  tape := ⟨k.tape.1.trans h.tape.1, fun a => (k.tape.2 a).trans (h.tape.2 a)⟩
  output := k.output.trans h.output
  size := Nat.le_trans h.size k.size
  frame := fun B hB hn => by
    rw [k.frame B (Nat.lt_of_lt_of_le hB h.size) ?_, h.frame B hB hn]
    intro i e hi hw
    cases ho : ρ i with
    | some e0 =>
      have := h.sub _ _ ho
      rw [hi] at this; cases this
      exact hn i e ho (h.keep i e ho hw)
    | none =>
      rcases h.fresh i e hi ho with hf | ⟨j, e', hj, hwj, hb⟩
      · omega
      · rw [← hb]; exact hn j e' hj hwj
  fresh := fun i e hi ho => by
    cases h1 : ρ1 i with
    | some e1 =>
      have := k.sub _ _ h1
      rw [hi] at this; cases this
      exact h.fresh i e h1 ho
    | none =>
      rcases k.fresh i e hi h1 with hf | ⟨j, e', hj, hwj, hb⟩
      · exact .inl (Nat.le_trans h.size hf)
      · cases hoj : ρ j with
        | some e0 =>
          have := h.sub _ _ hoj
          rw [hj] at this; cases this
          exact .inr ⟨j, e', hoj, h.keep j e' hoj hwj, hb⟩
        | none =>
          rcases h.fresh j e' hj hoj with hf | ⟨j2, e2, hj2, hw2, hb2⟩
          · exact .inl (by omega)
          · exact .inr ⟨j2, e2, hj2, hw2, by omega⟩
  keep := fun i e hi hw => h.keep i e hi (k.keep i e (h.sub _ _ hi) hw)
  grow := Nat.le_trans h.grow k.grow
  news := fun i e hi ho => by
    cases h1 : ρ1 i with
    | some e1 => exact h.news i e1 h1 ho
    | none => exact Nat.le_trans h.grow (k.news i e hi h1)

/-- a draw leaves memory as it is -/
theorem Rel.drew {ρ : Rho} {A : AHeap} {w : World} (h : Rel ρ A w) (n : Nat) : Rel ρ A { w with drawn := n } :=
  ⟨h.lt, h.obj, h.bnd, h.inj⟩
theorem Step.drew {ρ : Rho} {A : AHeap} {w : World} (h : Rel ρ A w) (n : Nat) : Step ρ A w ρ A { w with drawn := n } :=
  ⟨Sub.refl _, h.drew n, rfl, ⟨rfl, fun _ => rfl⟩, rfl, Nat.le_refl _, fun _ _ _ => rfl, fun i e h1 h2 => by simp [h1] at h2, fun _ _ _ h => h, Nat.le_refl _, fun i e h1 h2 => by simp [h1] at h2⟩

end Go.AB
