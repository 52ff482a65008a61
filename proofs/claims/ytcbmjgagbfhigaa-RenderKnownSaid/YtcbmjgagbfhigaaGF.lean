/-
  Functions without a body; closed functions at any memory.
-/
import Derived.Test.YtcbmjgagbfhigaaGD
import Derived.RowKit3
import Derived.Test.YtcbmjgagbfhigaaGC
import Derived.Lib.Bytealg
namespace Go.AB
open Go
set_option linter.unusedSimpArgs false
set_option linter.unusedVariables false

theorem simW_extern {P : Program} {f : FuncId} {fn : Func} {e : Array Value → Sem Value} {args : List Value} {A : AHeap} {K : Value → AHeap → Prop} (hf : P.funcs[f]? = some fn)
    (hname : (fn.name == "runtime.NumGoroutine") = false) (hb : fn.body.isNone = true) (hn : Extern.findNext fn = none) (he : Extern.find fn = some e)
    (h : ∀ ρ w rargs, Rel ρ A w → VL ρ args rargs → ∃ r w', (e ⟨rargs⟩).run P w = .ok r w' ∧ Out ρ A w K r w') : SimW P f args A K := by
  intro ρ w rargs hr hv
  obtain ⟨r, w', h1, h2⟩ := h ρ w rargs hr hv
  have : (callFunc f ⟨rargs⟩).run P w = .ok (.value r) w' := by
    rw [run_callFunc_extern hf hname hb hn he]
    simp only [Sem.run_bind, h1, Result.andThen_ok, Sem.run_pure]
  rw [this]
  exact h2

/-- no memory at all -/
theorem rel_empty (w : World) : Rel (fun _ => none) CH.empty.abs w where
  lt := fun i e h => by cases h
  obj := fun i e h => by cases h
  bnd := fun i e h => by cases h
  inj := fun i j e e' h => by cases h

/-- a closed call that tells a value without blocks: at any memory -/
theorem SimW.anywhere {P : Program} {g : FuncId} {args : List Value} {A1 : AHeap} {v : Value} (ha : args.all noRef = true) (hv : noRef v = true)
    (h : SimW P g args CH.empty.abs (fun v' A' => v' = v ∧ A' = A1)) (A : AHeap) : SimW P g args A (fun v' A' => v' = v ∧ A' = A) := by
  intro ρ w rargs hr hra
  have hargs : VL (fun _ => none) args rargs := by
    refine ⟨hra.1, fun i v v' h1 h2 => noRef_VR ?_ (hra.2 i v v' h1 h2)⟩
    exact List.all_eq_true.1 ha v (List.mem_of_getElem? h1)
  refine (h (fun _ => none) w rargs (rel_empty w) hargs).mono ?_
  rintro r w' ⟨ρ', v', A', ⟨rfl, rfl⟩, h2, h3⟩
  have hframe : ∀ B, B < w.heap.size → w'.heap[B]? = w.heap[B]? := fun B hB => h3.frame B hB fun i e hi => by cases hi
  refine ⟨ρ, v', A, ⟨rfl, rfl⟩, noRef_VR hv h2, ⟨Sub.refl _, ⟨hr.lt, ?_, ?_, hr.inj⟩, h3.os, h3.tape, h3.output, h3.size, fun B hB _ => hframe B hB, ?_, fun i e _ h => h, Nat.le_refl _, ?_⟩⟩
  · intro i e hi
    obtain ⟨o, k1, k2⟩ := hr.obj i e hi
    refine ⟨o, k1, ?_⟩
    have hb := hframe e.blk (hr.bnd i e hi)
    cases o with
    | dead => trivial
    | row cs k => obtain ⟨c, t, fz, a1, a2⟩ := k2; exact ⟨c, t, fz, by rw [hb]; exact a1, a2⟩
    | map es clock => obtain ⟨ents, a1, a2⟩ := k2; exact ⟨ents, by rw [hb]; exact a1, a2⟩
    | iter m since seen last => obtain ⟨em, a1, a2, a3⟩ := k2; exact ⟨em, a1, by rw [hb]; exact a2, a3⟩
    | siter s pos => obtain ⟨a1, a2⟩ := k2; exact ⟨by rw [hb]; exact a1, a2⟩
  · intro i e hi; exact Nat.lt_of_lt_of_le (hr.bnd i e hi) h3.size
  · intro i e h1 h2; rw [h1] at h2; cases h2
  · intro i e h1 h2; rw [h1] at h2; cases h2

end Go.AB

/-
  bytes.Compare's own function.
-/
namespace Go.AB
open Go
set_option linter.unusedSimpArgs false
set_option linter.unusedVariables false

/-- the bytes that cells hold -/
def byteV : List Value → Option (List UInt8)
  | [] => some []
  | .int .u8 b :: l => (byteV l).map (b.toNat.toUInt8 :: ·)
  | _ :: _ => none

theorem run_loadBytes {P : Program} {ρ : Rho} {A : AHeap} {w : World} {i : Nat} {e : Ent} {cs : List Value} {k : Kind} (h : Rel ρ A w) (hi : ρ i = some e) (hf : A.f i = some (.row cs k)) :
    ∀ (l : List Value) (o : Nat) (bs : List UInt8) (acc : ByteArray), (∀ j v, l[j]? = some v → cs[o + j]? = some v) → byteV l = some bs →
    (Extern.Bytes.loadBytes ⟨e.blk, e.sh + o, none⟩ l.length acc).run P w = .ok ⟨acc.data ++ bs.toArray⟩ w
  | [], o, bs, acc, _, hb => by
    simp only [byteV, Option.some.injEq] at hb
    subst hb
    simp [Extern.Bytes.loadBytes]
  | v :: l, o, bs, acc, hc, hb => by
    unfold byteV at hb
    split at hb
    · cases ‹_ = []›
    · rename_i b l' heq
      cases heq
      obtain ⟨bs', hb', rfl⟩ := Option.map_eq_some_iff.1 hb
      obtain ⟨v', h1, h2⟩ := row_cell h hi hf (hc 0 (.int .u8 b) rfl)
      cases h2
      have ih := run_loadBytes (P := P) h hi hf l (o + 1) bs' (acc.push b.toNat.toUInt8) (fun j v hv => by
        have := hc (j + 1) v (by simpa using hv)
        rwa [show o + (j + 1) = o + 1 + j by omega] at this) hb'
      simp only [List.length_cons, Extern.Bytes.loadBytes, Sem.run_bind, run_load]
      rw [show e.sh + o = e.sh + (o + 0) by omega, h1]
      simp only [Result.andThen_ok, add_none]
      rw [show e.sh + (o + 0) + 1 = e.sh + (o + 1) by omega, ih]
      congr 2
      simp [ByteArray.push]
    · cases hb

/-- the bytes of a slice -/
def aBytes (A : AHeap) : Value → Option (List UInt8)
  | .slice (some ⟨b, o, none⟩) n c => if c = ecap then none else match A.f b with
    | some (.row cs _) => match getCells cs o n with
      | some l => byteV l
      | none => none
    | _ => none
  | _ => none

theorem aBytes_run {P : Program} {ρ : Rho} {A : AHeap} {w : World} {x r : Value} {bs : List UInt8} (h : Rel ρ A w) (hx : VR ρ x r) (hb : aBytes A x = some bs) :
    (Extern.Bytes.bytesOf r).run P w = .ok ⟨bs.toArray⟩ w := by
  unfold aBytes at hb
  split at hb
  · rename_i b o n c
    split at hb
    · cases hb
    · rename_i hc
      split at hb
      · rename_i cs k hf
        split at hb
        · rename_i l hl
          obtain ⟨e, c', he, rfl, _⟩ := hx.slice_inv hc
          obtain ⟨hn, hg⟩ := getCells_some hl
          subst hn
          have := run_loadBytes (P := P) h he hf l o bs .empty hg hb
          have h0 : ByteArray.empty.data ++ bs.toArray = bs.toArray := by
            show (#[] : Array UInt8) ++ bs.toArray = _
            simp
          rw [h0] at this
          exact this
        · cases hb
      · cases hb
  · cases hb

theorem compare_simW {P : Program} {f : FuncId} {fn : Func} (hf : P.funcs[f]? = some fn) (hname : (fn.name == "runtime.NumGoroutine") = false) (hb : fn.body.isNone = true) (hn : Extern.findNext fn = none)
    (he : Extern.find fn = some Extern.BytealgCompare.compare) {A : AHeap} {x y : Value} {a b : List UInt8} (hx : aBytes A x = some a) (hy : aBytes A y = some b) :
    SimW P f [x, y] A (fun v A' => v = goInt (Extern.BytealgCompare.cmp ⟨a.toArray⟩ ⟨b.toArray⟩) ∧ A' = A) := by
  refine simW_extern hf hname hb hn he fun ρ w rargs hr hv => ?_
  obtain ⟨r1, r2, rfl⟩ : ∃ r1 r2, rargs = [r1, r2] := by
    match rargs, hv with
    | [a, b], _ => exact ⟨a, b, rfl⟩
    | [], h => simp [VL] at h
    | [_], h => simp [VL] at h
    | _ :: _ :: _ :: _, h => simp [VL] at h
  have h1 : VR ρ x r1 := hv.2 0 _ _ rfl rfl
  have h2 : VR ρ y r2 := hv.2 1 _ _ rfl rfl
  refine ⟨goInt (Extern.BytealgCompare.cmp ⟨a.toArray⟩ ⟨b.toArray⟩), w, ?_, ρ, _, A, ⟨rfl, rfl⟩, .int _ _, Step.refl hr⟩
  show Sem.run P (do pure (goInt (Extern.BytealgCompare.cmp (← Extern.Bytes.bytesOf r1) (← Extern.Bytes.bytesOf r2)))) w = _
  simp only [Sem.run_bind, aBytes_run hr h1 hx, aBytes_run hr h2 hy, Result.andThen_ok, Sem.run_pure]

end Go.AB

/-
  What a contract says of the model's call; results that are new blocks.
-/
namespace Go.AB
open Go
set_option linter.unusedSimpArgs false
set_option linter.unusedVariables false

theorem SimW.calls {P : Program} {f : FuncId} {fn : Func} {c : Code} (hf : P.funcs[f]? = some fn) (hb : fn.body = some c) (hname : (fn.name == "runtime.NumGoroutine") = false) {args : List Value} {A : AHeap}
    {K : Value → AHeap → Prop} (h : SimW P f args A K) {ρ : Rho} {w : World} {rargs : List Value} (hr : Rel ρ A w) (hv : VL ρ args rargs) :
    Calls P f ⟨rargs⟩ w fun e w' => ∃ v, e = .returned v ∧ Out ρ A w K v w' := by
  have hcall : (callFunc f ⟨rargs⟩).run P w = .ok (.enter f ⟨rargs⟩) w := by
    unfold callFunc
    simp only [Sem.run_bind, run_program, Result.andThen_ok, hf, hname, Bool.false_eq_true, if_false, hb, Option.isNone_some, Sem.run_pure]
  have := h ρ w rargs hr hv
  rw [hcall] at this
  exact this

/-- no block that was there turns -/
theorem grown_of_step {ρ ρ' : Rho} {A A' : AHeap} {w w' : World} (h : Step ρ A w ρ' A' w') (hno : ∀ i e, ρ i = some e → ¬ writable A i) : Go.RowKit.Grown w w' := by
  refine ⟨⟨h.os, h.output, fun i hi => ?_⟩, h.tape.2, h.size⟩
  have := h.frame i hi (fun j e hj hw => absurd hw (hno j e hj))
  rw [this]
  cases w.heap[i]? with
  | none => rfl
  | some o => cases o with
    | cells c t fz => exact ⟨rfl, rfl, rfl, fun _ _ => rfl⟩
    | map es cl => exact .inr ⟨rfl, rfl⟩
    | _ => rfl

/-- a closed law -/
theorem closed_law {P : Program} {f : FuncId} {fn : Func} {c : Code} (hf : P.funcs[f]? = some fn) (hb : fn.body = some c) (hname : (fn.name == "runtime.NumGoroutine") = false) {K : Value → AHeap → Prop}
    (h : SimW P f [] CH.empty.abs K) (hK : ∀ v A, K v A → v = .bool true) (w : World) : Calls P f #[] w fun e w' => e = .returned (.bool true) ∧ Go.RowKit.Grown w w' := by
  refine (h.calls hf hb hname (rel_empty w) (rargs := []) .nil).mono ?_
  rintro e w' ⟨v, rfl, ρ', v', A', h1, h2, h3⟩
  have := hK _ _ h1
  subst this
  cases h2
  exact ⟨rfl, grown_of_step h3 fun i e hi => by cases hi⟩

theorem SimW.dropK {P : Program} {g : FuncId} {args : List Value} {A : AHeap} {K : Value → AHeap → Prop} {v : Value} (h : SimW P g args A K) (hK : ∀ v' A', K v' A' → v' = v ∧ Unch A A') (hv : noRef v = true) :
    SimW P g args A (fun v' A' => v' = v ∧ A' = A) := by
  intro ρ w rargs hr ha
  refine (h ρ w rargs hr ha).mono ?_
  rintro r w' ⟨ρ', v', A', hk, h2, h3⟩
  obtain ⟨rfl, hu⟩ := hK _ _ hk
  refine ⟨ρ, v', A, ⟨rfl, rfl⟩, noRef_VR hv h2, ⟨Sub.refl _, ⟨hr.lt, ?_, ?_, hr.inj⟩, h3.os, h3.tape, h3.output, h3.size, h3.frame, ?_, fun i e _ h => h, Nat.le_refl _, ?_⟩⟩
  · intro i e hi
    obtain ⟨o, k1, k2⟩ := hr.obj i e hi
    obtain ⟨o', l1, l2⟩ := h3.rel.obj i e (h3.sub i e hi)
    rw [hu i (hr.lt i e hi), k1] at l1
    cases l1
    exact ⟨o, k1, OR.restrict h3.sub k2 l2⟩
  · intro i e hi; exact h3.rel.bnd i e (h3.sub i e hi)
  · intro i e h1 h2; rw [h1] at h2; cases h2
  · intro i e h1 h2; rw [h1] at h2; cases h2

/-- the result is one new row of plain cells, that grew: all else that was made is gone -/
theorem SimW.fresh {P : Program} {g : FuncId} {args : List Value} {A : AHeap} {K : Value → AHeap → Prop} {n sz : Nat} {cs : List Value} (h : SimW P g args A K)
    (hK : ∀ v A', K v A' → Unch A A' ∧ ∃ b, v = .slice (some ⟨b, 0, none⟩) n ucap ∧ A.n ≤ b ∧ A'.f b = some (.row cs (.grown sz))) (hcs : cs.all plain1 = true) :
    SimW P g args A (fun v A' => v = .slice (some ⟨A.n, 0, none⟩) n ucap ∧ A' = A.push (.row cs (.grown sz))) := by
  intro ρ w rargs hr ha
  refine (h ρ w rargs hr ha).mono ?_
  rintro r w' ⟨ρ', v', A', hk, h2, h3⟩
  obtain ⟨hu, b, rfl, hb, hfb⟩ := hK _ _ hk
  have hrn := hr.none_n
  have hrb : ρ b = none := by
    cases hx : ρ b with
    | none => rfl
    | some e => have := hr.lt b e hx; omega
  obtain ⟨e, c', he, hreq, hsl⟩ : ∃ e c', ρ' b = some e ∧ r = .slice (some ⟨e.blk, e.sh + 0, none⟩) n c' ∧ (0 + c' * e.esz = e.rsz ∧ n ≤ c' ∧ 0 < e.esz) := by
    obtain ⟨e, c', g1, g2, _, g4, _⟩ := h2.slice_inv (by unfold ucap ecap; omega)
    exact ⟨e, c', g1, g2, g4 rfl⟩
  subst hreq
  have hsub : Sub ρ (ext ρ A.n e) := ext_sub _ hrn
  have hsub' := h3.sub
  obtain ⟨o, k1, k2⟩ := h3.rel.obj b e he
  rw [hfb] at k1
  cases k1
  obtain ⟨c, t, fz, g1, g2, g3, g4, g5, g6, g7⟩ := k2
  have hwb : writable A' b := by unfold writable; rw [hfb]; trivial
  have hlb : live A' b := by unfold live; rw [hfb]; simp
  refine ⟨ext ρ A.n e, _, _, ⟨rfl, rfl⟩, ?_, ⟨hsub, ⟨?_, ?_, ?_, ?_⟩, h3.os, h3.tape, h3.output, h3.size, h3.frame, ?_, ?_, Nat.le_succ _, ?_⟩⟩
  · exact .sliceU A.n 0 _ n c' e (ext_same _ _ _) rfl hsl.1 hsl.2.1 hsl.2.2
  · intro i ei hi
    unfold ext at hi
    split at hi
    · rename_i hin; subst hin; simp
    · have := hr.lt _ _ hi; simp; omega
  · intro i ei hi
    unfold ext at hi
    split at hi
    · rename_i hin; subst hin; cases hi
      refine ⟨_, AHeap.push_new _ _, c, t, fz, g1, fun j v hj => ?_, g3, g4, g5, g6, g7⟩
      obtain ⟨v', q1, q2⟩ := g2 j v hj
      exact ⟨v', q1, plain1_VR (List.all_eq_true.1 hcs v (List.mem_of_getElem? hj)) q2⟩
    · obtain ⟨o, q1, q2⟩ := hr.obj i ei hi
      obtain ⟨o', l1, l2⟩ := h3.rel.obj i ei (hsub' i ei hi)
      rw [hu i (hr.lt i ei hi), q1] at l1
      cases l1
      exact ⟨o, by rw [AHeap.push_old _ _ (hr.lt _ _ hi)]; exact q1, (OR.restrict hsub' q2 l2).mono hsub rfl⟩
  · intro i ei hi
    unfold ext at hi
    split at hi
    · cases hi; exact h3.rel.bnd b e he
    · exact h3.rel.bnd i ei (hsub' i ei hi)
  · intro i j ei ej hi hj hbl hw hl
    unfold ext at hi hj
    split at hi <;> split at hj
    · omega
    · rename_i hin hjn
      cases hi
      have hjlt := hr.lt _ _ hj
      have : live A' j := by unfold live at hl ⊢; rw [AHeap.push_old _ _ hjlt] at hl; rw [hu j hjlt]; exact hl
      have := h3.rel.inj b j e ej he (hsub' _ _ hj) hbl hwb this
      omega
    · rename_i hin hjn
      cases hj
      have hilt := hr.lt _ _ hi
      have : writable A' i := by unfold writable at hw ⊢; rw [AHeap.push_old _ _ hilt] at hw; rw [hu i hilt]; exact hw
      have := h3.rel.inj i b ei e (hsub' _ _ hi) he hbl this hlb
      omega
    · have hi' := hr.lt _ _ hi
      have hj' := hr.lt _ _ hj
      refine hr.inj i j ei ej hi hj hbl ?_ ?_
      · unfold writable at hw ⊢; rw [AHeap.push_old _ _ hi'] at hw; exact hw
      · unfold live at hl ⊢; rw [AHeap.push_old _ _ hj'] at hl; exact hl
  · intro i ei hi hnone
    unfold ext at hi
    split at hi
    · cases hi; exact h3.fresh b e he hrb
    · rw [hnone] at hi; cases hi
  · intro i ei hi hw
    have hi' := hr.lt _ _ hi
    unfold writable at hw ⊢; rw [AHeap.push_old _ _ hi'] at hw; exact hw
  · intro i ei hi hnone
    unfold ext at hi
    split at hi
    · omega
    · rw [hnone] at hi; cases hi

end Go.AB

/-
  Heaps in lists: what container/heap's up and down do, in plain Lean.
-/
namespace Go.AB
open Go
set_option linter.unusedSimpArgs false
set_option linter.unusedVariables false

/-- a linear order, by a test -/
structure LO {α : Type} (lt : α → α → Bool) : Prop where
  irr : ∀ a, lt a a = false
  trans : ∀ a b c, lt a b = true → lt b c = true → lt a c = true
  tri : ∀ a b, lt a b = false → lt b a = false → a = b

section
variable {α : Type} {lt : α → α → Bool}

theorem LO.asymm (L : LO lt) {a b : α} (h : lt a b = true) : lt b a = false := by
  cases hb : lt b a with
  | false => rfl
  | true => have := L.trans _ _ _ h hb; rw [L.irr] at this; cases this

/-- not behind: goes through -/
theorem LO.le_trans (L : LO lt) {a b c : α} (h : lt b a = false) (k : lt c b = false) : lt c a = false := by
  cases hc : lt c a with
  | false => rfl
  | true =>
    cases hab : lt a b with
    | true => rw [L.trans _ _ _ hc hab] at k; cases k
    | false => rw [L.tri _ _ hab h] at hc; rw [k] at hc; cases hc

/-- a list at a place -/
def at' (d : α) (l : List α) (i : Nat) : α := l.getD i d

def swapL (d : α) (l : List α) (i j : Nat) : List α := (l.set i (at' d l j)).set j (at' d l i)

theorem swapL_len (d : α) (l : List α) (i j : Nat) : (swapL d l i j).length = l.length := by simp [swapL]

theorem at_eq (d : α) {l : List α} {i : Nat} (h : i < l.length) : at' d l i = l[i] := by
  simp [at', List.getD_eq_getElem?_getD, h]

theorem swapL_at (d : α) {l : List α} {i j : Nat} (hi : i < l.length) (hj : j < l.length) (k : Nat) :
    at' d (swapL d l i j) k = if k = j then at' d l i else if k = i then at' d l j else at' d l k := by
  unfold swapL
  simp only [at', List.getD_eq_getElem?_getD, List.getElem?_set]
  by_cases h1 : k = j
  · subst h1; simp [hj]
  · rw [if_neg (fun h => h1 h.symm), if_neg h1]
    by_cases h2 : k = i
    · subst h2; simp [hi]
    · rw [if_neg (fun h => h2 h.symm), if_neg h2]

theorem swapL_perm (d : α) {l : List α} {i j : Nat} (hi : i < l.length) (hj : j < l.length) : (swapL d l i j).Perm l := by
  unfold swapL
  rw [at_eq d hi, at_eq d hj]
  exact List.set_set_perm hi hj

/-! ### up -/
def upL (lt : α → α → Bool) (d : α) : Nat → List α → Nat → List α
  | 0, l, _ => l
  | f + 1, l, j => if (j - 1) / 2 = j then l else if lt (at' d l j) (at' d l ((j - 1) / 2)) then upL lt d f (swapL d l ((j - 1) / 2) j) ((j - 1) / 2) else l

/-- the least n cells are a heap -/
def HeapL (lt : α → α → Bool) (d : α) (n : Nat) (l : List α) : Prop := ∀ k, 0 < k → k < n → lt (at' d l k) (at' d l ((k - 1) / 2)) = false

theorem upL_len (d : α) : ∀ (f : Nat) (l : List α) (j : Nat), (upL lt d f l j).length = l.length
  | 0, l, j => rfl
  | f + 1, l, j => by
    unfold upL
    split
    · rfl
    · split
      · rw [upL_len d f, swapL_len]
      · rfl

theorem upL_perm (d : α) : ∀ (f : Nat) (l : List α) (j : Nat), j < l.length → (upL lt d f l j).Perm l
  | 0, l, j, _ => List.Perm.refl _
  | f + 1, l, j, h => by
    unfold upL
    split
    · exact List.Perm.refl _
    · split
      · exact (upL_perm d f _ _ (by rw [swapL_len]; omega)).trans (swapL_perm d (by omega) h)
      · exact List.Perm.refl _

theorem upL_heap (L : LO lt) (d : α) : ∀ (f : Nat) (l : List α) (j : Nat), j < f → j < l.length →
    (∀ k, 0 < k → k < l.length → k ≠ j → lt (at' d l k) (at' d l ((k - 1) / 2)) = false) →
    (∀ k, 0 < k → k < l.length → (k - 1) / 2 = j → 0 < j → lt (at' d l k) (at' d l ((j - 1) / 2)) = false) →
    HeapL lt d l.length (upL lt d f l j)
  | 0, l, j, h, _, _, _ => by omega
  | f + 1, l, j, hf, hj, h1, h2 => by
    unfold upL
    split
    · rename_i h0
      have : j = 0 := by omega
      subst this
      intro k hk hkn
      exact h1 k hk hkn (by omega)
    · rename_i h0
      have hj0 : 0 < j := by omega
      split
      · rename_i hlt
        have hi : (j - 1) / 2 < l.length := by omega
        have hlen := swapL_len d l ((j - 1) / 2) j
        have hat := swapL_at d hi hj
        generalize hi' : (j - 1) / 2 = i at *
        have key := upL_heap L d f (swapL d l i j) i (by omega) (by rw [hlen]; exact hi) ?_ ?_
        · rw [hlen] at key; exact key
        · intro k hk hkn hki
          rw [hlen] at hkn
          rw [hat, hat]
          by_cases hkj : k = j
          · subst hkj
            rw [if_pos rfl, hi', if_neg (by omega), if_pos rfl]
            exact L.asymm hlt
          · rw [if_neg hkj, if_neg hki]
            by_cases hp : (k - 1) / 2 = j
            · rw [if_pos hp, ← hi']
              exact hi' ▸ h2 k hk hkn hp hj0
            · rw [if_neg hp]
              by_cases hpi : (k - 1) / 2 = i
              · rw [if_pos hpi]
                have hki' := h1 k hk hkn hkj
                rw [hpi] at hki'
                cases hc : lt (at' d l k) (at' d l j) with
                | false => rfl
                | true => rw [L.trans _ _ _ hc hlt] at hki'; cases hki'
              · rw [if_neg hpi]; exact h1 k hk hkn hkj
        · intro k hk hkn hpi hi0
          rw [hlen] at hkn
          rw [hat, hat]
          have hne : ((i - 1) / 2) ≠ i := by omega
          have hne2 : ((i - 1) / 2) ≠ j := by omega
          rw [if_neg hne2, if_neg hne]
          have hii := h1 i hi0 hi (by omega)
          by_cases hkj : k = j
          · rw [if_pos hkj]; exact hii
          · rw [if_neg hkj, if_neg (by omega)]
            have hki' := h1 k hk hkn hkj
            rw [hpi] at hki'
            exact L.le_trans hii hki'
      · rename_i hlt
        intro k hk hkn
        by_cases hkj : k = j
        · subst hkj; simpa using hlt
        · exact h1 k hk hkn hkj

/-! ### down -/
/-- the child to go to -/
def kid (lt : α → α → Bool) (d : α) (l : List α) (i n : Nat) : Nat :=
  if 2 * i + 2 < n ∧ lt (at' d l (2 * i + 2)) (at' d l (2 * i + 1)) = true then 2 * i + 2 else 2 * i + 1

def downL (lt : α → α → Bool) (d : α) (n : Nat) : Nat → List α → Nat → List α
  | 0, l, _ => l
  | f + 1, l, i => if n ≤ 2 * i + 1 then l else if lt (at' d l (kid lt d l i n)) (at' d l i) then downL lt d n f (swapL d l i (kid lt d l i n)) (kid lt d l i n) else l

theorem kid_or (d : α) (l : List α) (i n : Nat) : kid lt d l i n = 2 * i + 1 ∨ kid lt d l i n = 2 * i + 2 := by
  unfold kid; split <;> simp
theorem kid_lt (d : α) {l : List α} {i n : Nat} (h : 2 * i + 1 < n) : kid lt d l i n < n := by
  unfold kid; split
  · rename_i h2; exact h2.1
  · exact h

/-- the other child is not before it -/
theorem kid_least (L : LO lt) (d : α) {l : List α} {i n k : Nat} (hk : 0 < k) (hkn : k < n) (hp : (k - 1) / 2 = i) : lt (at' d l k) (at' d l (kid lt d l i n)) = false := by
  have : k = 2 * i + 1 ∨ k = 2 * i + 2 := by omega
  unfold kid
  split
  · rename_i h
    rcases this with rfl | rfl
    · exact L.asymm h.2
    · exact L.irr _
  · rename_i h
    rcases this with rfl | rfl
    · exact L.irr _
    · cases hc : lt (at' d l (2 * i + 2)) (at' d l (2 * i + 1)) with
      | false => rfl
      | true => exact (h ⟨hkn, hc⟩).elim

theorem downL_len (d : α) (n : Nat) : ∀ (f : Nat) (l : List α) (i : Nat), (downL lt d n f l i).length = l.length
  | 0, l, i => rfl
  | f + 1, l, i => by
    unfold downL
    split
    · rfl
    · split
      · rw [downL_len d n f, swapL_len]
      · rfl

theorem downL_perm (d : α) (n : Nat) : ∀ (f : Nat) (l : List α) (i : Nat), n ≤ l.length → (downL lt d n f l i).Perm l
  | 0, l, i, _ => List.Perm.refl _
  | f + 1, l, i, h => by
    unfold downL
    split
    · exact List.Perm.refl _
    · rename_i hn
      have hk := kid_lt (lt := lt) d (l := l) (i := i) (n := n) (by omega)
      split
      · exact (downL_perm d n f _ _ (by rw [swapL_len]; exact h)).trans (swapL_perm d (by omega) (by omega))
      · exact List.Perm.refl _

/-- cells from n on stay -/
theorem downL_rest (d : α) (n : Nat) : ∀ (f : Nat) (l : List α) (i k : Nat), n ≤ l.length → n ≤ k → at' d (downL lt d n f l i) k = at' d l k
  | 0, l, i, k, _, _ => rfl
  | f + 1, l, i, k, h, hk => by
    unfold downL
    split
    · rfl
    · rename_i hn
      have hkid := kid_lt (lt := lt) d (l := l) (i := i) (n := n) (by omega)
      split
      · rw [downL_rest d n f _ _ k (by rw [swapL_len]; exact h) hk, swapL_at d (by omega) (by omega), if_neg (by omega), if_neg (by omega)]
      · rfl

theorem downL_heap (L : LO lt) (d : α) (n : Nat) : ∀ (f : Nat) (l : List α) (i : Nat), n ≤ i + f → n ≤ l.length →
    (∀ k, 0 < k → k < n → (k - 1) / 2 ≠ i → lt (at' d l k) (at' d l ((k - 1) / 2)) = false) →
    (∀ k, 0 < k → k < n → (k - 1) / 2 = i → 0 < i → lt (at' d l k) (at' d l ((i - 1) / 2)) = false) →
    HeapL lt d n (downL lt d n f l i)
  | 0, l, i, hf, hl, h1, h2 => by
    intro k hk hkn
    exact h1 k hk hkn (by omega)
  | f + 1, l, i, hf, hl, h1, h2 => by
    unfold downL
    split
    · intro k hk hkn
      exact h1 k hk hkn (by omega)
    · rename_i hn
      have hkid := kid_lt (lt := lt) d (l := l) (i := i) (n := n) (by omega)
      have hor := kid_or (lt := lt) d l i n
      have hle := fun (k : Nat) (a : 0 < k) (b : k < n) (c : (k - 1) / 2 = i) => kid_least L d (l := l) a b c
      generalize kid lt d l i n = j at *
      split
      · rename_i hlt
        have hat := swapL_at d (l := l) (i := i) (j := j) (by omega) (by omega)
        have hlen := swapL_len d l i j
        refine downL_heap L d n f _ j (by omega) (by rw [hlen]; exact hl) ?_ ?_
        · intro k hk hkn hp
          rw [hat, hat]
          by_cases hkj : k = j
          · subst hkj
            have hpi : (k - 1) / 2 = i := by omega
            rw [if_pos rfl, hpi, if_neg (by omega), if_pos rfl]
            exact L.asymm hlt
          · rw [if_neg hkj, if_neg hp]
            by_cases hki : k = i
            · subst hki
              rw [if_pos rfl, if_neg (by omega)]
              exact h2 j (by omega) hkid (by omega) hk
            · rw [if_neg hki]
              by_cases hpi : (k - 1) / 2 = i
              · rw [if_pos hpi]; exact hle k hk hkn hpi
              · rw [if_neg hpi]; exact h1 k hk hkn hpi
        · intro k hk hkn hp hj0
          have hpj : (j - 1) / 2 = i := by omega
          rw [hat, hat, hpj, if_neg (by omega), if_neg (by omega), if_neg (by omega), if_pos rfl]
          have := h1 k hk hkn (by omega)
          rw [hp] at this
          exact this
      · rename_i hlt
        have hlt : lt (at' d l j) (at' d l i) = false := by simpa using hlt
        intro k hk hkn
        by_cases hpi : (k - 1) / 2 = i
        · rw [hpi]
          exact L.le_trans hlt (hle k hk hkn hpi)
        · exact h1 k hk hkn hpi

/-! ### Push and Pop -/
theorem HeapL.least (L : LO lt) {d : α} {n : Nat} {l : List α} (h : HeapL lt d n l) : ∀ k, k < n → lt (at' d l k) (at' d l 0) = false := by
  intro k
  induction k using Nat.strongRecOn with
  | _ k ih =>
    intro hk
    by_cases h0 : k = 0
    · subst h0; exact L.irr _
    · exact L.le_trans (ih ((k - 1) / 2) (by omega) (by omega)) (h k (by omega) hk)

def pushL (lt : α → α → Bool) (d : α) (l : List α) (x : α) : List α := upL lt d (l.length + 1) (l ++ [x]) l.length

theorem at_append_left (d : α) {l m : List α} {k : Nat} (h : k < l.length) : at' d (l ++ m) k = at' d l k := by
  simp [at', List.getD_eq_getElem?_getD, List.getElem?_append_left h]

theorem pushL_heap (L : LO lt) (d : α) {l : List α} (x : α) (h : HeapL lt d l.length l) : HeapL lt d (pushL lt d l x).length (pushL lt d l x) := by
  unfold pushL
  rw [upL_len]
  refine upL_heap L d _ _ _ (by omega) (by simp) ?_ ?_
  · intro k hk hkn hne
    simp at hkn
    rw [at_append_left d (by omega), at_append_left d (by omega)]
    exact h k hk (by omega)
  · intro k hk hkn hp h0
    simp at hkn
    omega

theorem pushL_perm (d : α) (l : List α) (x : α) : (pushL lt d l x).Perm (x :: l) := by
  unfold pushL
  refine (upL_perm d _ _ _ (by simp)).trans ?_
  exact (List.perm_append_comm (l₁ := l) (l₂ := [x]))

/-- the list behind Pop's down: the least at the end -/
def popL (lt : α → α → Bool) (d : α) (l : List α) : List α := downL lt d (l.length - 1) (l.length) (swapL d l 0 (l.length - 1)) 0

theorem popL_len (d : α) (l : List α) : (popL lt d l).length = l.length := by unfold popL; rw [downL_len, swapL_len]

theorem popL_last (d : α) {l : List α} (h : l ≠ []) : at' d (popL lt d l) (l.length - 1) = at' d l 0 := by
  have hl : 0 < l.length := List.length_pos_iff.2 h
  unfold popL
  rw [downL_rest d _ _ _ _ _ (by rw [swapL_len]; omega) (Nat.le_refl _), swapL_at d hl (by omega), if_pos rfl]

theorem popL_perm (d : α) {l : List α} (h : l ≠ []) : (popL lt d l).Perm l := by
  have hl : 0 < l.length := List.length_pos_iff.2 h
  unfold popL
  exact (downL_perm d _ _ _ _ (by rw [swapL_len]; omega)).trans (swapL_perm d hl (by omega))

theorem popL_heap (L : LO lt) (d : α) {l : List α} (h : l ≠ []) (hh : HeapL lt d l.length l) : HeapL lt d (l.length - 1) (popL lt d l) := by
  have hl : 0 < l.length := List.length_pos_iff.2 h
  unfold popL
  refine downL_heap L d _ _ _ _ (by omega) (by rw [swapL_len]; omega) ?_ (by omega)
  intro k hk hkn hp
  rw [swapL_at d hl (by omega), swapL_at d hl (by omega), if_neg (by omega), if_neg (by omega), if_neg (by omega), if_neg (by omega)]
  exact hh k hk (by omega)

theorem HeapL.take {d : α} {n : Nat} {l : List α} (h : HeapL lt d n l) (hn : n ≤ l.length) : HeapL lt d (l.take n).length (l.take n) := by
  intro k hk hkn
  rw [List.length_take] at hkn
  have : ∀ j, j < n → at' d (l.take n) j = at' d l j := fun j hj => by
    simp [at', List.getD_eq_getElem?_getD, List.getElem?_take, hj]
  rw [this k (by omega), this _ (by omega)]
  exact h k hk (by omega)

theorem popL_split (d : α) {l : List α} (h : l ≠ []) : popL lt d l = (popL lt d l).take (l.length - 1) ++ [at' d l 0] := by
  have hl : 0 < l.length := List.length_pos_iff.2 h
  have hlen := popL_len (lt := lt) d l
  rw [← popL_last (lt := lt) d h]
  conv => lhs; rw [← List.take_append_drop (l.length - 1) (popL lt d l)]
  congr 1
  rw [at_eq d (by omega)]
  apply List.ext_getElem
  · simp; omega
  · intro i h1 h2
    simp at h2
    subst h2
    simp

theorem LO.least_of (L : LO lt) {d : α} {l : List α} (h : HeapL lt d l.length l) : ∀ x ∈ l, lt x (at' d l 0) = false := by
  intro x hx
  obtain ⟨i, hi, rfl⟩ := List.getElem_of_mem hx
  have := h.least L i hi
  rwa [at_eq d hi] at this
end

/-! ### the order of lists of numbers -/
def ilt (a b : Int) : Bool := match a, b with
  | .ofNat m, .ofNat n => Nat.blt m n
  | .ofNat _, .negSucc _ => false
  | .negSucc _, .ofNat _ => true
  | .negSucc m, .negSucc n => Nat.blt n m

theorem ilt_eq (a b : Int) : ilt a b = decide (a < b) := by
  have h : ∀ m n : Nat, Nat.blt m n = decide (m < n) := by
    intro m n
    by_cases hx : m < n
    · rw [blt_true hx]; simp [hx]
    · cases hb : Nat.blt m n with
      | false => simp [hx]
      | true => exact absurd (blt_of hb) hx
  cases a <;> cases b <;> simp only [ilt, h]
  · rename_i a b; congr 1; simp
  · symm; simp; omega
  · symm; simp; omega
  · rename_i a b; congr 1; simp; omega

def llt : List Int → List Int → Bool
  | a :: x, b :: y => match ilt a b with
    | true => true
    | false => match ilt b a with
      | true => false
      | false => llt x y
  | [], _ :: _ => true
  | _, [] => false

theorem llt_cons (a b : Int) (x y : List Int) : llt (a :: x) (b :: y) = if a < b then true else if b < a then false else llt x y := by
  simp only [llt, ilt_eq]
  by_cases h : a < b
  · simp [h]
  · by_cases h2 : b < a <;> simp [h, h2]

theorem llt_lo : LO llt where
  irr := fun a => by
    induction a with
    | nil => rfl
    | cons a x ih => rw [llt_cons]; simp [ih]
  trans := fun a => by
    induction a with
    | nil =>
      intro b c h k
      cases c with
      | nil => cases b <;> simp [llt] at h k
      | cons c z => rfl
    | cons a x ih =>
      intro b c h k
      cases b with
      | nil => simp [llt] at h
      | cons b y =>
        cases c with
        | nil => simp [llt] at k
        | cons c z =>
          rw [llt_cons] at h k ⊢
          by_cases h1 : a < b
          · by_cases k1 : b < c
            · rw [if_pos (by omega)]
            · rw [if_neg k1] at k
              by_cases k2 : c < b
              · rw [if_pos k2] at k; cases k
              · rw [if_pos (by omega)]
          · rw [if_neg h1] at h
            by_cases h2 : b < a
            · rw [if_pos h2] at h; cases h
            · rw [if_neg h2] at h
              have : a = b := by omega
              subst this
              by_cases k1 : a < c
              · rw [if_pos k1]
              · rw [if_neg k1] at k ⊢
                by_cases k2 : c < a
                · rw [if_pos k2] at k; cases k
                · rw [if_neg k2] at k ⊢
                  exact ih _ _ h k
  tri := fun a => by
    induction a with
    | nil =>
      intro b h k
      cases b with
      | nil => rfl
      | cons b y => simp [llt] at h
    | cons a x ih =>
      intro b h k
      cases b with
      | nil => simp [llt] at k
      | cons b y =>
        rw [llt_cons] at h k
        by_cases h1 : a < b
        · rw [if_pos h1] at h; cases h
        · rw [if_neg h1] at h
          by_cases h2 : b < a
          · rw [if_pos h2] at k; cases k
          · rw [if_neg h2, if_neg h1] at k
            rw [if_neg h2] at h
            rw [ih y h k, show a = b by omega]

end Go.AB

/-
  Vertices as lists of numbers; rows of equal parts.
-/
namespace Go.AB
open Go
set_option linter.unusedSimpArgs false
set_option linter.unusedVariables false

/-! ### rows of equal parts -/
theorem flat_len {s : Nat} : ∀ {ls : List (List Value)}, (∀ x ∈ ls, x.length = s) → ls.flatten.length = ls.length * s
  | [], _ => by simp
  | x :: ls, h => by
    rw [List.flatten_cons, List.length_append, flat_len (fun y hy => h y (List.mem_cons_of_mem _ hy)), h x (List.mem_cons_self ..), List.length_cons, Nat.succ_mul]
    omega

theorem flat_split {s : Nat} {ls : List (List Value)} (h : ∀ x ∈ ls, x.length = s) {i : Nat} (hi : i < ls.length) :
    ls.flatten = (ls.take i).flatten ++ (ls[i] ++ (ls.drop (i + 1)).flatten) ∧ (ls.take i).flatten.length = i * s ∧ ls[i].length = s := by
  refine ⟨?_, ?_, h _ (List.getElem_mem hi)⟩
  · conv => lhs; rw [← List.take_append_drop i ls, List.drop_eq_getElem_cons hi]
    rw [List.flatten_append, List.flatten_cons]
  · rw [flat_len (s := s) (fun x hx => h x (List.mem_of_mem_take hx)), List.length_take, Nat.min_eq_left (Nat.le_of_lt hi)]

theorem flat_get {s : Nat} {ls : List (List Value)} (h : ∀ x ∈ ls, x.length = s) {i : Nat} (hi : i < ls.length) : getCells ls.flatten (i * s) s = some ls[i] := by
  obtain ⟨h1, h2, h3⟩ := flat_split h hi
  have hle : i * s + s ≤ ls.flatten.length := by
    rw [flat_len h]
    have := Nat.mul_le_mul_right s (show i + 1 ≤ ls.length from hi)
    rw [Nat.succ_mul] at this
    exact this
  unfold getCells
  rw [if_pos hle, h1, ← h2, List.drop_left, ← h3, List.take_left]

theorem flat_put {s : Nat} {ls : List (List Value)} (h : ∀ x ∈ ls, x.length = s) {i : Nat} (hi : i < ls.length) {y : List Value} (hy : y.length = s) :
    putCells ls.flatten (i * s) y = some (ls.set i y).flatten := by
  obtain ⟨h1, h2, h3⟩ := flat_split h hi
  have hle : i * s + s ≤ ls.flatten.length := by
    rw [flat_len h]
    have := Nat.mul_le_mul_right s (show i + 1 ≤ ls.length from hi)
    rw [Nat.succ_mul] at this
    exact this
  unfold putCells
  rw [hy, if_pos hle]
  congr 1
  have e1 : ls.flatten.take (i * s) = (ls.take i).flatten := by rw [h1, ← h2, List.take_left]
  have e2 : ls.flatten.drop (i * s + s) = (ls.drop (i + 1)).flatten := by
    rw [h1, ← List.append_assoc]
    have : ((ls.take i).flatten ++ ls[i]).length = i * s + s := by rw [List.length_append, h2, h3]
    rw [← this, List.drop_left]
  rw [e1, e2, List.set_eq_take_append_cons_drop, if_pos hi, List.flatten_append, List.flatten_cons, List.append_assoc]

theorem flat_take {s : Nat} {ls : List (List Value)} (h : ∀ x ∈ ls, x.length = s) (n : Nat) (hn : n ≤ ls.length) : getCells ls.flatten 0 (n * s) = some (ls.take n).flatten := by
  have hle : 0 + n * s ≤ ls.flatten.length := by
    rw [flat_len h, Nat.zero_add]
    exact Nat.mul_le_mul_right s hn
  have h1 : (ls.take n).flatten.length = n * s := by
    rw [flat_len (s := s) (fun x hx => h x (List.mem_of_mem_take hx)), List.length_take, Nat.min_eq_left hn]
  unfold getCells
  rw [if_pos hle, List.drop_zero]
  congr 1
  conv => lhs; rw [← List.take_append_drop n ls, List.flatten_append]
  rw [← h1, List.take_left]

/-! ### vertices -/
def vcells (v : List Int) : List Value := (v.take 32).map (Value.int .u8 ·) ++ (v.drop 32).map (Value.int .i64 ·)
def vagg (v : List Int) : Value := .agg ⟨vcells v⟩
def vok (v : List Int) : Bool := Nat.beq v.length 33 && (v.take 32).all (qint .u8) && (v.drop 32).all (qint .i64)
def vrows (l : List (List Int)) : List Value := (l.map vcells).flatten

theorem vok_len {v : List Int} (h : vok v = true) : v.length = 33 := by
  unfold vok at h
  simp only [Bool.and_eq_true] at h
  exact Nat.eq_of_beq_eq_true h.1.1
theorem vcells_len' (v : List Int) : (vcells v).length = v.length := by
  unfold vcells
  rw [List.length_append, List.length_map, List.length_map, ← List.length_append, List.take_append_drop]
theorem vcells_len {v : List Int} (h : vok v = true) : (vcells v).length = 33 := by rw [vcells_len', vok_len h]

theorem ints_inj {k : IntKind} {a b : List Int} (h : a.map (Value.int k ·) = b.map (Value.int k ·)) : a = b := by
  induction a generalizing b with
  | nil => cases b <;> simp_all
  | cons x a ih =>
    cases b with
    | nil => simp at h
    | cons y b => simp at h; rw [h.1, ih (by simpa using h.2)]

theorem vcells_inj {a b : List Int} (ha : a.length = 33) (hb : b.length = 33) (h : vcells a = vcells b) : a = b := by
  unfold vcells at h
  have hl : ((a.take 32).map (Value.int .u8 ·)).length = ((b.take 32).map (Value.int .u8 ·)).length := by simp [ha, hb]
  obtain ⟨h1, h2⟩ := List.append_inj h hl
  rw [← List.take_append_drop 32 a, ← List.take_append_drop 32 b, ints_inj h1, ints_inj h2]

theorem ints_scalar {k : IntKind} (l : List Int) : (l.map (Value.int k ·)).all scalar = true := by
  rw [List.all_map]; rw [List.all_eq_true]; intro x _; rfl
theorem vcells_scalar (v : List Int) : (vcells v).all scalar = true := by
  unfold vcells; rw [List.all_append, ints_scalar, ints_scalar]; rfl
theorem ints_plain {k : IntKind} (l : List Int) : (l.map (Value.int k ·)).all plain1 = true := by
  rw [List.all_map]; rw [List.all_eq_true]; intro x _; rfl
theorem vcells_plain (v : List Int) : (vcells v).all plain1 = true := by
  unfold vcells; rw [List.all_append, ints_plain, ints_plain]; rfl
theorem vagg_noRef (v : List Int) : noRef (vagg v) = true := vcells_plain v

theorem acells_vagg (v : List Int) : acells (vagg v) = some (vcells v) := by
  show (if (vcells v).all scalar then some (vcells v) else none) = _
  rw [vcells_scalar]; rfl

theorem vagg_fold (v : List Int) : Value.agg ⟨vcells v⟩ = vagg v := rfl
theorem acells_vc (v : List Int) : acells (.agg ⟨vcells v⟩) = some (vcells v) := acells_vagg v

def vlay : List Cty := List.replicate 32 (.int .u8) ++ [.int .i64]

theorem qfitL_cons (c : Cty) (l : List Cty) (v : Value) (vs : List Value) : qfitL (c :: l) (v :: vs) = match qfit1 c v with | true => qfitL l vs | false => false := rfl

theorem qfit_ints {k : IntKind} {rest : List Cty} {more : List Value} : ∀ (n : Nat) (l : List Int), l.length = n → l.all (qint k) = true →
    qfitL (List.replicate n (.int k) ++ rest) (l.map (Value.int k ·) ++ more) = qfitL rest more
  | 0, [], _, _ => rfl
  | n + 1, a :: l, h, ha => by
    simp only [List.all_cons, Bool.and_eq_true] at ha
    rw [List.replicate_succ, List.cons_append, List.map_cons, List.cons_append]
    rw [qfitL_cons]
    have : qfit1 (.int k) (.int k a) = true := by
      unfold qfit1; simp only [kn_self]; exact ha.1
    rw [this]
    exact qfit_ints n l (by simpa using h) ha.2
  | 0, _ :: _, h, _ => by simp at h
  | n + 1, [], h, _ => by simp at h

theorem vok_fit {v : List Int} (h : vok v = true) : qfitV vlay (vagg v) = true := by
  have hl := vok_len h
  unfold vok at h
  simp only [Bool.and_eq_true] at h
  show qfitL vlay (vcells v) = true
  unfold vlay vcells
  rw [qfit_ints 32 (v.take 32) (by simp [hl]) h.1.2]
  have h1 : (v.drop 32).length = 1 := by simp [hl]
  match hd : v.drop 32, h1 with
  | [x], _ =>
    rw [hd] at h
    have := h.2
    simp only [List.all_cons, List.all_nil, Bool.and_true] at this
    simp only [List.map_cons, List.map_nil, qfitL, qfit1, kn_self, this]

theorem vok_key {P : Program} {t : TypeId} (hl : layQ P t = some vlay) {v : List Int} (h : vok v = true) : keyOk P t (vagg v) = true := layQ_key hl (vok_fit h)

theorem veqL_ints {k : IntKind} : ∀ (a b : List Int), veqL (a.map (Value.int k ·)) (b.map (Value.int k ·)) = decide (a = b)
  | [], [] => rfl
  | [], _ :: _ => rfl
  | _ :: _, [] => rfl
  | x :: a, y :: b => by
    simp only [List.map_cons, veqL, veq1, veqL_ints a b]
    by_cases h1 : x = y
    · subst h1; simp
    · simp [h1]

theorem veq_vagg {a b : List Int} (ha : vok a = true) (hb : vok b = true) : veq (vagg a) (vagg b) = decide (a = b) := by
  show veqL (vcells a) (vcells b) = _
  have hs : veqL (vcells a) (vcells a) = true := fitL_veq (qfitL_ok (vok_fit ha))
  by_cases h : a = b
  · subst h; simp [hs]
  · simp only [h, decide_false]
    cases hv : veqL (vcells a) (vcells b) with
    | false => rfl
    | true => exact absurd (vcells_inj (vok_len ha) (vok_len hb) (veqL_eq hv)) h

theorem vrows_all {l : List (List Int)} (h : ∀ v ∈ l, vok v = true) : ∀ x ∈ l.map vcells, x.length = 33 := by
  intro x hx
  obtain ⟨v, hv, rfl⟩ := List.mem_map.1 hx
  exact vcells_len (h v hv)

theorem vrows_get {l : List (List Int)} (h : ∀ v ∈ l, vok v = true) {i : Nat} (hi : i < l.length) : getCells (vrows l) (i * 33) 33 = some (vcells (at' [] l i)) := by
  have := flat_get (vrows_all h) (i := i) (by simpa using hi)
  unfold vrows
  rw [this, at_eq [] hi]
  simp

theorem vrows_put {l : List (List Int)} (h : ∀ v ∈ l, vok v = true) {i : Nat} (hi : i < l.length) {v : List Int} (hv : vok v = true) : putCells (vrows l) (i * 33) (vcells v) = some (vrows (l.set i v)) := by
  have := flat_put (vrows_all h) (i := i) (by simpa using hi) (vcells_len hv)
  unfold vrows
  rw [this, List.map_set]

theorem vrows_len {l : List (List Int)} (h : ∀ v ∈ l, vok v = true) : (vrows l).length = l.length * 33 := by
  unfold vrows; rw [flat_len (vrows_all h), List.length_map]

theorem vrows_append (l m : List (List Int)) : vrows (l ++ m) = vrows l ++ vrows m := by
  unfold vrows; rw [List.map_append, List.flatten_append]

theorem vrows_one (v : List Int) : vrows [v] = vcells v := by simp [vrows]

/-! ### their order -/
def ub (x : Int) : UInt8 := x.toNat.toUInt8

theorem byteV_ints : ∀ l : List Int, byteV (l.map (Value.int .u8 ·)) = some (l.map ub)
  | [] => rfl
  | a :: l => by simp only [List.map_cons, byteV, byteV_ints l, Option.map_some]; rfl

theorem qint_u8 {x : Int} (h : qint .u8 x = true) : 0 ≤ x ∧ x < 256 := by
  unfold qint at h
  split at h
  · rename_i m
    have h1 : m ≤ (IntKind.max .u8).toNat := Nat.le_of_ble_eq_true h
    have h2 : (IntKind.max .u8).toNat = 255 := by decide
    refine ⟨Int.natCast_nonneg m, ?_⟩
    show (m : Int) < 256
    omega
  · rename_i m
    have h1 : m + 1 ≤ (-(IntKind.min .u8)).toNat := Nat.le_of_ble_eq_true h
    have h2 : (-(IntKind.min .u8)).toNat = 0 := by decide
    omega

theorem ub_lt {x y : Int} (hx : 0 ≤ x ∧ x < 256) (hy : 0 ≤ y ∧ y < 256) : ub x < ub y ↔ x < y := by
  rw [UInt8.lt_iff_toNat_lt]
  unfold ub
  rw [Nat.toUInt8_eq, Nat.toUInt8_eq, UInt8.toNat_ofNat', UInt8.toNat_ofNat', Nat.mod_eq_of_lt (by omega), Nat.mod_eq_of_lt (by omega)]
  omega

theorem cmp_ints : ∀ (a b : List Int), a.length = b.length → a.all (qint .u8) = true → b.all (qint .u8) = true →
    Lib.compareBytes (a.map ub) (b.map ub) = if llt a b = true then -1 else if llt b a = true then 1 else 0
  | [], [], _, _, _ => rfl
  | [], _ :: _, h, _, _ => by simp at h
  | _ :: _, [], h, _, _ => by simp at h
  | x :: a, y :: b, h, ha, hb => by
    simp only [List.all_cons, Bool.and_eq_true] at ha hb
    have ih := cmp_ints a b (by simpa using h) ha.2 hb.2
    have h1 := ub_lt (qint_u8 ha.1) (qint_u8 hb.1)
    have h2 := ub_lt (qint_u8 hb.1) (qint_u8 ha.1)
    simp only [List.map_cons, Lib.compareBytes, ih, llt_cons, h1, h2]
    by_cases h3 : x < y
    · simp [h3]
    · by_cases h4 : y < x
      · simp [h3, h4]
      · simp [h3, h4]

theorem llt_append : ∀ (a b x y : List Int), a.length = b.length → llt (a ++ x) (b ++ y) = if llt a b = true then true else if llt b a = true then false else llt x y
  | [], [], x, y, _ => rfl
  | [], _ :: _, _, _, h => by simp at h
  | _ :: _, [], _, _, h => by simp at h
  | p :: a, q :: b, x, y, h => by
    rw [List.cons_append, List.cons_append, llt_cons, llt_cons, llt_cons, llt_append a b x y (by simpa using h)]
    by_cases h3 : p < q
    · simp [h3]
    · by_cases h4 : q < p <;> simp [h3, h4]

/-- the order's number -/
def ordI (a b : List Int) : Int := if llt a b = true then -1 else if llt b a = true then 1 else 0

theorem ordI_neg (a b : List Int) : decide (ordI a b < 0) = llt a b := by
  unfold ordI
  cases llt a b with
  | true => rfl
  | false => cases llt b a <;> rfl

def vn (v : List Int) : Int := v.getD 32 0

theorem drop32 {v : List Int} (h : vok v = true) : v.drop 32 = [vn v] := by
  have hl := vok_len h
  have h1 : (v.drop 32).length = 1 := by simp [hl]
  match hd : v.drop 32, h1 with
  | [x], _ =>
    have : v.getD 32 0 = x := by
      have h2 : (v.drop 32)[0]? = some x := by rw [hd]; rfl
      rw [List.getElem?_drop] at h2
      rw [List.getD_eq_getElem?_getD, h2]; rfl
    unfold vn; rw [this]

/-- bytes first, then the number -/
theorem ordI_eq {a b : List Int} (ha : vok a = true) (hb : vok b = true) :
    ordI a b = if Lib.compareBytes ((a.take 32).map ub) ((b.take 32).map ub) ≠ 0 then Lib.compareBytes ((a.take 32).map ub) ((b.take 32).map ub)
      else if vn a < vn b then -1 else if vn b < vn a then 1 else 0 := by
  have la := vok_len ha
  have lb := vok_len hb
  have da := drop32 ha
  have db := drop32 hb
  unfold vok at ha hb
  simp only [Bool.and_eq_true] at ha hb
  rw [cmp_ints _ _ (by simp [la, lb]) ha.1.2 hb.1.2]
  have e1 : llt a b = llt (a.take 32 ++ [vn a]) (b.take 32 ++ [vn b]) := by rw [← da, ← db, List.take_append_drop, List.take_append_drop]
  have e2 : llt b a = llt (b.take 32 ++ [vn b]) (a.take 32 ++ [vn a]) := by rw [← da, ← db, List.take_append_drop, List.take_append_drop]
  unfold ordI
  rw [e1, e2, llt_append _ _ _ _ (by simp [la, lb]), llt_append _ _ _ _ (by simp [la, lb]), llt_cons, llt_cons]
  cases h1 : llt (a.take 32) (b.take 32) with
  | true => simp
  | false =>
    cases h2 : llt (b.take 32) (a.take 32) with
    | true => simp
    | false =>
      simp only [Bool.false_eq_true, if_false, ne_eq, not_true, llt]
      by_cases h3 : vn a < vn b
      · simp [h3]
      · by_cases h4 : vn b < vn a <;> simp [h3, h4]

attribute [go_sem] vagg_fold acells_vagg
end Go.AB

/-
  Slices that grow: what they hold, one element appended.
-/
namespace Go.AB
open Go
set_option linter.unusedSimpArgs false
set_option linter.unusedVariables false

/-- the block of a slice -/
def own : Value → Option Nat
  | .slice (some a) _ _ => some a.block
  | _ => none

/-- a slice of one's own: nil, empty, or grown by append; 'junk' is what lies behind it -/
inductive Held (A : AHeap) (sz : Nat) : Value → List (List Value) → List (List Value) → Prop
  | nil : Held A sz (.slice none 0 0) [] []
  | zero (b : Nat) (cs : List Value) (k : Kind) (hb : b < A.n) (h : A.f b = some (.row cs k)) : Held A sz (.slice (some ⟨b, 0, none⟩) 0 0) [] []
  | grown (b : Nat) (ls junk : List (List Value)) (hb : b < A.n) (h : A.f b = some (.row (ls ++ junk).flatten (.grown sz))) (hall : ∀ x ∈ ls ++ junk, x.length = sz) :
      Held A sz (.slice (some ⟨b, 0, none⟩) ls.length ucap) ls junk

theorem Held.mono {A A' : AHeap} {sz : Nat} {s : Value} {ls junk : List (List Value)} (h : Held A sz s ls junk) (hn : A.n ≤ A'.n) (hf : ∀ b, own s = some b → A'.f b = A.f b) : Held A' sz s ls junk := by
  cases h with
  | nil => exact .nil
  | zero b cs k hb h => exact .zero b cs k (Nat.lt_of_lt_of_le hb hn) (by rw [hf b rfl]; exact h)
  | grown b ls junk hb h hall => exact .grown b ls junk (Nat.lt_of_lt_of_le hb hn) (by rw [hf b rfl]; exact h) hall

theorem Held.own_lt {A : AHeap} {sz : Nat} {s : Value} {ls junk : List (List Value)} (h : Held A sz s ls junk) {b : Nat} (hb : own s = some b) : b < A.n := by
  cases h with
  | nil => cases hb
  | zero b' cs k hb' h => cases hb; exact hb'
  | grown b' ls junk hb' h hall => cases hb; exact hb'

/-- what append does to a slice of one's own -/
structure Grew (A A' : AHeap) (s s' : Value) : Prop where
  n : A.n ≤ A'.n
  own : own s' = own s ∨ ∃ b, own s' = some b ∧ A.n ≤ b
  is : ∃ b, AB.own s' = some b
  frame : ∀ i, i < A.n → AB.own s ≠ some i → A'.f i = A.f i

theorem append1 {P : Program} {A : AHeap} {st xt : TypeId} {s x : Value} {sz bytes : Nat} {ls junk : List (List Value)} {y : List Value} (ht : appType P st xt = some (sz, bytes)) (hx : appCells A sz x = some (1, y))
    (hy : y.length = sz) (hsz : 0 < sz) (h : Held A sz s ls junk) (hbig : (ls.length + 1) * bytes ≤ room) :
    ∃ s' A', aappend P A st xt s x = some (s', A') ∧ Held A' sz s' (ls ++ [y]) (junk.drop 1) ∧ Grew A A' s s' := by
  unfold aappend
  simp only [ht, hx]
  have huc : ¬ ucap < ucap := Nat.lt_irrefl _
  cases h with
  | nil =>
    simp only [List.length_nil] at hbig
    simp only [if_neg Nat.one_ne_zero, show 1 * bytes ≤ room from by simpa using hbig, if_true]
    refine ⟨_, _, rfl, ?_, ⟨Nat.le_succ _, .inr ⟨A.n, rfl, Nat.le_refl _⟩, ⟨_, rfl⟩, fun i hi _ => AHeap.push_old _ _ hi⟩⟩
    exact .grown (A := A.push (.row y (.grown sz))) A.n [y] [] (Nat.lt_succ_self _) (by rw [AHeap.push_new]; simp) (by simp [hy])
  | zero b cs k hb h =>
    simp only [List.length_nil] at hbig
    simp only [show (0 : Nat) < ucap from by decide, if_true, show ¬ (0 + 1 ≤ 0) from by decide, if_false, Nat.zero_mul, show getCells cs 0 0 = some [] from by unfold getCells; simp, h,
      show (0 + 1) * bytes ≤ room from by simpa using hbig, Option.map_some, List.nil_append]
    refine ⟨_, _, rfl, ?_, ⟨Nat.le_succ _, .inr ⟨A.n, rfl, Nat.le_refl _⟩, ⟨_, rfl⟩, fun i hi _ => AHeap.push_old _ _ hi⟩⟩
    exact .grown (A := A.push (.row y (.grown sz))) A.n [y] [] (Nat.lt_succ_self _) (by rw [AHeap.push_new]; simp) (by simp [hy])
  | grown b ls junk hb h hall =>
    have hlen := flat_len hall
    have hav : avail A b 0 sz = some (ls ++ junk).length := by
      unfold avail
      simp only [h]
      rw [if_pos (by simp [hsz]), hlen, Nat.sub_zero, Nat.mul_div_cancel _ hsz]
    simp only [huc, if_false, if_true, hav]
    cases junk with
    | nil =>
      have e1 : ¬ (ls.length + 1 ≤ (ls ++ []).length) := by simp
      simp only [List.append_nil] at h hlen
      simp only [e1, if_false, h]
      rw [if_pos (by simp [hlen, hbig])]
      refine ⟨_, _, rfl, ?_, ⟨Nat.le_succ _, .inr ⟨A.n, rfl, Nat.le_refl _⟩, ⟨_, rfl⟩, fun i hi hne => ?_⟩⟩
      · have := Held.grown (A := (A.set b .dead).push (.row (ls.flatten ++ y) (.grown sz))) (sz := sz) A.n (ls ++ [y]) [] (Nat.lt_succ_self _) (by
          rw [show A.n = (A.set b .dead).n from rfl, AHeap.push_new]; simp) (by
          intro z hz
          simp only [List.append_nil, List.mem_append, List.mem_singleton] at hz
          rcases hz with hz | rfl
          · exact hall z (by simpa using hz)
          · exact hy)
        simpa using this
      · rw [AHeap.push_old _ _ (by exact hi), AHeap.set_other _ _ (fun e => hne (by rw [e]; rfl))]
    | cons z junk =>
      have e1 : ls.length + 1 ≤ (ls ++ z :: junk).length := by simp
      simp only [e1, if_true]
      unfold inPlace
      rw [if_neg Nat.one_ne_zero]
      simp only [h, reduceCtorEq, if_false, Nat.zero_add]
      rw [flat_put hall (by simp) hy]
      refine ⟨_, _, rfl, ?_, ⟨Nat.le_refl _, .inl rfl, ⟨_, rfl⟩, fun i hi hne => AHeap.set_other _ _ (fun e => hne (by rw [e]; rfl))⟩⟩
      have hset : (ls ++ z :: junk).set ls.length y = (ls ++ [y]) ++ junk := by
        rw [List.set_append_right _ _ (Nat.le_refl _)]; simp
      have := Held.grown (A := A.set b (.row ((ls ++ z :: junk).set ls.length y).flatten (.grown sz))) (sz := sz) b (ls ++ [y]) junk hb (by rw [AHeap.set_same, hset]) (by
        intro w hw
        simp only [List.mem_append, List.mem_singleton] at hw
        rcases hw with (hw | rfl) | hw
        · exact hall w (by simp [hw])
        · exact hy
        · exact hall w (by simp [hw]))
      simpa using this

/-- one element written out -/
theorem appCells_one {A : AHeap} {b sz : Nat} {y : List Value} {k : Kind} (h : A.f b = some (.row y k)) (hy : y.length = sz) : appCells A sz (.slice (some ⟨b, 0, none⟩) 1 1) = some (1, y) := by
  unfold appCells
  simp only [show ¬ (1 : Nat) = ecap from by decide, if_false, h, getCells, Nat.one_mul, Nat.zero_add, hy, Nat.le_refl, if_true, List.drop_zero, Option.map_some]
  rw [← hy, List.take_length]

theorem putCells_full {cs vs : List Value} (h : vs.length = cs.length) : putCells cs 0 vs = some vs := by
  unfold putCells
  rw [if_pos (by omega), List.take_zero, List.nil_append, Nat.zero_add, h, List.drop_length, List.append_nil]

theorem own_slice {s : Value} {b : Nat} (h : own s = some b) : ∃ a n c, s = .slice (some a) n c ∧ a.block = b := by
  unfold own at h
  split at h
  · rename_i a n c; cases h; exact ⟨a, n, c, rfl, rfl⟩
  · cases h

end Go.AB

/-
  Maps whose keys are vertices.
-/
namespace Go.AB
open Go
set_option linter.unusedSimpArgs false
set_option linter.unusedVariables false

/-- an entry -/
structure VE where
  k : List Int
  v : Value
  b : Nat

def VE.ent (x : VE) : MapEntry := ⟨vagg x.k, x.v, x.b⟩
def vents (L : List VE) : List MapEntry := L.map VE.ent

theorem vents_born (L : List VE) : (vents L).map (·.born) = L.map (·.b) := by unfold vents; rw [List.map_map]; rfl

structure VM (L : List VE) (clock : Nat) : Prop where
  ok : ∀ x ∈ L, vok x.k = true
  keys : (L.map (·.k)).Nodup
  born : (L.map (·.b)).Nodup
  clock : ∀ x ∈ L, x.b < clock

def vfind (k : List Int) : List VE → Option VE
  | [] => none
  | x :: L => if x.k = k then some x else vfind k L

def vidx (k : List Int) : List VE → Nat → Option (Nat × Value)
  | [], _ => none
  | x :: L, i => if x.k = k then some (i, x.v) else vidx k L (i + 1)

def vput (k : List Int) (v : Value) (c : Nat) : List VE → List VE
  | [] => [⟨k, v, c⟩]
  | x :: L => if x.k = k then ⟨x.k, v, x.b⟩ :: L else x :: vput k v c L

theorem afind_vents {k : List Int} (hk : vok k = true) : ∀ {L : List VE} {i : Nat}, (∀ x ∈ L, vok x.k = true) → afind (vagg k) (vents L) i = vidx k L i
  | [], _, _ => rfl
  | x :: L, i, h => by
    show (if veq (vagg x.k) (vagg k) then _ else _) = _
    rw [veq_vagg (h x (List.mem_cons_self ..)) hk]
    unfold vidx
    by_cases hx : x.k = k
    · simp [hx, VE.ent]
    · simp only [hx, decide_false, if_false]
      exact afind_vents hk fun y hy => h y (List.mem_cons_of_mem _ hy)

theorem vidx_some {k : List Int} : ∀ {L : List VE} {i j : Nat} {v : Value}, vidx k L i = some (j, v) → ∃ n x, j = i + n ∧ L[n]? = some x ∧ x.k = k ∧ x.v = v ∧ vfind k L = some x ∧
    (∀ v' c, setVal (vents L) n v' = vents (vput k v' c L))
  | [], _, _, _, h => by simp [vidx] at h
  | x :: L, i, j, v, h => by
    unfold vidx at h
    by_cases hx : x.k = k
    · rw [if_pos hx] at h
      cases h
      refine ⟨0, x, rfl, rfl, hx, rfl, by unfold vfind; rw [if_pos hx], fun v' c => ?_⟩
      unfold vput
      rw [if_pos hx]
      rfl
    · rw [if_neg hx] at h
      obtain ⟨n, y, h1, h2, h3, h4, h5, h6⟩ := vidx_some h
      refine ⟨n + 1, y, by omega, by simpa using h2, h3, h4, by unfold vfind; rw [if_neg hx]; exact h5, fun v' c => ?_⟩
      unfold vput
      rw [if_neg hx]
      show setVal (x.ent :: vents L) (n + 1) v' = x.ent :: vents (vput k v' c L)
      rw [← h6 v' c]
      rfl

theorem vidx_none {k : List Int} : ∀ {L : List VE} {i : Nat}, vidx k L i = none → vfind k L = none ∧ (∀ x ∈ L, x.k ≠ k) ∧ (∀ v c, vput k v c L = L ++ [⟨k, v, c⟩])
  | [], _, _ => ⟨rfl, fun x hx => by simp at hx, fun _ _ => rfl⟩
  | x :: L, i, h => by
    unfold vidx at h
    by_cases hx : x.k = k
    · rw [if_pos hx] at h; cases h
    · rw [if_neg hx] at h
      obtain ⟨h1, h2, h3⟩ := vidx_none h
      refine ⟨by unfold vfind; rw [if_neg hx]; exact h1, fun y hy => ?_, fun v c => by unfold vput; rw [if_neg hx, h3]; rfl⟩
      rcases List.mem_cons.1 hy with rfl | hy
      · exact hx
      · exact h2 y hy

theorem vput_keys {k : List Int} {v : Value} {c : Nat} : ∀ {L : List VE}, (vput k v c L).map (·.k) = if (vfind k L).isSome then L.map (·.k) else L.map (·.k) ++ [k]
  | [] => rfl
  | x :: L => by
    unfold vput vfind
    by_cases hx : x.k = k
    · simp [hx]
    · simp only [if_neg hx, List.map_cons, vput_keys (L := L)]
      split <;> rfl

theorem vput_born {k : List Int} {v : Value} {c : Nat} : ∀ {L : List VE}, (vput k v c L).map (·.b) = if (vfind k L).isSome then L.map (·.b) else L.map (·.b) ++ [c]
  | [] => rfl
  | x :: L => by
    unfold vput vfind
    by_cases hx : x.k = k
    · simp [hx]
    · simp only [if_neg hx, List.map_cons, vput_born (L := L)]
      split <;> rfl

theorem vfind_none {k : List Int} : ∀ {L : List VE}, vfind k L = none ↔ ∀ x ∈ L, x.k ≠ k
  | [] => by simp [vfind]
  | x :: L => by
    unfold vfind
    by_cases hx : x.k = k
    · simp [hx]
    · simp [hx, vfind_none (L := L)]

theorem vfind_some {k : List Int} {x : VE} : ∀ {L : List VE}, vfind k L = some x → x ∈ L ∧ x.k = k
  | [], h => by simp [vfind] at h
  | y :: L, h => by
    unfold vfind at h
    by_cases hx : y.k = k
    · rw [if_pos hx] at h; cases h; exact ⟨List.mem_cons_self .., hx⟩
    · rw [if_neg hx] at h
      obtain ⟨h1, h2⟩ := vfind_some h
      exact ⟨List.mem_cons_of_mem _ h1, h2⟩

theorem vfind_mem {k : List Int} {x : VE} : ∀ {L : List VE}, (L.map (·.k)).Nodup → x ∈ L → x.k = k → vfind k L = some x
  | [], _, h, _ => by simp at h
  | y :: L, hn, h, hk => by
    unfold vfind
    rw [List.map_cons, List.nodup_cons] at hn
    rcases List.mem_cons.1 h with rfl | h
    · rw [if_pos hk]
    · rw [if_neg (fun e => hn.1 (by rw [e, ← hk]; exact List.mem_map_of_mem h))]
      exact vfind_mem hn.2 h hk

theorem vfind_put {k k' : List Int} {v : Value} {c : Nat} : ∀ {L : List VE}, (vfind k' (vput k v c L)).map (·.v) = if k' = k then some v else (vfind k' L).map (·.v)
  | [] => by
    unfold vput vfind
    by_cases h : k' = k
    · subst h; simp
    · rw [if_neg h]; simp only [if_neg (fun e => h (Eq.symm e))]; rfl
  | x :: L => by
    unfold vput
    by_cases hx : x.k = k
    · rw [if_pos hx]
      unfold vfind
      by_cases h : k' = k
      · subst h; simp [hx]
      · have : ¬ x.k = k' := fun e => h (by rw [← e, hx])
        simp only [if_neg this, if_neg h]
    · rw [if_neg hx]
      unfold vfind
      by_cases h : x.k = k'
      · have : ¬ k' = k := fun e => hx (by rw [h, e])
        simp [h, this]
      · simp only [if_neg h]
        exact vfind_put (L := L)

theorem vput_mem {k : List Int} {v : Value} {c : Nat} {y : VE} : ∀ {L : List VE}, y ∈ vput k v c L → (y.k = k ∧ y.v = v) ∨ y ∈ L
  | [], h => by simp [vput] at h; subst h; exact .inl ⟨rfl, rfl⟩
  | x :: L, h => by
    unfold vput at h
    by_cases hx : x.k = k
    · rw [if_pos hx] at h
      rcases List.mem_cons.1 h with rfl | h
      · exact .inl ⟨hx, rfl⟩
      · exact .inr (List.mem_cons_of_mem _ h)
    · rw [if_neg hx] at h
      rcases List.mem_cons.1 h with rfl | h
      · exact .inr (List.mem_cons_self ..)
      · rcases vput_mem h with h | h
        · exact .inl h
        · exact .inr (List.mem_cons_of_mem _ h)

/-- the clock behind a put -/
def vclock (k : List Int) (L : List VE) (c : Nat) : Nat := if (vfind k L).isSome then c else c + 1

theorem VM.put {L : List VE} {c : Nat} (h : VM L c) {k : List Int} (hk : vok k = true) (v : Value) : VM (vput k v c L) (vclock k L c) := by
  refine ⟨fun x hx => ?_, ?_, ?_, fun x hx => ?_⟩
  · rcases vput_mem hx with ⟨h1, _⟩ | h1
    · rw [h1]; exact hk
    · exact h.ok x h1
  · rw [vput_keys]
    split
    · exact h.keys
    · rename_i hs
      rw [List.nodup_append]
      refine ⟨h.keys, by simp, fun a ha b hb e => ?_⟩
      simp only [List.mem_singleton] at hb
      subst hb; subst e
      obtain ⟨x, hx, rfl⟩ := List.mem_map.1 ha
      have : vfind x.k L = none := by simpa using hs
      exact vfind_none.1 this x hx rfl
  · rw [vput_born]
    split
    · exact h.born
    · rw [List.nodup_append]
      refine ⟨h.born, by simp, fun a ha b hb e => ?_⟩
      simp only [List.mem_singleton] at hb
      subst hb; subst e
      obtain ⟨x, hx, rfl⟩ := List.mem_map.1 ha
      exact Nat.lt_irrefl _ (h.clock x hx)
  · have hb : x.b ∈ (vput k v c L).map (·.b) := List.mem_map_of_mem hx
    rw [vput_born] at hb
    unfold vclock
    split at hb
    · rename_i hs
      rw [if_pos hs]
      obtain ⟨y, hy, e⟩ := List.mem_map.1 hb
      rw [← e]; exact h.clock y hy
    · rename_i hs
      rw [if_neg hs]
      rcases List.mem_append.1 hb with hb | hb
      · obtain ⟨y, hy, e⟩ := List.mem_map.1 hb
        rw [← e]; exact Nat.lt_succ_of_lt (h.clock y hy)
      · simp only [List.mem_singleton] at hb
        omega

theorem setVal_last (e : MapEntry) (v : Value) : ∀ es : List MapEntry, setVal (es ++ [e]) es.length v = es ++ [{ e with val := v }]
  | [] => rfl
  | a :: es => by
    show a :: setVal (es ++ [e]) es.length v = a :: (es ++ [{ e with val := v }])
    rw [setVal_last e v es]

section
variable {P : Program} {A : AHeap} {t kt et : TypeId} {m c : Nat} {L : List VE} {k : List Int}

theorem vguard (hl : layQ P kt = some vlay) (h : VM L c) (hk : vok k = true) : (keyTy P kt && keyOk P kt (vagg k) && akeysOk P kt (vents L)) = true := by
  rw [layQ_keyTy hl, vok_key hl hk]
  simp only [Bool.true_and]
  unfold akeysOk vents
  rw [List.all_map, List.all_eq_true]
  intro x hx
  exact vok_key hl (h.ok x hx)

theorem lookup_v (hm : mapOf P t = some (kt, et)) (hl : layQ P kt = some vlay) (hf : A.f m = some (.map (vents L) c)) (h : VM L c) (hk : vok k = true) (ok : Bool) :
    alookup P A t (.map (some m)) (vagg k) ok = match vfind k L with
      | some x => some (if ok then .tuple ⟨[x.v, .bool true]⟩ else x.v)
      | none => (zval P et).map fun z => if ok then .tuple ⟨[z, .bool false]⟩ else z := by
  unfold alookup
  simp only [hm, aentries, hf, vguard hl h hk, if_true, afind_vents hk h.ok]
  cases hi : vidx k L 0 with
  | none => rw [(vidx_none hi).1]
  | some x =>
    obtain ⟨j, v⟩ := x
    obtain ⟨n, y, _, _, _, h4, h5, _⟩ := vidx_some hi
    rw [h5]
    simp only [h4]

theorem update_v (hm : mapOf P t = some (kt, et)) (hl : layQ P kt = some vlay) (hf : A.f m = some (.map (vents L) c)) (h : VM L c) (hk : vok k = true) (v : Value) :
    amapUpdate P A t (.map (some m)) (vagg k) v = some (A.set m (.map (vents (vput k v c L)) (vclock k L c))) := by
  unfold amapUpdate
  simp only [hm, hf, vguard hl h hk, if_true, afind_vents hk h.ok]
  cases hi : vidx k L 0 with
  | none =>
    obtain ⟨h1, _, h3⟩ := vidx_none hi
    unfold vclock
    simp only [h3, h1, Option.isSome_none, Bool.false_eq_true, if_false]
    unfold vents
    rw [List.map_append]
    rfl
  | some x =>
    obtain ⟨j, v'⟩ := x
    obtain ⟨n, y, e, _, _, _, h5, h6⟩ := vidx_some hi
    have : j = n := by omega
    subst this
    unfold vclock
    simp only [h5, Option.isSome_some, if_true, h6 v c]

theorem findIdx_born {st : Nat} : ∀ {es : List MapEntry} {i : Nat} {e : MapEntry}, es[i]? = some e → e.born = st → (es.map (·.born)).Nodup →
    es.findIdx? (fun e => decide ((e.born : Int) = (st : Int))) = some i
  | [], _, _, h, _, _ => by simp at h
  | a :: es, 0, e, h, hb, _ => by
    simp only [List.getElem?_cons_zero, Option.some.injEq] at h
    subst h
    rw [List.findIdx?_cons]
    simp [hb]
  | a :: es, i + 1, e, h, hb, hn => by
    simp only [List.getElem?_cons_succ] at h
    rw [List.map_cons, List.nodup_cons] at hn
    have hne : ¬ a.born = st := fun x => hn.1 (by rw [x, ← hb]; exact List.mem_map_of_mem (List.mem_of_getElem? h))
    rw [List.findIdx?_cons, findIdx_born h hb hn.2]
    simp only [Int.natCast_inj, hne, decide_false, Bool.false_eq_true, if_false, Option.map_some]

/-- an entry found or made, then set -/
theorem entry_v (hm : mapOf P t = some (kt, et)) (hl : layQ P kt = some vlay) (hf : A.f m = some (.map (vents L) c)) (h : VM L c) (hk : vok k = true) {z : Value} (hz : zval P et = some z) :
    ∃ st v1 L1, L1 = vput k v1 c L ∧ (match vfind k L with | some x => v1 = x.v | none => v1 = z) ∧ amapEntry P A t (.map (some m)) (vagg k) = some (.tuple ⟨[v1, goInt (st : Nat)]⟩, A.set m (.map (vents L1) (vclock k L c))) ∧
      ∀ (A2 : AHeap) (v : Value), A2.f m = some (.map (vents L1) (vclock k L c)) → aentryStore A2 (.map (some m)) (goInt (st : Nat)) v = some (A2.set m (.map (vents (vput k v c L)) (vclock k L c))) := by
  unfold amapEntry
  simp only [hm, hf, vguard hl h hk, if_true, afind_vents hk h.ok]
  cases hi : vidx k L 0 with
  | none =>
    obtain ⟨h1, h2, h3⟩ := vidx_none hi
    refine ⟨c, z, L ++ [⟨k, z, c⟩], (h3 z c).symm, by rw [h1], ?_, fun A2 v hA2 => ?_⟩
    · simp only [hz, Option.map_some]
      unfold vclock
      simp only [h1, Option.isSome_none, Bool.false_eq_true, if_false]
      unfold vents
      rw [List.map_append]; rfl
    · unfold aentryStore goInt
      simp only [hA2]
      have hlen : (vents (L ++ [⟨k, z, c⟩]))[L.length]? = some (VE.ent ⟨k, z, c⟩) := by
        unfold vents; rw [List.map_append, List.getElem?_append_right (by simp)]; simp
      have hnod : ((vents (L ++ [⟨k, z, c⟩])).map (·.born)).Nodup := by
        rw [vents_born]
        have hb := (h.put hk z).born
        rwa [h3 z c] at hb
      rw [findIdx_born (st := c) hlen rfl hnod]
      simp only [Option.map_some, h3]
      have := setVal_last (VE.ent ⟨k, z, c⟩) v (vents L)
      have hl1 : (vents L).length = L.length := by unfold vents; rw [List.length_map]
      rw [hl1] at this
      have e1 : vents (L ++ [⟨k, z, c⟩]) = vents L ++ [VE.ent ⟨k, z, c⟩] := by unfold vents; rw [List.map_append]; rfl
      have e2 : vents (L ++ [⟨k, v, c⟩]) = vents L ++ [VE.ent ⟨k, v, c⟩] := by unfold vents; rw [List.map_append]; rfl
      rw [e1, e2, this]
      rfl
  | some x =>
    obtain ⟨j, v'⟩ := x
    obtain ⟨n, y, e, g2, g3, g4, h5, h6⟩ := vidx_some hi
    have : j = n := by omega
    subst this
    have hc : vclock k L c = c := by unfold vclock; rw [h5]; rfl
    have hget : (vents L)[j]? = some y.ent := by unfold vents; rw [List.getElem?_map, g2]; rfl
    refine ⟨y.b, v', vput k v' c L, rfl, by rw [h5]; exact g4.symm, ?_, fun A2 v hA2 => ?_⟩
    · simp only [hget, Option.map_some, h6 v' c, hc]
      rfl
    · unfold aentryStore goInt
      rw [hc] at hA2 ⊢
      simp only [hA2]
      have e1 : (vents (vput k v' c L))[j]? = some (VE.ent ⟨y.k, v', y.b⟩) := by
        rw [← h6 v' c]
        unfold setVal
        rw [List.getElem?_modify, hget]
        simp [VE.ent]
      have hnod : ((vents (vput k v' c L)).map (·.born)).Nodup := by
        rw [vents_born]
        exact (h.put hk v').born
      rw [findIdx_born (st := y.b) e1 rfl hnod]
      simp only [Option.map_some]
      congr 3
      rw [← h6 v' c, ← h6 v c]
      unfold setVal
      rw [List.modify_modify_eq]
      rfl
end
end Go.AB

/-
  Graphs in memory; what Lines tells, in plain Lean.
-/
namespace Go.AB
open Go
set_option linter.unusedSimpArgs false
set_option linter.unusedVariables false

/-! ### counting maps -/
structure Cnt (L : List VE) (c : Nat) (f : List Int → Int) : Prop where
  vm : VM L c
  val : ∀ x ∈ L, x.v = .int .i64 (f x.k)
  zero : ∀ k, vfind k L = none → f k = 0

theorem Cnt.put {L : List VE} {c : Nat} {f g : List Int → Int} (h : Cnt L c f) {k : List Int} (hk : vok k = true) {n : Int} (hg : ∀ w, g w = if w = k then n else f w) : Cnt (vput k (.int .i64 n) c L) (vclock k L c) g := by
  refine ⟨h.vm.put hk _, fun x hx => ?_, fun w hw => ?_⟩
  · have hm := h.vm.put hk (.int .i64 n)
    have h1 := vfind_mem hm.keys hx rfl
    have h2 := vfind_put (k := k) (k' := x.k) (v := .int .i64 n) (c := c) (L := L)
    rw [h1] at h2
    simp only [Option.map_some] at h2
    rw [hg]
    by_cases e : x.k = k
    · rw [if_pos e] at h2 ⊢; exact Option.some.inj h2
    · rw [if_neg e] at h2 ⊢
      cases hf : vfind x.k L with
      | none => rw [hf] at h2; cases h2
      | some y =>
        rw [hf] at h2
        obtain ⟨h3, h4⟩ := vfind_some hf
        have := h.val y h3
        rw [h4] at this
        have h2 : x.v = y.v := Option.some.inj h2
        rw [h2, this]
  · have h2 := vfind_put (k := k) (k' := w) (v := .int .i64 n) (c := c) (L := L)
    rw [hw] at h2
    rw [hg]
    by_cases e : w = k
    · rw [if_pos e] at h2; cases h2
    · rw [if_neg e] at h2 ⊢
      cases hf : vfind w L with
      | none => exact h.zero w hf
      | some y => rw [hf] at h2; cases h2

theorem Cnt.congr {L : List VE} {c : Nat} {f g : List Int → Int} (h : Cnt L c f) (hg : ∀ w, g w = f w) : Cnt L c g := by
  have : g = f := funext hg
  rw [this]; exact h

theorem Cnt.look {P : Program} {A : AHeap} {t kt et : TypeId} {m c : Nat} {L : List VE} {f : List Int → Int} {k : List Int} (hm : mapOf P t = some (kt, et)) (hl : layQ P kt = some vlay) (hz : zval P et = some (.int .i64 0))
    (hf : A.f m = some (.map (vents L) c)) (h : Cnt L c f) (hk : vok k = true) : alookup P A t (.map (some m)) (vagg k) false = some (.int .i64 (f k)) := by
  rw [lookup_v hm hl hf h.vm hk]
  cases hv : vfind k L with
  | none => rw [hz, h.zero k hv]; rfl
  | some x =>
    obtain ⟨h1, h2⟩ := vfind_some hv
    have := h.val x h1
    rw [h2] at this
    rw [← this]; rfl

theorem Cnt.bump {P : Program} {A : AHeap} {t kt et : TypeId} {m c : Nat} {L : List VE} {f : List Int → Int} {k : List Int} (hm : mapOf P t = some (kt, et)) (hl : layQ P kt = some vlay) (hz : zval P et = some (.int .i64 0))
    (hf : A.f m = some (.map (vents L) c)) (h : Cnt L c f) (hk : vok k = true) : ∃ st L1, amapEntry P A t (.map (some m)) (vagg k) = some (.tuple ⟨[.int .i64 (f k), goInt (st : Nat)]⟩, A.set m (.map (vents L1) (vclock k L c))) ∧ Cnt L1 (vclock k L c) f ∧
      ∀ (A2 : AHeap) (v : Value), A2.f m = some (.map (vents L1) (vclock k L c)) → aentryStore A2 (.map (some m)) (goInt (st : Nat)) v = some (A2.set m (.map (vents (vput k v c L)) (vclock k L c))) := by
  obtain ⟨st, v1, L1, e1, e2, e3, e4⟩ := entry_v hm hl hf h.vm hk hz
  have hv1 : v1 = .int .i64 (f k) := by
    cases hv : vfind k L with
    | none => rw [hv] at e2; simp only at e2; rw [e2, h.zero k hv]
    | some x =>
      rw [hv] at e2; simp only at e2
      obtain ⟨h1, h2⟩ := vfind_some hv
      rw [e2, h.val x h1, h2]
  subst hv1; subst e1
  refine ⟨st, _, e3, h.put hk (fun w => ?_), e4⟩
  by_cases hw : w = k
  · subst hw; rw [if_pos rfl]
  · rw [if_neg hw]

/-! ### slices of vertices, read -/
def ReadsV (A : AHeap) (s : Value) (ls : List (List Int)) : Prop :=
  ∃ a c, s = .slice a ls.length c ∧ ∀ i, i < ls.length → ∃ b o cs k, a = some ⟨b, o, none⟩ ∧ b < A.n ∧ c ≠ ecap ∧ A.f b = some (.row cs k) ∧ getCells cs (o + i * 33) 33 = some (vcells (at' [] ls i))

theorem ReadsV.mono {A A' : AHeap} {s : Value} {ls : List (List Int)} (h : ReadsV A s ls) (hu : Unch A A') (hn : A.n ≤ A'.n) : ReadsV A' s ls := by
  obtain ⟨a, c, h1, h2⟩ := h
  refine ⟨a, c, h1, fun i hi => ?_⟩
  obtain ⟨b, o, cs, k, e1, e2, e3, e4, e5⟩ := h2 i hi
  exact ⟨b, o, cs, k, e1, Nat.lt_of_lt_of_le e2 hn, e3, by rw [hu b e2]; exact e4, e5⟩

/-! ### nodes -/
structure NE where
  k : List Int
  text : ByteArray
  gone : Int
  named : Int
  next : List (List Int)
  s : Value
  b : Nat

def NE.ve (x : NE) : VE := ⟨x.k, .agg ⟨[.string x.text, .int .i64 x.gone, .int .i64 x.named, x.s]⟩, x.b⟩

structure NodesA (A : AHeap) (m c : Nat) (G : List NE) : Prop where
  lt : m < A.n
  f : A.f m = some (.map (vents (G.map NE.ve)) c)
  vm : VM (G.map NE.ve) c
  reads : ∀ x ∈ G, ReadsV A x.s x.next
  vok : ∀ x ∈ G, ∀ v ∈ x.next, vok v = true

theorem NodesA.mono {A A' : AHeap} {m c : Nat} {G : List NE} (h : NodesA A m c G) (hu : Unch A A') (hn : A.n ≤ A'.n) : NodesA A' m c G :=
  ⟨Nat.lt_of_lt_of_le h.lt hn, by rw [hu m h.lt]; exact h.f, h.vm, fun x hx => (h.reads x hx).mono hu hn, h.vok⟩

/-! ### what is told -/
def leq : List Int → List Int → Bool
  | [], [] => true
  | a :: x, b :: y => match ieq a b with
    | true => leq x y
    | false => false
  | _, _ => false
theorem leq_eq : ∀ a b : List Int, leq a b = decide (a = b)
  | [], [] => rfl
  | [], _ :: _ => rfl
  | _ :: _, [] => rfl
  | a :: x, b :: y => by
    unfold leq
    rw [ieq_eq, leq_eq x y]
    by_cases h : a = b
    · subst h; simp
    · have : (a == b) = false := by simpa using h
      rw [this]; simp [h]

def cntL (w : List Int) : List (List Int) → Nat
  | [] => 0
  | v :: l => match leq v w with
    | true => cntL w l + 1
    | false => cntL w l
theorem cntL_cons (w v : List Int) (l : List (List Int)) : cntL w (v :: l) = (if v = w then 1 else 0) + cntL w l := by
  show (match leq v w with | true => cntL w l + 1 | false => cntL w l) = _
  rw [leq_eq]
  by_cases h : v = w
  · rw [decide_eq_true h, if_pos h]; show cntL w l + 1 = _; omega
  · rw [decide_eq_false h, if_neg h]; show cntL w l = _; omega
theorem cntL_le (w : List Int) : ∀ l, cntL w l ≤ l.length
  | [] => Nat.le_refl _
  | v :: l => by rw [cntL_cons]; have := cntL_le w l; simp only [List.length_cons]; split <;> omega
theorem cntL_append (w : List Int) : ∀ a b, cntL w (a ++ b) = cntL w a + cntL w b
  | [], b => by simp [cntL]
  | v :: a, b => by rw [List.cons_append, cntL_cons, cntL_cons, cntL_append w a b]; omega

def cntG (w : List Int) : List NE → Nat
  | [] => 0
  | x :: G => cntL w x.next + cntG w G

def edges : List NE → Nat
  | [] => 0
  | x :: G => x.next.length + edges G
theorem cntG_le (w : List Int) : ∀ G, cntG w G ≤ edges G
  | [] => Nat.le_refl _
  | x :: G => by unfold cntG edges; have := cntL_le w x.next; have := cntG_le w G; omega

def findN (v : List Int) : List NE → Option NE
  | [] => none
  | x :: G => match leq x.k v with
    | true => some x
    | false => findN v G

theorem findN_vfind (v : List Int) : ∀ G : List NE, vfind v (G.map NE.ve) = (findN v G).map NE.ve
  | [] => rfl
  | x :: G => by
    rw [List.map_cons]
    unfold vfind findN
    rw [leq_eq]
    show (if x.k = v then _ else _) = _
    by_cases h : x.k = v
    · simp [h]
    · simp [h, findN_vfind v G]
theorem findN_mem {v : List Int} {x : NE} : ∀ {G : List NE}, findN v G = some x → x ∈ G ∧ x.k = v
  | [], h => by cases h
  | y :: G, h => by
    unfold findN at h
    rw [leq_eq] at h
    by_cases e : y.k = v
    · simp [e] at h; subst h; exact ⟨List.mem_cons_self .., e⟩
    · simp [e] at h
      obtain ⟨h1, h2⟩ := findN_mem h
      exact ⟨List.mem_cons_of_mem _ h1, h2⟩

def minL : List Int → List (List Int) → List Int
  | m, [] => m
  | m, x :: l => match llt x m with
    | true => minL x l
    | false => minL m l
theorem minL_spec : ∀ (l : List (List Int)) (m : List Int), (minL m l = m ∨ minL m l ∈ l) ∧ llt m (minL m l) = false ∧ ∀ x ∈ l, llt x (minL m l) = false
  | [], m => ⟨.inl rfl, llt_lo.irr m, fun x hx => by simp at hx⟩
  | y :: l, m => by
    unfold minL
    cases h : llt y m with
    | true =>
      obtain ⟨h1, h2, h3⟩ := minL_spec l y
      refine ⟨.inr ?_, ?_, fun x hx => ?_⟩
      · rcases h1 with h1 | h1
        · simp only [h1]; exact List.mem_cons_self ..
        · exact List.mem_cons_of_mem _ h1
      · exact llt_lo.le_trans h2 (llt_lo.asymm h)
      · rcases List.mem_cons.1 hx with rfl | hx
        · exact h2
        · exact h3 x hx
    | false =>
      obtain ⟨h1, h2, h3⟩ := minL_spec l m
      refine ⟨?_, h2, fun x hx => ?_⟩
      · rcases h1 with h1 | h1
        · exact .inl h1
        · exact .inr (List.mem_cons_of_mem _ h1)
      · rcases List.mem_cons.1 hx with rfl | hx
        · exact llt_lo.le_trans h2 h
        · exact h3 x hx

def eraseL (v : List Int) : List (List Int) → List (List Int)
  | [] => []
  | x :: l => match leq x v with
    | true => l
    | false => x :: eraseL v l
theorem eraseL_eq (v : List Int) : ∀ l, eraseL v l = l.erase v
  | [] => rfl
  | x :: l => by
    unfold eraseL
    rw [leq_eq, List.erase_cons, eraseL_eq v l]
    by_cases h : x = v
    · subst h; simp
    · have : (x == v) = false := by simpa using h
      simp [h, this]

def vend : List Int := List.replicate 32 0 ++ [-2]

/-- the edges of one vertex taken away: what was taken, who waits -/
def outs (G : List NE) : List (List Int) → List (List Int) → List (List Int) → List (List Int) × List (List Int)
  | dec, W, [] => (dec, W)
  | dec, W, w :: ws => match leq w vend, Nat.beq (cntG w G) (cntL w (w :: dec)) with
    | false, true => outs G (w :: dec) (w :: W) ws
    | _, _ => outs G (w :: dec) W ws

structure LE where
  v : List Int
  text : ByteArray
  alive : Bool

def lcells (x : LE) : List Value := vcells x.v ++ [.string x.text, .bool x.alive]

def kahn (G : List NE) : Nat → List (List Int) → List (List Int) → Option (List LE)
  | 0, _, _ => none
  | f + 1, dec, W => match W with
    | [] => some []
    | w :: ws => match findN (minL w ws) G with
      | none => none
      | some n => match outs G dec (eraseL (minL w ws) (w :: ws)) n.next with
        | (dec', W') => match kahn G f dec' W' with
          | none => none
          | some l => some (⟨minL w ws, n.text, ieq n.gone 0⟩ :: l)

def first (G : List NE) : List NE → List (List Int)
  | [] => []
  | x :: l => match cntG x.k G with
    | 0 => x.k :: first G l
    | _ + 1 => first G l

def linesOf (G : List NE) : Option (List LE) := kahn G (G.length + 1) [] (first G G)

/-! ### going through a map -/
theorem left_lt {es : List MapEntry} {seen : List Nat} {e : MapEntry} (h : e ∈ left es seen) : (left es (seen ++ [e.born])).length < (left es seen).length := by
  unfold left at h ⊢
  have : (es.filter fun x => !(seen ++ [e.born]).contains x.born) = (es.filter fun x => !seen.contains x.born).filter fun x => !(x.born == e.born) := by
    rw [List.filter_filter]
    congr 1
    funext x
    simp only [List.contains_eq_mem, List.mem_append, List.mem_singleton]
    by_cases h1 : x.born ∈ seen <;> by_cases h2 : x.born = e.born <;> simp [h1, h2]
  rw [this]
  refine List.length_filter_lt_length_iff_exists.2 ⟨e, h, by simp⟩

theorem anext_of {A : AHeap} {r m c : Nat} {seen : List Nat} {es : List MapEntry} (h1 : A.f r = some (.iter m c seen c)) (h2 : A.f m = some (.map es c)) :
    anextMap A (.pointer (some ⟨r, 0, none⟩)) = some (r, m, c, seen, c, es, c) := by
  unfold anextMap
  simp [h1, h2]

theorem find_uniq {e : MapEntry} : ∀ {es : List MapEntry}, (es.map (·.born)).Nodup → e ∈ es → es.find? (fun x => x.born == e.born) = some e
  | [], _, h => by simp at h
  | x :: es, hn, h => by
    rw [List.map_cons, List.nodup_cons] at hn
    rw [List.find?_cons]
    rcases List.mem_cons.1 h with rfl | h
    · simp
    · have : (x.born == e.born) = false := by
        simp only [beq_eq_false_iff_ne, ne_eq]
        exact fun he => hn.1 (by rw [he]; exact List.mem_map_of_mem h)
      rw [this]
      exact find_uniq hn.2 h

theorem aentry_of {A : AHeap} {r m s c : Nat} {seen : List Nat} {es : List MapEntry} {e : MapEntry} (h1 : A.f r = some (.iter m s (seen ++ [e.born]) c)) (h2 : A.f m = some (.map es c)) (hn : (es.map (·.born)).Nodup) (he : e ∈ es) :
    aentry A (.pointer (some ⟨r, 0, none⟩)) = some (.tuple ⟨[e.key, e.val]⟩) := by
  unfold aentry
  simp [h1, h2, find_uniq hn he]

/-- the nodes gone through -/
def doneN (seen : List Nat) (G : List NE) : List NE := G.filter fun x => seen.contains x.b

theorem doneN_nil (G : List NE) : doneN [] G = [] := by
  unfold doneN
  rw [List.filter_eq_nil_iff]
  intro x _; simp

theorem doneN_step {seen : List Nat} {x : NE} : ∀ {G : List NE}, (G.map (·.b)).Nodup → x ∈ G → seen.contains x.b = false → (doneN (seen ++ [x.b]) G).Perm (x :: doneN seen G)
  | [], _, h, _ => by simp at h
  | y :: G, hn, h, hs => by
    rw [List.map_cons, List.nodup_cons] at hn
    have same : ∀ {G : List NE}, x.b ∉ G.map (·.b) → doneN (seen ++ [x.b]) G = doneN seen G := by
      intro G hx
      unfold doneN
      apply List.filter_congr
      intro z hz
      have : z.b ≠ x.b := fun e => hx (by rw [← e]; exact List.mem_map_of_mem hz)
      simp [this]
    rcases List.mem_cons.1 h with rfl | h
    · have h1 : doneN (seen ++ [x.b]) (x :: G) = x :: doneN (seen ++ [x.b]) G := by
        unfold doneN; rw [List.filter_cons, if_pos (by simp)]
      have h2 : doneN seen (x :: G) = doneN seen G := by
        unfold doneN; rw [List.filter_cons, if_neg (by rw [hs]; decide)]
      rw [h1, h2, same hn.1]
    · have ih := doneN_step hn.2 h hs
      have hne : y.b ≠ x.b := fun e => hn.1 (by rw [e]; exact List.mem_map_of_mem h)
      have e1 : (seen ++ [x.b]).contains y.b = seen.contains y.b := by simp [hne]
      have d1 : ∀ s, doneN s (y :: G) = if s.contains y.b then y :: doneN s G else doneN s G := fun s => by unfold doneN; rw [List.filter_cons]
      rw [d1, d1, e1]
      split
      · exact (List.Perm.cons y ih).trans (List.Perm.swap x y _)
      · exact ih

theorem doneN_all {seen : List Nat} {G : List NE} (h : left (vents (G.map NE.ve)) seen = []) : doneN seen G = G := by
  unfold doneN
  rw [List.filter_eq_self]
  intro x hx
  unfold left at h
  rw [List.filter_eq_nil_iff] at h
  have := h (x.ve.ent) (by unfold vents; rw [List.map_map]; exact List.mem_map_of_mem (f := VE.ent ∘ NE.ve) hx)
  have e : x.ve.ent.born = x.b := rfl
  rw [e] at this
  simpa using this

theorem left_node {G : List NE} {seen : List Nat} {e : MapEntry} (h : e ∈ left (vents (G.map NE.ve)) seen) : ∃ x ∈ G, e = x.ve.ent ∧ seen.contains x.b = false := by
  unfold left at h
  obtain ⟨h1, h2⟩ := List.mem_filter.1 h
  unfold vents at h1
  rw [List.map_map] at h1
  obtain ⟨x, hx, rfl⟩ := List.mem_map.1 h1
  have e : (VE.ent ∘ NE.ve) x = x.ve.ent := rfl
  have e2 : x.ve.ent.born = x.b := rfl
  rw [e, e2] at h2
  exact ⟨x, hx, rfl, by simpa using h2⟩

theorem cntG_perm (w : List Int) {G H : List NE} (h : G.Perm H) : cntG w G = cntG w H := by
  induction h with
  | nil => rfl
  | cons x _ ih => unfold cntG; rw [ih]
  | swap x y l => unfold cntG; unfold cntG; omega
  | trans _ _ a b => exact a.trans b
theorem edges_perm {G H : List NE} (h : G.Perm H) : edges G = edges H := by
  induction h with
  | nil => rfl
  | cons x _ ih => unfold edges; rw [ih]
  | swap x y l => unfold edges; unfold edges; omega
  | trans _ _ a b => exact a.trans b
theorem cntG_done_le (w : List Int) (seen : List Nat) : ∀ G, cntG w (doneN seen G) ≤ edges G
  | [] => Nat.le_refl _
  | x :: G => by
    have ih := cntG_done_le w seen G
    have := cntL_le w x.next
    unfold doneN at ih ⊢
    rw [List.filter_cons]
    split
    · unfold cntG edges; omega
    · unfold edges; omega

theorem first_eq (G : List NE) : ∀ l, first G l = (l.filter fun x => cntG x.k G == 0).map (·.k)
  | [] => rfl
  | x :: l => by
    unfold first
    rw [List.filter_cons]
    cases h : cntG x.k G with
    | zero => simp [first_eq G l]
    | succ n => simp [first_eq G l]

/-- who waits at the start, so far -/
theorem first_step {G : List NE} {seen : List Nat} {x : NE} (hn : (G.map (·.b)).Nodup) (h : x ∈ G) (hs : seen.contains x.b = false) :
    (first G (doneN (seen ++ [x.b]) G)).Perm (if cntG x.k G = 0 then x.k :: first G (doneN seen G) else first G (doneN seen G)) := by
  have hp := ((doneN_step hn h hs).filter (fun x => cntG x.k G == 0)).map (·.k)
  rw [← first_eq, ← first_eq] at hp
  refine hp.trans ?_
  conv => lhs; unfold first
  cases hc : cntG x.k G with
  | zero => simp
  | succ n => simp

end Go.AB

/-
  A graph read out of the machine's memory.
-/
namespace Go.AB
open Go
set_option linter.unusedSimpArgs false
set_option linter.unusedVariables false

def ints : List Value → List Int
  | [] => []
  | v :: l => match v with
    | .int _ n => n :: ints l
    | _ => ints l

/-- cells that are a vertex's -/
def dvert (cs : List Value) : Option (List Int) :=
  match vok (ints cs) with
  | false => none
  | true => match qeqL (vcells (ints cs)) cs with
    | true => some (ints cs)
    | false => none

theorem dvert_ok {cs : List Value} {v : List Int} (h : dvert cs = some v) : vok v = true ∧ cs = vcells v := by
  unfold dvert at h
  split at h
  · cases h
  · rename_i hv
    split at h
    · rename_i he
      cases h
      rw [qeqL_eq] at he
      exact ⟨hv, (veqL_eq he).symm⟩
    · cases h

/-- n vertices of a row, from a cell on -/
noncomputable def dnext (cs : List Value) : Nat → Nat → Option (List (List Int))
  | 0, _ => some []
  | n + 1, o => match qgetCells cs o 33 with
    | none => none
    | some l => match dvert l with
      | none => none
      | some v => match dnext cs n (o + 33) with
        | none => none
        | some r => some (v :: r)

theorem dnext_ok {cs : List Value} : ∀ {n o : Nat} {r : List (List Int)}, dnext cs n o = some r → r.length = n ∧ (∀ v ∈ r, vok v = true) ∧ ∀ i, i < n → getCells cs (o + i * 33) 33 = some (vcells (at' [] r i))
  | 0, o, r, h => by
    unfold dnext at h; cases h
    exact ⟨rfl, fun v hv => by simp at hv, fun i hi => by omega⟩
  | n + 1, o, r, h => by
    unfold dnext at h
    split at h
    · cases h
    · rename_i l hl
      split at h
      · cases h
      · rename_i v hv
        split at h
        · cases h
        · rename_i r' hr
          cases h
          obtain ⟨h1, h2, h3⟩ := dnext_ok hr
          obtain ⟨k1, k2⟩ := dvert_ok hv
          rw [qgetCells_eq] at hl
          refine ⟨by simp [h1], fun w hw => ?_, fun i hi => ?_⟩
          · rcases List.mem_cons.1 hw with rfl | hw
            · exact k1
            · exact h2 w hw
          · cases i with
            | zero => rw [Nat.zero_mul, Nat.add_zero, hl, k2]; rfl
            | succ i =>
              have := h3 i (by omega)
              rw [show o + (i + 1) * 33 = o + 33 + i * 33 by omega, this]
              rfl

def row? (H : CH) (b : Nat) : Option (List Value) :=
  match Nat.blt b H.n with
  | false => none
  | true => match H.t.get b with
    | some (.row cs _) => some cs
    | _ => none
theorem row?_ok {H : CH} {b : Nat} {cs : List Value} (h : row? H b = some cs) : b < H.n ∧ ∃ k, H.abs.f b = some (.row cs k) := by
  unfold row? at h
  split at h
  · cases h
  · rename_i hb
    have hb := blt_of hb
    split at h
    · rename_i cs' k hk
      cases h
      exact ⟨hb, k, by rw [CH.abs_f, if_pos hb, hk]⟩
    · cases h

noncomputable def dslice (H : CH) (s : Value) : Option (List (List Int)) :=
  match s with
  | .slice none 0 _ => some []
  | .slice (some ⟨b, o, none⟩) n c => match Nat.beq c ecap with
    | true => none
    | false => match row? H b with
      | some cs => dnext cs n o
      | none => none
  | _ => none

theorem dslice_ok {H : CH} {s : Value} {r : List (List Int)} (h : dslice H s = some r) : ReadsV H.abs s r ∧ ∀ v ∈ r, vok v = true := by
  unfold dslice at h
  split at h
  · rename_i c
    cases h
    exact ⟨⟨none, c, rfl, fun i hi => by simp at hi⟩, fun v hv => by simp at hv⟩
  · rename_i b o n c
    split at h
    · cases h
    · rename_i hc
      split at h
      · rename_i cs hcs
        obtain ⟨h1, h2, h3⟩ := dnext_ok h
        obtain ⟨k1, k, k2⟩ := row?_ok hcs
        subst h1
        refine ⟨⟨some ⟨b, o, none⟩, c, rfl, fun i hi => ⟨b, o, cs, k, rfl, k1, ?_, k2, h3 i hi⟩⟩, h2⟩
        intro e; subst e; simp at hc
      · cases h
  · cases h

noncomputable def dnode (H : CH) (e : MapEntry) : Option NE :=
  match e with
  | ⟨.agg ⟨kc⟩, .agg ⟨[.string t, .int .i64 gn, .int .i64 nm, s]⟩, b⟩ => match dvert kc with
    | none => none
    | some k => match dslice H s with
      | none => none
      | some nx => some ⟨k, t, gn, nm, nx, s, b⟩
  | _ => none

theorem dnode_ok {H : CH} {e : MapEntry} {x : NE} (h : dnode H e = some x) : e = x.ve.ent ∧ vok x.k = true ∧ ReadsV H.abs x.s x.next ∧ ∀ v ∈ x.next, vok v = true := by
  unfold dnode at h
  split at h
  · rename_i kc t gn nm s b
    split at h
    · cases h
    · rename_i k hk
      split at h
      · cases h
      · rename_i nx hnx
        cases h
        obtain ⟨k1, k2⟩ := dvert_ok hk
        obtain ⟨s1, s2⟩ := dslice_ok hnx
        exact ⟨by rw [k2]; rfl, k1, s1, s2⟩
  · cases h

noncomputable def dnodes (H : CH) : List MapEntry → Option (List NE)
  | [] => some []
  | e :: es => match dnode H e with
    | none => none
    | some x => match dnodes H es with
      | none => none
      | some G => some (x :: G)

theorem dnodes_ok {H : CH} : ∀ {es : List MapEntry} {G : List NE}, dnodes H es = some G → es = vents (G.map NE.ve) ∧ ∀ x ∈ G, vok x.k = true ∧ ReadsV H.abs x.s x.next ∧ ∀ v ∈ x.next, vok v = true
  | [], G, h => by unfold dnodes at h; cases h; exact ⟨rfl, fun x hx => by simp at hx⟩
  | e :: es, G, h => by
    unfold dnodes at h
    split at h
    · cases h
    · rename_i x hx
      split at h
      · cases h
      · rename_i G' hG
        cases h
        obtain ⟨h1, h2⟩ := dnodes_ok hG
        obtain ⟨k1, k2⟩ := dnode_ok hx
        refine ⟨by rw [k1, h1]; rfl, fun y hy => ?_⟩
        rcases List.mem_cons.1 hy with rfl | hy
        · exact k2
        · exact h2 y hy

/-- no key, no stamp is there twice; the stamps are before the clock -/
def freeK (k : List Int) (b : Nat) : List NE → Bool
  | [] => true
  | x :: G => match leq x.k k with
    | true => false
    | false => match Nat.beq x.b b with
      | true => false
      | false => freeK k b G
def uniq (c : Nat) : List NE → Bool
  | [] => true
  | x :: G => match freeK x.k x.b G with
    | false => false
    | true => match Nat.blt x.b c with
      | false => false
      | true => uniq c G

theorem freeK_ok {k : List Int} {b : Nat} : ∀ {G : List NE}, freeK k b G = true → k ∉ G.map (·.k) ∧ b ∉ G.map (·.b)
  | [], _ => by simp
  | x :: G, h => by
    unfold freeK at h
    split at h
    · cases h
    · rename_i h1
      split at h
      · cases h
      · rename_i h2
        obtain ⟨h3, h4⟩ := freeK_ok h
        rw [leq_eq] at h1
        have h1 : ¬ x.k = k := by simpa using h1
        have h2 : ¬ x.b = b := by intro e; subst e; simp at h2
        simp only [List.map_cons, List.mem_cons, not_or]
        exact ⟨⟨fun e => h1 e.symm, h3⟩, ⟨fun e => h2 e.symm, h4⟩⟩

theorem uniq_ok {c : Nat} : ∀ {G : List NE}, uniq c G = true → (G.map (·.k)).Nodup ∧ (G.map (·.b)).Nodup ∧ ∀ x ∈ G, x.b < c
  | [], _ => by simp
  | x :: G, h => by
    unfold uniq at h
    split at h
    · cases h
    · rename_i h1
      split at h
      · cases h
      · rename_i h2
        obtain ⟨h3, h4, h5⟩ := uniq_ok h
        obtain ⟨k1, k2⟩ := freeK_ok h1
        simp only [List.map_cons, List.nodup_cons]
        refine ⟨⟨k1, h3⟩, ⟨k2, h4⟩, fun y hy => ?_⟩
        rcases List.mem_cons.1 hy with rfl | hy
        · exact blt_of h2
        · exact h5 y hy

/-- the nodes of a map of memory -/
noncomputable def dgraph (H : CH) (m : Nat) : Option (List NE) :=
  match Nat.blt m H.n with
  | false => none
  | true => match H.t.get m with
    | some (.map es c) => match dnodes H es with
      | none => none
      | some G => match uniq c G with
        | false => none
        | true => match Nat.ble ((G.length + 1) * (edges G + 1)) 1000000000 with
          | false => none
          | true => some G
    | _ => none

theorem dgraph_ok {H : CH} {m : Nat} {G : List NE} (h : dgraph H m = some G) : (∃ c, NodesA H.abs m c G) ∧ (G.length + 1) * (edges G + 1) ≤ 1000000000 := by
  unfold dgraph at h
  split at h
  · cases h
  · rename_i hm
    have hm := blt_of hm
    split at h
    · rename_i es c hes
      split at h
      · cases h
      · rename_i G' hG
        split at h
        · cases h
        · rename_i hu
          split at h
          · cases h
          · rename_i hb
            cases h
            obtain ⟨h1, h2⟩ := dnodes_ok hG
            obtain ⟨k1, k2, k3⟩ := uniq_ok hu
            refine ⟨⟨c, hm, by rw [CH.abs_f, if_pos hm, hes, h1], ⟨fun x hx => ?_, ?_, ?_, fun x hx => ?_⟩, fun x hx => (h2 x hx).2.1, fun x hx => (h2 x hx).2.2⟩, Nat.le_of_ble_eq_true hb⟩
            · obtain ⟨y, hy, rfl⟩ := List.mem_map.1 hx; exact (h2 y hy).1
            · rw [List.map_map]; exact k1
            · rw [List.map_map]; exact k2
            · obtain ⟨y, hy, rfl⟩ := List.mem_map.1 hx; exact k3 y hy
    · cases h
end Go.AB

/-
  Before, in plain Lean; stacks of vertices.
-/
namespace Go.AB
open Go
set_option linter.unusedSimpArgs false
set_option linter.unusedVariables false

def vroot : List Int := List.replicate 32 0 ++ [-1]

def memL (w : List Int) : List (List Int) → Bool
  | [] => false
  | v :: l => match leq v w with
    | true => true
    | false => memL w l
theorem memL_eq (w : List Int) : ∀ l, memL w l = decide (w ∈ l)
  | [] => by simp [memL]
  | v :: l => by
    unfold memL
    rw [leq_eq, memL_eq w l]
    by_cases h : v = w
    · subst h; simp
    · have : ¬ w = v := fun e => h e.symm
      simp [h, this]

/-- what comes behind a vertex -/
def nextB (G : List NE) (F : List (List Int)) (v : List Int) : List (List Int) :=
  match leq v vroot with
  | true => F
  | false => match findN v G with
    | some x => x.next
    | none => []

/-- the vertices behind one gone through: none: the other one is among them -/
def scanB (b : List Int) : List (List Int) → List (List Int) → List (List Int) → Option (List (List Int) × List (List Int))
  | [], seen, stack => some (seen, stack)
  | w :: ws, seen, stack => match leq w b with
    | true => none
    | false => match memL w seen with
      | true => scanB b ws seen stack
      | false => scanB b ws (w :: seen) (w :: stack)

def dfsB (G : List NE) (F : List (List Int)) (b : List Int) : Nat → List (List Int) → List (List Int) → Option Bool
  | 0, _, _ => none
  | _ + 1, _, [] => some false
  | f + 1, seen, v :: stack => match scanB b (nextB G F v) seen stack with
    | none => some true
    | some (seen', stack') => dfsB G F b f seen' stack'

def hasB (G : List NE) (v : List Int) : Bool := leq v vroot || leq v vend || (findN v G).isSome

def beforeB (G : List NE) (F : List (List Int)) (fuel : Nat) (a b : List Int) : Option Bool :=
  match hasB G a && hasB G b && !leq a b && !leq a vend && !leq b vroot with
  | false => some false
  | true => match leq a vroot || leq b vend with
    | true => some true
    | false => dfsB G F b fuel [a] [a]

/-! ### a stack: its list has the top last -/
inductive Stk (A : AHeap) : Value → List (List Int) → Prop
  | cap (b : Nat) (l junk : List (List Int)) (hb : b < A.n) (h : A.f b = some (.row (vrows (l ++ junk)) .fix)) (h1 : (l ++ junk).length = 1) (hv : ∀ v ∈ l ++ junk, vok v = true) : Stk A (.slice (some ⟨b, 0, none⟩) l.length 1) l
  | held (s : Value) (l junk : List (List Int)) (h : Held A 33 s (l.map vcells) (junk.map vcells)) (hv : ∀ v ∈ l ++ junk, vok v = true) : Stk A s l

theorem Stk.mono {A A' : AHeap} {s : Value} {l : List (List Int)} (h : Stk A s l) (hn : A.n ≤ A'.n) (hf : ∀ b, own s = some b → A'.f b = A.f b) : Stk A' s l := by
  cases h with
  | cap b l junk hb h h1 hv => exact .cap b l junk (Nat.lt_of_lt_of_le hb hn) (by rw [hf b rfl]; exact h) h1 hv
  | held s l junk h hv => exact .held s l junk (h.mono hn hf) hv

theorem Stk.own_lt {A : AHeap} {s : Value} {l : List (List Int)} (h : Stk A s l) {b : Nat} (hb : own s = some b) : b < A.n := by
  cases h with
  | cap b' l junk hb' h h1 hv => cases hb; exact hb'
  | held s l junk h hv => exact h.own_lt hb

theorem Stk.ok {A : AHeap} {s : Value} {l : List (List Int)} (h : Stk A s l) : ∀ v ∈ l, vok v = true := by
  cases h with
  | cap b l junk hb h h1 hv => exact fun v hm => hv v (List.mem_append_left _ hm)
  | held s l junk h hv => exact fun v hm => hv v (List.mem_append_left _ hm)

/-- its form; what lies at a place of it -/
theorem Stk.form {A : AHeap} {s : Value} {l : List (List Int)} (h : Stk A s l) (hne : l ≠ []) : ∃ b c cs k, s = .slice (some ⟨b, 0, none⟩) l.length c ∧ c ≠ ecap ∧ b < A.n ∧ A.f b = some (.row cs k) ∧
    ∀ i, i < l.length → getCells cs (i * 33) 33 = some (vcells (at' [] l i)) := by
  cases h with
  | cap b l junk hb h h1 hv =>
    refine ⟨b, 1, _, _, rfl, by unfold ecap; omega, hb, h, fun i hi => ?_⟩
    rw [vrows_get hv (by simp; omega), at_append_left [] hi]
  | held s l junk h hv =>
    have hL : l.map vcells ≠ [] := by simpa using hne
    have hl : (l.map vcells).length = l.length := List.length_map _
    generalize hls : l.map vcells = ls at h hL hl
    generalize hjs : junk.map vcells = js at h
    cases h with
    | nil => exact absurd rfl hL
    | zero => exact absurd rfl hL
    | grown b ls js hb hf hall =>
      refine ⟨b, ucap, _, _, by rw [hl], by unfold ucap ecap; omega, hb, hf, fun i hi => ?_⟩
      have : (ls ++ js).flatten = vrows (l ++ junk) := by rw [← hls, ← hjs, ← List.map_append]; rfl
      rw [this, vrows_get hv (by simp; omega), at_append_left [] hi]

theorem Stk.len {A : AHeap} {s : Value} {l : List (List Int)} (h : Stk A s l) : ∃ a c, s = .slice a l.length c := by
  cases h with
  | cap b l junk hb h h1 hv => exact ⟨_, _, rfl⟩
  | held s l junk h hv =>
    have hl : (l.map vcells).length = l.length := List.length_map _
    rw [← hl]
    generalize l.map vcells = ls at h
    generalize junk.map vcells = js at h
    cases h with
    | nil => exact ⟨_, _, rfl⟩
    | zero => exact ⟨_, _, rfl⟩
    | grown => exact ⟨_, _, rfl⟩

theorem Stk.pop {P : Program} {A : AHeap} {s : Value} {l : List (List Int)} {x : List Int} {t e : TypeId} (hu : P.underlying t = some (.slice e)) (hs : szOf P e = some 33) (h : Stk A s (l ++ [x])) :
    ∃ s', aslice P A t s none (some (.int .i64 (l.length : Nat))) none = some s' ∧ Stk A s' l ∧ own s' = own s := by
  unfold aslice
  rw [hu]
  cases h with
  | cap b l' junk hb h h1 hv =>
    simp only [hs, show (1 : Nat) < ucap from by decide, if_true]
    have hl : l = [] ∧ junk = [] := by
      simp at h1
      exact ⟨List.eq_nil_of_length_eq_zero (by omega), List.eq_nil_of_length_eq_zero (by omega)⟩
    obtain ⟨rfl, rfl⟩ := hl
    refine ⟨.slice (some ⟨b, 0, none⟩) 0 1, by rfl, ?_, rfl⟩
    exact Stk.cap (l := []) (junk := [x]) b hb (by simpa using h) rfl (by simpa using hv)
  | held s l' junk h hv =>
    have hmap : (l ++ [x]).map vcells = l.map vcells ++ [vcells x] := by simp
    rw [hmap] at h
    generalize hLs : l.map vcells ++ [vcells x] = LS at h
    generalize hJs : junk.map vcells = JS at h
    cases h with
    | nil => simp at hLs
    | zero => simp at hLs
    | grown b LS JS hb hf hall =>
      have hav : avail A b 0 33 = some (LS ++ JS).length := by
        unfold avail
        simp only [hf]
        rw [if_pos (by simp), flat_len hall, Nat.sub_zero, Nat.mul_div_cancel _ (by decide)]
      have hlen : LS.length = l.length + 1 := by rw [← hLs]; simp
      simp only [hs, show ¬ ucap < ucap from Nat.lt_irrefl _, if_false, if_true, hav, show LS.length ≤ (LS ++ JS).length from by simp]
      rw [abounds_nat _ _ _ _ (show l.length ≤ (LS ++ JS).length by simp; omega)]
      refine ⟨_, rfl, ?_, rfl⟩
      have := Held.grown (A := A) (sz := 33) b (l.map vcells) ((x :: junk).map vcells) hb (by
        rw [hf, ← hLs, ← hJs]; simp) (by
        intro y hy
        refine hall y ?_
        rw [← hLs, ← hJs]
        simpa using hy)
      rw [List.length_map] at this
      exact .held _ l (x :: junk) this (by
        intro v hm
        refine hv v ?_
        simp only [List.mem_append, List.mem_cons] at hm ⊢
        rcases hm with h | h | h
        · exact .inl (.inl h)
        · exact .inl (.inr (.inl h))
        · exact .inr h)

theorem Stk.push {P : Program} {A : AHeap} {s xs : Value} {l : List (List Int)} {x : List Int} {st xt : TypeId} (ht : appType P st xt = some (33, 40)) (hx : appCells A 33 xs = some (1, vcells x)) (hv : vok x = true) (h : Stk A s l)
    (hbig : l.length ≤ 1000000000) : ∃ s' A', aappend P A st xt s xs = some (s', A') ∧ Stk A' s' (l ++ [x]) ∧ Grew A A' s s' := by
  have l1 := vcells_len hv
  cases h with
  | held s l' junk h hvj =>
    obtain ⟨s', A', k1, k2, k3⟩ := append1 ht hx l1 (by decide) h (by rw [List.length_map]; unfold room; omega)
    refine ⟨s', A', k1, .held s' (l ++ [x]) (junk.drop 1) (by simpa using k2) ?_, k3⟩
    intro v hm
    simp only [List.mem_append, List.mem_singleton] at hm
    rcases hm with (hm | rfl) | hm
    · exact hvj v (List.mem_append_left _ hm)
    · exact hv
    · exact hvj v (List.mem_append_right _ (List.mem_of_mem_drop hm))
  | cap b l' junk hb h h1 hvj =>
    unfold aappend
    simp only [ht, hx, show (1 : Nat) < ucap from by decide, if_true]
    cases l with
    | nil =>
      obtain ⟨y, rfl⟩ : ∃ y, junk = [y] := by
        match junk, h1 with
        | [y], _ => exact ⟨y, rfl⟩
      simp only [List.length_nil, Nat.zero_add, Nat.le_refl, if_true]
      unfold inPlace
      rw [if_neg Nat.one_ne_zero]
      simp only [h, reduceCtorEq, if_false, Nat.zero_mul, Nat.zero_add, List.nil_append]
      have hp : putCells (vrows [y]) 0 (vcells x) = some (vcells x) := putCells_full (by rw [vrows_one, l1, vcells_len (hvj y (by simp))])
      simp only [hp, Option.map_some]
      refine ⟨_, _, rfl, ?_, ⟨Nat.le_refl _, .inl rfl, ⟨_, rfl⟩, fun i hi hne => AHeap.set_other _ _ (fun e => hne (by rw [e]; rfl))⟩⟩
      have := Stk.cap (A := A.set b (.row (vcells x) .fix)) b [x] [] hb (by rw [AHeap.set_same]; simp [vrows]) rfl (by simpa using hv)
      simpa using this
    | cons y l =>
      have hlj : l = [] ∧ junk = [] := by
        simp only [List.length_append, List.length_cons] at h1
        exact ⟨List.eq_nil_of_length_eq_zero (by omega), List.eq_nil_of_length_eq_zero (by omega)⟩
      obtain ⟨rfl, rfl⟩ := hlj
      have hy := hvj y (by simp)
      have hg : getCells (vrows ([y] ++ [])) 0 (1 * 33) = some (vcells y) := by
        unfold getCells
        rw [List.append_nil, vrows_one, vcells_len hy, if_pos (by omega), List.drop_zero, Nat.one_mul, ← vcells_len hy, List.take_length]
      simp only [List.length_cons, List.length_nil, Nat.zero_add, show ¬ (1 + 1 ≤ 1) from by decide, if_false, show (1 + 1) * 40 ≤ room from by decide, if_true, h, hg, Option.map_some]
      refine ⟨_, _, rfl, ?_, ⟨Nat.le_succ _, .inr ⟨A.n, rfl, Nat.le_refl _⟩, ⟨_, rfl⟩, fun i hi _ => AHeap.push_old _ _ hi⟩⟩
      refine .held _ ([y] ++ [x]) [] ?_ (by simpa using ⟨hy, hv⟩)
      have := Held.grown (A := A.push (.row (vcells y ++ vcells x) (.grown 33))) (sz := 33) A.n [vcells y, vcells x] [] (Nat.lt_succ_self _) (by rw [AHeap.push_new]; simp) (by simp [vcells_len hy, l1])
      simpa using this
end Go.AB
