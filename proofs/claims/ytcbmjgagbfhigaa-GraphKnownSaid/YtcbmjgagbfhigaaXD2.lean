/-
  The machine: it runs code on memory that is all known, and stops where an order would matter; what it comes to is what the model comes to.
-/
import Derived.Test.YtcbmjgagbfhigaaXE1
namespace Go.AB
open Go
set_option linter.unusedSimpArgs false
set_option linter.unusedVariables false

/-- memory behind an operation that may have changed one block .. -/
def probe1 (H : CH) (b : Option Nat) (B : AHeap) : CH :=
  match b with
  | none => H
  | some i => match Nat.blt i H.n with
    | false => H
    | true => match B.f i with
      | some o => H.set i o
      | none => H

/-- .. and made one -/
def probe (H : CH) (b : Option Nat) (A' : AHeap) : CH :=
  match Nat.beq A'.n H.n with
  | true => probe1 H b A'
  | false => match A'.f H.n with
    | some o => (probe1 H b A').push o
    | none => probe1 H b A'

theorem some_lt {H : CH} {i : Nat} (h : (H.abs.f i).isSome = true) : i < H.n := by
  rw [CH.abs_f] at h
  split at h
  · assumption
  · cases h

theorem blt_true {a b : Nat} (h : a < b) : Nat.blt a b = true := Nat.ble_eq_true_of_le h
theorem blt_of {a b : Nat} (h : Nat.blt a b = true) : a < b := Nat.le_of_ble_eq_true h
theorem blt_false {a b : Nat} (h : ¬ a < b) : Nat.blt a b = false := by
  cases hb : Nat.blt a b with
  | false => rfl
  | true => exact absurd (blt_of hb) h
theorem beq_self (a : Nat) : Nat.beq a a = true := by simp
theorem beq_succ (a : Nat) : Nat.beq (a + 1) a = false := by
  cases h : Nat.beq (a + 1) a with
  | false => rfl
  | true => have := Nat.eq_of_beq_eq_true h; omega

theorem probe1_n (H : CH) (b : Option Nat) (B : AHeap) : (probe1 H b B).n = H.n := by
  unfold probe1
  cases b with
  | none => rfl
  | some i =>
    simp only
    cases Nat.blt i H.n with
    | false => rfl
    | true => simp only; cases B.f i <;> rfl

theorem probe1_abs {H : CH} {b : Option Nat} {A1 : AHeap} (hb : H.n < 1048576) (h1 : A1 = H.abs ∨ ∃ i o, b = some i ∧ i < H.n ∧ A1 = H.abs.set i o) {B : AHeap} (hB : ∀ i, i < H.n → B.f i = A1.f i) :
    (probe1 H b B).abs = A1 := by
  unfold probe1
  rcases h1 with rfl | ⟨i, o, rfl, hi, rfl⟩
  · cases b with
    | none => rfl
    | some i =>
      simp only
      by_cases hi : i < H.n
      · rw [blt_true hi, hB i hi]
        simp only
        cases ho : H.abs.f i with
        | none => rfl
        | some o =>
          simp only
          rw [CH.abs_set H o hi hb]
          refine CH.ext rfl fun j => ?_
          rw [AHeap.set_f]
          split
          · rename_i h; rw [h, ho]
          · rfl
      · rw [blt_false hi]
  · simp only
    rw [blt_true hi, hB i hi, AHeap.set_same]
    simp only
    exact CH.abs_set H o hi hb

theorem probe_abs {H : CH} {b : Option Nat} {A' : AHeap} (hd : Delta H.abs b A') (hb : H.n < 1048576) : (probe H b A').abs = A' := by
  unfold probe
  cases hd with
  | same =>
    rw [CH.abs_n, beq_self]
    exact probe1_abs hb (.inl rfl) fun _ _ => rfl
  | set i o h hs =>
    have hi := some_lt hs
    rw [AHeap.set_n, CH.abs_n, beq_self]
    exact probe1_abs hb (.inr ⟨i, o, h, hi, rfl⟩) fun _ _ => rfl
  | push o =>
    rw [AHeap.push_n, CH.abs_n, beq_succ]
    have hn : (H.abs.push o).f H.n = some o := AHeap.push_new H.abs o
    rw [hn]
    simp only
    have hf := probe1_abs (b := b) hb (.inl rfl) (B := H.abs.push o) fun i hi => AHeap.push_old _ _ hi
    rw [CH.abs_push _ _ (by rw [probe1_n]; exact hb), hf]
  | setPush i o o' h hs =>
    have hi := some_lt hs
    rw [AHeap.push_n, AHeap.set_n, CH.abs_n, beq_succ]
    have hn : ((H.abs.set i o).push o').f H.n = some o' := AHeap.push_new (H.abs.set i o) o'
    rw [hn]
    simp only
    have hf := probe1_abs (b := b) (A1 := H.abs.set i o) hb (.inr ⟨i, o, h, hi, rfl⟩) (B := (H.abs.set i o).push o') fun j hj => AHeap.push_old _ _ hj
    rw [CH.abs_push _ _ (by rw [probe1_n]; exact hb), hf]

/-- the same, brought to normal form -/
noncomputable def probeP {R : Type} (H1 H : CH) (A' : AHeap) (k : CH → R) : R :=
  match Nat.beq A'.n H.n with
  | true => k H1
  | false => match A'.f H.n with
    | some o => fObj o fun o => Tr.putK 21 H1.t H1.n o fun t => fNat (H1.n + 1) fun n => k ⟨n, t⟩
    | none => k H1
noncomputable def probeK {R : Type} (H : CH) (b : Option Nat) (A' : AHeap) (k : CH → R) : R :=
  match b with
  | none => probeP H H A' k
  | some i => match Nat.blt i H.n with
    | false => probeP H H A' k
    | true => match A'.f i with
      | some o => fObj o fun o => fNat i fun i => Tr.putK 21 H.t i o fun t => probeP ⟨H.n, t⟩ H A' k
      | none => probeP H H A' k

theorem probeK_eq {R : Type} (H : CH) (b : Option Nat) (A' : AHeap) (k : CH → R) : probeK H b A' k = k (probe H b A') := by
  have hp : ∀ H1 : CH, probeP H1 H A' k = k (match Nat.beq A'.n H.n with | true => H1 | false => match A'.f H.n with | some o => H1.push o | none => H1) := by
    intro H1
    unfold probeP
    split
    · rfl
    · split
      · rw [fObj_eq, Tr.putK_eq, fNat_eq]; rfl
      · rfl
  unfold probeK probe probe1
  cases b with
  | none => rw [hp]
  | some i =>
    simp only
    cases Nat.blt i H.n with
    | false => simp only; rw [hp]
    | true =>
      simp only
      cases A'.f i with
      | none => simp only; rw [hp]
      | some o => simp only; rw [fObj_eq, fNat_eq, Tr.putK_eq, hp]; rfl

/-- a value that names no block -/
def noRef : Value → Bool
  | .agg c => c.toList.all plain1
  | .tuple c => c.toList.all plain1
  | v => plain1 v

theorem plain1_VR {ρ ρ' : Rho} {v r : Value} (hp : plain1 v = true) (h : VR ρ v r) : VR ρ' v r := by
  have : r = v := by
    cases h <;> simp_all [plain1]
  subst this
  exact plain1_self hp

theorem noRef_VR {ρ ρ' : Rho} {v r : Value} (hp : noRef v = true) (h : VR ρ v r) : VR ρ' v r := by
  cases v with
  | agg c =>
    cases h with
    | agg _ c' hs h =>
      refine .agg _ _ hs fun i v v' h1 h2 => plain1_VR ?_ (h i v v' h1 h2)
      simp only [noRef] at hp
      exact List.all_eq_true.1 hp v (by have := Array.mem_of_getElem? h1; simpa using this)
  | tuple c =>
    cases h with
    | tuple _ c' hs h =>
      refine .tuple _ _ hs fun i v v' h1 h2 => plain1_VR ?_ (h i v v' h1 h2)
      simp only [noRef] at hp
      exact List.all_eq_true.1 hp v (by have := Array.mem_of_getElem? h1; simpa using this)
  | _ => exact plain1_VR (by simpa [noRef] using hp) h

/-- what a call made and nobody holds is gone -/
theorem SimW.drop {P : Program} {g : FuncId} {args : List Value} {A A1 : AHeap} {v : Value} (h : SimW P g args A (fun v' A' => v' = v ∧ A' = A1)) (hu : Unch A A1) (hv : noRef v = true) :
    SimW P g args A (fun v' A' => v' = v ∧ A' = A) := by
  intro ρ w rargs hr ha
  refine (h ρ w rargs hr ha).mono ?_
  rintro r w' ⟨ρ', v', A', ⟨rfl, rfl⟩, h2, h3⟩
  refine ⟨ρ, v', A, ⟨rfl, rfl⟩, noRef_VR hv h2, ⟨Sub.refl _, ⟨hr.lt, ?_, ?_, hr.inj⟩, h3.os, h3.tape, h3.output, h3.size, h3.frame, ?_, fun i e _ h => h, Nat.le_refl _, ?_⟩⟩
  · intro i e hi
    obtain ⟨o, k1, k2⟩ := hr.obj i e hi
    obtain ⟨o', l1, l2⟩ := h3.rel.obj i e (h3.sub i e hi)
    rw [hu i (hr.lt i e hi), k1] at l1
    cases l1
    exact ⟨o, k1, OR.restrict h3.sub k2 l2⟩
  · intro i e hi; exact h3.rel.bnd i e (h3.sub i e hi)
  · intro i e h1 h2; rw [h1] at h2; cases h2
  · intro i e h1 h2; rw [h1] at h2; cases h2

/-! ### the machine -/
abbrev CallF := FuncId → List Value → CH → Option (Value × CH × Nat)

structure FEnt where
  n : Nat
  code : Code
  res : List ResultVar

/-- the least block that was written -/
def lowOf (low : Nat) : Option Nat → Nat
  | none => low
  | some b => match Nat.blt b low with
    | true => b
    | false => low

def still (o : Op) : Bool := !touches o || reads o

/-- one operation: its value, memory, the least block written (of those below 'H.n') -/
noncomputable def stepOp (P : Program) (call : CallF) (o : Op) (T : CT) (H : CH) : Option (Value × CH × Nat) :=
  match opKind o with
  | .call c => match acallee P H.abs T.abs c with
    | some (g, args) => fNat g fun g => fList fV args fun args => call g args H
    | none => none
  | .next it => match anextMap H.abs (aeval T.abs it) with
    | some (r, m, since, seen, _, es, _) => match left es seen with
      | [] => some (.tuple ⟨[.bool false]⟩, H, H.n)
      | [e] => match Nat.blt H.n 1048576 with
        | false => none
        | true => fV (.tuple ⟨[.bool true, e.key, e.val]⟩) fun v => fObj (.iter m since (seen ++ [e.born]) since) fun o => fNat r fun r => Tr.putK 21 H.t r o fun t => some (v, ⟨H.n, t⟩, lowOf H.n (some r))
      | _ => none
    | none => none
  | .other => match qop2 P o (aeval T.abs) H.abs with
    | none => none
    | some (v, A') => fV v fun v => match still o with
      | true => some (v, H, H.n)
      | false => match Nat.blt H.n 1048576 with
        | false => none
        | true => probeK H (touch (aeval T.abs) o) A' fun H' => fNat (lowOf H.n (touch (aeval T.abs) o)) fun low => some (v, H', low)

def cput (n : Nat) (T : CT) (d : Option Tmp) (v : Value) : Option CT :=
  match d with
  | none => some T
  | some d => match Nat.blt d n && Nat.blt d 1048576 with
    | true => some (T.put d v)
    | false => none

/-- .. in normal form -/
noncomputable def cputK {R : Type} (n : Nat) (T : CT) (d : Option Tmp) (v : Value) (k : CT → Option R) : Option R :=
  match d with
  | none => k T
  | some d => match Nat.blt d n && Nat.blt d 1048576 with
    | true => Tr.putK 21 T.t d v fun t => k ⟨T.base, t⟩
    | false => none

theorem cputK_some {R : Type} {n : Nat} {T : CT} {d : Option Tmp} {v : Value} {k : CT → Option R} {r : R} (h : cputK n T d v k = some r) : ∃ T', cput n T d v = some T' ∧ k T' = some r := by
  unfold cputK at h
  unfold cput
  cases d with
  | none => exact ⟨T, rfl, h⟩
  | some d =>
    simp only at h ⊢
    split at h
    · rename_i hb
      rw [Tr.putK_eq] at h
      exact ⟨_, rfl, h⟩
    · cases h

def minN (a b : Nat) : Nat := match Nat.blt a b with | true => a | false => b

noncomputable def runOps (P : Program) (call : CallF) (n : Nat) (ops : Array Oper) : List Oper → CT → CH → Nat → Option (CT × CH × Nat)
  | [], T, H, low => some (T, H, low)
  | o :: os, T, H, low => match awanted ops T.abs o with
    | none => none
    | some false => cputK n T o.dst (.tuple ⟨[]⟩) fun T' => runOps P call n ops os T' H low
    | some true => match stepOp P call o.op T H with
      | none => none
      | some (v, H', l) => cputK n T o.dst v fun T' => fNat (minN l low) fun low => runOps P call n ops os T' H' low

def bars (ops : Array Oper) : List Bool := (List.range ops.size).map (barrier ops [])

noncomputable def runDraw (P : Program) (call : CallF) (n : Nat) (ops : Array Oper) : List Oper → List Bool → CT → CH → Nat → Option (CT × CH × Nat)
  | [], _, T, H, low => some (T, H, low)
  | o :: os, bs, T, H, low => match awanted ops T.abs o with
    | none => none
    | some false => cputK n T o.dst (.tuple ⟨[]⟩) fun T' => runDraw P call n ops os bs.tail T' H low
    | some true => match stepOp P call o.op T H with
      | none => none
      | some (v, H', l) => match Nat.ble H.n l || bs.headD false with
        | false => none
        | true => cputK n T o.dst v fun T' => fNat (minN l low) fun low => runDraw P call n ops os bs.tail T' H' low

abbrev XRes := Exit × CT × CH × Nat

noncomputable def callF (P : Program) (F : FuncId → Option FEnt) (ov : CallF) (rec : Nat → Code → CT → CH → Nat → Option XRes) : CallF := fun g args H =>
  match ov g args H with
  | some r => some r
  | none => match F g with
    | none => none
    | some e => match Nat.ble args.length e.n with
      | false => none
      | true => match rec e.n e.code ⟨args, .nil⟩ H H.n with
        | none => none
        | some (x, T, H', low) => match (match x with | .normal => true | .ret => true | _ => false) with
          | false => none
          | true => match ares P e.res T.abs H'.abs with
            | none => none
            | some v => fV v fun v => match noRef v && Nat.ble H.n low with
              | true => some (v, H, H.n)
              | false => some (v, H', low)

noncomputable def stepC (P : Program) (F : FuncId → Option FEnt) (ov : CallF) (rec : Nat → Code → CT → CH → Nat → Option XRes) (n : Nat) (c : Code) (T : CT) (H : CH) (low : Nat) : Option XRes :=
  match c with
  | .skip => some (.normal, T, H, low)
  | .label _ => some (.normal, T, H, low)
  | .exit id => some (.exit id, T, H, low)
  | .ret => some (.ret, T, H, low)
  | .region _ ops dr => match dr with
    | false => match runOps P (callF P F ov rec) n ops ops.toList T H low with
      | none => none
      | some (T', H', l) => some (.normal, T', H', l)
    | true => match okDraw ops with
      | false => none
      | true => match runDraw P (callF P F ov rec) n ops ops.toList (bars ops) T H low with
        | none => none
        | some (T', H', l) => some (.normal, T', H', l)
  | .seq a b => match rec n a T H low with
    | none => none
    | some (x, T', H', l) => match x with
      | .normal => rec n b T' H' l
      | x => some (x, T', H', l)
  | .cond c a b => match aeval T.abs c with
    | .bool true => rec n a T H low
    | .bool false => rec n b T H low
    | _ => none
  | .block id c => match rec n c T H low with
    | none => none
    | some (x, T', H', l) => match x with
      | .exit id' => match Nat.beq id' id with
        | true => some (.normal, T', H', l)
        | false => some (.exit id', T', H', l)
      | x => some (x, T', H', l)
  | .loop c => match rec n c T H low with
    | none => none
    | some (x, T', H', l) => match x with
      | .normal => rec n (.loop c) T' H' l
      | x => some (x, T', H', l)
  | .scope c => rec n c T H low
  | _ => none

noncomputable def exec (P : Program) (F : FuncId → Option FEnt) (ov : CallF) : Nat → Nat → Code → CT → CH → Nat → Option XRes
  | 0 => fun _ _ _ _ _ => none
  | f + 1 => stepC P F ov (exec P F ov f)

/-! ### it is right -/
structure Ran (P : Program) (H : CH) (low : Nat) (H' : CH) (low' : Nat) : Prop where
  le : low' ≤ low
  same : ∀ i, i < low' → H'.abs.f i = H.abs.f i
  grow : H.n ≤ H'.n

theorem Ran.refl {P : Program} {H : CH} {low : Nat} : Ran P H low H low := ⟨Nat.le_refl _, fun _ _ => rfl, Nat.le_refl _⟩
theorem Ran.trans {P : Program} {H H1 H2 : CH} {l l1 l2 : Nat} (a : Ran P H l H1 l1) (b : Ran P H1 l1 H2 l2) : Ran P H l H2 l2 :=
  ⟨Nat.le_trans b.le a.le, fun i hi => (b.same i hi).trans (a.same i (Nat.lt_of_lt_of_le hi b.le)), Nat.le_trans a.grow b.grow⟩

def CallOk (P : Program) (call : CallF) : Prop :=
  ∀ g args H v H' l, call g args H = some (v, H', l) → Ran P H H.n H' l ∧ SimW P g args H.abs (fun v' A' => v' = v ∧ A' = H'.abs)

theorem lowOf_le (low : Nat) (b : Option Nat) : lowOf low b ≤ low := by
  unfold lowOf
  cases b with
  | none => exact Nat.le_refl _
  | some b =>
    simp only
    cases h : Nat.blt b low with
    | true => have := blt_of h; simp only; omega
    | false => exact Nat.le_refl _

theorem lowOf_lt {low b i : Nat} (h : i < lowOf low (some b)) (hi : i < low) : i ≠ b := by
  unfold lowOf at h
  simp only at h
  intro hib; subst hib
  rw [blt_true hi] at h
  simp only at h
  exact Nat.lt_irrefl _ h

theorem delta_same {A A' : AHeap} {b : Option Nat} (h : Delta A b A') {i : Nat} (hi : i < lowOf A.n b) : A'.f i = A.f i := by
  have hlt : i < A.n := Nat.lt_of_lt_of_le hi (lowOf_le _ _)
  cases h with
  | same => rfl
  | push o => exact AHeap.push_old _ _ hlt
  | set j o hb hs => subst hb; exact AHeap.set_other _ _ (lowOf_lt hi hlt)
  | setPush j o o' hb hs =>
    subst hb
    rw [AHeap.push_old _ _ (by exact hlt)]
    exact AHeap.set_other _ _ (lowOf_lt hi hlt)

theorem delta_grow {A A' : AHeap} {b : Option Nat} (h : Delta A b A') : A.n ≤ A'.n := by
  cases h <;> simp

theorem still_same {P : Program} {o : Op} {ev : Operand → Value} {A A' : AHeap} {v : Value} (hs : still o = true) (h : aop P o ev A = some (v, A')) : A' = A := by
  unfold still at hs
  cases ht : touches o with
  | false => exact (pure_aop ht h).1
  | true =>
    rw [ht] at hs
    simp at hs
    cases o <;> simp [reads] at hs <;> exact map_same h

theorem stepOp_ok {P : Program} {call : CallF} (hc : CallOk P call) {o : Oper} {T : CT} {H H' : CH} {v : Value} {l : Nat} (h : stepOp P call o.op T H = some (v, H', l)) :
    Ran P H H.n H' l ∧ aop1 P o T.abs H.abs (fun v' A' => v' = v ∧ A' = H'.abs) := by
  unfold stepOp at h
  unfold aop1
  cases hk : opKind o.op with
  | call c =>
    rw [hk] at h
    simp only at h ⊢
    cases ha : acallee P H.abs T.abs c with
    | none => rw [ha] at h; cases h
    | some x =>
      rw [ha] at h
      simp only [fNat_eq, fList_eq fV_eq] at h
      obtain ⟨h1, h2⟩ := hc _ _ _ _ _ _ h
      exact ⟨h1, h2⟩
  | next it =>
    rw [hk] at h
    simp only at h ⊢
    cases ha : anextMap H.abs (aeval T.abs it) with
    | none => rw [ha] at h; cases h
    | some x =>
      obtain ⟨r, m, since, seen, last, es, clock⟩ := x
      rw [ha] at h
      simp only at h ⊢
      split at h
      · rename_i hl
        cases h
        refine ⟨Ran.refl, fun v' A' hn => ?_⟩
        cases hn with
        | over _ => exact ⟨rfl, rfl⟩
        | one e he => rw [hl] at he; cases he
      · rename_i e hl
        split at h
        · cases h
        rename_i hb
        simp only [fV_eq, fObj_eq, fNat_eq, Tr.putK_eq] at h
        cases h
        have hr : (H.abs.f r).isSome = true := by
          unfold anextMap at ha
          split at ha
          · split at ha
            · rename_i hf
              split at ha
              · split at ha
                · cases ha; rw [hf]; rfl
                · cases ha
              · cases ha
            · cases ha
          · cases ha
        have hlt := some_lt hr
        have hn : CH.abs ⟨H.n, Tr.put 21 H.t r (.iter m since (seen ++ [e.born]) since)⟩ = _ := CH.abs_set H (.iter m since (seen ++ [e.born]) since) hlt (blt_of hb)
        refine ⟨⟨lowOf_le _ _, fun i hi => ?_, Nat.le_refl _⟩, fun v' A' hx => ?_⟩
        · rw [hn]; exact AHeap.set_other _ _ (lowOf_lt hi (Nat.lt_of_lt_of_le hi (lowOf_le _ _)))
        · cases hx with
          | over h0 => rw [hl] at h0; cases h0
          | one e' he =>
            rw [hl] at he
            have : e' = e := by simpa using he
            subst this
            exact ⟨rfl, hn.symm⟩
      · cases h
  | other =>
    rw [hk] at h
    simp only at h ⊢
    cases hq : qop2 P o.op (aeval T.abs) H.abs with
    | none => rw [hq] at h; cases h
    | some x =>
      obtain ⟨v1, A1⟩ := x
      have ha := qop2_ok hq
      rw [hq] at h
      rw [ha]
      simp only [fV_eq, fNat_eq, probeK_eq] at h ⊢
      split at h
      · rename_i hs
        cases h
        exact ⟨Ran.refl, rfl, still_same hs ha⟩
      · split at h
        · cases h
        · rename_i hb
          cases h
          have hd := aop_delta ha
          have hn : H.n < 1048576 := blt_of hb
          have hp := probe_abs hd hn
          refine ⟨⟨lowOf_le _ _, fun i hi => by rw [hp]; exact delta_same hd hi, ?_⟩, rfl, hp.symm⟩
          have := delta_grow hd
          rw [← hp] at this
          exact this

end Go.AB
