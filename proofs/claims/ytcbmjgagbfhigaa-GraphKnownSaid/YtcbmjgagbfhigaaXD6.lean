/-
  Rows of cells, handled fast: the operations' functions again, with lists gone through by the plain recursor.
-/
import Derived.Test.YtcbmjgagbfhigaaXD5
namespace Go.AB
open Go
set_option linter.unusedSimpArgs false
set_option linter.unusedVariables false

section
variable {α β : Type}
noncomputable def qlen (l : List α) : Nat := List.rec (motive := fun _ => Nat) 0 (fun _ _ ih => Nat.succ ih) l
theorem qlen_eq : ∀ l : List α, qlen l = l.length
  | [] => rfl
  | _ :: l => congrArg Nat.succ (qlen_eq l)

noncomputable def qapp (a b : List α) : List α := List.rec (motive := fun _ => List α) b (fun x _ ih => x :: ih) a
theorem qapp_eq : ∀ a b : List α, qapp a b = a ++ b
  | [], _ => rfl
  | x :: a, b => congrArg (x :: ·) (qapp_eq a b)

noncomputable def qdrop (n : Nat) (l : List α) : List α := Nat.rec (motive := fun _ => List α → List α) (fun l => l) (fun _ ih l => List.casesOn (motive := fun _ => List α) l [] fun _ xs => ih xs) n l
theorem qdrop_eq : ∀ (n : Nat) (l : List α), qdrop n l = l.drop n
  | 0, l => rfl
  | n + 1, [] => by simp [qdrop]
  | n + 1, x :: l => by
    have := qdrop_eq n l
    simpa [qdrop] using this

noncomputable def qtake (n : Nat) (l : List α) : List α := Nat.rec (motive := fun _ => List α → List α) (fun _ => []) (fun _ ih l => List.casesOn (motive := fun _ => List α) l [] fun x xs => x :: ih xs) n l
theorem qtake_eq : ∀ (n : Nat) (l : List α), qtake n l = l.take n
  | 0, l => by cases l <;> rfl
  | n + 1, [] => by simp [qtake]
  | n + 1, x :: l => by
    have := qtake_eq n l
    simpa [qtake] using this

noncomputable def qall (p : α → Bool) (l : List α) : Bool := List.rec (motive := fun _ => Bool) true (fun x _ ih => match p x with | true => ih | false => false) l
theorem qall_eq (p : α → Bool) : ∀ l : List α, qall p l = l.all p
  | [] => rfl
  | x :: l => by
    have := qall_eq p l
    show (match p x with | true => qall p l | false => false) = _
    rw [this]
    cases h : p x <;> simp [h]

noncomputable def qnth (l : List α) (n : Nat) : Option α := Nat.rec (motive := fun _ => List α → Option α) (fun l => List.casesOn (motive := fun _ => Option α) l none fun x _ => some x) (fun _ ih l => List.casesOn (motive := fun _ => Option α) l none fun _ xs => ih xs) n l
theorem qnth_eq : ∀ (l : List α) (n : Nat), qnth l n = l[n]?
  | [], 0 => rfl
  | [], n + 1 => rfl
  | x :: l, 0 => rfl
  | x :: l, n + 1 => by
    have := qnth_eq l n
    simpa [qnth] using this
end

noncomputable def qgetCells (cs : List Value) (o n : Nat) : Option (List Value) :=
  match Nat.beq o 0 && Nat.beq n (qlen cs) with
  | true => some cs
  | false => match Nat.ble (o + n) (qlen cs) with
    | true => some (qtake n (qdrop o cs))
    | false => none

theorem qgetCells_eq (cs : List Value) (o n : Nat) : qgetCells cs o n = getCells cs o n := by
  unfold qgetCells getCells
  rw [qlen_eq, qtake_eq, qdrop_eq]
  cases h : (Nat.beq o 0 && Nat.beq n cs.length) with
  | true =>
    rw [Bool.and_eq_true] at h
    have h1 := Nat.eq_of_beq_eq_true h.1
    have h2 := Nat.eq_of_beq_eq_true h.2
    subst h1; subst h2
    simp
  | false =>
    simp only
    cases hb : Nat.ble (o + n) cs.length with
    | true => rw [if_pos (Nat.le_of_ble_eq_true hb)]
    | false => rw [if_neg (by intro hle; rw [Nat.ble_eq_true_of_le hle] at hb; cases hb)]

noncomputable def qputCells (cs : List Value) (o : Nat) (vs : List Value) : Option (List Value) :=
  match Nat.beq o 0 && Nat.beq (qlen vs) (qlen cs) with
  | true => some vs
  | false => match Nat.ble (o + qlen vs) (qlen cs) with
    | true => some (qapp (qtake o cs) (qapp vs (qdrop (o + qlen vs) cs)))
    | false => none

theorem qputCells_eq (cs : List Value) (o : Nat) (vs : List Value) : qputCells cs o vs = putCells cs o vs := by
  unfold qputCells putCells
  rw [qlen_eq, qlen_eq, qapp_eq, qapp_eq, qtake_eq, qdrop_eq]
  cases h : (Nat.beq o 0 && Nat.beq vs.length cs.length) with
  | true =>
    rw [Bool.and_eq_true] at h
    have h1 := Nat.eq_of_beq_eq_true h.1
    have h2 := Nat.eq_of_beq_eq_true h.2
    subst h1
    simp [h2]
  | false =>
    simp only
    cases hb : Nat.ble (o + vs.length) cs.length with
    | true => rw [if_pos (Nat.le_of_ble_eq_true hb), List.append_assoc]
    | false => rw [if_neg (by intro hle; rw [Nat.ble_eq_true_of_le hle] at hb; cases hb)]

noncomputable def qacells (v : Value) : Option (List Value) :=
  match v with
  | .agg ⟨l⟩ => match qall scalar l with
    | true => some l
    | false => none
  | v => match scalar v with
    | true => some [v]
    | false => none

theorem qacells_eq (v : Value) : qacells v = acells v := by
  unfold qacells acells
  split
  · rw [qall_eq]; rename_i l; cases h : l.all scalar <;> simp [h]
  · rename_i hv
    cases v <;> first | (rename_i c; cases c; exact absurd rfl (hv _)) | rfl

noncomputable def qload (P : Program) (A : AHeap) (t : TypeId) (v : Value) : Option Value :=
  match v with
  | .pointer (some ⟨i, o, none⟩) => match A.f i with
    | some (.row cs _) => match aggOf P t with
      | some true => match szOf P t with
        | some n => match qgetCells cs o n with
          | some l => some (.agg ⟨l⟩)
          | none => none
        | none => none
      | some false => qnth cs o
      | none => none
    | _ => none
  | _ => none

theorem qload_eq (P : Program) (A : AHeap) (t : TypeId) (v : Value) : qload P A t v = aload P A t v := by
  unfold qload aload
  simp only [qgetCells_eq, qnth_eq]
  split
  · rename_i i o
    simp only
    cases A.f i with
    | none => rfl
    | some ob =>
      cases ob <;> try rfl
      rename_i cs k
      simp only
      cases aggOf P t with
      | none => rfl
      | some b =>
        cases b
        · rfl
        · simp only
          cases szOf P t with
          | none => rfl
          | some n => simp only; cases getCells cs o n <;> rfl
  · rename_i hv
    split
    · exact absurd rfl (hv _ _)
    · rfl

theorem store_mk0 {P : Program} {A : AHeap} {t : TypeId} {i o n : Nat} {cs vs cs' : List Value} {k : Kind} {v : Value} (hs : szOf P t = some n) (hf : A.f i = some (.row cs k)) (hk : k ≠ .ro) (hv : acells v = some vs)
    (hl : vs.length = n) (hp : putCells cs o vs = some cs') : astore P A t (.pointer (some ⟨i, o, none⟩)) v = some (A.set i (.row cs' k)) := by simp [astore, hf, hs, hk, hv, hl, hp]

noncomputable def qstore (P : Program) (A : AHeap) (t : TypeId) (a v : Value) : Option AHeap :=
  match a with
  | .pointer (some ⟨i, o, none⟩) => match A.f i with
    | some (.row cs k) => match (match k with | .ro => true | _ => false) with
      | true => none
      | false => match qacells v with
        | none => none
        | some vs => match szOf P t with
          | none => none
          | some n => match Nat.beq (qlen vs) n with
            | false => none
            | true => match qputCells cs o vs with
              | none => none
              | some cs' => some (A.set i (.row cs' k))
    | _ => none
  | _ => none

theorem qstore_ok {P : Program} {A A' : AHeap} {t : TypeId} {a v : Value} (h : qstore P A t a v = some A') : astore P A t a v = some A' := by
  unfold qstore at h
  split at h
  · split at h
    · rename_i i o cs k hf
      split at h
      · cases h
      · rename_i hk
        split at h
        · cases h
        · rename_i vs hvs
          split at h
          · cases h
          · rename_i n hn
            split at h
            · cases h
            · rename_i hl
              split at h
              · cases h
              · rename_i cs' hp
                cases h
                rw [qacells_eq] at hvs
                rw [qputCells_eq] at hp
                have hl := Nat.eq_of_beq_eq_true hl
                rw [qlen_eq] at hl
                exact store_mk0 hn hf (by intro hk'; subst hk'; cases hk) hvs hl hp
    · cases h
  · cases h

noncomputable def qbox (A : AHeap) (v : Value) : Option (Value × AHeap) :=
  match qacells v with
  | some cs => some (.pointer (some ⟨A.n, 0, none⟩), A.push (.row cs .fix))
  | none => none
theorem qbox_eq (A : AHeap) (v : Value) : qbox A v = abox A v := by
  unfold qbox abox
  rw [qacells_eq]
  cases acells v <;> rfl

noncomputable def qfill (place : Nat → Option (Nat × Nat)) (cells : List Value) (ps : List (Nat × Value)) : Option (List Value) :=
  List.rec (motive := fun _ => List Value → Option (List Value)) (fun cells => some cells)
    (fun p _ ih cells => match place p.1 with
      | none => none
      | some (off, size) => match qacells p.2 with
        | none => none
        | some vs => match Nat.beq (qlen vs) size with
          | false => none
          | true => match qputCells cells off vs with
            | none => none
            | some c => ih c) ps cells

theorem qfill_eq (place : Nat → Option (Nat × Nat)) : ∀ (ps : List (Nat × Value)) (cells : List Value), qfill place cells ps = afill place cells ps
  | [], cells => rfl
  | (i, v) :: ps, cells => by
    have ih := qfill_eq place ps
    show (match place i with
      | none => none
      | some (off, size) => match qacells v with
        | none => none
        | some vs => match Nat.beq (qlen vs) size with
          | false => none
          | true => match qputCells cells off vs with
            | none => none
            | some c => qfill place c ps) = _
    unfold afill
    rw [qacells_eq]
    cases hp : place i with
    | none => rfl
    | some x =>
      obtain ⟨off, size⟩ := x
      simp only
      cases hv : acells v with
      | none => rfl
      | some vs =>
        simp only [qlen_eq, qputCells_eq]
        cases hb : Nat.beq vs.length size with
        | false => rw [if_neg (by intro h; rw [h] at hb; simp at hb)]
        | true =>
          rw [if_pos (Nat.eq_of_beq_eq_true hb)]
          cases putCells cells off vs with
          | none => rfl
          | some c => exact ih c

noncomputable def qbuild (P : Program) (t : TypeId) (parts : List (Nat × Value)) : Option Value :=
  match zcells P t with
  | none => none
  | some z => match P.underlying t with
    | some (.struct _) => match places P t with
      | some ps => match qfill (qnth ps) z parts with
        | some l => some (.agg ⟨l⟩)
        | none => none
      | none => none
    | some (.array _ e) => match szOf P e with
      | some n => match qfill (fun i => some (i * n, n)) z parts with
        | some l => some (.agg ⟨l⟩)
        | none => none
      | none => none
    | _ => none

theorem qbuild_eq (P : Program) (t : TypeId) (parts : List (Nat × Value)) : qbuild P t parts = abuild P t parts := by
  have hn : ∀ ps : List (Nat × Nat), qnth ps = (ps[·]?) := fun ps => by funext i; exact qnth_eq ps i
  unfold qbuild abuild
  cases zcells P t with
  | none => rfl
  | some z =>
    simp only
    cases P.underlying t with
    | none => rfl
    | some d =>
      cases d <;> try rfl
      · rename_i len e
        simp only
        cases szOf P e with
        | none => rfl
        | some n => simp only [qfill_eq]; cases afill (fun i => some (i * n, n)) z parts <;> rfl
      · simp only
        cases places P t with
        | none => rfl
        | some ps => simp only [qfill_eq, hn]; cases afill (ps[·]?) z parts <;> rfl

noncomputable def qapart (P : Program) (t : TypeId) (cs : List Value) (off : Nat) : Option Value :=
  match aggOf P t with
  | some true => match szOf P t with
    | some n => match qgetCells cs off n with
      | some l => some (.agg ⟨l⟩)
      | none => none
    | none => none
  | some false => qnth cs off
  | none => none

theorem qapart_eq (P : Program) (t : TypeId) (cs : List Value) (off : Nat) : qapart P t cs off = apart P t cs off := by
  unfold qapart apart
  cases aggOf P t with
  | none => rfl
  | some b =>
    cases b
    · simp only [qnth_eq]
    · simp only
      cases szOf P t with
      | none => rfl
      | some n => simp only [qgetCells_eq]; cases getCells cs off n <;> rfl

noncomputable def qfield (P : Program) (t : TypeId) (x : Value) (f : Nat) : Option Value :=
  match x with
  | .agg ⟨l⟩ => match fldOf P t f with
    | some (off, ft) => qapart P ft l off
    | none => none
  | _ => none

theorem qfield_eq (P : Program) (t : TypeId) (x : Value) (f : Nat) : qfield P t x f = afield P t x f := by
  unfold qfield afield
  cases x <;> try rfl
  rename_i c
  cases c
  simp only [qapart_eq]
  cases fldOf P t f <;> rfl

/-- an operation, fast -/
noncomputable def qop2 (P : Program) (o : Op) (ev : Operand → Value) (A : AHeap) : Option (Value × AHeap) :=
  match o with
  | .load t a => match qload P A t (ev a) with
    | some v => some (v, A)
    | none => none
  | .store t a x => match qstore P A t (ev a) (ev x) with
    | some A' => some (.tuple ⟨[]⟩, A')
    | none => none
  | .box _ x => qbox A (ev x)
  | .build t ps => match qbuild P t (evParts ev ps) with
    | some v => some (v, A)
    | none => none
  | .field s x f => match qfield P s (ev x) f with
    | some v => some (v, A)
    | none => none
  | o => qop P o ev A

theorem qop2_ok {P : Program} {o : Op} {ev : Operand → Value} {A : AHeap} {r : Value × AHeap} (h : qop2 P o ev A = some r) : aop P o ev A = some r := by
  unfold qop2 at h
  split at h
  · rw [qload_eq] at h
    simp only [aop]
    split at h
    · rename_i hz; rw [hz]; exact h
    · cases h
  · simp only [aop]
    split at h
    · rename_i hz; rw [qstore_ok hz]; exact h
    · cases h
  · rw [qbox_eq] at h; exact h
  · rw [qbuild_eq] at h
    simp only [aop]
    split at h
    · rename_i hz; rw [hz]; exact h
    · cases h
  · rw [qfield_eq] at h
    simp only [aop]
    split at h
    · rename_i hz; rw [hz]; exact h
    · cases h
  · exact qop_ok h

end Go.AB
