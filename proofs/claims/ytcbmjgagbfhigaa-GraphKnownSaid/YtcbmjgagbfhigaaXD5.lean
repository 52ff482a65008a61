/-
  Keys, checked fast: the cells of a type of key, one by one.
-/
import Derived.Test.YtcbmjgagbfhigaaXD1
namespace Go.AB
open Go
set_option linter.unusedSimpArgs false
set_option linter.unusedVariables false

inductive Cty where
  | bool
  | int (q : IntKind)
  | str

def fit1 : Cty → Value → Prop
  | .bool, .bool _ => True
  | .int q, .int q' n => q' = q ∧ (Lit.int q n).wf = true
  | .str, .string s => s.size ≤ maxLen
  | _, _ => False

def fitL : List Cty → List Value → Prop
  | [], [] => True
  | a :: l, v :: vs => fit1 a v ∧ fitL l vs
  | _, _ => False

theorem fitL_len : ∀ {l : List Cty} {vs : List Value}, fitL l vs → l.length = vs.length
  | [], [], _ => rfl
  | _ :: l, _ :: vs, h => by simp [fitL_len h.2]
  | [], _ :: _, h => h.elim
  | _ :: _, [], h => h.elim

theorem fitL_append : ∀ {a b : List Cty} {vs : List Value}, fitL (a ++ b) vs → fitL a (vs.take a.length) ∧ fitL b (vs.drop a.length)
  | [], b, vs, h => ⟨by simp [fitL], by simpa using h⟩
  | x :: a, b, v :: vs, h => by
    obtain ⟨h1, h2⟩ := h
    obtain ⟨k1, k2⟩ := fitL_append (a := a) h2
    exact ⟨⟨h1, k1⟩, k2⟩
  | _ :: _, _, [], h => h.elim

def layFs (P : Program) (lay : TypeId → Option (List Cty)) : Nat → List Field → Option (List Cty)
  | _, [] => some []
  | off, f :: fs => match lay f.type with
    | none => none
    | some l => if f.offset = off ∧ l.length = P.cellsOf f.type then (layFs P lay (off + l.length) fs).map (l ++ ·) else none

def layOf (P : Program) : Nat → TypeId → Option (List Cty)
  | 0, _ => none
  | d + 1, t => match P.underlying t with
    | some .bool => some [.bool]
    | some (.int q) => some [.int q]
    | some .string => some [.str]
    | some (.array n e) => match layOf P d e with
      | none => none
      | some l => if l.length = P.cellsOf e ∧ P.cellsOf t = n * l.length then some (List.replicate n l).flatten else none
    | some (.struct fs) => match layFs P (layOf P d) 0 fs.toList with
      | none => none
      | some l => if P.cellsOf t = l.length ∧ fs.all (·.name != "_") = true then some l else none
    | _ => none

theorem mapM_isSome {α β : Type} {f : α → Option β} : ∀ {l : List α}, (∀ x ∈ l, (f x).isSome = true) → (l.mapM f).isSome = true
  | [], _ => by simp
  | x :: l, h => by
    have h1 := h x (by simp)
    have h2 := mapM_isSome (l := l) fun y hy => h y (by simp [hy])
    rw [Option.isSome_iff_exists] at h1 h2
    obtain ⟨a, ha⟩ := h1
    obtain ⟨b, hb⟩ := h2
    simp [List.mapM_cons, ha, hb]

theorem fit_rep {l : List Cty} : ∀ {n : Nat} {cs : List Value}, fitL (List.replicate n l).flatten cs → ∀ i, i < n → fitL l ((cs.drop (i * l.length)).take l.length)
  | 0, cs, _, i, hi => absurd hi (Nat.not_lt_zero _)
  | n + 1, cs, h, i, hi => by
    rw [List.replicate_succ, List.flatten_cons] at h
    obtain ⟨h1, h2⟩ := fitL_append h
    cases i with
    | zero => simpa using h1
    | succ i =>
      have := fit_rep h2 i (by omega)
      rwa [List.drop_drop, show l.length + i * l.length = (i + 1) * l.length by rw [Nat.succ_mul]; omega] at this

theorem fit_fs {P : Program} {lay : TypeId → Option (List Cty)} {cs : List Value} : ∀ {fs : List Field} {off : Nat} {l : List Cty}, layFs P lay off fs = some l → fitL l (cs.drop off) →
    ∀ f ∈ fs, ∃ lf, lay f.type = some lf ∧ fitL lf ((cs.drop f.offset).take (P.cellsOf f.type))
  | [], _, _, _, _, f, hf => by cases hf
  | g :: fs, off, l, h, hc, f, hf => by
    unfold layFs at h
    split at h
    · cases h
    · rename_i lg hg
      split at h
      · rename_i hcond
        obtain ⟨lr, hr, h⟩ := Option.map_eq_some_iff.1 h
        subst h
        obtain ⟨h1, h2⟩ := fitL_append hc
        rcases List.mem_cons.1 hf with rfl | hf
        · refine ⟨lg, hg, ?_⟩
          rw [hcond.1, ← hcond.2]; exact h1
        · rw [List.drop_drop] at h2
          exact fit_fs hr h2 f hf
      · cases h

theorem lay_lits {P : Program} : ∀ {d : Nat} {t : TypeId} {l : List Cty} {cs : List Value}, layOf P d t = some l → fitL l cs → (P.keyLits d t cs).isSome = true
  | 0, _, _, _, h, _ => by simp [layOf] at h
  | d + 1, t, l, cs, h, hc => by
    unfold layOf at h
    unfold Program.keyLits
    split at h
    · rename_i hu
      cases h
      match cs, hc with
      | [v], hc => cases v <;> simp [fitL, fit1] at hc; simp [hu]
      | [], hc => exact hc.elim
      | _ :: _ :: _, hc => exact hc.2.elim
    · rename_i q hu
      cases h
      match cs, hc with
      | [v], hc => cases v <;> simp [fitL, fit1] at hc; simp [hu, hc]
      | [], hc => exact hc.elim
      | _ :: _ :: _, hc => exact hc.2.elim
    · rename_i hu
      cases h
      match cs, hc with
      | [v], hc => cases v <;> simp [fitL, fit1] at hc; simp [hu, hc]
      | [], hc => exact hc.elim
      | _ :: _ :: _, hc => exact hc.2.elim
    · rename_i n e hu
      split at h
      · cases h
      · rename_i le he
        split at h
        · rename_i hcond
          cases h
          have hlen := fitL_len hc
          simp only [hu]
          rw [if_pos (by rw [← hlen, hcond.2]; simp)]
          rw [Option.isSome_map]
          refine mapM_isSome fun i hi => ?_
          rw [← hcond.1]
          exact lay_lits he (fit_rep hc i (by simpa using hi))
        · cases h
    · rename_i fs hu
      split at h
      · cases h
      · rename_i lf hf
        split at h
        · rename_i hcond
          cases h
          have hlen := fitL_len hc
          simp only [hu]
          rw [if_pos ⟨by rw [← hlen, hcond.1], hcond.2⟩]
          rw [Option.isSome_map]
          refine mapM_isSome fun f hfm => ?_
          obtain ⟨l', h1, h2⟩ := fit_fs hf (by simpa using hc) f hfm
          exact lay_lits h1 h2
        · cases h
    · cases h

/-! ### fast -/
def kn : IntKind → Nat
  | .i8 => 0 | .i16 => 1 | .i32 => 2 | .i64 => 3 | .u8 => 4 | .u16 => 5 | .u32 => 6 | .u64 => 7
theorem kn_inj {a b : IntKind} (h : Nat.beq (kn a) (kn b) = true) : a = b := by
  cases a <;> cases b <;> first | rfl | (exact absurd h (by decide))
theorem kn_self (a : IntKind) : Nat.beq (kn a) (kn a) = true := by cases a <;> rfl

def qint (q : IntKind) (n : Int) : Bool :=
  match n with
  | .ofNat m => Nat.ble m (IntKind.max q).toNat
  | .negSucc m => Nat.ble (m + 1) (-(IntKind.min q)).toNat

theorem qint_ok {q : IntKind} {n : Int} (h : qint q n = true) : (Lit.int q n).wf = true := by
  have hmax : 0 ≤ IntKind.max q := by cases q <;> decide
  have hmin : IntKind.min q ≤ 0 := by cases q <;> decide
  unfold qint at h
  simp only [Lit.wf, Bool.and_eq_true, decide_eq_true_eq]
  cases n with
  | ofNat m =>
    simp only at h
    have := Nat.le_of_ble_eq_true h
    simp only [Int.ofNat_eq_natCast]
    omega
  | negSucc m =>
    simp only at h
    have := Nat.le_of_ble_eq_true h
    rw [Int.negSucc_eq]
    omega

def qfit1 (c : Cty) (v : Value) : Bool :=
  match c with
  | .int q => match v with
    | .int q' n => match Nat.beq (kn q') (kn q) with
      | true => qint q n
      | false => false
    | _ => false
  | .bool => match v with
    | .bool _ => true
    | _ => false
  | .str => match v with
    | .string s => Nat.ble s.size maxLen
    | _ => false

theorem qfit1_ok {c : Cty} {v : Value} (h : qfit1 c v = true) : fit1 c v := by
  unfold qfit1 at h
  split at h
  · split at h
    · split at h
      · rename_i hk
        exact ⟨kn_inj hk, qint_ok h⟩
      · cases h
    · cases h
  · split at h
    · trivial
    · cases h
  · split at h
    · exact Nat.le_of_ble_eq_true h
    · cases h

def qfitL : List Cty → List Value → Bool
  | [], vs => match vs with | [] => true | _ => false
  | c :: l, vs => match vs with
    | [] => false
    | v :: vs => match qfit1 c v with
      | true => qfitL l vs
      | false => false

theorem qfitL_ok : ∀ {l : List Cty} {vs : List Value}, qfitL l vs = true → fitL l vs
  | [], [], _ => trivial
  | [], _ :: _, h => by simp [qfitL] at h
  | _ :: _, [], h => by simp [qfitL] at h
  | c :: l, v :: vs, h => by
    simp only [qfitL] at h
    split at h
    · rename_i h1
      exact ⟨qfit1_ok h1, qfitL_ok h⟩
    · cases h

def layQ (P : Program) (t : TypeId) : Option (List Cty) :=
  match wideKey P t with
  | true => match layOf P (P.types.size + 1) t with
    | some l => if l.length = P.cellsOf t then some l else none
    | none => none
  | false => none

def qfitV (l : List Cty) (v : Value) : Bool :=
  match v with
  | .agg ⟨c⟩ => qfitL l c
  | _ => false

theorem fit1_veq {c : Cty} {v : Value} (h : fit1 c v) : veq1 v v = true := by
  unfold fit1 at h
  split at h <;> simp_all [veq1]
theorem fitL_veq : ∀ {l : List Cty} {vs : List Value}, fitL l vs → veqL vs vs = true
  | [], [], _ => rfl
  | [], _ :: _, h => h.elim
  | _ :: _, [], h => h.elim
  | c :: l, v :: vs, h => by simp [veqL, fit1_veq h.1, fitL_veq h.2]

theorem layQ_ok {P : Program} {t : TypeId} {l : List Cty} (h : layQ P t = some l) : wideKey P t = true ∧ layOf P (P.types.size + 1) t = some l ∧ l.length = P.cellsOf t := by
  unfold layQ at h
  split at h
  · rename_i hw
    split at h
    · rename_i l' hl
      split at h
      · rename_i hc; cases h; exact ⟨hw, hl, hc⟩
      · cases h
    · cases h
  · cases h

theorem wide_und {P : Program} {t : TypeId} (h : wideKey P t = true) : (∃ n e, P.underlying t = some (.array n e)) ∨ ∃ fs, P.underlying t = some (.struct fs) := by
  unfold wideKey at h
  simp only [Bool.and_eq_true] at h
  have h1 := h.1.2
  split at h1
  · rename_i hu; exact .inl ⟨_, _, hu⟩
  · rename_i hu; exact .inr ⟨_, hu⟩
  · cases h1

theorem layQ_key {P : Program} {t : TypeId} {l : List Cty} (h : layQ P t = some l) {v : Value} (hv : qfitV l v = true) : keyOk P t v = true := by
  obtain ⟨hw, hl, hc⟩ := layQ_ok h
  unfold qfitV at hv
  split at hv
  · rename_i c
    have hf := qfitL_ok hv
    have hlits := lay_lits hl hf
    have hkt : P.keyType t = true := by
      unfold wideKey at hw
      simp only [Bool.and_eq_true] at hw
      exact hw.1.1.1
    have hlen := fitL_len hf
    have hsz : (Array.mk c).size = P.cellsOf t := by rw [← hc, hlen]; rfl
    unfold keyOk
    rw [Bool.and_eq_true]
    refine ⟨?_, fitL_veq hf⟩
    rcases wide_und hw with ⟨n, e, hu⟩ | ⟨fs, hu⟩
    · simp only [keyOf, hu, hkt, Value.formed, Bool.true_and, hsz, beq_self_eq_true, if_true, Option.isSome_map]
      exact hlits
    · simp only [keyOf, hu, hkt, Value.formed, Bool.true_and, hsz, beq_self_eq_true, if_true, Option.isSome_map]
      exact hlits
  · cases hv

theorem layQ_keyTy {P : Program} {t : TypeId} {l : List Cty} (h : layQ P t = some l) : keyTy P t = true := by
  obtain ⟨hw, hl, hc⟩ := layQ_ok h
  unfold keyTy
  rcases wide_und hw with ⟨n, e, hu⟩ | ⟨fs, hu⟩
  · rw [hu]; exact hw
  · rw [hu]; exact hw

/-! ### equality, fast -/
def ieq (a b : Int) : Bool :=
  match a with
  | .ofNat m => match b with
    | .ofNat n => Nat.beq m n
    | .negSucc _ => false
  | .negSucc m => match b with
    | .ofNat _ => false
    | .negSucc n => Nat.beq m n

theorem natbeq (m n : Nat) : Nat.beq m n = decide (m = n) := by
  cases h : Nat.beq m n with
  | true => simp [Nat.eq_of_beq_eq_true h]
  | false =>
    symm; rw [decide_eq_false_iff_not]
    intro he; subst he; simp at h

theorem ieq_eq (a b : Int) : ieq a b = (a == b) := by
  have hb : (a == b) = decide (a = b) := by cases h : decide (a = b) <;> simp_all
  rw [hb]
  cases a <;> cases b <;> simp [ieq, natbeq]
  omega

def ceq (a b : Value) : Bool :=
  match a with
  | .int k m => match b with
    | .int k' n => match Nat.beq (kn k) (kn k') with
      | true => ieq m n
      | false => false
    | _ => false
  | a => veq1 a b

theorem ceq_eq (a b : Value) : ceq a b = veq1 a b := by
  unfold ceq
  split
  · rename_i k m
    cases b <;> simp [veq1]
    rename_i k' n
    cases hk : Nat.beq (kn k) (kn k') with
    | true => have := kn_inj hk; subst this; simp [ieq_eq]
    | false =>
      have : k ≠ k' := by intro h; subst h; rw [kn_self] at hk; cases hk
      simp [this]
  · rfl

def qeqL : List Value → List Value → Bool
  | [], y => match y with | [] => true | _ => false
  | a :: x, y => match y with
    | [] => false
    | b :: y => match ceq a b with
      | true => qeqL x y
      | false => false

theorem qeqL_eq : ∀ (x y : List Value), qeqL x y = veqL x y
  | [], [] => rfl
  | [], _ :: _ => rfl
  | _ :: _, [] => rfl
  | a :: x, b :: y => by
    simp only [qeqL, veqL, ceq_eq, ← qeqL_eq x y]
    cases veq1 a b <;> rfl

def qeq (a b : Value) : Bool :=
  match a with
  | .agg ⟨x⟩ => match b with
    | .agg ⟨y⟩ => qeqL x y
    | _ => false
  | a => ceq a b

theorem qeq_eq (a b : Value) : qeq a b = veq a b := by
  unfold qeq
  split
  · rename_i x
    cases b <;> simp [veq, veq1]
    rename_i y
    cases y
    simp [qeqL_eq]
  · rename_i hx
    rw [ceq_eq]
    cases a <;> first | (rename_i c; cases c; exact absurd rfl (hx _)) | rfl

def qfind (k : Value) : List MapEntry → Nat → Option (Nat × Value)
  | [], _ => none
  | e :: es, i => match qeq e.key k with
    | true => some (i, e.val)
    | false => qfind k es (i + 1)

theorem qfind_eq (k : Value) : ∀ (es : List MapEntry) (i : Nat), qfind k es i = afind k es i
  | [], _ => rfl
  | e :: es, i => by
    simp only [qfind, afind, qeq_eq, qfind_eq k es (i + 1)]
    cases veq e.key k <;> rfl

/-- the check of a map's keys -/
def qguard (P : Program) (kt : TypeId) (k : Value) (es : List MapEntry) : Bool :=
  match layQ P kt with
  | some l => match qfitV l k with
    | true => es.all fun e => qfitV l e.key
    | false => false
  | none => keyTy P kt && keyOk P kt k && akeysOk P kt es

theorem qguard_ok {P : Program} {kt : TypeId} {k : Value} {es : List MapEntry} (h : qguard P kt k es = true) : (keyTy P kt && keyOk P kt k && akeysOk P kt es) = true := by
  unfold qguard at h
  split at h
  · rename_i l hl
    split at h
    · rename_i hk
      rw [layQ_keyTy hl, layQ_key hl hk, Bool.true_and, Bool.true_and]
      unfold akeysOk
      rw [List.all_eq_true] at h ⊢
      exact fun e he => layQ_key hl (h e he)
    · cases h
  · exact h

def qlookup (P : Program) (A : AHeap) (t : TypeId) (x ix : Value) (ok : Bool) : Option Value :=
  match mapOf P t with
  | none => none
  | some (kt, et) => match aentries A x with
    | none => none
    | some es => match qguard P kt ix es with
      | true => match qfind ix es 0 with
        | some (_, v) => some (match ok with | true => .tuple ⟨[v, .bool true]⟩ | false => v)
        | none => match zval P et with
          | some z => some (match ok with | true => .tuple ⟨[z, .bool false]⟩ | false => z)
          | none => none
      | false => none

theorem qlookup_ok {P : Program} {A : AHeap} {t : TypeId} {x ix v : Value} {ok : Bool} (h : qlookup P A t x ix ok = some v) : alookup P A t x ix ok = some v := by
  unfold qlookup at h
  unfold alookup
  split at h
  · cases h
  · rename_i kt et hm
    rw [hm]
    simp only
    split at h
    · cases h
    · rename_i es he
      rw [he]
      simp only
      split at h
      · rename_i hg
        rw [if_pos (qguard_ok hg)]
        rw [qfind_eq] at h
        split at h
        · rename_i hf; rw [hf]; cases ok <;> exact h
        · rename_i hf; rw [hf]
          split at h
          · rename_i z hz; simp only [hz, Option.map_some]; cases ok <;> exact h
          · cases h
      · cases h

def qmapUpdate (P : Program) (A : AHeap) (t : TypeId) (x k v : Value) : Option AHeap :=
  match mapOf P t with
  | none => none
  | some (kt, _) => match x with
    | .map (some r) => match A.f r with
      | some (.map es clock) => match qguard P kt k es with
        | true => match qfind k es 0 with
          | some (i, _) => some (A.set r (.map (setVal es i v) clock))
          | none => some (A.set r (.map (es ++ [⟨k, v, clock⟩]) (clock + 1)))
        | false => none
      | _ => none
    | _ => none

theorem qmapUpdate_ok {P : Program} {A A' : AHeap} {t : TypeId} {x k v : Value} (h : qmapUpdate P A t x k v = some A') : amapUpdate P A t x k v = some A' := by
  unfold qmapUpdate at h
  unfold amapUpdate
  split at h
  · cases h
  · rename_i kt et hm
    rw [hm]
    split at h
    · rename_i r
      simp only
      split at h
      · rename_i es clock hf
        rw [hf]
        simp only
        split at h
        · rename_i hg
          rw [if_pos (qguard_ok hg), ← qfind_eq]
          exact h
        · cases h
      · cases h
    · cases h

def qmapEntry (P : Program) (A : AHeap) (t : TypeId) (x k : Value) : Option (Value × AHeap) :=
  match mapOf P t with
  | none => none
  | some (kt, et) => match x with
    | .map (some r) => match A.f r with
      | some (.map es clock) => match qguard P kt k es with
        | true => match qfind k es 0 with
          | some (i, v) => (es[i]?).map fun e => (.tuple ⟨[v, goInt e.born]⟩, A.set r (.map (setVal es i v) clock))
          | none => (zval P et).map fun z => (.tuple ⟨[z, goInt clock]⟩, A.set r (.map (es ++ [⟨k, z, clock⟩]) (clock + 1)))
        | false => none
      | _ => none
    | _ => none

theorem qmapEntry_ok {P : Program} {A : AHeap} {t : TypeId} {x k : Value} {r : Value × AHeap} (h : qmapEntry P A t x k = some r) : amapEntry P A t x k = some r := by
  unfold qmapEntry at h
  unfold amapEntry
  split at h
  · cases h
  · rename_i kt et hm
    rw [hm]
    split at h
    · rename_i r
      simp only
      split at h
      · rename_i es clock hf
        rw [hf]
        simp only
        split at h
        · rename_i hg
          rw [if_pos (qguard_ok hg), ← qfind_eq]
          exact h
        · cases h
      · cases h
    · cases h

def qdelete (P : Program) (A : AHeap) (t : TypeId) (x k : Value) : Option AHeap :=
  match mapOf P t with
  | none => none
  | some (kt, _) => match x with
    | .map (some r) => match A.f r with
      | some (.map es clock) => match qguard P kt k es with
        | true => match qfind k es 0 with
          | some (i, _) => some (A.set r (.map (es.eraseIdx i) clock))
          | none => some A
        | false => none
      | _ => none
    | _ => none

theorem qdelete_ok {P : Program} {A A' : AHeap} {t : TypeId} {x k : Value} (h : qdelete P A t x k = some A') : adelete P A t x k = some A' := by
  unfold qdelete at h
  unfold adelete
  split at h
  · cases h
  · rename_i kt et hm
    rw [hm]
    split at h
    · rename_i r
      simp only
      split at h
      · rename_i es clock hf
        rw [hf]
        simp only
        split at h
        · rename_i hg
          rw [if_pos (qguard_ok hg), ← qfind_eq]
          exact h
        · cases h
      · cases h
    · cases h

/-- '==' of structs and arrays -/
def qaeq (P : Program) (t : TypeId) (a b : Value) : Option Bool :=
  match a with
  | .agg ⟨x⟩ => match b with
    | .agg ⟨y⟩ => match layQ P t with
      | some l => match qfitL l x && qfitL l y with
        | true => some (qeqL x y)
        | false => none
      | none => none
    | _ => none
  | _ => none

theorem qaeq_ok {P : Program} {t : TypeId} {a b : Value} {r : Bool} (h : qaeq P t a b = some r) : aeq P t a b = some r := by
  unfold qaeq at h
  split at h
  · rename_i x
    split at h
    · rename_i y
      split at h
      · rename_i l hl
        split at h
        · rename_i hq
          rw [Bool.and_eq_true] at hq
          have k1 := layQ_key hl (v := .agg ⟨x⟩) hq.1
          have k2 := layQ_key hl (v := .agg ⟨y⟩) hq.2
          simp only [aeq, (layQ_ok hl).1, k1, k2, Bool.and_self, if_true]
          rw [qeqL_eq] at h
          exact h
        · cases h
      · cases h
    · cases h
  · cases h

/-- an operation, fast -/
def qop (P : Program) (o : Op) (ev : Operand → Value) (A : AHeap) : Option (Value × AHeap) :=
  match o with
  | .lookup t x i ok => (qlookup P A t (ev x) (ev i) ok).map (·, A)
  | .mapUpdate t m k x => (qmapUpdate P A t (ev m) (ev k) (ev x)).map (.tuple ⟨[]⟩, ·)
  | .insert t m k x => (qmapUpdate P A t (ev m) (ev k) (ev x)).map (.tuple ⟨[]⟩, ·)
  | .mapEntry t m k => qmapEntry P A t (ev m) (ev k)
  | .binOp op t x y z => match op with
    | .eql => match qaeq P t (ev x) (ev y) with
      | some r => some (.bool r, A)
      | none => aop P (.binOp .eql t x y z) ev A
    | .neq => match qaeq P t (ev x) (ev y) with
      | some r => some (.bool !r, A)
      | none => aop P (.binOp .neq t x y z) ev A
    | op => aop P (.binOp op t x y z) ev A
  | o => aop P o ev A

theorem abin_agg {P : Program} {t : TypeId} {a b : Value} {r : Bool} (h : qaeq P t a b = some r) : abin P .eql t a b = some (.bool r) ∧ abin P .neq t a b = some (.bool !r) := by
  have h2 := qaeq_ok h
  unfold qaeq at h
  split at h
  · split at h
    · simp [abin, h2]
    · cases h
  · cases h

theorem qop_ok {P : Program} {o : Op} {ev : Operand → Value} {A : AHeap} {r : Value × AHeap} (h : qop P o ev A = some r) : aop P o ev A = some r := by
  unfold qop at h
  split at h
  · obtain ⟨z, hz, h⟩ := Option.map_eq_some_iff.1 h
    simp only [aop, qlookup_ok hz, Option.map_some, h]
  · obtain ⟨z, hz, h⟩ := Option.map_eq_some_iff.1 h
    simp only [aop, qmapUpdate_ok hz, Option.map_some, h]
  · obtain ⟨z, hz, h⟩ := Option.map_eq_some_iff.1 h
    simp only [aop, qmapUpdate_ok hz, Option.map_some, h]
  · simp only [aop, qmapEntry_ok h]
  · split at h
    · split at h
      · rename_i hq; cases h; simp only [aop, (abin_agg hq).1, Option.map_some]
      · exact h
    · split at h
      · rename_i hq; cases h; simp only [aop, (abin_agg hq).2, Option.map_some]
      · exact h
    · exact h
  · exact h

end Go.AB
