/-
  Heaps in lists: what container/heap's up and down do, in plain Lean.
-/
import Derived.Test.YtcbmjgagbfhigaaXD2
namespace Go.AB
open Go
set_option linter.unusedSimpArgs false
set_option linter.unusedVariables false

/-- a linear order, by a test -/
structure LO {α : Type} (lt : α → α → Bool) : Prop where
  irr : ∀ a, lt a a = false
  trans : ∀ a b c, lt a b = true → lt b c = true → lt a c = true
  tri : ∀ a b, lt a b = false → lt b a = false → a = b

section
variable {α : Type} {lt : α → α → Bool}

theorem LO.asymm (L : LO lt) {a b : α} (h : lt a b = true) : lt b a = false := by
  cases hb : lt b a with
  | false => rfl
  | true => have := L.trans _ _ _ h hb; rw [L.irr] at this; cases this

/-- not behind: goes through -/
theorem LO.le_trans (L : LO lt) {a b c : α} (h : lt b a = false) (k : lt c b = false) : lt c a = false := by
  cases hc : lt c a with
  | false => rfl
  | true =>
    cases hab : lt a b with
    | true => rw [L.trans _ _ _ hc hab] at k; cases k
    | false => rw [L.tri _ _ hab h] at hc; rw [k] at hc; cases hc

/-- a list at a place -/
def at' (d : α) (l : List α) (i : Nat) : α := l.getD i d

def swapL (d : α) (l : List α) (i j : Nat) : List α := (l.set i (at' d l j)).set j (at' d l i)

theorem swapL_len (d : α) (l : List α) (i j : Nat) : (swapL d l i j).length = l.length := by simp [swapL]

theorem at_eq (d : α) {l : List α} {i : Nat} (h : i < l.length) : at' d l i = l[i] := by
  simp [at', List.getD_eq_getElem?_getD, h]

theorem swapL_at (d : α) {l : List α} {i j : Nat} (hi : i < l.length) (hj : j < l.length) (k : Nat) :
    at' d (swapL d l i j) k = if k = j then at' d l i else if k = i then at' d l j else at' d l k := by
  unfold swapL
  simp only [at', List.getD_eq_getElem?_getD, List.getElem?_set]
  by_cases h1 : k = j
  · subst h1; simp [hj]
  · rw [if_neg (fun h => h1 h.symm), if_neg h1]
    by_cases h2 : k = i
    · subst h2; simp [hi]
    · rw [if_neg (fun h => h2 h.symm), if_neg h2]

theorem swapL_perm (d : α) {l : List α} {i j : Nat} (hi : i < l.length) (hj : j < l.length) : (swapL d l i j).Perm l := by
  unfold swapL
  rw [at_eq d hi, at_eq d hj]
  exact List.set_set_perm hi hj

/-! ### up -/
def upL (lt : α → α → Bool) (d : α) : Nat → List α → Nat → List α
  | 0, l, _ => l
  | f + 1, l, j => if (j - 1) / 2 = j then l else if lt (at' d l j) (at' d l ((j - 1) / 2)) then upL lt d f (swapL d l ((j - 1) / 2) j) ((j - 1) / 2) else l

/-- the least n cells are a heap -/
def HeapL (lt : α → α → Bool) (d : α) (n : Nat) (l : List α) : Prop := ∀ k, 0 < k → k < n → lt (at' d l k) (at' d l ((k - 1) / 2)) = false

theorem upL_len (d : α) : ∀ (f : Nat) (l : List α) (j : Nat), (upL lt d f l j).length = l.length
  | 0, l, j => rfl
  | f + 1, l, j => by
    unfold upL
    split
    · rfl
    · split
      · rw [upL_len d f, swapL_len]
      · rfl

theorem upL_perm (d : α) : ∀ (f : Nat) (l : List α) (j : Nat), j < l.length → (upL lt d f l j).Perm l
  | 0, l, j, _ => List.Perm.refl _
  | f + 1, l, j, h => by
    unfold upL
    split
    · exact List.Perm.refl _
    · split
      · exact (upL_perm d f _ _ (by rw [swapL_len]; omega)).trans (swapL_perm d (by omega) h)
      · exact List.Perm.refl _

theorem upL_heap (L : LO lt) (d : α) : ∀ (f : Nat) (l : List α) (j : Nat), j < f → j < l.length →
    (∀ k, 0 < k → k < l.length → k ≠ j → lt (at' d l k) (at' d l ((k - 1) / 2)) = false) →
    (∀ k, 0 < k → k < l.length → (k - 1) / 2 = j → 0 < j → lt (at' d l k) (at' d l ((j - 1) / 2)) = false) →
    HeapL lt d l.length (upL lt d f l j)
  | 0, l, j, h, _, _, _ => by omega
  | f + 1, l, j, hf, hj, h1, h2 => by
    unfold upL
    split
    · rename_i h0
      have : j = 0 := by omega
      subst this
      intro k hk hkn
      exact h1 k hk hkn (by omega)
    · rename_i h0
      have hj0 : 0 < j := by omega
      split
      · rename_i hlt
        have hi : (j - 1) / 2 < l.length := by omega
        have hlen := swapL_len d l ((j - 1) / 2) j
        have hat := swapL_at d hi hj
        generalize hi' : (j - 1) / 2 = i at *
        have key := upL_heap L d f (swapL d l i j) i (by omega) (by rw [hlen]; exact hi) ?_ ?_
        · rw [hlen] at key; exact key
        · intro k hk hkn hki
          rw [hlen] at hkn
          rw [hat, hat]
          by_cases hkj : k = j
          · subst hkj
            rw [if_pos rfl, hi', if_neg (by omega), if_pos rfl]
            exact L.asymm hlt
          · rw [if_neg hkj, if_neg hki]
            by_cases hp : (k - 1) / 2 = j
            · rw [if_pos hp, ← hi']
              exact hi' ▸ h2 k hk hkn hp hj0
            · rw [if_neg hp]
              by_cases hpi : (k - 1) / 2 = i
              · rw [if_pos hpi]
                have hki' := h1 k hk hkn hkj
                rw [hpi] at hki'
                cases hc : lt (at' d l k) (at' d l j) with
                | false => rfl
                | true => rw [L.trans _ _ _ hc hlt] at hki'; cases hki'
              · rw [if_neg hpi]; exact h1 k hk hkn hkj
        · intro k hk hkn hpi hi0
          rw [hlen] at hkn
          rw [hat, hat]
          have hne : ((i - 1) / 2) ≠ i := by omega
          have hne2 : ((i - 1) / 2) ≠ j := by omega
          rw [if_neg hne2, if_neg hne]
          have hii := h1 i hi0 hi (by omega)
          by_cases hkj : k = j
          · rw [if_pos hkj]; exact hii
          · rw [if_neg hkj, if_neg (by omega)]
            have hki' := h1 k hk hkn hkj
            rw [hpi] at hki'
            exact L.le_trans hii hki'
      · rename_i hlt
        intro k hk hkn
        by_cases hkj : k = j
        · subst hkj; simpa using hlt
        · exact h1 k hk hkn hkj

/-! ### down -/
/-- the child to go to -/
def kid (lt : α → α → Bool) (d : α) (l : List α) (i n : Nat) : Nat :=
  if 2 * i + 2 < n ∧ lt (at' d l (2 * i + 2)) (at' d l (2 * i + 1)) = true then 2 * i + 2 else 2 * i + 1

def downL (lt : α → α → Bool) (d : α) (n : Nat) : Nat → List α → Nat → List α
  | 0, l, _ => l
  | f + 1, l, i => if n ≤ 2 * i + 1 then l else if lt (at' d l (kid lt d l i n)) (at' d l i) then downL lt d n f (swapL d l i (kid lt d l i n)) (kid lt d l i n) else l

theorem kid_or (d : α) (l : List α) (i n : Nat) : kid lt d l i n = 2 * i + 1 ∨ kid lt d l i n = 2 * i + 2 := by
  unfold kid; split <;> simp
theorem kid_lt (d : α) {l : List α} {i n : Nat} (h : 2 * i + 1 < n) : kid lt d l i n < n := by
  unfold kid; split
  · rename_i h2; exact h2.1
  · exact h

/-- the other child is not before it -/
theorem kid_least (L : LO lt) (d : α) {l : List α} {i n k : Nat} (hk : 0 < k) (hkn : k < n) (hp : (k - 1) / 2 = i) : lt (at' d l k) (at' d l (kid lt d l i n)) = false := by
  have : k = 2 * i + 1 ∨ k = 2 * i + 2 := by omega
  unfold kid
  split
  · rename_i h
    rcases this with rfl | rfl
    · exact L.asymm h.2
    · exact L.irr _
  · rename_i h
    rcases this with rfl | rfl
    · exact L.irr _
    · cases hc : lt (at' d l (2 * i + 2)) (at' d l (2 * i + 1)) with
      | false => rfl
      | true => exact (h ⟨hkn, hc⟩).elim

theorem downL_len (d : α) (n : Nat) : ∀ (f : Nat) (l : List α) (i : Nat), (downL lt d n f l i).length = l.length
  | 0, l, i => rfl
  | f + 1, l, i => by
    unfold downL
    split
    · rfl
    · split
      · rw [downL_len d n f, swapL_len]
      · rfl

theorem downL_perm (d : α) (n : Nat) : ∀ (f : Nat) (l : List α) (i : Nat), n ≤ l.length → (downL lt d n f l i).Perm l
  | 0, l, i, _ => List.Perm.refl _
  | f + 1, l, i, h => by
    unfold downL
    split
    · exact List.Perm.refl _
    · rename_i hn
      have hk := kid_lt (lt := lt) d (l := l) (i := i) (n := n) (by omega)
      split
      · exact (downL_perm d n f _ _ (by rw [swapL_len]; exact h)).trans (swapL_perm d (by omega) (by omega))
      · exact List.Perm.refl _

/-- cells from n on stay -/
theorem downL_rest (d : α) (n : Nat) : ∀ (f : Nat) (l : List α) (i k : Nat), n ≤ l.length → n ≤ k → at' d (downL lt d n f l i) k = at' d l k
  | 0, l, i, k, _, _ => rfl
  | f + 1, l, i, k, h, hk => by
    unfold downL
    split
    · rfl
    · rename_i hn
      have hkid := kid_lt (lt := lt) d (l := l) (i := i) (n := n) (by omega)
      split
      · rw [downL_rest d n f _ _ k (by rw [swapL_len]; exact h) hk, swapL_at d (by omega) (by omega), if_neg (by omega), if_neg (by omega)]
      · rfl

theorem downL_heap (L : LO lt) (d : α) (n : Nat) : ∀ (f : Nat) (l : List α) (i : Nat), n ≤ i + f → n ≤ l.length →
    (∀ k, 0 < k → k < n → (k - 1) / 2 ≠ i → lt (at' d l k) (at' d l ((k - 1) / 2)) = false) →
    (∀ k, 0 < k → k < n → (k - 1) / 2 = i → 0 < i → lt (at' d l k) (at' d l ((i - 1) / 2)) = false) →
    HeapL lt d n (downL lt d n f l i)
  | 0, l, i, hf, hl, h1, h2 => by
    intro k hk hkn
    exact h1 k hk hkn (by omega)
  | f + 1, l, i, hf, hl, h1, h2 => by
    unfold downL
    split
    · intro k hk hkn
      exact h1 k hk hkn (by omega)
    · rename_i hn
      have hkid := kid_lt (lt := lt) d (l := l) (i := i) (n := n) (by omega)
      have hor := kid_or (lt := lt) d l i n
      have hle := fun (k : Nat) (a : 0 < k) (b : k < n) (c : (k - 1) / 2 = i) => kid_least L d (l := l) a b c
      generalize kid lt d l i n = j at *
      split
      · rename_i hlt
        have hat := swapL_at d (l := l) (i := i) (j := j) (by omega) (by omega)
        have hlen := swapL_len d l i j
        refine downL_heap L d n f _ j (by omega) (by rw [hlen]; exact hl) ?_ ?_
        · intro k hk hkn hp
          rw [hat, hat]
          by_cases hkj : k = j
          · subst hkj
            have hpi : (k - 1) / 2 = i := by omega
            rw [if_pos rfl, hpi, if_neg (by omega), if_pos rfl]
            exact L.asymm hlt
          · rw [if_neg hkj, if_neg hp]
            by_cases hki : k = i
            · subst hki
              rw [if_pos rfl, if_neg (by omega)]
              exact h2 j (by omega) hkid (by omega) hk
            · rw [if_neg hki]
              by_cases hpi : (k - 1) / 2 = i
              · rw [if_pos hpi]; exact hle k hk hkn hpi
              · rw [if_neg hpi]; exact h1 k hk hkn hpi
        · intro k hk hkn hp hj0
          have hpj : (j - 1) / 2 = i := by omega
          rw [hat, hat, hpj, if_neg (by omega), if_neg (by omega), if_neg (by omega), if_pos rfl]
          have := h1 k hk hkn (by omega)
          rw [hp] at this
          exact this
      · rename_i hlt
        have hlt : lt (at' d l j) (at' d l i) = false := by simpa using hlt
        intro k hk hkn
        by_cases hpi : (k - 1) / 2 = i
        · rw [hpi]
          exact L.le_trans hlt (hle k hk hkn hpi)
        · exact h1 k hk hkn hpi

/-! ### Push and Pop -/
theorem HeapL.least (L : LO lt) {d : α} {n : Nat} {l : List α} (h : HeapL lt d n l) : ∀ k, k < n → lt (at' d l k) (at' d l 0) = false := by
  intro k
  induction k using Nat.strongRecOn with
  | _ k ih =>
    intro hk
    by_cases h0 : k = 0
    · subst h0; exact L.irr _
    · exact L.le_trans (ih ((k - 1) / 2) (by omega) (by omega)) (h k (by omega) hk)

def pushL (lt : α → α → Bool) (d : α) (l : List α) (x : α) : List α := upL lt d (l.length + 1) (l ++ [x]) l.length

theorem at_append_left (d : α) {l m : List α} {k : Nat} (h : k < l.length) : at' d (l ++ m) k = at' d l k := by
  simp [at', List.getD_eq_getElem?_getD, List.getElem?_append_left h]

theorem pushL_heap (L : LO lt) (d : α) {l : List α} (x : α) (h : HeapL lt d l.length l) : HeapL lt d (pushL lt d l x).length (pushL lt d l x) := by
  unfold pushL
  rw [upL_len]
  refine upL_heap L d _ _ _ (by omega) (by simp) ?_ ?_
  · intro k hk hkn hne
    simp at hkn
    rw [at_append_left d (by omega), at_append_left d (by omega)]
    exact h k hk (by omega)
  · intro k hk hkn hp h0
    simp at hkn
    omega

theorem pushL_perm (d : α) (l : List α) (x : α) : (pushL lt d l x).Perm (x :: l) := by
  unfold pushL
  refine (upL_perm d _ _ _ (by simp)).trans ?_
  exact (List.perm_append_comm (l₁ := l) (l₂ := [x]))

/-- the list behind Pop's down: the least at the end -/
def popL (lt : α → α → Bool) (d : α) (l : List α) : List α := downL lt d (l.length - 1) (l.length) (swapL d l 0 (l.length - 1)) 0

theorem popL_len (d : α) (l : List α) : (popL lt d l).length = l.length := by unfold popL; rw [downL_len, swapL_len]

theorem popL_last (d : α) {l : List α} (h : l ≠ []) : at' d (popL lt d l) (l.length - 1) = at' d l 0 := by
  have hl : 0 < l.length := List.length_pos_iff.2 h
  unfold popL
  rw [downL_rest d _ _ _ _ _ (by rw [swapL_len]; omega) (Nat.le_refl _), swapL_at d hl (by omega), if_pos rfl]

theorem popL_perm (d : α) {l : List α} (h : l ≠ []) : (popL lt d l).Perm l := by
  have hl : 0 < l.length := List.length_pos_iff.2 h
  unfold popL
  exact (downL_perm d _ _ _ _ (by rw [swapL_len]; omega)).trans (swapL_perm d hl (by omega))

theorem popL_heap (L : LO lt) (d : α) {l : List α} (h : l ≠ []) (hh : HeapL lt d l.length l) : HeapL lt d (l.length - 1) (popL lt d l) := by
  have hl : 0 < l.length := List.length_pos_iff.2 h
  unfold popL
  refine downL_heap L d _ _ _ _ (by omega) (by rw [swapL_len]; omega) ?_ (by omega)
  intro k hk hkn hp
  rw [swapL_at d hl (by omega), swapL_at d hl (by omega), if_neg (by omega), if_neg (by omega), if_neg (by omega), if_neg (by omega)]
  exact hh k hk (by omega)

theorem HeapL.take {d : α} {n : Nat} {l : List α} (h : HeapL lt d n l) (hn : n ≤ l.length) : HeapL lt d (l.take n).length (l.take n) := by
  intro k hk hkn
  rw [List.length_take] at hkn
  have : ∀ j, j < n → at' d (l.take n) j = at' d l j := fun j hj => by
    simp [at', List.getD_eq_getElem?_getD, List.getElem?_take, hj]
  rw [this k (by omega), this _ (by omega)]
  exact h k hk (by omega)

theorem popL_split (d : α) {l : List α} (h : l ≠ []) : popL lt d l = (popL lt d l).take (l.length - 1) ++ [at' d l 0] := by
  have hl : 0 < l.length := List.length_pos_iff.2 h
  have hlen := popL_len (lt := lt) d l
  rw [← popL_last (lt := lt) d h]
  conv => lhs; rw [← List.take_append_drop (l.length - 1) (popL lt d l)]
  congr 1
  rw [at_eq d (by omega)]
  apply List.ext_getElem
  · simp; omega
  · intro i h1 h2
    simp at h2
    subst h2
    simp

theorem LO.least_of (L : LO lt) {d : α} {l : List α} (h : HeapL lt d l.length l) : ∀ x ∈ l, lt x (at' d l 0) = false := by
  intro x hx
  obtain ⟨i, hi, rfl⟩ := List.getElem_of_mem hx
  have := h.least L i hi
  rwa [at_eq d hi] at this
end

/-! ### the order of lists of numbers -/
def ilt (a b : Int) : Bool := match a, b with
  | .ofNat m, .ofNat n => Nat.blt m n
  | .ofNat _, .negSucc _ => false
  | .negSucc _, .ofNat _ => true
  | .negSucc m, .negSucc n => Nat.blt n m

theorem ilt_eq (a b : Int) : ilt a b = decide (a < b) := by
  have h : ∀ m n : Nat, Nat.blt m n = decide (m < n) := by
    intro m n
    by_cases hx : m < n
    · rw [blt_true hx]; simp [hx]
    · cases hb : Nat.blt m n with
      | false => simp [hx]
      | true => exact absurd (blt_of hb) hx
  cases a <;> cases b <;> simp only [ilt, h]
  · rename_i a b; congr 1; simp
  · symm; simp; omega
  · symm; simp; omega
  · rename_i a b; congr 1; simp; omega

def llt : List Int → List Int → Bool
  | a :: x, b :: y => match ilt a b with
    | true => true
    | false => match ilt b a with
      | true => false
      | false => llt x y
  | [], _ :: _ => true
  | _, [] => false

theorem llt_cons (a b : Int) (x y : List Int) : llt (a :: x) (b :: y) = if a < b then true else if b < a then false else llt x y := by
  simp only [llt, ilt_eq]
  by_cases h : a < b
  · simp [h]
  · by_cases h2 : b < a <;> simp [h, h2]

theorem llt_lo : LO llt where
  irr := fun a => by
    induction a with
    | nil => rfl
    | cons a x ih => rw [llt_cons]; simp [ih]
  trans := fun a => by
    induction a with
    | nil =>
      intro b c h k
      cases c with
      | nil => cases b <;> simp [llt] at h k
      | cons c z => rfl
    | cons a x ih =>
      intro b c h k
      cases b with
      | nil => simp [llt] at h
      | cons b y =>
        cases c with
        | nil => simp [llt] at k
        | cons c z =>
          rw [llt_cons] at h k ⊢
          by_cases h1 : a < b
          · by_cases k1 : b < c
            · rw [if_pos (by omega)]
            · rw [if_neg k1] at k
              by_cases k2 : c < b
              · rw [if_pos k2] at k; cases k
              · rw [if_pos (by omega)]
          · rw [if_neg h1] at h
            by_cases h2 : b < a
            · rw [if_pos h2] at h; cases h
            · rw [if_neg h2] at h
              have : a = b := by omega
              subst this
              by_cases k1 : a < c
              · rw [if_pos k1]
              · rw [if_neg k1] at k ⊢
                by_cases k2 : c < a
                · rw [if_pos k2] at k; cases k
                · rw [if_neg k2] at k ⊢
                  exact ih _ _ h k
  tri := fun a => by
    induction a with
    | nil =>
      intro b h k
      cases b with
      | nil => rfl
      | cons b y => simp [llt] at h
    | cons a x ih =>
      intro b h k
      cases b with
      | nil => simp [llt] at k
      | cons b y =>
        rw [llt_cons] at h k
        by_cases h1 : a < b
        · rw [if_pos h1] at h; cases h
        · rw [if_neg h1] at h
          by_cases h2 : b < a
          · rw [if_pos h2] at k; cases k
          · rw [if_neg h2, if_neg h1] at k
            rw [if_neg h2] at h
            rw [ih y h k, show a = b by omega]

end Go.AB
