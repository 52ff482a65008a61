/-
  A region that draws its order: one run in the order of the text serves every order.
-/
import Derived.Test.YtcbmjgagbfhigaaXB8
namespace Go.AB
open Go
set_option linter.unusedSimpArgs false
set_option linter.unusedVariables false

/-- the old blocks are as they were -/
def Unch (A A' : AHeap) : Prop := ∀ j, j < A.n → A'.f j = A.f j

theorem Unch.refl (A : AHeap) : Unch A A := fun _ _ => rfl
theorem Unch.push (A : AHeap) (o : AObj) : Unch A (A.push o) := fun j h => AHeap.push_old _ _ h
theorem Unch.trans {A B C : AHeap} (h : Unch A B) (hn : A.n ≤ B.n) (k : Unch B C) : Unch A C := fun j hj => (k j (Nat.lt_of_lt_of_le hj hn)).trans (h j hj)

/-- the blocks of a value lie below a number -/
def Bnd (k : Nat) (v : Value) : Prop := ∃ ρ r, (∀ x, k ≤ x → ρ x = none) ∧ VR ρ v r

abbrev Pend := Nat × Op × Tm × Value

/-- a reader need not read the same behind an operation that stands behind it and in order with all others -/
def drops (ops : Array Oper) (rd : List Nat) (p i : Nat) : Bool := isBefore (preMasks [] ops.toList) p i && barrier ops rd i
def keepP (ops : Array Oper) (rd : List Nat) (i : Nat) (pend : List Pend) : List Pend := pend.filter fun p => !drops ops rd p.1 i

/-- the run in the order of the text. rd: the operations that only read, and read the same at every heap of the region -/
def adrawn (P : Program) (n : Nat) (ops : Array Oper) (rd : List Nat) : List Oper → Nat → Tm → AHeap → List AHeap → List Pend → (Tm → AHeap → Prop) → Prop
  | [], _, t, A, _, _, K => K t A
  | o :: os, i, t, A, hist, pend, K => match awanted ops t o with
    | none => False
    | some false => aput n t o.dst (.tuple ⟨[]⟩) fun t' => adrawn P n ops rd os (i + 1) t' A hist pend K
    | some true =>
      (rd.contains i = true ∧ reads o.op = true ∧ ∃ v, (∀ B ∈ A :: hist, aop P o.op (aeval t) B = some (v, B)) ∧ Bnd A.n v ∧
        aput n t o.dst v fun t' => adrawn P n ops rd os (i + 1) t' A hist ((i, o.op, t, v) :: pend) K) ∨
      (rd.contains i = false ∧ ∃ v A', aop1 P o t A (fun v' A'' => v' = v ∧ A'' = A') ∧ A.n ≤ A'.n ∧ (Unch A A' ∨ barrier ops rd i = true) ∧
        (∀ p ∈ keepP ops rd i pend, aop P p.2.1 (aeval p.2.2.1) A' = some (p.2.2.2, A')) ∧
        aput n t o.dst v fun t' => adrawn P n ops rd os (i + 1) t' A' (A :: hist) (keepP ops rd i pend) K)

/-- one operation of a run -/
structure Good0 (P : Program) (n : Nat) (ops : Array Oper) (rd : List Nat) (R : Nat → Op → Tm → Value → Prop) (T : Nat → Tm) (H : Nat → AHeap) (V : Nat → Value) (i : Nat) (o : Oper) : Prop where
  put : match o.dst with | none => T (i + 1) = T i | some d => d < n ∧ T (i + 1) = upd (T i) d (V i)
  step : (awanted ops (T i) o = some false ∧ V i = .tuple ⟨[]⟩ ∧ H (i + 1) = H i) ∨
    (awanted ops (T i) o = some true ∧ rd.contains i = false ∧ aop1 P o (T i) (H i) (fun v A => v = V i ∧ A = H (i + 1)) ∧ (H i).n ≤ (H (i + 1)).n ∧ (Unch (H i) (H (i + 1)) ∨ barrier ops rd i = true)) ∨
    (awanted ops (T i) o = some true ∧ rd.contains i = true ∧ reads o.op = true ∧ R i o.op (T i) (V i) ∧ Bnd (H i).n (V i) ∧ H (i + 1) = H i)

theorem Good0.mono {P : Program} {n : Nat} {ops : Array Oper} {rd : List Nat} {R R' : Nat → Op → Tm → Value → Prop} {T : Nat → Tm} {H : Nat → AHeap} {V : Nat → Value} {i : Nat} {o : Oper}
    (hR : ∀ a b c, R i a b c → R' i a b c) (h : Good0 P n ops rd R T H V i o) : Good0 P n ops rd R' T H V i o := by
  refine ⟨h.put, ?_⟩
  rcases h.step with h | h | ⟨h1, h2, h3, h4, h5⟩
  · exact .inl h
  · exact .inr (.inl h)
  · exact .inr (.inr ⟨h1, h2, h3, hR _ _ _ h4, h5⟩)

/-- the same at all heaps of a stretch -/
def At (P : Program) (ops : Array Oper) (rd : List Nat) (hist : List AHeap) (H : Nat → AHeap) (lo hi : Nat) (x : Nat) (o : Op) (t : Tm) (v : Value) : Prop :=
  (∀ B ∈ hist, aop P o (aeval t) B = some (v, B)) ∧ ∀ k, lo ≤ k → k ≤ hi → (∀ j, x ≤ j → j < k → drops ops rd x j = false) → aop P o (aeval t) (H k) = some (v, H k)

theorem trace {P : Program} {n : Nat} {ops : Array Oper} {rd : List Nat} {K : Tm → AHeap → Prop} : ∀ (os : List Oper) (i : Nat) (t : Tm) (A : AHeap) (hist : List AHeap) (pend : List Pend),
    (∀ p ∈ pend, aop P p.2.1 (aeval p.2.2.1) A = some (p.2.2.2, A)) → adrawn P n ops rd os i t A hist pend K →
    ∃ (T : Nat → Tm) (H : Nat → AHeap) (V : Nat → Value), T i = t ∧ H i = A ∧ (∀ (j : Nat) o, os[j]? = some o → Good0 P n ops rd (At P ops rd hist H i (i + os.length)) T H V (i + j) o) ∧
      (∀ p ∈ pend, ∀ k, i ≤ k → k ≤ i + os.length → (∀ j, i ≤ j → j < k → drops ops rd p.1 j = false) → aop P p.2.1 (aeval p.2.2.1) (H k) = some (p.2.2.2, H k)) ∧ K (T (i + os.length)) (H (i + os.length))
  | [], i, t, A, hist, pend, hp, h => ⟨fun _ => t, fun _ => A, fun _ => undef, rfl, rfl, fun j o hj => by simp at hj, fun p hpp k _ _ _ => hp p hpp, h⟩
  | o :: os, i, t, A, hist, pend, hp, h => by
    have glue : ∀ (v : Value) (A' : AHeap) (t' : Tm) (hist' : List AHeap) (pend' : List Pend), (match o.dst with | none => t' = t | some d => d < n ∧ t' = upd t d v) →
        (∀ p ∈ pend', aop P p.2.1 (aeval p.2.2.1) A' = some (p.2.2.2, A')) → (∀ p ∈ pend, p ∈ pend' ∨ drops ops rd p.1 i = true) → (∀ B ∈ hist, B ∈ hist') → (A' = A ∨ A ∈ hist') →
        ((awanted ops t o = some false ∧ v = .tuple ⟨[]⟩ ∧ A' = A) ∨
          (awanted ops t o = some true ∧ rd.contains i = false ∧ aop1 P o t A (fun v' A'' => v' = v ∧ A'' = A') ∧ A.n ≤ A'.n ∧ (Unch A A' ∨ barrier ops rd i = true)) ∨
          (awanted ops t o = some true ∧ rd.contains i = true ∧ reads o.op = true ∧ (∀ B ∈ A :: hist, aop P o.op (aeval t) B = some (v, B)) ∧ (i, o.op, t, v) ∈ pend' ∧ Bnd A.n v ∧ A' = A)) →
        adrawn P n ops rd os (i + 1) t' A' hist' pend' K →
        ∃ (T : Nat → Tm) (H : Nat → AHeap) (V : Nat → Value), T i = t ∧ H i = A ∧ (∀ (j : Nat) o', (o :: os)[j]? = some o' → Good0 P n ops rd (At P ops rd hist H i (i + (o :: os).length)) T H V (i + j) o') ∧
          (∀ p ∈ pend, ∀ k, i ≤ k → k ≤ i + (o :: os).length → (∀ j, i ≤ j → j < k → drops ops rd p.1 j = false) → aop P p.2.1 (aeval p.2.2.1) (H k) = some (p.2.2.2, H k)) ∧
          K (T (i + (o :: os).length)) (H (i + (o :: os).length)) := by
      intro v A' t' hist' pend' hpt hp' hpp hhh hAh hs hrest
      obtain ⟨T, H, V, h1, h2, h3, h4, h5⟩ := trace os (i + 1) t' A' hist' pend' hp' hrest
      have hlen : i + (o :: os).length = i + 1 + os.length := by simp; omega
      refine ⟨fun k => if k ≤ i then t else T k, fun k => if k ≤ i then A else H k, fun k => if k ≤ i then v else V k, by simp, by simp, ?_, ?_, ?_⟩
      · intro j o' hj
        cases j with
        | zero =>
          simp at hj; subst hj
          refine ⟨?_, ?_⟩
          · simp only [Nat.add_zero, Nat.le_refl, if_true, if_neg (show ¬ i + 1 ≤ i by omega), h1]
            exact hpt
          · simp only [Nat.add_zero, Nat.le_refl, if_true, if_neg (show ¬ i + 1 ≤ i by omega), h2]
            rcases hs with hs | hs | ⟨a1, a2, a3, a4, a5, a6, a7⟩
            · exact .inl hs
            · exact .inr (.inl hs)
            · refine .inr (.inr ⟨a1, a2, a3, ⟨fun B hB => a4 B (by simp [hB]), fun k hk1 hk2 hl => ?_⟩, a6, a7⟩)
              by_cases hki : k ≤ i
              · simp only [if_pos hki]; exact a4 A (by simp)
              · simp only [if_neg hki]
                exact h4 _ a5 k (by omega) (by omega) (fun j hj1 hj2 => hl j (by omega) hj2)
        | succ j =>
          have g := h3 j o' (by simpa using hj)
          rw [show i + 1 + j = i + (j + 1) by omega] at g
          obtain ⟨g1, g2⟩ := g
          have n1 : ¬ i + (j + 1) ≤ i := by omega
          have n2 : ¬ i + (j + 1) + 1 ≤ i := by omega
          refine ⟨?_, ?_⟩
          · simp only [if_neg n1, if_neg n2]
            exact g1
          · simp only [if_neg n1, if_neg n2]
            rcases g2 with g2 | g2 | ⟨a1, a2, a3, a4, a5, a6⟩
            · exact .inl g2
            · exact .inr (.inl g2)
            · refine .inr (.inr ⟨a1, a2, a3, ⟨fun B hB => a4.1 B (hhh B hB), fun k hk1 hk2 hl => ?_⟩, a5, a6⟩)
              by_cases hki : k ≤ i
              · simp only [if_pos hki]
                rcases hAh with hAh | hAh
                · have := a4.2 (i + 1) (Nat.le_refl _) (by omega) (fun j hj1 hj2 => by omega)
                  rw [h2, hAh] at this; exact this
                · exact a4.1 A hAh
              · simp only [if_neg hki]
                exact a4.2 k (by omega) (by omega) hl
      · intro p hpm k hk1 hk2 hl
        by_cases hki : k ≤ i
        · simp only [if_pos hki]; exact hp p hpm
        · simp only [if_neg hki]
          rcases hpp p hpm with hpp | hpp
          · exact h4 p hpp k (by omega) (by omega) (fun j hj1 hj2 => hl j (by omega) hj2)
          · rw [hl i (Nat.le_refl _) (by omega)] at hpp; cases hpp
      · rw [hlen]
        simp only [if_neg (show ¬ i + 1 + os.length ≤ i by omega)]
        exact h5
    simp only [adrawn] at h
    split at h
    · exact h.elim
    · rename_i hw
      unfold aput at h
      split at h
      · rename_i hd; exact glue _ A t hist pend (by rw [hd]) hp (fun _ h => .inl h) (fun _ h => h) (.inl rfl) (.inl ⟨hw, rfl, rfl⟩) h
      · rename_i d hd; exact glue _ A _ hist pend (by rw [hd]; exact ⟨h.1, rfl⟩) hp (fun _ h => .inl h) (fun _ h => h) (.inl rfl) (.inl ⟨hw, rfl, rfl⟩) h.2
    · rename_i hw
      rcases h with ⟨h1, h2, v, h3, h4, h5⟩ | ⟨h0, v, A', h1, h2, h3, hpn, h4⟩
      · have hp' : ∀ p ∈ (i, o.op, t, v) :: pend, aop P p.2.1 (aeval p.2.2.1) A = some (p.2.2.2, A) := by
          intro p hpm
          rcases List.mem_cons.1 hpm with rfl | hpm
          · exact h3 A (by simp)
          · exact hp p hpm
        unfold aput at h5
        split at h5
        · rename_i hd; exact glue v A t hist _ (by rw [hd]) hp' (fun _ h => .inl (List.mem_cons_of_mem _ h)) (fun _ h => h) (.inl rfl) (.inr (.inr ⟨hw, h1, h2, h3, by simp, h4, rfl⟩)) h5
        · rename_i d hd; exact glue v A _ hist _ (by rw [hd]; exact ⟨h5.1, rfl⟩) hp' (fun _ h => .inl (List.mem_cons_of_mem _ h)) (fun _ h => h) (.inl rfl) (.inr (.inr ⟨hw, h1, h2, h3, by simp, h4, rfl⟩)) h5.2
      · have hkp : ∀ p ∈ pend, p ∈ keepP ops rd i pend ∨ drops ops rd p.1 i = true := fun p hpm => by
          cases hdp : drops ops rd p.1 i with
          | true => exact .inr rfl
          | false => exact .inl (List.mem_filter.2 ⟨hpm, by rw [hdp]; rfl⟩)
        unfold aput at h4
        split at h4
        · rename_i hd; exact glue v A' t (A :: hist) (keepP ops rd i pend) (by rw [hd]) hpn hkp (fun _ h => List.mem_cons_of_mem _ h) (.inr (by simp)) (.inr (.inl ⟨hw, h0, h1, h2, h3⟩)) h4
        · rename_i d hd; exact glue v A' _ (A :: hist) (keepP ops rd i pend) (by rw [hd]; exact ⟨h4.1, rfl⟩) hpn hkp (fun _ h => List.mem_cons_of_mem _ h) (.inr (by simp)) (.inr (.inl ⟨hw, h0, h1, h2, h3⟩)) h4.2

/-- .. at all heaps of the region -/
abbrev Good (P : Program) (n : Nat) (ops : Array Oper) (rd : List Nat) (T : Nat → Tm) (H : Nat → AHeap) (V : Nat → Value) : Nat → Oper → Prop :=
  Good0 P n ops rd (fun x o t v => ∀ k, k ≤ ops.size → (∀ j, x ≤ j → j < k → drops ops rd x j = false) → aop P o (aeval t) (H k) = some (v, H k)) T H V

/-- ρ below a number -/
def cut (ρ : Rho) (k : Nat) : Rho := fun i => if i < k then ρ i else none
theorem cut_sub (ρ : Rho) (k : Nat) : Sub (cut ρ k) ρ := by
  intro i e h; unfold cut at h; split at h
  · exact h
  · cases h
theorem cut_some {ρ : Rho} {k i : Nat} {e : Ent} (h : cut ρ k i = some e) : i < k ∧ ρ i = some e := by
  unfold cut at h; split at h
  · exact ⟨by assumption, h⟩
  · cases h
theorem cut_mk {ρ : Rho} {k i : Nat} {e : Ent} (h : ρ i = some e) (hk : i < k) : cut ρ k i = some e := by
  unfold cut; rw [if_pos hk]; exact h

theorem VR.restrict {ρs ρb : Rho} (hs : Sub ρs ρb) {a r0 r : Value} (h0 : VR ρs a r0) (h : VR ρb a r) : VR ρs a r := by
  induction h0 generalizing r with
  | top v => exact .top _
  | bool b => cases h; exact .bool b
  | int k n => cases h; exact .int k n
  | string s => cases h; exact .string s
  | pnil => cases h; exact .pnil
  | ptr i o q e he hq =>
    cases h with
    | ptr _ _ q' e' he' hq' =>
      have := hs _ _ he
      rw [he'] at this; cases this
      exact .ptr _ _ _ _ he hq'
  | snil n c => cases h; exact .snil _ _
  | slice i o q n c e he hq hc =>
    cases h with
    | slice _ _ q' _ _ e' he' hq' hc' =>
      have := hs _ _ he
      rw [he'] at this; cases this
      exact .slice _ _ _ _ _ _ he hq' hc
    | sliceU => exact absurd hc (Nat.lt_irrefl _)
    | sliceE => exact absurd hc (by unfold ecap ucap; omega)
  | sliceU i o q n c e he hq h1 h2 h3 =>
    cases h with
    | slice _ _ q' _ _ e' he' hq' hc' => exact absurd hc' (Nat.lt_irrefl _)
    | sliceU _ _ q' _ c' e' he' hq' k1 k2 k3 =>
      have := hs _ _ he
      rw [he'] at this; cases this
      exact .sliceU _ _ _ _ _ _ he hq' k1 k2 k3
  | sliceE a a' c =>
    cases h with
    | slice _ _ q' _ _ e' he' hq' hc' => exact absurd hc' (by unfold ecap ucap; omega)
    | sliceE _ a2 c2 => exact .sliceE _ _ _
  | mnil => cases h; exact .mnil
  | map i e he =>
    cases h with
    | map _ e' he' =>
      have := hs _ _ he
      rw [he'] at this; cases this
      exact .map _ _ he
  | nilFunc => cases h; exact .nilFunc
  | func fn f g f' g' hf hg _ _ i1 i2 =>
    cases h with
    | func _ _ _ f2 g2 hf2 hg2 k1 k2 =>
      refine .func _ _ _ _ _ hf2 hg2 ?_ ?_
      · intro i v v' h1 h2
        have hlt : i < f'.size := by rw [← hf]; exact (Array.getElem?_eq_some_iff.1 h1).1
        exact i1 i v f'[i] h1 (Array.getElem?_eq_getElem hlt) (k1 i v v' h1 h2)
      · intro i v v' h1 h2
        have hlt : i < g'.size := by rw [← hg]; exact (Array.getElem?_eq_some_iff.1 h1).1
        exact i2 i v g'[i] h1 (Array.getElem?_eq_getElem hlt) (k2 i v v' h1 h2)
  | nilIface => cases h; exact .nilIface
  | iface t v v' _ ih =>
    cases h with
    | iface _ _ v2 h2 => exact .iface _ _ _ (ih h2)
  | agg c c' hsz _ ih =>
    cases h with
    | agg _ c2 hs2 h2 =>
      refine .agg _ _ hs2 fun i v v' h1 h3 => ?_
      have hlt : i < c'.size := by rw [← hsz]; exact (Array.getElem?_eq_some_iff.1 h1).1
      exact ih i v c'[i] h1 (Array.getElem?_eq_getElem hlt) (h2 i v v' h1 h3)
  | tuple c c' hsz _ ih =>
    cases h with
    | tuple _ c2 hs2 h2 =>
      refine .tuple _ _ hs2 fun i v v' h1 h3 => ?_
      have hlt : i < c'.size := by rw [← hsz]; exact (Array.getElem?_eq_some_iff.1 h1).1
      exact ih i v c'[i] h1 (Array.getElem?_eq_getElem hlt) (h2 i v v' h1 h3)

theorem OR.restrict {ρs ρb : Rho} (hs : Sub ρs ρb) {h0 h1 : Array Obj} {e : Ent} {o : AObj} (a : OR ρs h0 e o) (b : OR ρb h1 e o) : OR ρs h1 e o := by
  cases o with
  | dead => trivial
  | row cs k =>
    obtain ⟨c0, t0, f0, a1, a2, a3⟩ := a
    obtain ⟨c, t, f, b1, b2, b3⟩ := b
    refine ⟨c, t, f, b1, fun i v hv => ?_, b3⟩
    obtain ⟨v0, x1, x2⟩ := a2 i v hv
    obtain ⟨v', y1, y2⟩ := b2 i v hv
    exact ⟨v', y1, x2.restrict hs y2⟩
  | map es clock =>
    obtain ⟨e0, a1, a2⟩ := a
    obtain ⟨e1, b1, b2⟩ := b
    refine ⟨e1, b1, b2.size, fun i a en ha hen => ?_, b2.keys, b2.born, b2.clock, b2.self⟩
    obtain ⟨x, y, z⟩ := b2.each i a en ha hen
    have hlt : i < e0.size := by rw [a2.size]; exact (List.getElem?_eq_some_iff.1 ha).1
    obtain ⟨_, _, z0⟩ := a2.each i a e0[i] ha (Array.getElem?_eq_getElem hlt)
    exact ⟨x, y, z0.restrict hs z⟩
  | iter m since seen last =>
    obtain ⟨em, a1, _, _⟩ := a
    obtain ⟨em', b1, b2, b3⟩ := b
    have := hs _ _ a1
    rw [b1] at this; cases this
    exact ⟨em, a1, b2, b3⟩
  | siter s p => exact b

/-- a value whose blocks lie below a number, seen under ρ -/
theorem VR.bnd {ρ ρ' : Rho} {k : Nat} (hk : ∀ x, k ≤ x → ρ' x = none) {v r' r : Value} (h' : VR ρ' v r') (h : VR ρ v r) : VR (cut ρ k) v r := by
  have lt : ∀ {i e}, ρ' i = some e → i < k := fun {i e} hi => by
    rcases Nat.lt_or_ge i k with h | h
    · exact h
    · rw [hk i h] at hi; cases hi
  induction h' generalizing r with
  | top v => exact .top _
  | bool b => cases h; exact .bool b
  | int k n => cases h; exact .int k n
  | string s => cases h; exact .string s
  | pnil => cases h; exact .pnil
  | ptr i o q e he hq => cases h with | ptr _ _ q' e' he' hq' => exact .ptr _ _ _ _ (cut_mk he' (lt he)) hq'
  | snil n c => cases h; exact .snil _ _
  | slice i o q n c e he hq hc =>
    cases h with
    | slice _ _ q' _ _ e' he' hq' hc' => exact .slice _ _ _ _ _ _ (cut_mk he' (lt he)) hq' hc
    | sliceU => exact absurd hc (Nat.lt_irrefl _)
    | sliceE => exact absurd hc (by unfold ecap ucap; omega)
  | sliceU i o q n c e he hq h1 h2 h3 =>
    cases h with
    | slice _ _ q' _ _ e' he' hq' hc' => exact absurd hc' (Nat.lt_irrefl _)
    | sliceU _ _ q' _ c' e' he' hq' k1 k2 k3 => exact .sliceU _ _ _ _ _ _ (cut_mk he' (lt he)) hq' k1 k2 k3
  | sliceE a a' c =>
    cases h with
    | slice _ _ q' _ _ e' he' hq' hc' => exact absurd hc' (by unfold ecap ucap; omega)
    | sliceE _ a2 c2 => exact .sliceE _ _ _
  | mnil => cases h; exact .mnil
  | map i e he => cases h with | map _ e' he' => exact .map _ _ (cut_mk he' (lt he))
  | nilFunc => cases h; exact .nilFunc
  | func fn f g f' g' hf hg _ _ i1 i2 =>
    cases h with
    | func _ _ _ f2 g2 hf2 hg2 k1 k2 =>
      refine .func _ _ _ _ _ hf2 hg2 ?_ ?_
      · intro i v v' h1 h2
        have hlt : i < f'.size := by rw [← hf]; exact (Array.getElem?_eq_some_iff.1 h1).1
        exact i1 i v f'[i] h1 (Array.getElem?_eq_getElem hlt) (k1 i v v' h1 h2)
      · intro i v v' h1 h2
        have hlt : i < g'.size := by rw [← hg]; exact (Array.getElem?_eq_some_iff.1 h1).1
        exact i2 i v g'[i] h1 (Array.getElem?_eq_getElem hlt) (k2 i v v' h1 h2)
  | nilIface => cases h; exact .nilIface
  | iface t v v' _ ih =>
    cases h with
    | iface _ _ v2 h2 => exact .iface _ _ _ (ih h2)
  | agg c c' hsz _ ih =>
    cases h with
    | agg _ c2 hs2 h2 =>
      refine .agg _ _ hs2 fun i v v' h1 h3 => ?_
      have hlt : i < c'.size := by rw [← hsz]; exact (Array.getElem?_eq_some_iff.1 h1).1
      exact ih i v c'[i] h1 (Array.getElem?_eq_getElem hlt) (h2 i v v' h1 h3)
  | tuple c c' hsz _ ih =>
    cases h with
    | tuple _ c2 hs2 h2 =>
      refine .tuple _ _ hs2 fun i v v' h1 h3 => ?_
      have hlt : i < c'.size := by rw [← hsz]; exact (Array.getElem?_eq_some_iff.1 h1).1
      exact ih i v c'[i] h1 (Array.getElem?_eq_getElem hlt) (h2 i v v' h1 h3)

end Go.AB
