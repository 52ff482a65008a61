/-
  Slicing, lengths, composite values, appending, copying, clearing.
-/
import Derived.Test.YtcbmjgagbfhigaaXA5
namespace Go.AB
open Go
set_option linter.unusedSimpArgs false
set_option linter.unusedVariables false

/-- a bound of a slice expression -/
def abound (v : Value) (y : Nat) : Option Nat := match v with | .int _ i => if 0 ≤ i ∧ i ≤ y then some i.toNat else none | _ => none

theorem abound_le {v : Value} {y n : Nat} (h : abound v y = some n) : n ≤ y := by
  unfold abound at h
  split at h
  · split at h
    · cases h; omega
    · cases h
  · cases h

theorem abound_sound {P : Program} {ρ : Rho} {v r : Value} {y y' n : Nat} (hv : VR ρ v r) (h : abound v y = some n) (hy : y ≤ y') (code : BoundsCode) (w : World) :
    (Instr.sliceBound r y' code).run P w = .ok n w := by
  unfold abound at h
  split at h
  · rename_i k i
    cases hv
    split at h
    · rename_i hi
      cases h
      simp only [Instr.sliceBound, asIntOf, Sem.run_bind, Sem.run_pure, Result.andThen_ok]
      rw [if_pos ⟨hi.1, by omega⟩]; rfl
    · cases h
  · cases h

/-- low, high, max; 'cap': what is surely there; 'len': the length -/
def abounds (len cap : Nat) (lo hi mx : Option Value) : Option (Nat × Nat × Nat) :=
  match (match mx with | some v => abound v cap | none => some cap) with
  | none => none
  | some m =>
    match (match hi, mx with | some v, _ => abound v m | none, none => some len | none, some _ => none) with
    | none => none
    | some h => match (match lo with | some v => abound v h | none => some 0) with
      | none => none
      | some l => some (l, h, m)

/-- optional operands -/
def VO (ρ : Rho) : Option Value → Option Value → Prop
  | none, none => True
  | some a, some b => VR ρ a b
  | _, _ => False

/-- the bounds, where the real capacity is at least what is surely there; without a max the real one stands in the place of m -/
theorem abounds_sound {P : Program} {ρ : Rho} {len cap cap' : Nat} {lo hi mx lo' hi' mx' : Option Value} {l h m : Nat}
    (h1 : VO ρ lo lo') (h2 : VO ρ hi hi') (h3 : VO ρ mx mx') (hb : abounds len cap lo hi mx = some (l, h, m)) (hc : cap ≤ cap') (isSlice : Bool) (w : World) :
    (Instr.sliceBounds isSlice len cap' lo' hi' mx').run P w = .ok (l, h, if mx.isSome then m else cap') w := by
  unfold abounds at hb
  unfold Instr.sliceBounds
  cases mx with
  | none =>
    cases mx' with
    | some _ => exact h3.elim
    | none =>
      simp only at hb
      cases hi with
      | none =>
        cases hi' with
        | some _ => exact h2.elim
        | none =>
          simp only at hb
          cases lo with
          | none =>
            cases lo' with
            | some _ => exact h1.elim
            | none => simp at hb; obtain ⟨rfl, rfl, rfl⟩ := hb; simp
          | some vl =>
            cases lo' with
            | none => exact h1.elim
            | some vl' =>
              simp only at hb
              cases hl : abound vl len with
              | none => rw [hl] at hb; cases hb
              | some l0 =>
                rw [hl] at hb; cases hb
                simp only [Sem.run_bind, Sem.run_pure, Result.andThen_ok, abound_sound (P := P) h1 hl (Nat.le_refl _)]
                rfl
      | some vh =>
        cases hi' with
        | none => exact h2.elim
        | some vh' =>
          simp only at hb
          cases hh : abound vh cap with
          | none => rw [hh] at hb; cases hb
          | some h0 =>
            rw [hh] at hb
            simp only at hb
            cases lo with
            | none =>
              cases lo' with
              | some _ => exact h1.elim
              | none =>
                simp at hb; obtain ⟨rfl, rfl, rfl⟩ := hb
                simp only [Sem.run_bind, Sem.run_pure, Result.andThen_ok, abound_sound (P := P) h2 hh hc]
                rfl
            | some vl =>
              cases lo' with
              | none => exact h1.elim
              | some vl' =>
                simp only at hb
                cases hl : abound vl h0 with
                | none => rw [hl] at hb; cases hb
                | some l0 =>
                  rw [hl] at hb; cases hb
                  simp only [Sem.run_bind, Sem.run_pure, Result.andThen_ok, abound_sound (P := P) h2 hh hc, abound_sound (P := P) h1 hl (Nat.le_refl _)]
                  rfl
  | some vm =>
    cases mx' with
    | none => exact h3.elim
    | some vm' =>
      simp only at hb
      cases hm : abound vm cap with
      | none => rw [hm] at hb; cases hb
      | some m0 =>
        rw [hm] at hb
        simp only at hb
        cases hi with
        | none => cases hb
        | some vh =>
          cases hi' with
          | none => exact h2.elim
          | some vh' =>
            simp only at hb
            cases hh : abound vh m0 with
            | none => rw [hh] at hb; cases hb
            | some h0 =>
              rw [hh] at hb
              simp only at hb
              cases lo with
              | none =>
                cases lo' with
                | some _ => exact h1.elim
                | none =>
                  simp at hb; obtain ⟨rfl, rfl, rfl⟩ := hb
                  simp only [Sem.run_bind, Sem.run_pure, Result.andThen_ok, abound_sound (P := P) h3 hm hc, abound_sound (P := P) h2 hh (Nat.le_refl _)]
                  rfl
              | some vl =>
                cases lo' with
                | none => exact h1.elim
                | some vl' =>
                  simp only at hb
                  cases hl : abound vl h0 with
                  | none => rw [hl] at hb; cases hb
                  | some l0 =>
                    rw [hl] at hb; cases hb
                    simp only [Sem.run_bind, Sem.run_pure, Result.andThen_ok, abound_sound (P := P) h3 hm hc, abound_sound (P := P) h2 hh (Nat.le_refl _), abound_sound (P := P) h1 hl (Nat.le_refl _)]
                    rfl

theorem abounds_le {len cap : Nat} {lo hi mx : Option Value} {l h m : Nat} (hb : abounds len cap lo hi mx = some (l, h, m)) (hlen : len ≤ cap) : l ≤ h ∧ h ≤ m ∧ m ≤ cap ∧ (mx = none → m = cap) := by
  unfold abounds at hb
  split at hb
  · cases hb
  · rename_i m0 hm
    split at hb
    · cases hb
    · rename_i h0 hh
      split at hb
      · cases hb
      · rename_i l0 hl
        cases hb
        have a1 : m ≤ cap ∧ (mx = none → m = cap) := by
          split at hm
          · exact ⟨abound_le hm, fun h => by cases h⟩
          · cases hm; exact ⟨Nat.le_refl _, fun _ => rfl⟩
        have a2 : h ≤ m := by
          split at hh
          · exact abound_le hh
          · cases hh; have := a1.2 rfl; omega
          · cases hh
        have a3 : l ≤ h := by
          split at hl
          · exact abound_le hl
          · cases hl; omega
        exact ⟨a3, a2, a1.1, a1.2⟩

/-- how many elements are surely there from one on, in a row that grew -/
def avail (A : AHeap) (b o size : Nat) : Option Nat :=
  match A.f b with
  | some (.row cs (.grown n)) => if n = size ∧ 0 < size ∧ o ≤ cs.length then some ((cs.length - o) / size) else none
  | _ => none

def aslice (P : Program) (A : AHeap) (t : TypeId) (x : Value) (lo hi mx : Option Value) : Option Value :=
  match P.underlying t, x with
  | some .string, .string s => match mx with
    | none => (abounds s.size s.size lo hi none).map fun (l, h, _) => .string ⟨((s.data.toList.take h).drop l).toArray⟩
    | some _ => none
  | some (.slice e), .slice none len c => match szOf P e with
    | some _ => if len ≤ c then (abounds len c lo hi mx).map fun (l, h, m) => .slice none (h - l) (m - l) else none
    | none => none
  | some (.slice e), .slice (some ⟨b, o, none⟩) len c => match szOf P e with
    | some size =>
      if c < ucap then
        if len ≤ c then (abounds len c lo hi mx).map fun (l, h, m) => .slice (some ⟨b, if m = l then o else o + l * size, none⟩) (h - l) (m - l) else none
      else if c = ucap then match avail A b o size with
        | none => none
        | some av => if len ≤ av then match abounds len av lo hi mx with
          | none => none
          | some (l, h, m) =>
            if mx.isSome then (if m < ucap then some (.slice (some ⟨b, if m = l then o else o + l * size, none⟩) (h - l) (m - l)) else none)
            else if l = 0 then some (.slice (some ⟨b, o, none⟩) h ucap)
            else if l < h then some (.slice (some ⟨b, o + l * size, none⟩) (h - l) ucap)
            else some (.slice (some ⟨b, o, none⟩) 0 ecap)
          else none
      else none
    | none => none
  | some (.array n e), .pointer (some ⟨b, o, none⟩) => match szOf P e with
    | some size => if n < ucap then (abounds n n lo hi mx).map fun (l, h, m) => .slice (some ⟨b, if m = l then o else o + l * size, none⟩) (h - l) (m - l) else none
    | none => none
  | _, _ => none

theorem extract_bytes (s : ByteArray) (l h : Nat) : s.extract l h = ⟨((s.data.toList.take h).drop l).toArray⟩ := by
  apply bytes_ext
  simp [ByteArray.data_extract, List.extract_eq_take_drop, List.drop_take]

theorem avail_some {A : AHeap} {b o size av : Nat} (h : avail A b o size = some av) :
    ∃ cs, A.f b = some (.row cs (.grown size)) ∧ 0 < size ∧ o ≤ cs.length ∧ av = (cs.length - o) / size := by
  unfold avail at h
  split at h
  · rename_i cs n hf
    split at h
    · rename_i hc; cases h; obtain ⟨rfl, h2, h3⟩ := hc; exact ⟨cs, hf, h2, h3, rfl⟩
    · cases h
  · cases h

theorem row_size {ρ : Rho} {A : AHeap} {w : World} {i : Nat} {e : Ent} {cs : List Value} {k : Kind} (h : Rel ρ A w) (hi : ρ i = some e)
    (hf : A.f i = some (.row cs k)) : ∃ c t fz, w.heap[e.blk]? = some (.cells c t fz) ∧ cs.length ≤ c.size ∧ (k ≠ .ro → fz = (0, 0)) ∧
      (∀ n, k = .grown n → c.size = e.rsz ∧ e.esz = n) ∧ (k = .fix → c.size = cs.length) ∧ (k ≠ .ro → e.sh = 0) := by
  obtain ⟨ob, h1, h2⟩ := h.obj i e hi
  rw [hf] at h1; cases h1
  obtain ⟨c, t, fz, g1, g2, gs, g3⟩ := h2
  refine ⟨c, t, fz, g1, ?_, ?_, ?_, ?_, ?_⟩
  · rcases Nat.lt_or_ge c.size cs.length with hlt | hge
    · obtain ⟨v', hv', _⟩ := g2 c.size cs[c.size] (List.getElem?_eq_getElem hlt)
      rw [Array.getElem?_eq_none (by omega)] at hv'; cases hv'
    · exact hge
  · intro hk; cases k <;> first | exact absurd rfl hk | exact g3.1
  · intro n hk; subst hk; exact ⟨g3.2.1, g3.2.2.2⟩
  · intro hk; subst hk; exact g3.2.1
  · intro hk; cases k <;> first | exact absurd rfl hk | exact g3.2.2 | exact g3.2.2.1

/-- the real capacity is at least what is surely there -/
theorem avail_le {ρ : Rho} {A : AHeap} {w : World} {b o size av c : Nat} {e : Ent} (h : Rel ρ A w) (hb : ρ b = some e) (ha : avail A b o size = some av)
    (hs : o + c * e.esz = e.rsz) : av ≤ c ∧ e.esz = size ∧ 0 < size := by
  obtain ⟨cs, h1, h2, h3, h4⟩ := avail_some ha
  obtain ⟨cc, t, fz, g1, g2, _, g4, _, _⟩ := row_size h hb h1
  obtain ⟨g5, g6⟩ := g4 _ rfl
  refine ⟨?_, g6, h2⟩
  rw [h4]
  rw [g6] at hs
  apply Nat.div_le_of_le_mul
  rw [Nat.mul_comm]; omega

theorem slice_sound {P : Program} {ρ : Rho} {A : AHeap} {w : World} {t : TypeId} {x r v : Value} {lo hi mx lo' hi' mx' : Option Value} (hr : Rel ρ A w) (hx : VR ρ x r)
    (h1 : VO ρ lo lo') (h2 : VO ρ hi hi') (h3 : VO ρ mx mx') (h : aslice P A t x lo hi mx = some v) :
    ∃ r', (Instr.sliceAt t r lo' hi' mx').run P w = .ok r' w ∧ VR ρ v r' := by
  unfold aslice at h
  split at h
  · rename_i s hu
    cases hx
    split at h
    · cases mx' with
      | some _ => exact h3.elim
      | none =>
        cases hb : abounds s.size s.size lo hi none with
        | none => rw [hb] at h; cases h
        | some x =>
          obtain ⟨l, hh, m⟩ := x
          rw [hb] at h; cases h
          have := abounds_sound (P := P) h1 h2 (mx := none) (mx' := none) trivial hb (Nat.le_refl _) false w
          refine ⟨_, ?_, .string _⟩
          simp only [Instr.sliceAt, Sem.run_bind, run_und hu, Result.andThen_ok, Instr.slice, Option.isSome_none, Bool.false_eq_true, if_false, Sem.run_pure, this, extract_bytes]
    · cases h
  · rename_i e len c hu
    cases hx
    split at h
    · rename_i n hn
      split at h
      · rename_i hlc
        cases hb : abounds len c lo hi mx with
        | none => rw [hb] at h; cases h
        | some x =>
          obtain ⟨l, hh, m⟩ := x
          rw [hb] at h; cases h
          have hs := abounds_sound (P := P) h1 h2 h3 hb (Nat.le_refl _) true w
          have hm : (if mx.isSome = true then m else c) = m := by
            split
            · rfl
            · rename_i hmx; exact ((abounds_le hb hlc).2.2.2 (by cases mx <;> simp_all)).symm
          rw [hm] at hs
          refine ⟨_, ?_, .snil _ _⟩
          simp only [Instr.sliceAt, Sem.run_bind, run_und hu, Result.andThen_ok, Instr.slice, Sem.run_pure, hs, run_szOf hn, Option.map_none]
          simp
      · cases h
    · cases h
  · rename_i e b o len c hu
    split at h
    · rename_i size hsz
      split at h
      · rename_i hcu
        obtain ⟨en, c', he, rfl, hcc, _, _⟩ := hx.slice_inv (by unfold ecap; unfold ucap at hcu; omega)
        have hcc := hcc hcu
        subst hcc
        split at h
        · rename_i hlc
          cases hb : abounds len c' lo hi mx with
          | none => rw [hb] at h; cases h
          | some x =>
            obtain ⟨l, hh, m⟩ := x
            rw [hb] at h; cases h
            have hs := abounds_sound (P := P) h1 h2 h3 hb (Nat.le_refl _) true w
            have hle := abounds_le hb hlc
            have hm : (if mx.isSome = true then m else c') = m := by
              split
              · rfl
              · rename_i hmx; exact (hle.2.2.2 (by cases mx <;> simp_all)).symm
            rw [hm] at hs
            refine ⟨.slice (some ⟨en.blk, if m = l then en.sh + o else en.sh + o + l * size, none⟩) (hh - l) (m - l), ?_, .slice _ _ _ _ _ _ he (by split <;> omega) (by omega)⟩
            simp only [Instr.sliceAt, Sem.run_bind, run_und hu, Result.andThen_ok, Instr.slice, Sem.run_pure, hs, run_szOf hsz, Option.map_some]
            congr 2
            split <;> simp [add_none]
        · cases h
      · split at h
        · rename_i hcu
          subst hcu
          obtain ⟨en, c', he, rfl, _, hcc, _⟩ := hx.slice_inv (by unfold ecap ucap; omega)
          obtain ⟨g1, g2, g3⟩ := hcc rfl
          split at h
          · cases h
          · rename_i av hav
            obtain ⟨k1, k2, k3⟩ := avail_le hr he hav g1
            split at h
            · rename_i hlav
              cases hb : abounds len av lo hi mx with
              | none => rw [hb] at h; cases h
              | some x =>
                obtain ⟨l, hh, m⟩ := x
                rw [hb] at h; simp only at h
                have hs := abounds_sound (P := P) h1 h2 h3 hb k1 true w
                have hle := abounds_le hb hlav
                split at h
                · rename_i hmx
                  split at h
                  case isFalse => cases h
                  rename_i hmu
                  cases h
                  rw [if_pos hmx] at hs
                  refine ⟨.slice (some ⟨en.blk, if m = l then en.sh + o else en.sh + o + l * size, none⟩) (hh - l) (m - l), ?_, .slice _ _ _ _ _ _ he (by split <;> omega) ?_⟩
                  · simp only [Instr.sliceAt, Sem.run_bind, run_und hu, Result.andThen_ok, Instr.slice, Sem.run_pure, hs, run_szOf hsz, Option.map_some]
                    congr 2
                    split <;> simp [add_none]
                  · omega
                · rename_i hmx
                  rw [if_neg hmx] at hs
                  have hrun : (Instr.sliceAt t (.slice (some ⟨en.blk, en.sh + o, none⟩) len c') lo' hi' mx').run P w =
                      .ok (.slice (some (if c' = l then ⟨en.blk, en.sh + o, none⟩ else ⟨en.blk, en.sh + o + l * size, none⟩)) (hh - l) (c' - l)) w := by
                    simp only [Instr.sliceAt, Sem.run_bind, run_und hu, Result.andThen_ok, Instr.slice, Sem.run_pure, hs, run_szOf hsz, Option.map_some]
                    congr 2
                    split <;> simp [add_none]
                  split at h
                  · rename_i hl0; subst hl0; cases h
                    refine ⟨_, hrun, ?_⟩
                    have : (if c' = 0 then (⟨en.blk, en.sh + o, none⟩ : Addr) else ⟨en.blk, en.sh + o + 0 * size, none⟩) = ⟨en.blk, en.sh + o, none⟩ := by split <;> simp
                    rw [this]
                    exact .sliceU _ _ _ _ _ _ he rfl g1 (by omega) g3
                  · split at h
                    · rename_i hl0 hlh; cases h
                      refine ⟨_, hrun, ?_⟩
                      rw [if_neg (by omega)]
                      refine .sliceU _ _ _ _ _ _ he (by omega) ?_ (by omega) g3
                      rw [k2] at g1 ⊢
                      have : c' = l + (c' - l) := by omega
                      rw [this, Nat.add_mul] at g1
                      omega
                    · rename_i hl0 hlh; cases h
                      refine ⟨_, hrun, ?_⟩
                      have : hh - l = 0 := by omega
                      rw [this]
                      exact .sliceE _ _ _
            · cases h
        · cases h
    · cases h
  · rename_i n e b o hu
    obtain ⟨en, he, rfl⟩ := hx.ptr_inv
    split at h
    · rename_i size hsz
      split at h
      · rename_i hcu
        cases hb : abounds n n lo hi mx with
        | none => rw [hb] at h; cases h
        | some x =>
          obtain ⟨l, hh, m⟩ := x
          rw [hb] at h; cases h
          have hs := abounds_sound (P := P) h1 h2 h3 hb (Nat.le_refl _) false w
          have hle := abounds_le hb (Nat.le_refl _)
          have hm : (if mx.isSome = true then m else n) = m := by
            split
            · rfl
            · rename_i hmx; exact (hle.2.2.2 (by cases mx <;> simp_all)).symm
          rw [hm] at hs
          refine ⟨.slice (some ⟨en.blk, if m = l then en.sh + o else en.sh + o + l * size, none⟩) (hh - l) (m - l), ?_, .slice _ _ _ _ _ _ he (by split <;> omega) (by omega)⟩
          simp only [Instr.sliceAt, Sem.run_bind, run_und hu, Result.andThen_ok, Instr.sureAddr, Sem.run_pure, hs, run_szOf hsz]
          congr 2
          split <;> simp [add_none]
      · cases h
    · cases h
  · cases h

end Go.AB
