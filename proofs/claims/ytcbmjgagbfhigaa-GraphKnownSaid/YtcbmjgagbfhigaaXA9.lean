/-
  append.
-/
import Derived.Test.YtcbmjgagbfhigaaXA8
namespace Go.AB
open Go
set_option linter.unusedSimpArgs false
set_option linter.unusedVariables false

/-- what is appended: how many elements, their cells -/
def appCells (A : AHeap) (size : Nat) (x : Value) : Option (Nat × List Value) :=
  match x with
  | .slice none 0 _ => some (0, [])
  | .slice (some ⟨b, o, none⟩) n c =>
    if c = ecap then (if n = 0 then some (0, []) else none)
    else match A.f b with
      | some (.row cs _) => (getCells cs o (n * size)).map fun l => (n, l)
      | _ => none
  | .string s => if size = 1 then some (s.size, s.data.toList.map fun b => .int .u8 b.toNat) else none
  | _ => none

theorem row_scalar {ρ : Rho} {A : AHeap} {w : World} {i : Nat} {e : Ent} {cs : List Value} {k : Kind} (h : Rel ρ A w) (hi : ρ i = some e)
    (hf : A.f i = some (.row cs k)) : cs.all scalar = true := by
  obtain ⟨ob, g1, g2⟩ := h.obj _ _ hi
  rw [hf] at g1; cases g1
  obtain ⟨_, _, _, _, _, hall, _⟩ := g2
  exact hall

theorem getCells_scalar {cs l : List Value} {o n : Nat} (h : cs.all scalar = true) (hg : getCells cs o n = some l) : l.all scalar = true := by
  rw [List.all_eq_true] at h ⊢
  intro v hv
  obtain ⟨i, hi⟩ := List.getElem?_of_mem hv
  exact h v (List.mem_of_getElem? ((getCells_some hg).2 i v hi))

theorem bytes_all (l : List UInt8) : (l.map fun b => (Value.int .u8 b.toNat)).all plain1 = true := by
  induction l with
  | nil => rfl
  | cons a l ih => rw [List.map_cons, List.all_cons, ih]; rfl

theorem extract_self (s : ByteArray) : s.extract 0 s.size = s := by
  apply bytes_ext
  rw [extract_bytes]
  have : s.size = s.data.toList.length := by rw [Array.length_toList]; rfl
  rw [this, List.take_length]; rfl

theorem appCells_sound {P : Program} {ρ : Rho} {A : AHeap} {w : World} {size n : Nat} {x r : Value} {l : List Value} (h : Rel ρ A w) (hx : VR ρ x r)
    (ha : appCells A size x = some (n, l)) : ∃ rs : List Value, (Builtin.firstCells size n r).run P w = .ok ⟨rs⟩ w ∧
      (∀ w, (Builtin.lenOf r).run P w = .ok n w) ∧ VL ρ l rs ∧ l.length = n * size ∧ l.all scalar = true := by
  unfold appCells at ha
  split at ha
  · cases ha; cases hx
    exact ⟨[], rfl, fun _ => rfl, .nil, (Nat.zero_mul _).symm, rfl⟩
  · rename_i b o n' c
    split at ha
    · split at ha
      · rename_i hc hn
        subst hn; cases ha
        have : ∃ a' c', r = .slice (some a') 0 c' := by
          cases hx with
          | slice i o q n c e h hq hc => exact ⟨_, _, rfl⟩
          | sliceU i o q n c e h hq h1 h2 h3 => exact ⟨_, _, rfl⟩
          | sliceE a a' c => exact ⟨_, _, rfl⟩
        obtain ⟨a', c', rfl⟩ := this
        refine ⟨[], ?_, fun _ => rfl, .nil, (by rw [Nat.zero_mul]; rfl), rfl⟩
        simp only [Builtin.firstCells, Nat.zero_mul]; rfl
      · cases ha
    · rename_i hc
      obtain ⟨e, c', he, rfl, _, _, _⟩ := hx.slice_inv hc
      split at ha
      · rename_i cs k hf
        cases hg : getCells cs o (n' * size) with
        | none => rw [hg] at ha; cases ha
        | some l0 =>
          rw [hg] at ha; cases ha
          obtain ⟨rs, h1, h2⟩ := run_row (P := P) h he hf hg
          exact ⟨rs, h1, fun _ => rfl, h2, (getCells_some hg).1, getCells_scalar (row_scalar h he hf) hg⟩
      · cases ha
  · rename_i s
    split at ha
    · rename_i hs
      subst hs; cases ha; cases hx
      refine ⟨s.data.toList.map fun b => .int .u8 b.toNat, ?_, fun _ => rfl, plainL_self (bytes_all _), ?_, plainL_scalar (bytes_all _)⟩
      · simp only [Builtin.firstCells, extract_self, Sem.run_pure]
        congr 1
        apply Array.ext'
        rw [Array.toList_map]
      · rw [List.length_map, Nat.mul_one]; rfl
    · cases ha
  · cases ha

/-- what of the types an append needs: the element's cells and bytes -/
def appType (P : Program) (st xt : TypeId) : Option (Nat × Nat) :=
  match sliceOf P st with
  | some e => match szOf P e with
    | some size => match byOf P e with
      | some bytes => match zcells P e with
        | some z => match P.underlying xt with
          | some (.int _) => none
          | some _ => if 0 < size ∧ 0 < bytes ∧ z.length = size then some (size, bytes) else none
          | none => none
        | none => none
      | none => none
    | none => none
  | none => none

def room : Nat := 1099511627776

def inPlace (A : AHeap) (b o len size n : Nat) (new : List Value) (c : Nat) : Option (Value × AHeap) :=
  if n = 0 then some (.slice (some ⟨b, o, none⟩) (len + n) c, A)
  else match A.f b with
    | some (.row cs k) => if k = .ro then none else
      (putCells cs (o + len * size) new).map fun cs' => (.slice (some ⟨b, o, none⟩) (len + n) c, A.set b (.row cs' k))
    | _ => none

def aappend (P : Program) (A : AHeap) (st xt : TypeId) (s x : Value) : Option (Value × AHeap) :=
  match appType P st xt with
  | none => none
  | some (size, bytes) => match appCells A size x with
    | none => none
    | some (n, new) => match s with
      | .slice none 0 0 =>
        if n = 0 then some (.slice none 0 0, A)
        else if n * bytes ≤ room then some (.slice (some ⟨A.n, 0, none⟩) n ucap, A.push (.row new (.grown size)))
        else none
      | .slice (some ⟨b, o, none⟩) len c =>
        if c < ucap then
          if len + n ≤ c then inPlace A b o len size n new c
          else if (len + n) * bytes ≤ room then match A.f b with
            | some (.row cs _) => (getCells cs o (len * size)).map fun old => (.slice (some ⟨A.n, 0, none⟩) (len + n) ucap, A.push (.row (old ++ new) (.grown size)))
            | _ => none
          else none
        else if c = ucap then match avail A b o size with
          | none => none
          | some av =>
            if len + n ≤ av then inPlace A b o len size n new ucap
            else match A.f b with
              | some (.row cs _) => if o = 0 ∧ len * size = cs.length ∧ (len + n) * bytes ≤ room then
                  some (.slice (some ⟨A.n, 0, none⟩) (len + n) ucap, (A.set b .dead).push (.row (cs ++ new) (.grown size))) else none
              | _ => none
        else none
      | _ => none

theorem appType_some {P : Program} {st xt : TypeId} {size bytes : Nat} (h : appType P st xt = some (size, bytes)) :
    ∃ e z i xd, P.underlying st = some (.slice e) ∧ szOf P e = some size ∧ P.info? e = some i ∧ i.bytes = bytes ∧ zcells P e = some z ∧ z.length = size ∧
      0 < size ∧ 0 < bytes ∧ P.underlying xt = some xd ∧ (∀ k, xd ≠ .int k) := by
  unfold appType at h
  split at h
  case h_2 => cases h
  rename_i e he
  split at h
  case h_2 => cases h
  rename_i sz h1
  split at h
  case h_2 => cases h
  rename_i by_ h2
  split at h
  case h_2 => cases h
  rename_i z h3
  split at h
  · cases h
  · rename_i xd hn h4
    split at h
    · rename_i hc
      cases h
      obtain ⟨i, g1, g2⟩ := run_byOf h2
      exact ⟨e, z, i, xd, sliceOf_some he, h1, g1, g2, h3, hc.2.2, hc.1, hc.2.1, h4, fun k hk => hn k hk⟩
    · cases h
  · cases h

/-- the head of an append's run -/
theorem run_append_head {P : Program} {st xt : TypeId} {size bytes : Nat} (ht : appType P st xt = some (size, bytes)) (ty : TypeId) (base : Option Addr) (sLen sCap n : Nat) (r : Value)
    (hlen : ∀ w, (Builtin.lenOf r).run P w = .ok n w) (hroom : ¬ sLen + n ≤ sCap → Builtin.nextslicecap (sLen + n) sCap * bytes ≤ 2 ^ 48) (w : World) :
    ∃ e i z, P.info? e = some i ∧ i.bytes = bytes ∧ (zeroValue e).run P w = .ok z w ∧ (∀ w', (zeroValue e).run P w' = .ok z w') ∧ z.cells.size = size ∧
    (Builtin.append_ #[st, xt] ty #[.slice base sLen sCap, r]).run P w =
      (if sLen + n ≤ sCap then (do
          let new ← Builtin.firstCells size n r
          if let some a := base then storeCells (a.add (sLen * size)) new.toList
          pure (.slice base (sLen + n) sCap) : Sem Value).run P w
        else (do
          let newCap ← choose (.appendCap (sLen + n) sCap e)
          askRoom (newCap * bytes)
          let old ← Builtin.firstCells size sLen (.slice base sLen sCap)
          let new ← Builtin.firstCells size n r
          let rest := Builtin.zeroCells z.cells (newCap - (sLen + n))
          pure (.slice (some (← newRow e (old ++ new ++ rest))) (sLen + n) newCap) : Sem Value).run P w) := by
  obtain ⟨e, zs, i, xd, h1, h2, h3, h4, h5, h6, h7, h8, h9, h10⟩ := appType_some ht
  obtain ⟨z, g1, g2, g3, g4⟩ := zcells_run h5 w
  have gz : ∀ w', (zeroValue e).run P w' = .ok z w' := by
    intro w'
    obtain ⟨z', k1, _, k3, _⟩ := zcells_run h5 w'
    rw [g3] at k3; cases k3; exact k1
  refine ⟨e, i, z, h3, h4, g1, gz, by rw [← h6, ← g2]; simp, ?_⟩
  have hti : ∀ w', (typeInfo e).run P w' = .ok i w' := fun w' => by simp [typeInfo, h3]
  have hu2 := run_und h9
  unfold Builtin.append_
  simp only [List.getElem?_toArray, List.getElem?_cons_zero, List.getElem?_cons_succ, Sem.run_bind, run_und h1, hu2, run_szOf h2, Result.andThen_ok, Sem.run_pure]
  have hxd : (match xd with | .int _ => true | _ => false) = false := by cases xd <;> first | rfl | exact absurd rfl (h10 _)
  cases xd <;> first
    | exact absurd rfl (h10 _)
    | (simp only [Bool.false_eq_true, if_false]
       simp only [Sem.run_bind, hlen, Result.andThen_ok, Bool.not_false, if_true]
       by_cases hc : sLen + n ≤ sCap
       · simp only [if_pos hc, Sem.run_bind]
         cases base <;> rfl
       · simp only [if_neg hc, Sem.run_bind, hti, Result.andThen_ok, h4]
         rw [if_neg (by rintro ⟨_, h | h⟩ <;> first | exact absurd h (by simp) | omega)]
         simp only [Sem.run_bind, hti, Result.andThen_ok, h4]
         rw [if_neg (Nat.not_lt.2 (hroom hc))]
         simp only [Sem.run_bind, gz, hti, Result.andThen_ok, h4, Sem.run_pure])

end Go.AB
