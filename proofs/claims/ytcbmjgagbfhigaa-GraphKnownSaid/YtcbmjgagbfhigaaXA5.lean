/-
  More operations that leave the abstract heap alone: fields, indexes, slices, tuples, interface values; and composite values.
-/
import Derived.Test.YtcbmjgagbfhigaaXA4
namespace Go.AB
open Go
set_option linter.unusedSimpArgs false
set_option linter.unusedVariables false

/-- a struct's field: its offset and its type -/
def fldOf (P : Program) (s : TypeId) (f : Nat) : Option (Nat × TypeId) :=
  match P.underlying s with
  | some (.struct fs) => (fs[f]?).map fun f => (f.offset, f.type)
  | _ => none

theorem fldOf_some {P : Program} {s : TypeId} {f : Nat} {x : Nat × TypeId} (h : fldOf P s f = some x) :
    ∃ fs fd, P.underlying s = some (.struct fs) ∧ fs[f]? = some fd ∧ fd.offset = x.1 ∧ fd.type = x.2 := by
  unfold fldOf at h
  split at h
  · rename_i fs hu
    cases hf : fs[f]? with
    | none => rw [hf] at h; cases h
    | some fd => rw [hf] at h; cases h; exact ⟨fs, fd, hu, hf, rfl, rfl⟩
  · cases h

/-- a part of a struct's or an array's cells -/
def apart (P : Program) (t : TypeId) (cs : List Value) (off : Nat) : Option Value :=
  match aggOf P t with
  | some true => match szOf P t with
    | some n => (getCells cs off n).map fun l => .agg ⟨l⟩
    | none => none
  | some false => cs[off]?
  | none => none

theorem getCells_VL {ρ : Rho} {cs rs l : List Value} {o n : Nat} (h : VL ρ cs rs) (hg : getCells cs o n = some l) : VL ρ l ((rs.drop o).take n) := by
  unfold getCells at hg
  split at hg
  · cases hg; exact (h.drop o).take n
  · cases hg

theorem extract_list (rs : List Value) (o n : Nat) : ((⟨rs⟩ : Array Value).extract o (o + n)) = ⟨(rs.drop o).take n⟩ := by
  apply Array.ext'
  simp [List.extract_eq_take_drop]

theorem apart_sound {P : Program} {ρ : Rho} {t : TypeId} {cs rs : List Value} {off : Nat} {v : Value} (h : VL ρ cs rs) (hp : apart P t cs off = some v) (w : World) :
    ∃ r, (part t ⟨rs⟩ off).run P w = .ok r w ∧ VR ρ v r := by
  unfold apart at hp
  split at hp
  · rename_i hag
    split at hp
    · rename_i n hn
      cases hg : getCells cs off n with
      | none => rw [hg] at hp; cases hp
      | some l =>
        rw [hg] at hp; cases hp
        refine ⟨_, ?_, (getCells_VL h hg).agg⟩
        simp only [part, Sem.run_bind, run_aggOf hag, run_szOf hn, Result.andThen_ok, if_true, Sem.run_pure, extract_list]
    · cases hp
  · rename_i hag
    obtain ⟨v', h1, h2⟩ := h.get hp
    refine ⟨v', ?_, h2⟩
    simp [part, run_aggOf hag, h1]
  · cases hp

def afield (P : Program) (t : TypeId) (x : Value) (f : Nat) : Option Value :=
  match x, fldOf P t f with
  | .agg c, some (off, ft) => apart P ft c.toList off
  | _, _ => none

theorem field_sound {P : Program} {ρ : Rho} {t : TypeId} {x r v : Value} {f : Nat} (hx : VR ρ x r) (h : afield P t x f = some v) (w : World) :
    ∃ r', (Instr.field t r f).run P w = .ok r' w ∧ VR ρ v r' := by
  unfold afield at h
  split at h
  · rename_i c off ft hf
    obtain ⟨b, rfl, hb⟩ := hx.agg_inv
    obtain ⟨fs, fd, h1, h2, h3, h4⟩ := fldOf_some hf
    obtain ⟨r', h5, h6⟩ := apart_sound (P := P) hb h w
    refine ⟨r', ?_, h6⟩
    simp only at h3 h4
    simp only [Instr.field, Sem.run_bind, run_und h1, Result.andThen_ok, h2, asAgg, Sem.run_pure, h3, h4]
    exact h5
  · cases h

def afieldAddr (P : Program) (s : TypeId) (x : Value) (f : Nat) : Option Value :=
  match x with
  | .pointer (some ⟨i, o, none⟩) => match fldOf P s f with
    | some (off, ft) => match szOf P ft with
      | some (_ + 1) => some (.pointer (some ⟨i, o + off, none⟩))
      | _ => none
    | none => none
  | _ => none

theorem fieldAddr_sound {P : Program} {ρ : Rho} {t : TypeId} {x r v : Value} {f : Nat} (hx : VR ρ x r) (h : afieldAddr P t x f = some v) (w : World) :
    ∃ r', (Instr.fieldAt t r f).run P w = .ok r' w ∧ VR ρ v r' := by
  unfold afieldAddr at h
  split at h
  · rename_i i o
    obtain ⟨e, he, rfl⟩ := hx.ptr_inv
    split at h
    · rename_i off ft hf
      obtain ⟨fs, fd, h1, h2, h3, h4⟩ := fldOf_some hf
      split at h
      · rename_i n hn
        cases h
        simp only at h3 h4
        refine ⟨.pointer (some ⟨e.blk, e.sh + o + off, none⟩), ?_, .ptr _ _ _ _ he (by omega)⟩
        subst h3 h4
        simp [Instr.fieldAt, run_und h1, h2, Instr.sureAddr, fieldPlace, run_szOf hn, add_none]
      · cases h
    · cases h
  · cases h

def sliceOf (P : Program) (t : TypeId) : Option TypeId := match P.underlying t with | some (.slice e) => some e | _ => none
def arrOf (P : Program) (t : TypeId) : Option (Nat × TypeId) := match P.underlying t with | some (.array n e) => some (n, e) | _ => none

theorem sliceOf_some {P : Program} {t e : TypeId} (h : sliceOf P t = some e) : P.underlying t = some (.slice e) := by
  unfold sliceOf at h; split at h <;> first | (cases h; assumption) | cases h
theorem arrOf_some {P : Program} {t : TypeId} {x : Nat × TypeId} (h : arrOf P t = some x) : P.underlying t = some (.array x.1 x.2) := by
  unfold arrOf at h; split at h <;> first | (cases h; assumption) | cases h

/-- a slice's first address, length: for one that is not empty or whose address is known -/
def aindexAddr (P : Program) (t : TypeId) (x ix : Value) : Option Value :=
  match ix with
  | .int _ i => match x with
    | .slice (some ⟨b, o, none⟩) len c => if c = ecap then none else match sliceOf P t with
      | some e => match szOf P e with
        | some n => if 0 ≤ i ∧ i < len then some (.pointer (some ⟨b, o + i.toNat * n, none⟩)) else none
        | none => none
      | none => none
    | .pointer (some ⟨b, o, none⟩) => match arrOf P t with
      | some (len, e) => match szOf P e with
        | some n => if 0 ≤ i ∧ i < len then some (.pointer (some ⟨b, o + i.toNat * n, none⟩)) else none
        | none => none
      | none => none
    | _ => none
  | _ => none

theorem VR.slice_inv {ρ : Rho} {b o len c : Nat} {r : Value} (h : VR ρ (.slice (some ⟨b, o, none⟩) len c) r) (hc : c ≠ ecap) :
    ∃ e c', ρ b = some e ∧ r = .slice (some ⟨e.blk, e.sh + o, none⟩) len c' ∧ (c < ucap → c' = c) ∧ (c = ucap → o + c' * e.esz = e.rsz ∧ len ≤ c' ∧ 0 < e.esz) ∧ c ≤ ucap := by
  cases h with
  | slice i o q n c e h hq hc => subst hq; exact ⟨e, _, h, rfl, fun _ => rfl, fun e => absurd e (Nat.ne_of_lt hc), Nat.le_of_lt hc⟩
  | sliceU i o q n c' e h hq h1 h2 h3 => subst hq; exact ⟨e, c', h, rfl, fun h => absurd h (Nat.lt_irrefl _), fun _ => ⟨h1, h2, h3⟩, Nat.le_refl _⟩
  | sliceE => exact absurd rfl hc

theorem indexAddr_sound {P : Program} {ρ : Rho} {t : TypeId} {x ix rx rix v : Value} (hx : VR ρ x rx) (hix : VR ρ ix rix) (h : aindexAddr P t x ix = some v) (w : World) :
    ∃ r', (Instr.indexAt t rx rix).run P w = .ok r' w ∧ VR ρ v r' := by
  unfold aindexAddr at h
  split at h
  · rename_i k i
    cases hix
    split at h
    · rename_i b o len c
      split at h
      · cases h
      · rename_i hc
        obtain ⟨e, c', he, rfl, _, _, _⟩ := hx.slice_inv hc
        split at h
        · rename_i el hel
          split at h
          · rename_i n hn
            split at h
            · rename_i hi
              cases h
              refine ⟨.pointer (some ⟨e.blk, e.sh + o + i.toNat * n, none⟩), ?_, .ptr _ _ _ _ he (by omega)⟩
              simp only [Instr.indexAt, asIntOf, Sem.run_bind, Sem.run_pure, Result.andThen_ok, run_und (sliceOf_some hel), if_pos hi, run_szOf hn, add_none]
            · cases h
          · cases h
        · cases h
    · rename_i b o
      obtain ⟨e, he, rfl⟩ := hx.ptr_inv
      split at h
      · rename_i len el hel
        split at h
        · rename_i n hn
          split at h
          · rename_i hi
            cases h
            refine ⟨.pointer (some ⟨e.blk, e.sh + o + i.toNat * n, none⟩), ?_, .ptr _ _ _ _ he (by omega)⟩
            simp only [Instr.indexAt, asIntOf, Sem.run_bind, Sem.run_pure, Result.andThen_ok, run_und (arrOf_some hel), Instr.sureAddr, if_pos hi, run_szOf hn, add_none]
          · cases h
        · cases h
      · cases h
    · cases h
  · cases h

def aindex (P : Program) (t : TypeId) (x ix : Value) : Option Value :=
  match ix, x with
  | .int _ i, .string s => match P.underlying t with
    | some .string => if 0 ≤ i then (s.data.toList[i.toNat]?).map fun b => .int .u8 b.toNat else none
    | _ => none
  | .int _ i, .agg c => match arrOf P t with
    | some (len, e) => match szOf P e with
      | some n => if 0 ≤ i ∧ i < len then apart P e c.toList (i.toNat * n) else none
      | none => none
    | none => none
  | _, _ => none

theorem bytes_get (s : ByteArray) (i : Nat) : s[i]? = s.data.toList[i]? := by
  simp only [Array.getElem?_toList]
  rfl

theorem index_sound {P : Program} {ρ : Rho} {t : TypeId} {x ix rx rix v : Value} (hx : VR ρ x rx) (hix : VR ρ ix rix) (h : aindex P t x ix = some v) (w : World) :
    ∃ r', (Instr.index t rx rix).run P w = .ok r' w ∧ VR ρ v r' := by
  unfold aindex at h
  split at h
  · rename_i k i s
    cases hix; cases hx
    split at h
    · rename_i hu
      split at h
      · rename_i hi
        cases hb : s.data.toList[i.toNat]? with
        | none => rw [hb] at h; cases h
        | some b =>
          rw [hb] at h; cases h
          refine ⟨.int .u8 b.toNat, ?_, .int _ _⟩
          simp only [Instr.index, asIntOf, Sem.run_bind, Sem.run_pure, Result.andThen_ok, run_und hu, if_pos hi, bytes_get, hb]
      · cases h
    · cases h
  · rename_i k i c
    cases hix
    obtain ⟨b, rfl, hb⟩ := hx.agg_inv
    split at h
    · rename_i len e hel
      split at h
      · rename_i n hn
        split at h
        · rename_i hi
          obtain ⟨r', h5, h6⟩ := apart_sound (P := P) hb h w
          refine ⟨r', ?_, h6⟩
          simp only [Instr.index, asIntOf, Sem.run_bind, Sem.run_pure, Result.andThen_ok, run_und (arrOf_some hel), if_pos hi, run_szOf hn]
          exact h5
        · cases h
      · cases h
    · cases h
  · cases h

def aextract (x : Value) (i : Nat) : Option Value :=
  match x with
  | .tuple vs => vs.toList[i]?
  | _ => none

theorem extract_sound {P : Program} {ρ : Rho} {x r v : Value} {i : Nat} (hx : VR ρ x r) (h : aextract x i = some v) (w : World) :
    ∃ r', (Instr.extract r i).run P w = .ok r' w ∧ VR ρ v r' := by
  unfold aextract at h
  split at h
  · obtain ⟨b, rfl, hb⟩ := hx.tuple_inv
    obtain ⟨v', h1, h2⟩ := hb.get h
    exact ⟨v', by simp only [Array.getElem?_toList] at h1; simp [Instr.extract, h1], h2⟩
  · cases h

def amakeInterface (P : Program) (t : TypeId) (x : Value) : Option Value :=
  match P.underlying t with
  | some (.interface _) | none => none
  | some _ => some (.iface t x)

theorem makeInterface_sound {P : Program} {ρ : Rho} {t : TypeId} {x r v : Value} (hx : VR ρ x r) (h : amakeInterface P t x = some v) (w : World) :
    ∃ r', (Instr.makeInterface t r).run P w = .ok r' w ∧ VR ρ v r' := by
  unfold amakeInterface at h
  split at h
  · cases h
  · cases h
  · rename_i d hn hu
    cases h
    refine ⟨.iface t r, ?_, .iface _ _ _ hx⟩
    simp only [Instr.makeInterface, Sem.run_bind, run_und hu, Result.andThen_ok]
    cases d <;> first | rfl | exact absurd hu (hn _)

/-- an assertion to a type that is no interface -/
def atypeAssert (P : Program) (x : Value) (asserted : TypeId) (commaOk : Bool) : Option Value :=
  match P.underlying asserted, x with
  | some (.interface _), _ | none, _ => none
  | some _, .iface t v => if t = asserted then some (if commaOk then .tuple ⟨[v, .bool true]⟩ else v) else none
  | _, _ => none

theorem typeAssert_sound {P : Program} {ρ : Rho} {t a : TypeId} {x r v : Value} {ok : Bool} (hx : VR ρ x r) (h : atypeAssert P x a ok = some v) (w : World) :
    ∃ r', (Instr.typeAssert r t a ok).run P w = .ok r' w ∧ VR ρ v r' := by
  unfold atypeAssert at h
  split at h
  · cases h
  · cases h
  · rename_i d hu u hn hu'
    cases hx with
    | iface _ _ v' hv =>
      split at h
      · rename_i hta
        cases h
        refine ⟨if ok then .tuple #[v', .bool true] else v', ?_, ?_⟩
        · simp only [Instr.typeAssert, Sem.run_bind, run_und hu', Result.andThen_ok]
          cases d <;> first | (subst hta; simp; done) | exact absurd hu' (hn _)
        · cases ok
          · exact hv
          · exact VL.tuple (.cons hv (.cons (.bool true) .nil))
      · cases h
  · cases h

def aconvert (P : Program) (src dst : TypeId) (x : Value) : Option Value :=
  match P.underlying src, P.underlying dst, x with
  | some _, some (.int k), .int _ n => some (.int k (k.wrap n))
  | some _, some .string, .string s => some (.string s)
  | _, _, _ => none

theorem convert_sound {P : Program} {ρ : Rho} {src dst : TypeId} {x r v : Value} (hx : VR ρ x r) (h : aconvert P src dst x = some v) (w : World) :
    ∃ r', (convert src dst r).run P w = .ok r' w ∧ VR ρ v r' := by
  unfold aconvert at h
  split at h
  · rename_i d k q n h1 h2
    cases hx; cases h
    refine ⟨_, ?_, .int _ _⟩
    simp only [convert, Sem.run_bind, run_und h1, run_und h2, Result.andThen_ok, Conv.intToInt, Sem.run_pure]
  · rename_i d s h1 h2
    cases hx; cases h
    refine ⟨_, ?_, .string _⟩
    simp only [convert, Sem.run_bind, run_und h1, run_und h2, Result.andThen_ok, Sem.run_pure]
  · cases h

def aunary (op : UnOp) (x : Value) : Option Value :=
  match op, x with
  | .not, .bool b => some (.bool !b)
  | .neg, .int k n => some (.int k (k.wrap (0 - n)))
  | .xor, .int k n => intBin .xor k (if k.signed then -1 else k.max) n
  | _, _ => none

theorem unary_sound {P : Program} {ρ : Rho} {op : UnOp} {x r v : Value} (hx : VR ρ x r) (h : aunary op x = some v) (w : World) :
    ∃ r', (Op.unary op r).run P w = .ok r' w ∧ VR ρ v r' := by
  unfold aunary at h
  split at h
  · cases hx; cases h; exact ⟨_, rfl, .bool _⟩
  · cases hx; cases h; exact ⟨_, rfl, .int _ _⟩
  · cases hx; simp only [intBin, Option.some.injEq] at h; subst h; exact ⟨_, rfl, .int _ _⟩
  · cases h

def apick (c a b : Value) : Option Value := match c with | .bool t => some (if t then a else b) | _ => none

def anilCheck (x : Value) : Option Value :=
  match x with
  | .pointer (some a) => some (.pointer (some a))
  | _ => none

end Go.AB
