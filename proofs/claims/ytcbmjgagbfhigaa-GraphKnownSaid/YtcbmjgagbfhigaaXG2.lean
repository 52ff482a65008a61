/-
  Vertices as lists of numbers; rows of equal parts.
-/
import Derived.Test.YtcbmjgagbfhigaaXG1
import Derived.Test.YtcbmjgagbfhigaaXF2
import Derived.Test.YtcbmjgagbfhigaaXC6
import Derived.Test.YtcbmjgagbfhigaaXC7
import Derived.Lib.Bytealg
namespace Go.AB
open Go
set_option linter.unusedSimpArgs false
set_option linter.unusedVariables false

/-! ### rows of equal parts -/
theorem flat_len {s : Nat} : ∀ {ls : List (List Value)}, (∀ x ∈ ls, x.length = s) → ls.flatten.length = ls.length * s
  | [], _ => by simp
  | x :: ls, h => by
    rw [List.flatten_cons, List.length_append, flat_len (fun y hy => h y (List.mem_cons_of_mem _ hy)), h x (List.mem_cons_self ..), List.length_cons, Nat.succ_mul]
    omega

theorem flat_split {s : Nat} {ls : List (List Value)} (h : ∀ x ∈ ls, x.length = s) {i : Nat} (hi : i < ls.length) :
    ls.flatten = (ls.take i).flatten ++ (ls[i] ++ (ls.drop (i + 1)).flatten) ∧ (ls.take i).flatten.length = i * s ∧ ls[i].length = s := by
  refine ⟨?_, ?_, h _ (List.getElem_mem hi)⟩
  · conv => lhs; rw [← List.take_append_drop i ls, List.drop_eq_getElem_cons hi]
    rw [List.flatten_append, List.flatten_cons]
  · rw [flat_len (s := s) (fun x hx => h x (List.mem_of_mem_take hx)), List.length_take, Nat.min_eq_left (Nat.le_of_lt hi)]

theorem flat_get {s : Nat} {ls : List (List Value)} (h : ∀ x ∈ ls, x.length = s) {i : Nat} (hi : i < ls.length) : getCells ls.flatten (i * s) s = some ls[i] := by
  obtain ⟨h1, h2, h3⟩ := flat_split h hi
  have hle : i * s + s ≤ ls.flatten.length := by
    rw [flat_len h]
    have := Nat.mul_le_mul_right s (show i + 1 ≤ ls.length from hi)
    rw [Nat.succ_mul] at this
    exact this
  unfold getCells
  rw [if_pos hle, h1, ← h2, List.drop_left, ← h3, List.take_left]

theorem flat_put {s : Nat} {ls : List (List Value)} (h : ∀ x ∈ ls, x.length = s) {i : Nat} (hi : i < ls.length) {y : List Value} (hy : y.length = s) :
    putCells ls.flatten (i * s) y = some (ls.set i y).flatten := by
  obtain ⟨h1, h2, h3⟩ := flat_split h hi
  have hle : i * s + s ≤ ls.flatten.length := by
    rw [flat_len h]
    have := Nat.mul_le_mul_right s (show i + 1 ≤ ls.length from hi)
    rw [Nat.succ_mul] at this
    exact this
  unfold putCells
  rw [hy, if_pos hle]
  congr 1
  have e1 : ls.flatten.take (i * s) = (ls.take i).flatten := by rw [h1, ← h2, List.take_left]
  have e2 : ls.flatten.drop (i * s + s) = (ls.drop (i + 1)).flatten := by
    rw [h1, ← List.append_assoc]
    have : ((ls.take i).flatten ++ ls[i]).length = i * s + s := by rw [List.length_append, h2, h3]
    rw [← this, List.drop_left]
  rw [e1, e2, List.set_eq_take_append_cons_drop, if_pos hi, List.flatten_append, List.flatten_cons, List.append_assoc]

theorem flat_take {s : Nat} {ls : List (List Value)} (h : ∀ x ∈ ls, x.length = s) (n : Nat) (hn : n ≤ ls.length) : getCells ls.flatten 0 (n * s) = some (ls.take n).flatten := by
  have hle : 0 + n * s ≤ ls.flatten.length := by
    rw [flat_len h, Nat.zero_add]
    exact Nat.mul_le_mul_right s hn
  have h1 : (ls.take n).flatten.length = n * s := by
    rw [flat_len (s := s) (fun x hx => h x (List.mem_of_mem_take hx)), List.length_take, Nat.min_eq_left hn]
  unfold getCells
  rw [if_pos hle, List.drop_zero]
  congr 1
  conv => lhs; rw [← List.take_append_drop n ls, List.flatten_append]
  rw [← h1, List.take_left]

/-! ### vertices -/
def vcells (v : List Int) : List Value := (v.take 32).map (Value.int .u8 ·) ++ (v.drop 32).map (Value.int .i64 ·)
def vagg (v : List Int) : Value := .agg ⟨vcells v⟩
def vok (v : List Int) : Bool := Nat.beq v.length 33 && (v.take 32).all (qint .u8) && (v.drop 32).all (qint .i64)
def vrows (l : List (List Int)) : List Value := (l.map vcells).flatten

theorem vok_len {v : List Int} (h : vok v = true) : v.length = 33 := by
  unfold vok at h
  simp only [Bool.and_eq_true] at h
  exact Nat.eq_of_beq_eq_true h.1.1
theorem vcells_len' (v : List Int) : (vcells v).length = v.length := by
  unfold vcells
  rw [List.length_append, List.length_map, List.length_map, ← List.length_append, List.take_append_drop]
theorem vcells_len {v : List Int} (h : vok v = true) : (vcells v).length = 33 := by rw [vcells_len', vok_len h]

theorem ints_inj {k : IntKind} {a b : List Int} (h : a.map (Value.int k ·) = b.map (Value.int k ·)) : a = b := by
  induction a generalizing b with
  | nil => cases b <;> simp_all
  | cons x a ih =>
    cases b with
    | nil => simp at h
    | cons y b => simp at h; rw [h.1, ih (by simpa using h.2)]

theorem vcells_inj {a b : List Int} (ha : a.length = 33) (hb : b.length = 33) (h : vcells a = vcells b) : a = b := by
  unfold vcells at h
  have hl : ((a.take 32).map (Value.int .u8 ·)).length = ((b.take 32).map (Value.int .u8 ·)).length := by simp [ha, hb]
  obtain ⟨h1, h2⟩ := List.append_inj h hl
  rw [← List.take_append_drop 32 a, ← List.take_append_drop 32 b, ints_inj h1, ints_inj h2]

theorem ints_scalar {k : IntKind} (l : List Int) : (l.map (Value.int k ·)).all scalar = true := by
  rw [List.all_map]; rw [List.all_eq_true]; intro x _; rfl
theorem vcells_scalar (v : List Int) : (vcells v).all scalar = true := by
  unfold vcells; rw [List.all_append, ints_scalar, ints_scalar]; rfl
theorem ints_plain {k : IntKind} (l : List Int) : (l.map (Value.int k ·)).all plain1 = true := by
  rw [List.all_map]; rw [List.all_eq_true]; intro x _; rfl
theorem vcells_plain (v : List Int) : (vcells v).all plain1 = true := by
  unfold vcells; rw [List.all_append, ints_plain, ints_plain]; rfl
theorem vagg_noRef (v : List Int) : noRef (vagg v) = true := vcells_plain v

theorem acells_vagg (v : List Int) : acells (vagg v) = some (vcells v) := by
  show (if (vcells v).all scalar then some (vcells v) else none) = _
  rw [vcells_scalar]; rfl

theorem vagg_fold (v : List Int) : Value.agg ⟨vcells v⟩ = vagg v := rfl
theorem acells_vc (v : List Int) : acells (.agg ⟨vcells v⟩) = some (vcells v) := acells_vagg v

def vlay : List Cty := List.replicate 32 (.int .u8) ++ [.int .i64]

theorem qfitL_cons (c : Cty) (l : List Cty) (v : Value) (vs : List Value) : qfitL (c :: l) (v :: vs) = match qfit1 c v with | true => qfitL l vs | false => false := rfl

theorem qfit_ints {k : IntKind} {rest : List Cty} {more : List Value} : ∀ (n : Nat) (l : List Int), l.length = n → l.all (qint k) = true →
    qfitL (List.replicate n (.int k) ++ rest) (l.map (Value.int k ·) ++ more) = qfitL rest more
  | 0, [], _, _ => rfl
  | n + 1, a :: l, h, ha => by
    simp only [List.all_cons, Bool.and_eq_true] at ha
    rw [List.replicate_succ, List.cons_append, List.map_cons, List.cons_append]
    rw [qfitL_cons]
    have : qfit1 (.int k) (.int k a) = true := by
      unfold qfit1; simp only [kn_self]; exact ha.1
    rw [this]
    exact qfit_ints n l (by simpa using h) ha.2
  | 0, _ :: _, h, _ => by simp at h
  | n + 1, [], h, _ => by simp at h

theorem vok_fit {v : List Int} (h : vok v = true) : qfitV vlay (vagg v) = true := by
  have hl := vok_len h
  unfold vok at h
  simp only [Bool.and_eq_true] at h
  show qfitL vlay (vcells v) = true
  unfold vlay vcells
  rw [qfit_ints 32 (v.take 32) (by simp [hl]) h.1.2]
  have h1 : (v.drop 32).length = 1 := by simp [hl]
  match hd : v.drop 32, h1 with
  | [x], _ =>
    rw [hd] at h
    have := h.2
    simp only [List.all_cons, List.all_nil, Bool.and_true] at this
    simp only [List.map_cons, List.map_nil, qfitL, qfit1, kn_self, this]

theorem vok_key {P : Program} {t : TypeId} (hl : layQ P t = some vlay) {v : List Int} (h : vok v = true) : keyOk P t (vagg v) = true := layQ_key hl (vok_fit h)

theorem veqL_ints {k : IntKind} : ∀ (a b : List Int), veqL (a.map (Value.int k ·)) (b.map (Value.int k ·)) = decide (a = b)
  | [], [] => rfl
  | [], _ :: _ => rfl
  | _ :: _, [] => rfl
  | x :: a, y :: b => by
    simp only [List.map_cons, veqL, veq1, veqL_ints a b]
    by_cases h1 : x = y
    · subst h1; simp
    · simp [h1]

theorem veq_vagg {a b : List Int} (ha : vok a = true) (hb : vok b = true) : veq (vagg a) (vagg b) = decide (a = b) := by
  show veqL (vcells a) (vcells b) = _
  have hs : veqL (vcells a) (vcells a) = true := fitL_veq (qfitL_ok (vok_fit ha))
  by_cases h : a = b
  · subst h; simp [hs]
  · simp only [h, decide_false]
    cases hv : veqL (vcells a) (vcells b) with
    | false => rfl
    | true => exact absurd (vcells_inj (vok_len ha) (vok_len hb) (veqL_eq hv)) h

theorem vrows_all {l : List (List Int)} (h : ∀ v ∈ l, vok v = true) : ∀ x ∈ l.map vcells, x.length = 33 := by
  intro x hx
  obtain ⟨v, hv, rfl⟩ := List.mem_map.1 hx
  exact vcells_len (h v hv)

theorem vrows_get {l : List (List Int)} (h : ∀ v ∈ l, vok v = true) {i : Nat} (hi : i < l.length) : getCells (vrows l) (i * 33) 33 = some (vcells (at' [] l i)) := by
  have := flat_get (vrows_all h) (i := i) (by simpa using hi)
  unfold vrows
  rw [this, at_eq [] hi]
  simp

theorem vrows_put {l : List (List Int)} (h : ∀ v ∈ l, vok v = true) {i : Nat} (hi : i < l.length) {v : List Int} (hv : vok v = true) : putCells (vrows l) (i * 33) (vcells v) = some (vrows (l.set i v)) := by
  have := flat_put (vrows_all h) (i := i) (by simpa using hi) (vcells_len hv)
  unfold vrows
  rw [this, List.map_set]

theorem vrows_len {l : List (List Int)} (h : ∀ v ∈ l, vok v = true) : (vrows l).length = l.length * 33 := by
  unfold vrows; rw [flat_len (vrows_all h), List.length_map]

theorem vrows_append (l m : List (List Int)) : vrows (l ++ m) = vrows l ++ vrows m := by
  unfold vrows; rw [List.map_append, List.flatten_append]

theorem vrows_one (v : List Int) : vrows [v] = vcells v := by simp [vrows]

/-! ### their order -/
def ub (x : Int) : UInt8 := x.toNat.toUInt8

theorem byteV_ints : ∀ l : List Int, byteV (l.map (Value.int .u8 ·)) = some (l.map ub)
  | [] => rfl
  | a :: l => by simp only [List.map_cons, byteV, byteV_ints l, Option.map_some]; rfl

theorem qint_u8 {x : Int} (h : qint .u8 x = true) : 0 ≤ x ∧ x < 256 := by
  unfold qint at h
  split at h
  · rename_i m
    have h1 : m ≤ (IntKind.max .u8).toNat := Nat.le_of_ble_eq_true h
    have h2 : (IntKind.max .u8).toNat = 255 := by decide
    refine ⟨Int.natCast_nonneg m, ?_⟩
    show (m : Int) < 256
    omega
  · rename_i m
    have h1 : m + 1 ≤ (-(IntKind.min .u8)).toNat := Nat.le_of_ble_eq_true h
    have h2 : (-(IntKind.min .u8)).toNat = 0 := by decide
    omega

theorem ub_lt {x y : Int} (hx : 0 ≤ x ∧ x < 256) (hy : 0 ≤ y ∧ y < 256) : ub x < ub y ↔ x < y := by
  rw [UInt8.lt_iff_toNat_lt]
  unfold ub
  rw [Nat.toUInt8_eq, Nat.toUInt8_eq, UInt8.toNat_ofNat', UInt8.toNat_ofNat', Nat.mod_eq_of_lt (by omega), Nat.mod_eq_of_lt (by omega)]
  omega

theorem cmp_ints : ∀ (a b : List Int), a.length = b.length → a.all (qint .u8) = true → b.all (qint .u8) = true →
    Lib.compareBytes (a.map ub) (b.map ub) = if llt a b = true then -1 else if llt b a = true then 1 else 0
  | [], [], _, _, _ => rfl
  | [], _ :: _, h, _, _ => by simp at h
  | _ :: _, [], h, _, _ => by simp at h
  | x :: a, y :: b, h, ha, hb => by
    simp only [List.all_cons, Bool.and_eq_true] at ha hb
    have ih := cmp_ints a b (by simpa using h) ha.2 hb.2
    have h1 := ub_lt (qint_u8 ha.1) (qint_u8 hb.1)
    have h2 := ub_lt (qint_u8 hb.1) (qint_u8 ha.1)
    simp only [List.map_cons, Lib.compareBytes, ih, llt_cons, h1, h2]
    by_cases h3 : x < y
    · simp [h3]
    · by_cases h4 : y < x
      · simp [h3, h4]
      · simp [h3, h4]

theorem llt_append : ∀ (a b x y : List Int), a.length = b.length → llt (a ++ x) (b ++ y) = if llt a b = true then true else if llt b a = true then false else llt x y
  | [], [], x, y, _ => rfl
  | [], _ :: _, _, _, h => by simp at h
  | _ :: _, [], _, _, h => by simp at h
  | p :: a, q :: b, x, y, h => by
    rw [List.cons_append, List.cons_append, llt_cons, llt_cons, llt_cons, llt_append a b x y (by simpa using h)]
    by_cases h3 : p < q
    · simp [h3]
    · by_cases h4 : q < p <;> simp [h3, h4]

/-- the order's number -/
def ordI (a b : List Int) : Int := if llt a b = true then -1 else if llt b a = true then 1 else 0

theorem ordI_neg (a b : List Int) : decide (ordI a b < 0) = llt a b := by
  unfold ordI
  cases llt a b with
  | true => rfl
  | false => cases llt b a <;> rfl

def vn (v : List Int) : Int := v.getD 32 0

theorem drop32 {v : List Int} (h : vok v = true) : v.drop 32 = [vn v] := by
  have hl := vok_len h
  have h1 : (v.drop 32).length = 1 := by simp [hl]
  match hd : v.drop 32, h1 with
  | [x], _ =>
    have : v.getD 32 0 = x := by
      have h2 : (v.drop 32)[0]? = some x := by rw [hd]; rfl
      rw [List.getElem?_drop] at h2
      rw [List.getD_eq_getElem?_getD, h2]; rfl
    unfold vn; rw [this]

/-- bytes first, then the number -/
theorem ordI_eq {a b : List Int} (ha : vok a = true) (hb : vok b = true) :
    ordI a b = if Lib.compareBytes ((a.take 32).map ub) ((b.take 32).map ub) ≠ 0 then Lib.compareBytes ((a.take 32).map ub) ((b.take 32).map ub)
      else if vn a < vn b then -1 else if vn b < vn a then 1 else 0 := by
  have la := vok_len ha
  have lb := vok_len hb
  have da := drop32 ha
  have db := drop32 hb
  unfold vok at ha hb
  simp only [Bool.and_eq_true] at ha hb
  rw [cmp_ints _ _ (by simp [la, lb]) ha.1.2 hb.1.2]
  have e1 : llt a b = llt (a.take 32 ++ [vn a]) (b.take 32 ++ [vn b]) := by rw [← da, ← db, List.take_append_drop, List.take_append_drop]
  have e2 : llt b a = llt (b.take 32 ++ [vn b]) (a.take 32 ++ [vn a]) := by rw [← da, ← db, List.take_append_drop, List.take_append_drop]
  unfold ordI
  rw [e1, e2, llt_append _ _ _ _ (by simp [la, lb]), llt_append _ _ _ _ (by simp [la, lb]), llt_cons, llt_cons]
  cases h1 : llt (a.take 32) (b.take 32) with
  | true => simp
  | false =>
    cases h2 : llt (b.take 32) (a.take 32) with
    | true => simp
    | false =>
      simp only [Bool.false_eq_true, if_false, ne_eq, not_true, llt]
      by_cases h3 : vn a < vn b
      · simp [h3]
      · by_cases h4 : vn b < vn a <;> simp [h3, h4]

end Go.AB
