/-
  Operations that leave the abstract heap alone.
-/
import Derived.Test.YtcbmjgagbfhigaaXA3
import Derived.Maps.Own
import Derived.DeepKeys5
namespace Go.AB
open Go
set_option linter.unusedSimpArgs false
set_option linter.unusedVariables false

/-! ### equality -/
def veq1 : Value → Value → Bool
  | .bool a, .bool b => a == b
  | .int k a, .int k' b => decide (k = k') && a == b
  | .string a, .string b => a.data.toList == b.data.toList
  | _, _ => false
def veqL : List Value → List Value → Bool
  | [], [] => true
  | a :: x, b :: y => veq1 a b && veqL x y
  | _, _ => false
def veq : Value → Value → Bool
  | .agg a, .agg b => veqL a.toList b.toList
  | a, b => veq1 a b

theorem bytes_ext {a b : ByteArray} (h : a.data.toList = b.data.toList) : a = b := by
  cases a; cases b; simp at h; simp [h]

theorem veq1_eq {a b : Value} (h : veq1 a b = true) : a = b := by
  cases a <;> cases b <;> simp [veq1] at h
  · exact congrArg _ h
  · obtain ⟨rfl, h⟩ := h; rw [h]
  · exact congrArg _ (bytes_ext (by simpa using h))
theorem veqL_eq : ∀ {a b : List Value}, veqL a b = true → a = b
  | [], [], _ => rfl
  | a :: x, b :: y, h => by
    simp [veqL] at h
    rw [veq1_eq h.1, veqL_eq h.2]
  | [], _ :: _, h => by simp [veqL] at h
  | _ :: _, [], h => by simp [veqL] at h
theorem veq_eq {a b : Value} (h : veq a b = true) : a = b := by
  unfold veq at h
  split at h
  · rename_i x y; exact congrArg _ (Array.ext' (veqL_eq h))
  · exact veq1_eq h

theorem veq1_VR {ρ : Rho} {a r : Value} (h : veq1 a a = true) (hv : VR ρ a r) : r = a := by
  cases a <;> simp [veq1] at h <;> (cases hv; rfl)
theorem veqL_mem : ∀ {a : List Value}, veqL a a = true → ∀ v ∈ a, veq1 v v = true
  | [], _, v, hv => by simp at hv
  | x :: a, h, v, hv => by
    simp [veqL] at h
    rcases List.mem_cons.1 hv with rfl | hv
    · exact h.1
    · exact veqL_mem h.2 v hv
theorem veqL_VR {ρ : Rho} {x b : List Value} (h : veqL x x = true) (hb : VL ρ x b) : b = x := by
  apply List.ext_getElem?
  intro i
  cases hi : x[i]? with
  | none =>
    have : x.length ≤ i := List.getElem?_eq_none_iff.1 hi
    exact List.getElem?_eq_none_iff.2 (by rw [← hb.1]; exact this)
  | some v =>
    obtain ⟨v', h1, h2⟩ := hb.get hi
    rw [h1, veq1_VR (veqL_mem h v (List.mem_of_getElem? hi)) h2]
theorem veq_VR {ρ : Rho} {a r : Value} (h : veq a a = true) (hv : VR ρ a r) : r = a := by
  cases a with
  | agg x =>
    obtain ⟨b, rfl, hb⟩ := hv.agg_inv
    exact congrArg _ (Array.ext' (veqL_VR h hb))
  | _ => exact veq1_VR h hv

/-- a key of a type, as the kit's laws want it -/
def keyOk (P : Program) (t : TypeId) (v : Value) : Bool := (keyOf P t v).isSome && veq v v

/-- a struct or an array of bools, integers and strings -/
def wideKey (P : Program) (t : TypeId) : Bool :=
  P.keyType t && decide (t < P.types.size) && (match P.underlying t with | some (.array _ _) | some (.struct _) => true | _ => false) && !P.eqGuardType P.depth t

structure Fine (P : Program) : Prop where
  laid : laidOutB P = true
  small : P.types.size + 2 ≤ 10000

theorem wide_law {P : Program} (F : Fine P) {t : TypeId} (h : wideKey P t = true) : WideMaps.KeyLaw P t := by
  unfold wideKey at h
  simp only [Bool.and_eq_true, decide_eq_true_eq] at h
  exact deep_law_gate F.laid F.small h.1.1.2 h.1.1.1 h.1.2

theorem run_equal_wide {P : Program} (F : Fine P) {t : TypeId} (h : wideKey P t = true) {x y : Value} (hx : keyOk P t x = true) (hy : keyOk P t y = true) (w : World) :
    (Op.equal t x y).run P w = .ok (veq x y) w := by
  have hl := wide_law F h
  unfold wideKey at h
  simp only [Bool.and_eq_true, decide_eq_true_eq] at h
  unfold keyOk at hx hy
  simp only [Bool.and_eq_true, Option.isSome_iff_exists] at hx hy
  obtain ⟨⟨lx, h1⟩, h2⟩ := hx
  obtain ⟨⟨ly, h3⟩, h4⟩ := hy
  obtain ⟨r, h5, h6⟩ := run_equal_deep w (m := P.types.size + 1) (by have := F.small; omega) h.1.1.1 h.1.2 h1 h3
  rw [h5]
  congr 1
  rw [Bool.eq_iff_iff, h6]
  constructor
  · intro e; rw [← e] at h3; have := hl.inj h1 h3; subst this; exact h2
  · intro e; have := veq_eq e; subst this; rw [h1] at h3; exact Option.some.inj h3

/-- '==' on two values of a type -/
def aeq (P : Program) (t : TypeId) : Value → Value → Option Bool
  | .int k a, .int k' b => if k = k' then some (a == b) else none
  | .string a, .string b => some (a.data.toList == b.data.toList)
  | .bool a, .bool b => match P.underlying t with | some .bool => some (a == b) | _ => none
  | .pointer none, .pointer none => match P.underlying t with | some (.pointer _) => some true | _ => none
  | .pointer none, .pointer (some _) => match P.underlying t with | some (.pointer _) => some false | _ => none
  | .pointer (some _), .pointer none => match P.underlying t with | some (.pointer _) => some false | _ => none
  | .slice none _ _, .slice none _ _ => match P.underlying t with | some (.slice _) => some true | _ => none
  | .slice (some _) _ _, .slice none _ _ => match P.underlying t with | some (.slice _) => some false | _ => none
  | .agg a, .agg b => if wideKey P t && keyOk P t (.agg a) && keyOk P t (.agg b) then some (veq (.agg a) (.agg b)) else none
  | _, _ => none

def intBin (op : BinOp) (k : IntKind) (a b : Int) : Option Value :=
  match op with
  | .add => some (.int k (k.wrap (a + b)))
  | .sub => some (.int k (k.wrap (a - b)))
  | .mul => some (.int k (k.wrap (a * b)))
  | .quo => if b = 0 then none else some (.int k (k.wrap (a.tdiv b)))
  | .rem => if b = 0 then none else some (.int k (a.tmod b))
  | .and => some (.int k (k.wrap (BitVec.ofInt k.bits a &&& BitVec.ofInt k.bits b).toNat))
  | .or => some (.int k (k.wrap (BitVec.ofInt k.bits a ||| BitVec.ofInt k.bits b).toNat))
  | .xor => some (.int k (k.wrap (BitVec.ofInt k.bits a ^^^ BitVec.ofInt k.bits b).toNat))
  | .andNot => some (.int k (k.wrap (BitVec.ofInt k.bits a &&& ~~~ BitVec.ofInt k.bits b).toNat))
  | .lss => some (.bool (decide (a < b)))
  | .leq => some (.bool (decide (a ≤ b)))
  | .gtr => some (.bool (decide (a > b)))
  | .geq => some (.bool (decide (a ≥ b)))
  | .eql => some (.bool (a == b))
  | .neq => some (.bool (a != b))
  | _ => none

def strBin (op : BinOp) (a b : ByteArray) : Option Value :=
  match op with
  | .add => if a.size + b.size < 1048576 then some (.string ⟨(a.data.toList ++ b.data.toList).toArray⟩) else none
  | .eql => some (.bool (a.data.toList == b.data.toList))
  | .neq => some (.bool !(a.data.toList == b.data.toList))
  | .lss => some (.bool (Op.bytesLess a.data.toList b.data.toList))
  | .leq => some (.bool (Op.bytesLess a.data.toList b.data.toList || a.data.toList == b.data.toList))
  | .gtr => some (.bool !(Op.bytesLess a.data.toList b.data.toList || a.data.toList == b.data.toList))
  | .geq => some (.bool !(Op.bytesLess a.data.toList b.data.toList))
  | _ => none

def abin (P : Program) (op : BinOp) (t : TypeId) (x y : Value) : Option Value :=
  match op, x, y with
  | .shl, .int k a, .int _ b => if b < 0 then none else some (.int k (k.wrap (a * 2 ^ (min b.toNat k.bits))))
  | .shr, .int k a, .int _ b => if b < 0 then none else some (.int k (a.fdiv (2 ^ (min b.toNat k.bits))))
  | op, .int k a, .int k' b => if k = k' then intBin op k a b else none
  | op, .string a, .string b => strBin op a b
  | .eql, x, y => (aeq P t x y).map .bool
  | .neq, x, y => (aeq P t x y).map fun b => .bool !b
  | _, _, _ => none

theorem toList_bytes (a : ByteArray) : a.toList = a.data.toList := by
  exact ByteArray.toList_eq a

theorem intBin_sound {P : Program} {op : BinOp} {k : IntKind} {a b : Int} {v : Value} (h : intBin op k a b = some v) (xt : TypeId) (w : World)
    (h1 : op ≠ .shl) (h2 : op ≠ .shr) : (binOp op xt (.int k a) (.int k b)).run P w = .ok v w := by
  unfold intBin at h
  cases op <;> simp at h <;> first
    | (obtain ⟨hb, rfl⟩ := h; simp [binOp, Op.intDiv, hb])
    | (subst h; simp [binOp, Op.intArith, Op.intBits, Op.intCmp]; done)
    | (subst h; simp [binOp, Op.intArith, Op.intBits, Op.intCmp]; rfl)
    | exact absurd rfl h1
    | exact absurd rfl h2

theorem strBin_sound {P : Program} {op : BinOp} {a b : ByteArray} {v : Value} (h : strBin op a b = some v) (xt : TypeId) (w : World) :
    (binOp op xt (.string a) (.string b)).run P w = .ok v w := by
  by_cases hop : op = .add
  · subst hop
    have hadd : strBin .add a b = if a.size + b.size < 1048576 then some (.string ⟨(a.data.toList ++ b.data.toList).toArray⟩) else none := rfl
    rw [hadd] at h
    split at h
    · rename_i hlt
      simp only [Option.some.injEq] at h
      subst h
      simp only [binOp, Op.stringOp]
      rw [if_neg (by simp only [IntKind.max, IntKind.signed, IntKind.bits, if_true]; omega)]
      simp only [Sem.run_pure]
      congr 2
    · cases h
  · cases op <;> simp only [strBin] at h <;> first
      | exact absurd rfl hop
      | (cases h; simp only [binOp, Op.stringOp, toList_bytes, Sem.run_pure]; done)
      | (cases h; done)

theorem equal_def : ∃ d, ∀ (t : TypeId) (x y : Value), Op.equal t x y = Op.equalIn (d + 1) t x y := ⟨9999, fun _ _ _ => rfl⟩

theorem run_und {P : Program} {t : TypeId} {d : TypeDesc} (h : P.underlying t = some d) (w : World) : (underlying t).run P w = .ok d w := run_underlying h w

theorem aeq_sound {P : Program} (F : Fine P) {ρ : Rho} {t : TypeId} {x y rx ry : Value} {b : Bool} (hx : VR ρ x rx) (hy : VR ρ y ry) (h : aeq P t x y = some b)
    (w : World) : (∃ k a k' c, x = .int k a ∧ y = .int k' c) ∨ (∃ a c, x = .string a ∧ y = .string c) ∨ (Op.equal t rx ry).run P w = .ok b w := by
  unfold aeq at h
  split at h
  · exact .inl ⟨_, _, _, _, rfl, rfl⟩
  · exact .inr (.inl ⟨_, _, rfl, rfl⟩)
  · refine .inr (.inr ?_)
    cases hx; cases hy
    split at h
    · rename_i hu; cases h; obtain ⟨d, hd⟩ := equal_def; rw [hd]; simp only [Op.equalIn, Sem.run_bind, run_und hu, Result.andThen_ok, Sem.run_pure, Option.isNone_none, Option.isNone_some]
    · cases h
  · refine .inr (.inr ?_)
    cases hx; cases hy
    split at h
    · rename_i hu; cases h; obtain ⟨d, hd⟩ := equal_def; rw [hd]; simp only [Op.equalIn, Sem.run_bind, run_und hu, Result.andThen_ok, Sem.run_pure, Option.isNone_none, Option.isNone_some]
    · cases h
  · refine .inr (.inr ?_)
    cases hx; cases hy
    split at h
    · rename_i hu; cases h; obtain ⟨d, hd⟩ := equal_def; rw [hd]; simp only [Op.equalIn, Sem.run_bind, run_und hu, Result.andThen_ok, Sem.run_pure, Option.isNone_none, Option.isNone_some]
    · cases h
  · refine .inr (.inr ?_)
    cases hx; cases hy
    split at h
    · rename_i hu; cases h; obtain ⟨d, hd⟩ := equal_def; rw [hd]; simp only [Op.equalIn, Sem.run_bind, run_und hu, Result.andThen_ok, Sem.run_pure, Option.isNone_none, Option.isNone_some]
    · cases h
  · refine .inr (.inr ?_)
    cases hx; cases hy
    split at h
    · rename_i hu; cases h; obtain ⟨d, hd⟩ := equal_def; rw [hd]; simp only [Op.equalIn, Sem.run_bind, run_und hu, Result.andThen_ok, Sem.run_pure, Option.isNone_none, Option.isNone_some]
    · cases h
  · refine .inr (.inr ?_)
    cases hy
    cases hx <;> (split at h <;> first | (rename_i hu; cases h; obtain ⟨d, hd⟩ := equal_def; rw [hd]; simp only [Op.equalIn, Sem.run_bind, run_und hu, Result.andThen_ok, Sem.run_pure, Option.isNone_none, Option.isNone_some]; done) | (cases h; done))
  · refine .inr (.inr ?_)
    split at h
    · rename_i hk
      simp only [Bool.and_eq_true] at hk
      cases h
      have e1 : rx = _ := veq_VR (by have := hk.1.2; unfold keyOk at this; simp only [Bool.and_eq_true] at this; exact this.2) hx
      have e2 : ry = _ := veq_VR (by have := hk.2; unfold keyOk at this; simp only [Bool.and_eq_true] at this; exact this.2) hy
      rw [e1, e2]
      exact run_equal_wide F hk.1.1 hk.1.2 hk.2 w
    · cases h
  · cases h

theorem abin_plain {P : Program} {op : BinOp} {t : TypeId} {x y v : Value} (h : abin P op t x y = some v) : plain1 v = true := by
  unfold abin at h
  split at h
  · split at h <;> cases h; rfl
  · split at h <;> cases h; rfl
  · split at h
    · unfold intBin at h
      split at h <;> first | (cases h; rfl) | (split at h <;> cases h; rfl) | cases h
    · cases h
  · unfold strBin at h
    split at h <;> first | (cases h; rfl) | (split at h <;> cases h; rfl) | cases h
  · cases ha : aeq P t _ _ <;> rw [ha] at h <;> cases h; rfl
  · cases ha : aeq P t _ _ <;> rw [ha] at h <;> cases h; rfl
  · cases h

theorem eqGuard_pass {P : Program} {op : BinOp} {t : TypeId} {x y : Operand} {a b : Value} (w : World) (h1 : a ≠ .nilIface)
    (h2 : ∀ c, a = .agg c → P.eqGuardType P.depth t = false) : (eqGuard op t x y a b).run P w = .ok () w := by
  have key : ∀ op', (op' = .eql ∨ op' = .neq) → (eqGuard op' t x y a b).run P w = .ok () w := by
    intro op' ho
    unfold eqGuard
    cases a with
    | nilIface => exact absurd rfl h1
    | agg c =>
      have := h2 c rfl
      cases b <;> rcases ho with rfl | rfl <;> simp [this]
    | _ => cases b <;> rcases ho with rfl | rfl <;> rfl
  cases op <;> first | rfl | exact key _ (.inl rfl) | exact key _ (.inr rfl)

theorem abin_sound {P : Program} (F : Fine P) {ρ : Rho} {op : BinOp} {t : TypeId} {xo yo : Operand} {x y rx ry v : Value} (hx : VR ρ x rx) (hy : VR ρ y ry)
    (h : abin P op t x y = some v) (w : World) : (do eqGuard op t xo yo rx ry; binOp op t rx ry : Sem Value).run P w = .ok v w := by
  have hg : (eqGuard op t xo yo rx ry).run P w = .ok () w := by
    by_cases hop : op = .eql ∨ op = .neq
    · refine eqGuard_pass w ?_ ?_
      · intro hr
        subst hr
        rcases hop with rfl | rfl <;> cases hx <;> simp [abin, aeq] at h
      · intro c hr
        subst hr
        have key : ∀ {b}, aeq P t x y = some b → P.eqGuardType P.depth t = false := by
          intro b hb
          cases hx with
          | top => simp [aeq] at hb
          | agg a _ hs hcell =>
            cases y <;> simp only [aeq] at hb <;> try (cases hb; done)
            split at hb
            · rename_i hk
              simp only [Bool.and_eq_true, wideKey] at hk
              simpa using hk.1.1.2
            · cases hb
        rcases hop with rfl | rfl
        · cases hx with
          | top => simp [abin, aeq] at h
          | agg a _ hs hcell =>
            simp only [abin] at h
            cases hb : aeq P t (.agg a) y with
            | none => rw [hb] at h; cases h
            | some b => exact key hb
        · cases hx with
          | top => simp [abin, aeq] at h
          | agg a _ hs hcell =>
            simp only [abin] at h
            cases hb : aeq P t (.agg a) y with
            | none => rw [hb] at h; cases h
            | some b => exact key hb
    · unfold eqGuard
      cases op <;> simp_all
  simp only [Sem.run_bind, hg, Result.andThen_ok]
  unfold abin at h
  split at h
  · rename_i k a k' b
    cases hx; cases hy
    split at h
    · cases h
    · rename_i hb; cases h
      simp [binOp, Op.shift, hb]
  · rename_i k a k' b
    cases hx; cases hy
    split at h
    · cases h
    · rename_i hb; cases h
      simp [binOp, Op.shift, hb]
  · rename_i op k a k' b h1 h2
    cases hx; cases hy
    split at h
    · rename_i hk; subst hk
      exact intBin_sound h t w (fun e => by subst e; simp_all) (fun e => by subst e; simp_all)
    · cases h
  · cases hx; cases hy
    exact strBin_sound h t w
  · rename_i hn1 hn2
    cases hb : aeq P t x y with
    | none => rw [hb] at h; cases h
    | some b =>
      rw [hb] at h; cases h
      have hu : binOp .eql t rx ry = (do pure (.bool (← Op.equal t rx ry))) := by
        cases hx <;> cases hy <;> first | rfl | exact absurd rfl (hn1 _ _ _ _ rfl) | exact absurd rfl (hn2 _ _ rfl) | (simp [aeq] at hb; done)
      rcases aeq_sound F hx hy hb w with ⟨k, a, k', c, e1, e2⟩ | ⟨a, c, e1, e2⟩ | he
      · exact absurd e2 (hn1 _ _ _ _ e1)
      · exact absurd e2 (hn2 _ _ e1)
      · rw [hu]; simp [he]
  · rename_i hn1 hn2
    cases hb : aeq P t x y with
    | none => rw [hb] at h; cases h
    | some b =>
      rw [hb] at h; cases h
      have hu : binOp .neq t rx ry = (do pure (.bool (!(← Op.equal t rx ry)))) := by
        cases hx <;> cases hy <;> first | rfl | exact absurd rfl (hn1 _ _ _ _ rfl) | exact absurd rfl (hn2 _ _ rfl) | (simp [aeq] at hb; done)
      rcases aeq_sound F hx hy hb w with ⟨k, a, k', c, e1, e2⟩ | ⟨a, c, e1, e2⟩ | he
      · exact absurd e2 (hn1 _ _ _ _ e1)
      · exact absurd e2 (hn2 _ _ e1)
      · rw [hu]; simp [he]
  · cases h

end Go.AB
