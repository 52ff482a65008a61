/-
  More equations for the walks: bounds of slices.
-/
import Derived.Test.YtcbmjgagbfhigaaXC6
namespace Go.AB
open Go
set_option linter.unusedSimpArgs false
set_option linter.unusedVariables false

theorem abounds_0 (len cap : Nat) : abounds len cap none none none = some (0, len, cap) := rfl
theorem abounds_hi (len cap : Nat) (k : IntKind) (i : Int) : abounds len cap none (some (.int k i)) none = if 0 ≤ i ∧ i ≤ cap then some (0, i.toNat, cap) else none := by
  unfold abounds abound
  by_cases h : 0 ≤ i ∧ i ≤ (cap : Int)
  · simp [h]
  · simp only [if_neg h]
theorem abounds_lo (len cap : Nat) (k : IntKind) (i : Int) : abounds len cap (some (.int k i)) none none = if 0 ≤ i ∧ i ≤ len then some (i.toNat, len, cap) else none := by
  unfold abounds abound
  by_cases h : 0 ≤ i ∧ i ≤ (len : Int)
  · simp [h]
  · simp only [if_neg h]
theorem abounds_nat (len cap n : Nat) (k : IntKind) (h : n ≤ cap) : abounds len cap none (some (.int k (n : Int))) none = some (0, n, cap) := by
  rw [abounds_hi, if_pos ⟨by omega, by omega⟩]; simp
theorem abounds_lnat (len cap n : Nat) (k : IntKind) (h : n ≤ len) : abounds len cap (some (.int k (n : Int))) none none = some (n, len, cap) := by
  rw [abounds_lo, if_pos ⟨by omega, by omega⟩]; simp
theorem aops_do {P : Program} {n : Nat} {ops : Array Oper} {t : Tm} {A : AHeap} {K : Tm → AHeap → Prop} {o : Oper} {os : List Oper} {v : Value} {A' : AHeap} (hw : awanted ops t o = some true) (hk : opKind o.op = .other)
    (hx : aop P o.op (aeval t) A = some (v, A')) (h : aput n t o.dst v fun t' => aops P n ops os t' A' K) : aops P n ops (o :: os) t A K := by
  unfold aops
  rw [hw]
  show aop1 P o t A _
  unfold aop1
  rw [hk]
  simp only [hx]
  exact h
theorem adrawn_do {P : Program} {n : Nat} {ops : Array Oper} {t : Tm} {A : AHeap} {rd : List Nat} {hist : List AHeap} {K : Tm → AHeap → Prop} {i : Nat} {o : Oper} {os : List Oper} {v : Value} {A' : AHeap} (hr : rd.contains i = false) (hw : awanted ops t o = some true)
    (hk : opKind o.op = .other) (hx : aop P o.op (aeval t) A = some (v, A')) (hle : A.n ≤ A'.n) (hu : Unch A A' ∨ barrier ops rd i = true)
    (h : aput n t o.dst v fun t' => adrawn P n ops rd os (i + 1) t' A' (A :: hist) [] K) : adrawn P n ops rd (o :: os) i t A hist [] K :=
  adrawn_gen hr hw (aop1_other hk hx ⟨rfl, rfl⟩) hle hu (by intro p hp; cases hp) h
theorem keepP_keep {ops : Array Oper} {rd : List Nat} {i p : Nat} {x : Op × Tm × Value} (h : drops ops rd p i = false) : keepP ops rd i [(p, x)] = [(p, x)] := by
  unfold keepP; simp [h]
theorem keepP_drop {ops : Array Oper} {rd : List Nat} {i p : Nat} {x : Op × Tm × Value} (h : drops ops rd p i = true) : keepP ops rd i [(p, x)] = [] := by
  unfold keepP; simp [h]
theorem acells_int {k : IntKind} {n : Int} : acells (.int k n) = some [.int k n] := rfl
theorem acells_bool {b : Bool} : acells (.bool b) = some [.bool b] := rfl
theorem acells_str {s : ByteArray} : acells (.string s) = some [.string s] := rfl
theorem acells_ptr {a : Option Addr} : acells (.pointer a) = some [.pointer a] := rfl
theorem acells_sl {a : Option Addr} {n c : Nat} : acells (.slice a n c) = some [.slice a n c] := rfl
theorem acells_map {m : Option Nat} : acells (.map m) = some [.map m] := rfl
theorem acells_iface {t : TypeId} {v : Value} : acells (.iface t v) = some [.iface t v] := rfl
theorem acells_agg {l : List Value} : acells (.agg ⟨l⟩) = if l.all scalar then some l else none := rfl
end Go.AB
