/-
  The operations, one equation each.
-/
import Derived.Test.YtcbmjgagbfhigaaXC5
namespace Go.AB
open Go
set_option linter.unusedSimpArgs false
set_option linter.unusedVariables false
variable {P : Program}

theorem aop_move {x : Operand} {ev : Operand → Value} {A : AHeap} : aop P (.move x) ev A = some (ev x, A) := rfl
theorem aop_assign {x : Operand} {ev : Operand → Value} {A : AHeap} : aop P (.assign x) ev A = some (ev x, A) := rfl
theorem aop_pick {x y z : Operand} {ev : Operand → Value} {A : AHeap} : aop P (.pick x y z) ev A = (apick (ev x) (ev y) (ev z)).map (·, A) := rfl
theorem aop_alloc {t : TypeId} {ev : Operand → Value} {A : AHeap} : aop P (.alloc t) ev A = aalloc P A t := rfl
theorem aop_box {t : TypeId} {x : Operand} {ev : Operand → Value} {A : AHeap} : aop P (.box t x) ev A = abox A (ev x) := rfl
theorem aop_build {t : TypeId} {ps : Array (Nat × Operand)} {ev : Operand → Value} {A : AHeap} : aop P (.build t ps) ev A = (abuild P t (evParts ev ps)).map (·, A) := rfl
theorem aop_buildSlice {t : TypeId} {n : Nat} {ps : Array (Nat × Operand)} {ev : Operand → Value} {A : AHeap} : aop P (.buildSlice t n ps) ev A = abuildSlice P A t n (evParts ev ps) := rfl
theorem aop_load {t : TypeId} {x : Operand} {ev : Operand → Value} {A : AHeap} : aop P (.load t x) ev A = (aload P A t (ev x)).map (·, A) := rfl
theorem aop_store {t : TypeId} {x y : Operand} {ev : Operand → Value} {A : AHeap} : aop P (.store t x y) ev A = (astore P A t (ev x) (ev y)).map (.tuple ⟨[]⟩, ·) := rfl
theorem aop_nilCheck {x : Operand} {ev : Operand → Value} {A : AHeap} : aop P (.nilCheck x) ev A = (anilCheck (ev x)).map (·, A) := rfl
theorem aop_binOp {op : BinOp} {t u : TypeId} {x y : Operand} {ev : Operand → Value} {A : AHeap} : aop P (.binOp op t x y u) ev A = (abin P op t (ev x) (ev y)).map (·, A) := rfl
theorem aop_unOp {op : UnOp} {t : TypeId} {x : Operand} {ev : Operand → Value} {A : AHeap} : aop P (.unOp op t x) ev A = (aunary op (ev x)).map (·, A) := rfl
theorem aop_convert {s d : TypeId} {x : Operand} {ev : Operand → Value} {A : AHeap} : aop P (.convert s d x) ev A = (aconvert P s d (ev x)).map (·, A) := rfl
theorem aop_makeInterface {t : TypeId} {x : Operand} {ev : Operand → Value} {A : AHeap} : aop P (.makeInterface t x) ev A = (amakeInterface P t (ev x)).map (·, A) := rfl
theorem aop_makeFunc {fn : Fn} {f c : Array Operand} {ev : Operand → Value} {A : AHeap} : aop P (.makeFunc fn f c) ev A = some (.func fn (f.map ev) (c.map ev), A) := rfl
theorem aop_makeMap {t : TypeId} {r : Option Operand} {ev : Operand → Value} {A : AHeap} : aop P (.makeMap t r) ev A = amakeMap P A t (r.map ev) := rfl
theorem aop_slice {t : TypeId} {x : Operand} {lo hi mx : Option Operand} {ev : Operand → Value} {A : AHeap} : aop P (.slice t x lo hi mx) ev A = (aslice P A t (ev x) (lo.map ev) (hi.map ev) (mx.map ev)).map (·, A) := rfl
theorem aop_fieldAddr {t : TypeId} {x : Operand} {f : Nat} {ev : Operand → Value} {A : AHeap} : aop P (.fieldAddr t x f) ev A = (afieldAddr P t (ev x) f).map (·, A) := rfl
theorem aop_field {t : TypeId} {x : Operand} {f : Nat} {ev : Operand → Value} {A : AHeap} : aop P (.field t x f) ev A = (afield P t (ev x) f).map (·, A) := rfl
theorem aop_indexAddr {t : TypeId} {x y : Operand} {ev : Operand → Value} {A : AHeap} : aop P (.indexAddr t x y) ev A = (aindexAddr P t (ev x) (ev y)).map (·, A) := rfl
theorem aop_index {t : TypeId} {x y : Operand} {ev : Operand → Value} {A : AHeap} : aop P (.index t x y) ev A = (aindex P t (ev x) (ev y)).map (·, A) := rfl
theorem aop_lookup {t : TypeId} {x y : Operand} {ok : Bool} {ev : Operand → Value} {A : AHeap} : aop P (.lookup t x y ok) ev A = (alookup P A t (ev x) (ev y) ok).map (·, A) := rfl
theorem aop_mapUpdate {t : TypeId} {x y z : Operand} {ev : Operand → Value} {A : AHeap} : aop P (.mapUpdate t x y z) ev A = (amapUpdate P A t (ev x) (ev y) (ev z)).map (.tuple ⟨[]⟩, ·) := rfl
theorem aop_insert {t : TypeId} {x y z : Operand} {ev : Operand → Value} {A : AHeap} : aop P (.insert t x y z) ev A = (amapUpdate P A t (ev x) (ev y) (ev z)).map (.tuple ⟨[]⟩, ·) := rfl
theorem aop_mapEntry {t : TypeId} {x y : Operand} {ev : Operand → Value} {A : AHeap} : aop P (.mapEntry t x y) ev A = amapEntry P A t (ev x) (ev y) := rfl
theorem aop_entryStore {t : TypeId} {x y z : Operand} {ev : Operand → Value} {A : AHeap} : aop P (.entryStore t x y z) ev A = (aentryStore A (ev x) (ev y) (ev z)).map (.tuple ⟨[]⟩, ·) := rfl
theorem aop_range {t : TypeId} {x : Operand} {ev : Operand → Value} {A : AHeap} : aop P (.range t x) ev A = arange P A t (ev x) := rfl
theorem aop_nextStr {x : Operand} {ev : Operand → Value} {A : AHeap} : aop P (.next x true) ev A = anextStr A (ev x) := rfl
theorem aop_entry {x : Operand} {ev : Operand → Value} {A : AHeap} : aop P (.entry x) ev A = (aentry A (ev x)).map (·, A) := rfl
theorem aop_typeAssert {t u : TypeId} {x : Operand} {ok : Bool} {ev : Operand → Value} {A : AHeap} : aop P (.typeAssert x t u ok) ev A = (atypeAssert P (ev x) u ok).map (·, A) := rfl
theorem aop_extract {x : Operand} {i : Nat} {ev : Operand → Value} {A : AHeap} : aop P (.extract x i) ev A = (aextract (ev x) i).map (·, A) := rfl
theorem aop_builtin {b : Builtin} {xs : Array Operand} {ts : Array TypeId} {ev : Operand → Value} {A : AHeap} : aop P (.call ⟨.builtin b, xs, ts⟩) ev A = abuiltin P A b ts.toList (xs.toList.map ev) := rfl
theorem ev_tmp {t : Tm} {i : Nat} : aeval t (.tmp i) = t i := rfl
theorem ev_const {t : Tm} {v : Value} : aeval t (.const v) = cst v := rfl
theorem ev_func {t : Tm} {f : Nat} : aeval t (.func f) = .func (.func f) #[] #[] := rfl
theorem cst_bool {b : Bool} : cst (.bool b) = .bool b := rfl
theorem cst_int {k : IntKind} {n : Int} : cst (.int k n) = .int k n := rfl
theorem cst_string {s : ByteArray} : cst (.string s) = .string s := rfl
theorem cst_ptr  : cst (.pointer none) = .pointer none := rfl
theorem cst_slice {n c : Nat} : cst (.slice none n c) = .slice none n c := rfl
theorem cst_map  : cst (.map none) = .map none := rfl
theorem cst_iface  : cst .nilIface = .nilIface := rfl
theorem cst_func  : cst .nilFunc = .nilFunc := rfl
theorem pick_mk {b : Bool} {x y : Value} : apick (.bool b) x y = some (if b then x else y) := rfl
theorem nilCheck_mk {a : Addr} : anilCheck (.pointer (some a)) = some (.pointer (some a)) := rfl
theorem not_mk {b : Bool} : aunary .not (.bool b) = some (.bool !b) := rfl
theorem bin_add {t : TypeId} {k : IntKind} {a b : Int} : abin P .add t (.int k a) (.int k b) = some (.int k (k.wrap (a + b))) := by simp [abin, intBin]
theorem bin_sub {t : TypeId} {k : IntKind} {a b : Int} : abin P .sub t (.int k a) (.int k b) = some (.int k (k.wrap (a - b))) := by simp [abin, intBin]
theorem bin_mul {t : TypeId} {k : IntKind} {a b : Int} : abin P .mul t (.int k a) (.int k b) = some (.int k (k.wrap (a * b))) := by simp [abin, intBin]
theorem bin_quo {t : TypeId} {k : IntKind} {a b : Int} : abin P .quo t (.int k a) (.int k b) = if b = 0 then none else some (.int k (k.wrap (a.tdiv b))) := by simp [abin, intBin]
theorem bin_rem {t : TypeId} {k : IntKind} {a b : Int} : abin P .rem t (.int k a) (.int k b) = if b = 0 then none else some (.int k (a.tmod b)) := by simp [abin, intBin]
theorem bin_lss {t : TypeId} {k : IntKind} {a b : Int} : abin P .lss t (.int k a) (.int k b) = some (.bool (decide (a < b))) := by simp [abin, intBin]
theorem bin_leq {t : TypeId} {k : IntKind} {a b : Int} : abin P .leq t (.int k a) (.int k b) = some (.bool (decide (a ≤ b))) := by simp [abin, intBin]
theorem bin_gtr {t : TypeId} {k : IntKind} {a b : Int} : abin P .gtr t (.int k a) (.int k b) = some (.bool (decide (a > b))) := by simp [abin, intBin]
theorem bin_geq {t : TypeId} {k : IntKind} {a b : Int} : abin P .geq t (.int k a) (.int k b) = some (.bool (decide (a ≥ b))) := by simp [abin, intBin]
theorem bin_eql {t : TypeId} {k : IntKind} {a b : Int} : abin P .eql t (.int k a) (.int k b) = some (.bool (a == b)) := by simp [abin, intBin]
theorem bin_neq {t : TypeId} {k : IntKind} {a b : Int} : abin P .neq t (.int k a) (.int k b) = some (.bool (a != b)) := by simp [abin, intBin]
theorem bin_and {t : TypeId} {k : IntKind} {a b : Int} : abin P .and t (.int k a) (.int k b) = some (.int k (k.wrap (BitVec.ofInt k.bits a &&& BitVec.ofInt k.bits b).toNat)) := by simp [abin, intBin]
theorem bin_or {t : TypeId} {k : IntKind} {a b : Int} : abin P .or t (.int k a) (.int k b) = some (.int k (k.wrap (BitVec.ofInt k.bits a ||| BitVec.ofInt k.bits b).toNat)) := by simp [abin, intBin]
theorem str_add {t : TypeId} {a b : ByteArray} : abin P .add t (.string a) (.string b) = if a.size + b.size < 1048576 then some (.string ⟨(a.data.toList ++ b.data.toList).toArray⟩) else none := rfl
theorem str_eql {t : TypeId} {a b : ByteArray} : abin P .eql t (.string a) (.string b) = some (.bool (a.data.toList == b.data.toList)) := rfl
theorem str_neq {t : TypeId} {a b : ByteArray} : abin P .neq t (.string a) (.string b) = some (.bool !(a.data.toList == b.data.toList)) := rfl
theorem str_lss {t : TypeId} {a b : ByteArray} : abin P .lss t (.string a) (.string b) = some (.bool (Op.bytesLess a.data.toList b.data.toList)) := rfl
theorem str_geq {t : TypeId} {a b : ByteArray} : abin P .geq t (.string a) (.string b) = some (.bool !(Op.bytesLess a.data.toList b.data.toList)) := rfl
theorem str_gtr {t : TypeId} {a b : ByteArray} : abin P .gtr t (.string a) (.string b) = some (.bool !(Op.bytesLess a.data.toList b.data.toList || a.data.toList == b.data.toList)) := rfl
theorem pp0_eql {t e : TypeId} (h : P.underlying t = some (.pointer e)) : abin P .eql t (.pointer none) (.pointer none) = some (.bool true) := by simp [abin, aeq, h]
theorem pp1_eql {t e : TypeId} {a : Addr} (h : P.underlying t = some (.pointer e)) : abin P .eql t (.pointer (some a)) (.pointer none) = some (.bool false) := by simp [abin, aeq, h]
theorem agg_eql {t : TypeId} {a b : Array Value} (h1 : wideKey P t = true) (h2 : keyOk P t (.agg a) = true) (h3 : keyOk P t (.agg b) = true) : abin P .eql t (.agg a) (.agg b) = some (.bool (veq (.agg a) (.agg b))) := by simp [abin, aeq, h1, h2, h3]
theorem bool_eql {t : TypeId} {a b : Bool} (h : P.underlying t = some .bool) : abin P .eql t (.bool a) (.bool b) = some (.bool ((a == b))) := by simp [abin, aeq, h]
theorem pp0_neq {t e : TypeId} (h : P.underlying t = some (.pointer e)) : abin P .neq t (.pointer none) (.pointer none) = some (.bool false) := by simp [abin, aeq, h]
theorem pp1_neq {t e : TypeId} {a : Addr} (h : P.underlying t = some (.pointer e)) : abin P .neq t (.pointer (some a)) (.pointer none) = some (.bool true) := by simp [abin, aeq, h]
theorem agg_neq {t : TypeId} {a b : Array Value} (h1 : wideKey P t = true) (h2 : keyOk P t (.agg a) = true) (h3 : keyOk P t (.agg b) = true) : abin P .neq t (.agg a) (.agg b) = some (.bool (!veq (.agg a) (.agg b))) := by simp [abin, aeq, h1, h2, h3]
theorem bool_neq {t : TypeId} {a b : Bool} (h : P.underlying t = some .bool) : abin P .neq t (.bool a) (.bool b) = some (.bool (!(a == b))) := by simp [abin, aeq, h]

theorem upd_at (t : Tm) (i j : Nat) (v : Value) : upd t i v j = if j = i then v else t j := rfl
theorem start_at (l : List Value) (i : Nat) : start l i = l.getD i (.tuple ⟨[]⟩) := rfl

theorem load_agg {A : AHeap} {t : TypeId} {i o n : Nat} {cs l : List Value} {k : Kind} (ha : aggOf P t = some true) (hs : szOf P t = some n) (hf : A.f i = some (.row cs k)) (hg : getCells cs o n = some l) :
    aload P A t (.pointer (some ⟨i, o, none⟩)) = some (.agg ⟨l⟩) := by simp [aload, hf, ha, hs, hg]
theorem load_one {A : AHeap} {t : TypeId} {i o : Nat} {cs : List Value} {k : Kind} {v : Value} (ha : aggOf P t = some false) (hf : A.f i = some (.row cs k)) (hg : cs[o]? = some v) :
    aload P A t (.pointer (some ⟨i, o, none⟩)) = some v := by simp [aload, hf, ha, hg]
theorem store_mk {A : AHeap} {t : TypeId} {i o n : Nat} {cs vs cs' : List Value} {k : Kind} {v : Value} (hs : szOf P t = some n) (hf : A.f i = some (.row cs k)) (hk : k ≠ .ro) (hv : acells v = some vs) (hl : vs.length = n)
    (hp : putCells cs o vs = some cs') : astore P A t (.pointer (some ⟨i, o, none⟩)) v = some (A.set i (.row cs' k)) := by simp [astore, hf, hs, hk, hv, hl, hp]
theorem box_mk {A : AHeap} {v : Value} {cs : List Value} (h : acells v = some cs) : abox A v = some (.pointer (some ⟨A.n, 0, none⟩), A.push (.row cs .fix)) := by simp [abox, h]
theorem alloc_mk {A : AHeap} {t : TypeId} {cs : List Value} (h : zcells P t = some cs) : aalloc P A t = some (.pointer (some ⟨A.n, 0, none⟩), A.push (.row cs .fix)) := by simp [aalloc, h]
theorem fieldAddr_mk {s ft : TypeId} {f i o off n : Nat} (hf : fldOf P s f = some (off, ft)) (hs : szOf P ft = some (n + 1)) : afieldAddr P s (.pointer (some ⟨i, o, none⟩)) f = some (.pointer (some ⟨i, o + off, none⟩)) := by
  simp [afieldAddr, hf, hs]

end Go.AB
