/-
  Loads, stores and blocks of the abstract heap against the model's.
-/
import Derived.Test.YtcbmjgagbfhigaaXA2
namespace Go.AB
open Go
set_option linter.unusedSimpArgs false
set_option linter.unusedVariables false

def szOf (P : Program) (t : TypeId) : Option Nat := (P.info? t).map (·.size)
def byOf (P : Program) (t : TypeId) : Option Nat := (P.info? t).map (·.bytes)
def aggOf (P : Program) (t : TypeId) : Option Bool := (P.underlying t).map fun | .struct _ | .array _ _ => true | _ => false

theorem run_szOf {P : Program} {t : TypeId} {n : Nat} (h : szOf P t = some n) (w : World) : (sizeOf t).run P w = .ok n w := by
  unfold szOf at h
  cases hi : P.info? t with
  | none => rw [hi] at h; cases h
  | some i =>
    rw [hi] at h; cases h
    simp [sizeOf, typeInfo, hi]

theorem run_byOf {P : Program} {t : TypeId} {n : Nat} (h : byOf P t = some n) : ∃ i, P.info? t = some i ∧ i.bytes = n := by
  unfold byOf at h
  cases hi : P.info? t with
  | none => rw [hi] at h; cases h
  | some i => rw [hi] at h; cases h; exact ⟨i, rfl, rfl⟩

theorem run_aggOf {P : Program} {t : TypeId} {b : Bool} (h : aggOf P t = some b) (w : World) : (isAgg t).run P w = .ok b w := by
  unfold aggOf at h
  cases hi : P.underlying t with
  | none => rw [hi] at h; cases h
  | some d =>
    rw [hi] at h; simp only [Option.map_some, Option.some.injEq] at h
    simp only [isAgg, Sem.run_bind, run_underlying hi, Result.andThen_ok]
    subst h
    cases d <;> rfl

/-- a value's cells -/
def acells : Value → Option (List Value)
  | .agg c => if c.toList.all scalar then some c.toList else none
  | v => if scalar v then some [v] else none

/-- lists of values, one by one -/
def VL (ρ : Rho) (cs rs : List Value) : Prop :=
  cs.length = rs.length ∧ ∀ (i : Nat) v v', cs[i]? = some v → rs[i]? = some v' → VR ρ v v'

theorem VL.mono {ρ ρ' : Rho} (hs : Sub ρ ρ') {a b : List Value} (h : VL ρ a b) : VL ρ' a b :=
  ⟨h.1, fun i v v' x y => (h.2 i v v' x y).mono hs⟩
theorem VL.nil {ρ : Rho} : VL ρ [] [] := ⟨rfl, fun i v v' h => by simp at h⟩
theorem VL.cons {ρ : Rho} {a b : Value} {x y : List Value} (h : VR ρ a b) (k : VL ρ x y) : VL ρ (a :: x) (b :: y) := by
  refine ⟨by simp [k.1], fun i v v' hx hy => ?_⟩
  cases i with
  | zero => simp at hx hy; subst hx; subst hy; exact h
  | succ i => simp at hx hy; exact k.2 i v v' hx hy
theorem VL.append {ρ : Rho} {a b x y : List Value} (h : VL ρ a b) (k : VL ρ x y) : VL ρ (a ++ x) (b ++ y) := by
  refine ⟨by simp [h.1, k.1], fun i v v' hx hy => ?_⟩
  rw [List.getElem?_append] at hx hy
  rw [h.1] at hx
  split at hx
  · rename_i hi
    rw [if_pos hi] at hy
    exact h.2 _ _ _ hx hy
  · rename_i hi
    rw [if_neg hi] at hy
    exact k.2 _ _ _ hx hy
theorem VL.take {ρ : Rho} {a b : List Value} (h : VL ρ a b) (n : Nat) : VL ρ (a.take n) (b.take n) := by
  refine ⟨by simp [h.1], fun i v v' hx hy => ?_⟩
  rw [List.getElem?_take] at hx hy
  split at hx
  · rename_i hi; rw [if_pos hi] at hy; exact h.2 _ _ _ hx hy
  · cases hx
theorem VL.drop {ρ : Rho} {a b : List Value} (h : VL ρ a b) (n : Nat) : VL ρ (a.drop n) (b.drop n) := by
  refine ⟨by simp [h.1], fun i v v' hx hy => ?_⟩
  rw [List.getElem?_drop] at hx hy
  exact h.2 _ _ _ hx hy
theorem VL.get {ρ : Rho} {a b : List Value} (h : VL ρ a b) {i : Nat} {v : Value} (hi : a[i]? = some v) : ∃ v', b[i]? = some v' ∧ VR ρ v v' := by
  have hlt : i < b.length := by rw [← h.1]; exact (List.getElem?_eq_some_iff.1 hi).1
  exact ⟨b[i], List.getElem?_eq_getElem hlt, h.2 i v _ hi (List.getElem?_eq_getElem hlt)⟩
theorem VL.agg {ρ : Rho} {a b : List Value} (h : VL ρ a b) : VR ρ (.agg ⟨a⟩) (.agg ⟨b⟩) :=
  .agg _ _ (by simpa using h.1) fun i v v' hx hy => h.2 i v v' (by simpa using hx) (by simpa using hy)
theorem VL.tuple {ρ : Rho} {a b : List Value} (h : VL ρ a b) : VR ρ (.tuple ⟨a⟩) (.tuple ⟨b⟩) :=
  .tuple _ _ (by simpa using h.1) fun i v v' hx hy => h.2 i v v' (by simpa using hx) (by simpa using hy)
theorem VR.agg_inv {ρ : Rho} {a : Array Value} {r : Value} (h : VR ρ (.agg a) r) : ∃ b, r = .agg b ∧ VL ρ a.toList b.toList := by
  cases h with
  | agg c c' hs h => exact ⟨c', rfl, by simpa using hs, fun i v v' x y => h i v v' (by simpa using x) (by simpa using y)⟩
theorem VR.tuple_inv {ρ : Rho} {a : Array Value} {r : Value} (h : VR ρ (.tuple a) r) : ∃ b, r = .tuple b ∧ VL ρ a.toList b.toList := by
  cases h with
  | tuple c c' hs h => exact ⟨c', rfl, by simpa using hs, fun i v v' x y => h i v v' (by simpa using x) (by simpa using y)⟩

theorem VR.oneCell {ρ : Rho} {a r : Value} (h : VR ρ a r) (hs : scalar a = true) : r.oneCell' = true := by
  cases h <;> first | rfl | (simp [scalar] at hs)

theorem VR.cells_one {ρ : Rho} {a r : Value} (h : VR ρ a r) (hs : scalar a = true) : r.cells = #[r] := by
  have := h.oneCell hs
  cases r <;> first | rfl | (simp [Value.oneCell'] at this)

theorem acells_sound {ρ : Rho} {a r : Value} {cs : List Value} (h : VR ρ a r) (hc : acells a = some cs) :
    VL ρ cs r.cells.toList ∧ (∀ v ∈ r.cells.toList, v.oneCell' = true) ∧ cs.all scalar = true := by
  unfold acells at hc
  split at hc
  · rename_i c
    split at hc
    · rename_i hall
      cases hc
      obtain ⟨b, rfl, hb⟩ := h.agg_inv
      refine ⟨hb, fun v hv => ?_, hall⟩
      obtain ⟨i, hi⟩ := List.getElem?_of_mem hv
      have hlt : i < c.toList.length := by rw [hb.1]; exact (List.getElem?_eq_some_iff.1 hi).1
      have := hb.2 i _ v (List.getElem?_eq_getElem hlt) hi
      exact this.oneCell (by rw [List.all_eq_true] at hall; exact hall _ (List.getElem_mem hlt))
    · cases hc
  · split at hc
    · rename_i hs
      cases hc
      rw [h.cells_one hs]
      exact ⟨.cons h .nil, by simpa using h.oneCell hs, by simpa using hs⟩
    · cases hc

/-- n cells of a row, from one on -/
def getCells (cs : List Value) (o n : Nat) : Option (List Value) := if o + n ≤ cs.length then some ((cs.drop o).take n) else none

def aload (P : Program) (A : AHeap) (t : TypeId) : Value → Option Value
  | .pointer (some ⟨i, o, none⟩) => match A.f i with
    | some (.row cs _) => match aggOf P t with
      | some true => match szOf P t with
        | some n => (getCells cs o n).map fun l => .agg ⟨l⟩
        | none => none
      | some false => cs[o]?
      | none => none
    | _ => none
  | _ => none

theorem add_none (b o i : Nat) : (⟨b, o, none⟩ : Addr).add i = ⟨b, o + i, none⟩ := by
  unfold Addr.add; split <;> simp_all

theorem row_cell {ρ : Rho} {A : AHeap} {w : World} {i : Nat} {e : Ent} {cs : List Value} {k : Kind} (h : Rel ρ A w) (hi : ρ i = some e)
    (hf : A.f i = some (.row cs k)) {o : Nat} {v : Value} (hv : cs[o]? = some v) : ∃ v', w.cell? ⟨e.blk, e.sh + o, none⟩ = some v' ∧ VR ρ v v' := by
  obtain ⟨ob, h1, h2⟩ := h.obj i e hi
  rw [hf] at h1; cases h1
  obtain ⟨c, t, fz, g1, g2, _⟩ := h2
  obtain ⟨v', g3, g4⟩ := g2 o v hv
  exact ⟨v', by simp [World.cell?, g1, g3], g4⟩

theorem getCells_some {cs : List Value} {o n : Nat} {l : List Value} (h : getCells cs o n = some l) :
    l.length = n ∧ ∀ (j : Nat) v, l[j]? = some v → cs[o + j]? = some v := by
  unfold getCells at h
  split at h
  · rename_i hle
    cases h
    refine ⟨by simp; omega, fun j v hj => ?_⟩
    rw [List.getElem?_take] at hj
    split at hj
    · rwa [List.getElem?_drop] at hj
    · cases hj
  · cases h

/-- the cells of a row, read -/
theorem run_row {P : Program} {ρ : Rho} {A : AHeap} {w : World} {i : Nat} {e : Ent} {cs : List Value} {k : Kind} (h : Rel ρ A w) (hi : ρ i = some e)
    (hf : A.f i = some (.row cs k)) {o n : Nat} {l : List Value} (hl : getCells cs o n = some l) :
    ∃ rs : List Value, (loadCells ⟨e.blk, e.sh + o, none⟩ n).run P w = .ok ⟨rs⟩ w ∧ VL ρ l rs := by
  obtain ⟨hn, hg⟩ := getCells_some hl
  let f : Nat → Value := fun j => (w.cell? ⟨e.blk, e.sh + (o + j), none⟩).getD undef
  refine ⟨(List.range n).map f, ?_, by simp [hn], ?_⟩
  · rw [run_loadCells w ⟨e.blk, e.sh + o, none⟩ n f]
    intro j hj
    rw [add_none, Nat.add_assoc]
    have hj' : j < l.length := by omega
    obtain ⟨v', h1, _⟩ := row_cell h hi hf (hg j l[j] (List.getElem?_eq_getElem hj'))
    simp [f, h1]
  · intro j v v' hv hv'
    obtain ⟨v2, h1, h2⟩ := row_cell h hi hf (hg j v hv)
    have hj : j < n := by rw [← hn]; exact (List.getElem?_eq_some_iff.1 hv).1
    rw [List.getElem?_map, List.getElem?_range hj] at hv'
    simp [f, h1] at hv'
    subst hv'; exact h2

theorem VR.ptr_inv {ρ : Rho} {i o : Nat} {r : Value} (h : VR ρ (.pointer (some ⟨i, o, none⟩)) r) :
    ∃ e, ρ i = some e ∧ r = .pointer (some ⟨e.blk, e.sh + o, none⟩) := by
  cases h with
  | ptr i o q e h hq => subst hq; exact ⟨e, h, rfl⟩

theorem load_sound {P : Program} {ρ : Rho} {A : AHeap} {w : World} {t : TypeId} {a r v : Value} (h : Rel ρ A w) (ha : VR ρ a r) (hl : aload P A t a = some v) :
    ∃ r', (Instr.loadAt t r).run P w = .ok r' w ∧ VR ρ v r' := by
  unfold aload at hl
  split at hl
  · rename_i i o
    obtain ⟨e, he, rfl⟩ := ha.ptr_inv
    split at hl
    · rename_i cs k hf
      split at hl
      · rename_i hag
        split at hl
        · rename_i n hn
          cases hg : getCells cs o n with
          | none => rw [hg] at hl; cases hl
          | some l =>
            rw [hg] at hl; cases hl
            obtain ⟨rs, h1, h2⟩ := run_row (P := P) h he hf hg
            refine ⟨.agg ⟨rs⟩, ?_, h2.agg⟩
            simp [Instr.loadAt, Instr.sureAddr, loadVar, run_aggOf hag, run_szOf hn, h1]
        · cases hl
      · rename_i hag
        obtain ⟨v', h1, h2⟩ := row_cell h he hf hl
        refine ⟨v', ?_, h2⟩
        simp [Instr.loadAt, Instr.sureAddr, loadVar, run_aggOf hag, h1]
      · cases hl
    · cases hl
  · cases hl

/-- cells of a row written, from one on -/
def putCells (cs : List Value) (o : Nat) (vs : List Value) : Option (List Value) :=
  if o + vs.length ≤ cs.length then some (cs.take o ++ vs ++ cs.drop (o + vs.length)) else none

theorem setRow_eq {w : World} {g : Nat} {c c' : Array Value} {t : TypeId} {fz : Nat × Nat} (h : w.heap[g]? = some (.cells c t fz)) :
    w.setRow g c' = { w with heap := w.heap.setIfInBounds g (.cells c' t fz) } := by
  unfold World.setRow
  congr 1
  have hlt : g < w.heap.size := (Array.getElem?_eq_some_iff.1 h).1
  have hv : w.heap[g] = .cells c t fz := (Array.getElem?_eq_some_iff.1 h).2
  apply Array.ext_getElem?
  intro i
  rw [Array.getElem?_modify, Array.getElem?_setIfInBounds]
  by_cases hgi : g = i
  · subst hgi
    rw [if_pos rfl, if_pos rfl, if_pos hlt, h]; rfl
  · rw [if_neg hgi, if_neg hgi]

/-- cells of a row that may be written, written -/
theorem run_put {P : Program} {ρ : Rho} {A : AHeap} {w : World} {i : Nat} {e : Ent} {cs : List Value} {k : Kind} (h : Rel ρ A w) (hi : ρ i = some e)
    (hf : A.f i = some (.row cs k)) (hk : k ≠ .ro) {o : Nat} {vs cs' rs : List Value} (hp : putCells cs o vs = some cs') (hv : VL ρ vs rs)
    (h1 : ∀ v ∈ rs, v.oneCell' = true) (hsc : vs.all scalar = true) :
    ∃ w', (storeCells ⟨e.blk, e.sh + o, none⟩ rs).run P w = .ok () w' ∧ Step ρ A w ρ (A.set i (.row cs' k)) w' := by
  obtain ⟨ob, g1, g2⟩ := h.obj i e hi
  rw [hf] at g1; cases g1
  obtain ⟨c, t, fz, g3, g4, gs, g5⟩ := g2
  have hfz : fz = (0, 0) := by cases k <;> first | exact absurd rfl hk | exact g5.1
  have hsh : e.sh = 0 := by cases k <;> first | exact absurd rfl hk | exact g5.2.2 | exact g5.2.2.1
  subst hfz
  simp only [hsh, Nat.zero_add] at g4 ⊢
  have hlen : cs.length ≤ c.size := by
    rcases Nat.lt_or_ge c.size cs.length with hlt | hge
    · obtain ⟨v', hv', _⟩ := g4 c.size cs[c.size] (List.getElem?_eq_getElem hlt)
      simp at hv'
    · exact hge
  unfold putCells at hp
  split at hp
  · rename_i hle
    cases hp
    have hrl : rs.length = vs.length := hv.1.symm
    have hrun := run_storeCells_at (P := P) e.blk o t rs 0 c w g3 (by omega) h1
    rw [setRow_eq g3] at hrun
    refine ⟨_, hrun, ?_⟩
    refine Step.set h hi _ _ (by unfold writable; rw [hf]; cases k <;> first | exact absurd rfl hk | trivial) ?_
    have hlt : e.blk < w.heap.size := h.bnd _ _ hi
    refine ⟨_, t, (0, 0), by rw [Array.getElem?_setIfInBounds_self_of_lt hlt], ?_, ?_, ?_⟩
    · intro j v hj
      rw [hsh, Nat.zero_add]
      simp only [Nat.add_zero]
      by_cases hjo : j < o
      · rw [List.append_assoc, List.getElem?_append_left (by simp; omega), List.getElem?_take, if_pos hjo] at hj
        obtain ⟨v', a, b⟩ := g4 j v hj
        refine ⟨v', ?_, b⟩
        rw [List.getElem?_toArray, List.append_assoc, List.getElem?_append_left (by simp; omega), List.getElem?_take, if_pos hjo]
        simpa using a
      · by_cases hjv : j < o + vs.length
        · rw [List.append_assoc, List.getElem?_append_right (by simp; omega), List.getElem?_append_left (by simp; omega)] at hj
          have hmin : min o cs.length = o := by omega
          simp only [List.length_take, hmin] at hj
          obtain ⟨v', a, b⟩ := hv.get hj
          refine ⟨v', ?_, b⟩
          have hmin' : min o c.toList.length = o := by simp; omega
          rw [List.getElem?_toArray, List.append_assoc, List.getElem?_append_right (by simp; omega), List.getElem?_append_left (by simp; omega)]
          simp only [List.length_take, hmin']
          exact a
        · rw [List.getElem?_append_right (by simp; omega)] at hj
          rw [List.getElem?_drop] at hj
          have hl1 : (cs.take o ++ vs).length = o + vs.length := by simp; omega
          rw [hl1, show o + vs.length + (j - (o + vs.length)) = j by omega] at hj
          obtain ⟨v', a, b⟩ := g4 j v hj
          refine ⟨v', ?_, b⟩
          rw [List.getElem?_toArray, List.getElem?_append_right (by simp; omega), List.getElem?_drop]
          have hl2 : (c.toList.take o ++ rs).length = o + vs.length := by simp; omega
          rw [hl2, hrl, show o + vs.length + (j - (o + vs.length)) = j by omega]
          simpa using a
    · rw [List.all_append, List.all_append, hsc, Bool.and_true, Bool.and_eq_true]
      rw [List.all_eq_true] at gs
      exact ⟨List.all_eq_true.2 fun x hx => gs x (List.mem_of_mem_take hx), List.all_eq_true.2 fun x hx => gs x (List.mem_of_mem_drop hx)⟩
    · have hs : (c.toList.take (o + 0) ++ rs ++ c.toList.drop (o + 0 + rs.length)).toArray.size = c.size := by simp; omega
      cases k with
      | ro => exact absurd rfl hk
      | fix => refine ⟨rfl, ?_, hsh⟩; rw [hs, g5.2.1]; simp; omega
      | grown n => exact ⟨rfl, by rw [hs]; exact g5.2.1, hsh, g5.2.2.2⟩
  · cases hp

def astore (P : Program) (A : AHeap) (t : TypeId) (a v : Value) : Option AHeap :=
  match a with
  | .pointer (some ⟨i, o, none⟩) => match A.f i with
    | some (.row cs k) => if k = .ro then none else
      match acells v, szOf P t with
      | some vs, some n => if vs.length = n then (putCells cs o vs).map fun cs' => A.set i (.row cs' k) else none
      | _, _ => none
    | _ => none
  | _ => none

theorem store_sound {P : Program} {ρ : Rho} {A A' : AHeap} {w : World} {t : TypeId} {a r v v' : Value} (h : Rel ρ A w) (ha : VR ρ a r) (hv : VR ρ v v')
    (hl : astore P A t a v = some A') : ∃ w', (Instr.storeAt t r v').run P w = .ok () w' ∧ Step ρ A w ρ A' w' := by
  unfold astore at hl
  split at hl
  · rename_i i o
    obtain ⟨e, he, rfl⟩ := ha.ptr_inv
    split at hl
    · rename_i cs k hf
      split at hl
      · cases hl
      · rename_i hk
        split at hl
        · rename_i vs n hc hn
          split at hl
          · rename_i hlen
            cases hp : putCells cs o vs with
            | none => rw [hp] at hl; cases hl
            | some cs' =>
              rw [hp] at hl; cases hl
              obtain ⟨h1, h2, h2'⟩ := acells_sound hv hc
              obtain ⟨w', h3, h4⟩ := run_put (P := P) h he hf hk hp h1 h2 h2'
              refine ⟨w', ?_, h4⟩
              have hsz : v'.cells.size = n := by rw [← hlen, h1.1]; simp
              simp [Instr.storeAt, Instr.sureAddr, storeVar, run_szOf hn, hsz, h3]
          · cases hl
        · cases hl
    · cases hl
  · cases hl

/-- a new row -/
theorem run_newRow {P : Program} {ρ : Rho} {A : AHeap} {w : World} (h : Rel ρ A w) (t : TypeId) {cs rs : List Value} (hv : VL ρ cs rs) (hsc : cs.all scalar = true) (c : Array Value) (hc : c.toList = rs) :
    (newRow t c).run P w = .ok ⟨w.heap.size, 0, none⟩ { w with heap := w.heap.push (.cells c t) } ∧
    Step ρ A w (ext ρ A.n ⟨w.heap.size, 0, 0, 0⟩) (A.push (.row cs .fix)) { w with heap := w.heap.push (.cells c t) } := by
  refine ⟨by simp [newRow], Step.push h _ _ _ _ ?_⟩
  subst hc
  refine ⟨c, t, (0, 0), by simp, ?_, hsc, rfl, by rw [hv.1]; simp, rfl⟩
  intro i v hi
  obtain ⟨v', a, b⟩ := hv.get hi
  exact ⟨v', by simpa using a, b.mono (ext_sub _ h.none_n)⟩

theorem ptr_new (ρ : Rho) (A : AHeap) (e : Ent) (h : e.sh = 0) : VR (ext ρ A.n e) (.pointer (some ⟨A.n, 0, none⟩)) (.pointer (some ⟨e.blk, 0, none⟩)) :=
  .ptr _ _ _ _ (ext_same _ _ _) (by omega)

def abox (A : AHeap) (v : Value) : Option (Value × AHeap) :=
  (acells v).map fun cs => (.pointer (some ⟨A.n, 0, none⟩), A.push (.row cs .fix))

theorem box_sound {P : Program} {ρ : Rho} {A A' : AHeap} {w : World} {t : TypeId} {v v' p : Value} (h : Rel ρ A w) (hv : VR ρ v v')
    (hl : abox A v = some (p, A')) : ∃ ρ' r w', (Instr.box t v').run P w = .ok r w' ∧ VR ρ' p r ∧ Step ρ A w ρ' A' w' := by
  unfold abox at hl
  cases hc : acells v with
  | none => rw [hc] at hl; cases hl
  | some cs =>
    rw [hc] at hl; cases hl
    obtain ⟨h1, _, h1'⟩ := acells_sound hv hc
    obtain ⟨h2, h3⟩ := run_newRow (P := P) h t h1 h1' v'.cells rfl
    exact ⟨_, _, _, by simp [Instr.box, newVar, h2], ptr_new _ _ _ rfl, h3⟩

/-- a value without blocks: it stands for itself -/
def plain1 : Value → Bool
  | .bool _ | .int .. | .string _ | .pointer none | .slice none _ _ | .map none | .nilFunc | .nilIface => true
  | _ => false

theorem plain1_self {ρ : Rho} {v : Value} (h : plain1 v = true) : VR ρ v v := by
  cases v with
  | bool b => exact .bool b
  | int k n => exact .int k n
  | string s => exact .string s
  | pointer a => cases a <;> first | exact .pnil | (simp [plain1] at h)
  | slice a n c => cases a <;> first | exact .snil n c | (simp [plain1] at h)
  | map r => cases r <;> first | exact .mnil | (simp [plain1] at h)
  | nilFunc => exact .nilFunc
  | nilIface => exact .nilIface
  | _ => simp [plain1] at h

theorem plainL_self {ρ : Rho} {l : List Value} (h : l.all plain1 = true) : VL ρ l l := by
  refine ⟨rfl, fun i v v' hx hy => ?_⟩
  rw [hx] at hy; cases hy
  exact plain1_self (List.all_eq_true.1 h _ (List.mem_of_getElem? hx))

theorem plain1_scalar {v : Value} (h : plain1 v = true) : scalar v = true := by
  cases v <;> first | rfl | (simp [plain1] at h)

theorem plainL_scalar {l : List Value} (h : l.all plain1 = true) : l.all scalar = true :=
  List.all_eq_true.2 fun x hx => plain1_scalar (List.all_eq_true.1 h x hx)

/-- a type's zero value, by its cells -/
def zcells (P : Program) (t : TypeId) : Option (List Value) :=
  match (P.info? t).bind (·.zero) with
  | some z => if z.cells.toList.all plain1 then some z.cells.toList else none
  | none => none
def zagg (P : Program) (t : TypeId) : Option Bool :=
  match (P.info? t).bind (·.zero) with
  | some (.agg _) => some true
  | some _ => some false
  | none => none

theorem zcells_run {P : Program} {t : TypeId} {cs : List Value} (h : zcells P t = some cs) (w : World) :
    ∃ z, (zeroValue t).run P w = .ok z w ∧ z.cells.toList = cs ∧ (P.info? t).bind (·.zero) = some z ∧ cs.all plain1 = true := by
  unfold zcells at h
  split at h
  · rename_i z hz
    split at h
    · rename_i hall
      cases h
      refine ⟨z, ?_, rfl, hz, hall⟩
      cases hi : P.info? t with
      | none => rw [hi] at hz; cases hz
      | some i =>
        rw [hi] at hz
        simp at hz
        simp [zeroValue, typeInfo, hi, hz]
    · cases h
  · cases h

def aalloc (P : Program) (A : AHeap) (t : TypeId) : Option (Value × AHeap) :=
  (zcells P t).map fun cs => (.pointer (some ⟨A.n, 0, none⟩), A.push (.row cs .fix))

theorem alloc_sound {P : Program} {ρ : Rho} {A A' : AHeap} {w : World} {t : TypeId} {p : Value} (h : Rel ρ A w)
    (hl : aalloc P A t = some (p, A')) : ∃ ρ' r w', (Instr.alloc t true (.tuple #[])).run P w = .ok r w' ∧ VR ρ' p r ∧ Step ρ A w ρ' A' w' := by
  unfold aalloc at hl
  cases hc : zcells P t with
  | none => rw [hc] at hl; cases hl
  | some cs =>
    rw [hc] at hl; cases hl
    obtain ⟨z, h1, h2, _, h4⟩ := zcells_run hc w
    obtain ⟨h5, h6⟩ := run_newRow (P := P) h t (plainL_self (ρ := ρ) h4) (plainL_scalar h4) z.cells h2
    exact ⟨_, _, _, by simp [Instr.alloc, newVar, h1, h5], ptr_new _ _ _ rfl, h6⟩

end Go.AB
