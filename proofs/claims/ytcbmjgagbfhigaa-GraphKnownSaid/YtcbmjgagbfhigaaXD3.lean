/-
  The machine: regions, code, functions.
-/
import Derived.Test.YtcbmjgagbfhigaaXD2
namespace Go.AB
open Go
set_option linter.unusedSimpArgs false
set_option linter.unusedVariables false

theorem cput_ok {n : Nat} {T T' : CT} {d : Option Tmp} {v : Value} (h : cput n T d v = some T') {K : Tm → Prop} (hk : K T'.abs) : aput n T.abs d v K := by
  unfold cput at h
  unfold aput
  cases d with
  | none => cases h; exact hk
  | some d =>
    simp only at h ⊢
    split at h
    · rename_i hb
      cases h
      rw [Bool.and_eq_true] at hb
      have h1 := blt_of hb.1
      have h2 := blt_of hb.2
      rw [CT.abs_put _ _ h2] at hk
      exact ⟨h1, hk⟩
    · cases h

theorem minN_le (a b : Nat) : minN a b ≤ b ∧ minN a b ≤ a := by
  unfold minN
  cases h : Nat.blt a b with
  | true => have := blt_of h; exact ⟨by simp only; omega, Nat.le_refl _⟩
  | false =>
    refine ⟨Nat.le_refl _, ?_⟩
    simp only
    rcases Nat.lt_or_ge a b with h2 | h2
    · rw [blt_true h2] at h; cases h
    · exact h2

theorem Ran.min {P : Program} {H H' : CH} {l low : Nat} (h : Ran P H H.n H' l) : Ran P H low H' (minN l low) :=
  ⟨(minN_le _ _).1, fun i hi => h.same i (Nat.lt_of_lt_of_le hi (minN_le _ _).2), h.grow⟩

theorem runOps_ok {P : Program} {call : CallF} (hc : CallOk P call) {n : Nat} {ops : Array Oper} : ∀ (os : List Oper) {T T' : CT} {H H' : CH} {low l : Nat},
    runOps P call n ops os T H low = some (T', H', l) → Ran P H low H' l ∧ ∀ K : Tm → AHeap → Prop, K T'.abs H'.abs → aops P n ops os T.abs H.abs K
  | [], T, T', H, H', low, l, h => by
    simp only [runOps, Option.some.injEq, Prod.mk.injEq] at h
    obtain ⟨rfl, rfl, rfl⟩ := h
    exact ⟨Ran.refl, fun K hk => hk⟩
  | o :: os, T, T', H, H', low, l, h => by
    simp only [runOps] at h
    split at h
    · cases h
    · rename_i hw
      obtain ⟨T1, hp, h⟩ := cputK_some h
      · obtain ⟨h1, h2⟩ := runOps_ok hc os h
        refine ⟨h1, fun K hk => ?_⟩
        unfold aops
        rw [hw]
        exact cput_ok hp (h2 K hk)
    · rename_i hw
      split at h
      · cases h
      · rename_i v H1 l1 hs
        obtain ⟨T1, hp, h⟩ := cputK_some h
        rw [fNat_eq] at h
        · obtain ⟨h1, h2⟩ := runOps_ok hc os h
          obtain ⟨k1, k2⟩ := stepOp_ok hc hs
          refine ⟨k1.min.trans h1, fun K hk => ?_⟩
          unfold aops
          rw [hw]
          refine aop1_mono ?_ k2
          rintro v' A' ⟨rfl, rfl⟩
          exact cput_ok hp (h2 K hk)

theorem runDraw_ok {P : Program} {call : CallF} (hc : CallOk P call) {n : Nat} {ops : Array Oper} : ∀ (os : List Oper) (i : Nat) (bs : List Bool) {T T' : CT} {H H' : CH} {low l : Nat} (hist : List AHeap),
    (∀ j, bs.getD j false = true → barrier ops [] (i + j) = true) →
    runDraw P call n ops os bs T H low = some (T', H', l) → Ran P H low H' l ∧ ∀ K : Tm → AHeap → Prop, K T'.abs H'.abs → adrawn P n ops [] os i T.abs H.abs hist [] K
  | [], i, bs, T, T', H, H', low, l, hist, hb, h => by
    simp only [runDraw, Option.some.injEq, Prod.mk.injEq] at h
    obtain ⟨rfl, rfl, rfl⟩ := h
    exact ⟨Ran.refl, fun K hk => hk⟩
  | o :: os, i, bs, T, T', H, H', low, l, hist, hb, h => by
    have hb' : ∀ j, bs.tail.getD j false = true → barrier ops [] (i + 1 + j) = true := by
      intro j hj
      have := hb (j + 1) (by cases bs with | nil => simp at hj | cons b bs => simpa using hj)
      rwa [show i + 1 + j = i + (j + 1) by omega]
    simp only [runDraw] at h
    split at h
    · cases h
    · rename_i hw
      obtain ⟨T1, hp, h⟩ := cputK_some h
      · obtain ⟨h1, h2⟩ := runDraw_ok hc os (i + 1) bs.tail hist hb' h
        refine ⟨h1, fun K hk => ?_⟩
        unfold adrawn
        rw [hw]
        exact cput_ok hp (h2 K hk)
    · rename_i hw
      split at h
      · cases h
      · rename_i v H1 l1 hs
        split at h
        · cases h
        · rename_i hbar
          obtain ⟨T1, hp, h⟩ := cputK_some h
          rw [fNat_eq] at h
          · obtain ⟨h1, h2⟩ := runDraw_ok hc os (i + 1) bs.tail (H.abs :: hist) hb' h
            obtain ⟨k1, k2⟩ := stepOp_ok hc hs
            refine ⟨k1.min.trans h1, fun K hk => ?_⟩
            refine adrawn_gen rfl hw k2 k1.grow ?_ (by intro p hp; cases hp) (cput_ok hp (h2 K hk))
            rw [Bool.or_eq_true] at hbar
            rcases hbar with hbar | hbar
            · refine .inl fun j hj => k1.same j (Nat.lt_of_lt_of_le hj ?_)
              exact Nat.le_of_ble_eq_true hbar
            · refine .inr ?_
              have := hb 0 (by cases bs with | nil => simp at hbar | cons b bs => simpa using hbar)
              simpa using this

theorem bars_ok (ops : Array Oper) (j : Nat) (h : (bars ops).getD j false = true) : barrier ops [] (0 + j) = true := by
  unfold bars at h
  rw [List.getD_eq_getElem?_getD, List.getElem?_map] at h
  by_cases hj : j < ops.size
  · rw [List.getElem?_range hj] at h; simpa using h
  · rw [List.getElem?_eq_none (by simp; omega)] at h; simp at h

def RecOk (P : Program) (rec : Nat → Code → CT → CH → Nat → Option XRes) : Prop :=
  ∀ n c T H low x T' H' l, low ≤ H.n → rec n c T H low = some (x, T', H', l) → Ran P H low H' l ∧ ∀ K : Kont, K x T'.abs H'.abs → awp P n c T.abs H.abs K

/-- the table of the functions is the program's -/
def FunOk (P : Program) (F : FuncId → Option FEnt) : Prop :=
  ∀ g e, F g = some e → ∃ fn, P.funcs[g]? = some fn ∧ fn.body = some e.code ∧ fn.ntmps = e.n ∧ fn.results.toList = e.res ∧ (fn.name == "runtime.NumGoroutine") = false

theorem callF_ok {P : Program} (Fi : Fine P) (hm : P.follows .mixedOrders = true) {F : FuncId → Option FEnt} (hF : FunOk P F) {ov : CallF} (ho : CallOk P ov)
    {rec : Nat → Code → CT → CH → Nat → Option XRes} (hr : RecOk P rec) : CallOk P (callF P F ov rec) := by
  intro g args H v H' l h
  unfold callF at h
  split at h
  · rename_i r hov
    cases h
    exact ho _ _ _ _ _ _ hov
  · split at h
    · cases h
    · rename_i e hFe
      obtain ⟨fn, f1, f2, f3, f4, f5⟩ := hF g e hFe
      split at h
      · cases h
      · rename_i hlen
        have hlen := Nat.le_of_ble_eq_true hlen
        split at h
        · cases h
        · rename_i x T1 H1 low hrec
          obtain ⟨r1, r2⟩ := hr _ _ _ _ _ _ _ _ _ (Nat.le_refl _) hrec
          split at h
          · cases h
          · rename_i hx
            split at h
            · cases h
            · rename_i v1 hv
              have hs : SimW P g args H.abs (fun v' A' => v' = v1 ∧ A' = H1.abs) := by
                refine simW_of_awp Fi hm f1 f2 f5 (by rw [f3]; exact hlen) ?_
                rw [f3, f4]
                have := r2 (AEnd P e.res (fun v' A' => v' = v1 ∧ A' = H1.abs)) (by
                  cases x <;> simp at hx
                  · exact end_normal hv ⟨rfl, rfl⟩
                  · exact end_ret hv ⟨rfl, rfl⟩)
                rw [CT.abs_start] at this
                exact this
              rw [fV_eq] at h
              split at h
              · rename_i hd
                cases h
                rw [Bool.and_eq_true] at hd
                refine ⟨Ran.refl, hs.drop (fun i hi => r1.same i (Nat.lt_of_lt_of_le hi ?_)) hd.1⟩
                exact Nat.le_of_ble_eq_true hd.2
              · cases h
                exact ⟨r1, hs⟩

theorem stepC_ok {P : Program} (Fi : Fine P) (hm : P.follows .mixedOrders = true) {F : FuncId → Option FEnt} (hF : FunOk P F) {ov : CallF} (ho : CallOk P ov)
    {rec : Nat → Code → CT → CH → Nat → Option XRes} (hr : RecOk P rec) : RecOk P (stepC P F ov rec) := by
  have hc := callF_ok Fi hm hF ho hr
  intro n c T H low x T' H' l hlow h
  have low1 : ∀ {H1 : CH} {l1 : Nat}, Ran P H low H1 l1 → l1 ≤ H1.n := fun r => Nat.le_trans r.le (Nat.le_trans hlow r.grow)
  unfold stepC at h
  split at h
  · cases h; exact ⟨Ran.refl, fun K hk => hk⟩
  · cases h; exact ⟨Ran.refl, fun K hk => hk⟩
  · cases h; exact ⟨Ran.refl, fun K hk => hk⟩
  · cases h; exact ⟨Ran.refl, fun K hk => hk⟩
  · rename_i id ops dr
    split at h
    · split at h
      · cases h
      · rename_i T1 H1 l1 hrun
        cases h
        obtain ⟨h1, h2⟩ := runOps_ok hc _ hrun
        exact ⟨h1, fun K hk => awp_region (h2 (K .normal) hk)⟩
    · split at h
      · cases h
      · rename_i hok
        split at h
        · cases h
        · rename_i T1 H1 l1 hrun
          cases h
          refine ⟨(runDraw_ok hc _ 0 _ [] (bars_ok ops) hrun).1, fun K hk => awp_drawn [] hok ?_⟩
          exact (runDraw_ok hc _ 0 _ [] (bars_ok ops) hrun).2 (K .normal) hk
  · rename_i a b
    split at h
    · cases h
    · rename_i x1 T1 H1 l1 h1
      obtain ⟨r1, r2⟩ := hr _ _ _ _ _ _ _ _ _ hlow h1
      split at h
      · obtain ⟨s1, s2⟩ := hr _ _ _ _ _ _ _ _ _ (low1 r1) h
        exact ⟨r1.trans s1, fun K hk => r2 _ (s2 K hk)⟩
      · rename_i hx
        cases h
        refine ⟨r1, fun K hk => r2 _ ?_⟩
        cases x with
        | normal => exact (hx rfl).elim
        | _ => exact hk
  · rename_i cd a b
    split at h
    · rename_i hcd
      obtain ⟨r1, r2⟩ := hr _ _ _ _ _ _ _ _ _ hlow h
      exact ⟨r1, fun K hk => awp_true hcd (r2 K hk)⟩
    · rename_i hcd
      obtain ⟨r1, r2⟩ := hr _ _ _ _ _ _ _ _ _ hlow h
      exact ⟨r1, fun K hk => awp_false hcd (r2 K hk)⟩
    · cases h
  · rename_i id cc
    split at h
    · cases h
    · rename_i x1 T1 H1 l1 h1
      obtain ⟨r1, r2⟩ := hr _ _ _ _ _ _ _ _ _ hlow h1
      split at h
      · rename_i id'
        split at h
        · rename_i hid
          cases h
          have hid := Nat.eq_of_beq_eq_true hid
          subst hid
          exact ⟨r1, fun K hk => awp_block (r2 _ (block_here hk))⟩
        · rename_i hid
          cases h
          refine ⟨r1, fun K hk => awp_block (r2 _ (block_there ?_ hk))⟩
          cases hb : (id' == id) with
          | false => rfl
          | true => have := eq_of_beq hb; subst this; rw [beq_self] at hid; cases hid
      · rename_i hx
        cases h
        refine ⟨r1, fun K hk => awp_block (r2 _ ?_)⟩
        cases x with
        | exit id' => exact (hx id' rfl).elim
        | _ => exact hk
  · rename_i cc
    split at h
    · cases h
    · rename_i x1 T1 H1 l1 h1
      obtain ⟨r1, r2⟩ := hr _ _ _ _ _ _ _ _ _ hlow h1
      split at h
      · obtain ⟨s1, s2⟩ := hr _ _ _ _ _ _ _ _ _ (low1 r1) h
        refine ⟨r1.trans s1, fun K hk => ?_⟩
        obtain ⟨k, hk'⟩ : ∃ k, aiter (fun t A K => awp P n cc t A K) k T1.abs H1.abs K := s2 K hk
        exact ⟨k + 1, r2 _ hk'⟩
      · rename_i hx
        cases h
        refine ⟨r1, fun K hk => ⟨1, r2 _ ?_⟩⟩
        cases x with
        | normal => exact (hx rfl).elim
        | _ => exact hk
  · obtain ⟨r1, r2⟩ := hr _ _ _ _ _ _ _ _ _ hlow h
    exact ⟨r1, fun K hk => awp_scope (r2 K hk)⟩
  · cases h

theorem exec_ok {P : Program} (Fi : Fine P) (hm : P.follows .mixedOrders = true) {F : FuncId → Option FEnt} (hF : FunOk P F) {ov : CallF} (ho : CallOk P ov) : ∀ f, RecOk P (exec P F ov f)
  | 0 => fun n c T H low x T' H' l _ h => by simp [exec] at h
  | f + 1 => stepC_ok Fi hm hF ho (exec_ok Fi hm hF ho f)

/-- a function run by the machine -/
noncomputable def runF (P : Program) (F : FuncId → Option FEnt) (ov : CallF) (fuel : Nat) : CallF := callF P F ov (exec P F ov fuel)

theorem runF_ok {P : Program} (Fi : Fine P) (hm : P.follows .mixedOrders = true) {F : FuncId → Option FEnt} (hF : FunOk P F) {ov : CallF} (ho : CallOk P ov) (fuel : Nat) : CallOk P (runF P F ov fuel) :=
  callF_ok Fi hm hF ho (exec_ok Fi hm hF ho fuel)

end Go.AB
