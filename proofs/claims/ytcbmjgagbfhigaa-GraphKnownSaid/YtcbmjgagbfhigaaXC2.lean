/-
  A region that draws its order: operations that touch memory; the rule.
-/
import Derived.Test.YtcbmjgagbfhigaaXC1
namespace Go.AB
open Go
set_option linter.unusedSimpArgs false
set_option linter.unusedVariables false

section
variable {P : Program} {n : Nat} {ops : Array Oper} {rd : List Nat} {T : Nat → Tm} {H : Nat → AHeap} {V : Nat → Value} {ρ0 : Rho} {w0 : World}

/-- ρ1 taken over for the blocks of one operation -/
def glue (ρ ρ1 : Rho) (lo hi : Nat) : Rho := fun x => if lo ≤ x ∧ x < hi then ρ1 x else ρ x

theorem J_touch (hok : okDraw ops = true) (hnn : ∀ j, j < ops.size → (H j).n ≤ (H (j + 1)).n) {D : Nat → Bool} {a : Act} {w w1 : World} {ρ ρ1 : Rho} (hJ : J n ops T H V ρ0 w0 D a w ρ)
    (h0 : ∀ x e, ρ0 x = some e → x < (H 0).n)
    {i : Nat} {o : Oper} (ho : ops[i]? = some o) (hD : D i = false) (hready : ∀ e ∈ o.after.toList, Region.binds .any e = true → D e.on = true) (hg : Good P n ops rd T H V i o)
    (hmut : Unch (H i) (H (i + 1)) ∨ barrier ops rd i = true) (htouch : ∀ j o', ops[j]? = some o' → Mut ops H j → touches o'.op = true)
    (hnew : ∀ j o', ops[j]? = some o' → (H j).n < (H (j + 1)).n → touches o'.op = true ∧ rd.contains j = false)
    (hbar : ∀ j, Mut ops H j → barrier ops rd j = true)
    (hto : touches o.op = true)
    {r : Value} (hr : VR ρ1 (V i) r) (hs : Step (cut ρ (H i).n) (H i) w ρ1 (H (i + 1)) w1) (hwin : Win ops H D i) :
    J n ops T H V ρ0 w0 (done D i) (a.put o.dst r) w1 (glue ρ ρ1 (H i).n (H (i + 1)).n) := by
  have hi : i < ops.size := (Array.getElem?_eq_some_iff.1 ho).1
  have hni : (H i).n ≤ (H (i + 1)).n := hnn i hi
  have hRi := hJ.win i hwin
  have hn0 : (H 0).n ≤ (H i).n := mono_n' hnn (Nat.zero_le _) (by omega)
  -- ρ1 against ρ
  have r1_old : ∀ x, x < (H i).n → ρ1 x = ρ x := by
    intro x hx
    cases h1 : ρ1 x with
    | none =>
      cases h2 : ρ x with
      | none => rfl
      | some e => have := hs.sub x e (cut_mk h2 hx); rw [h1] at this; cases this
    | some e =>
      cases h2 : cut ρ (H i).n x with
      | none => exact absurd (hs.news x e h1 h2) (by omega)
      | some e' =>
        have := hs.sub x e' h2
        rw [h1] at this; cases this
        exact (cut_some h2).2.symm
  have r1_lt : ∀ x e, ρ1 x = some e → x < (H (i + 1)).n := fun x e h => hs.rel.lt x e h
  have rnone : ∀ x, (H i).n ≤ x → x < (H (i + 1)).n → ρ x = none := hJ.ids i hi hD
  have gsub : Sub ρ (glue ρ ρ1 (H i).n (H (i + 1)).n) := by
    intro x e hx
    unfold glue
    split
    · rename_i hc; rw [rnone x hc.1 hc.2] at hx; cases hx
    · exact hx
  have g_old : ∀ x, x < (H i).n → glue ρ ρ1 (H i).n (H (i + 1)).n x = ρ x := fun x hx => by unfold glue; rw [if_neg (by omega)]
  have g_r1 : ∀ x, x < (H (i + 1)).n → glue ρ ρ1 (H i).n (H (i + 1)).n x = ρ1 x := by
    intro x hx
    unfold glue
    by_cases hxi : (H i).n ≤ x
    · rw [if_pos ⟨hxi, hx⟩]
    · rw [if_neg (by omega), r1_old x (by omega)]
  have g_later : ∀ x, (H (i + 1)).n ≤ x → glue ρ ρ1 (H i).n (H (i + 1)).n x = ρ x := fun x hx => by unfold glue; rw [if_neg (by omega)]
  have r1_cut : ∀ k, i + 1 ≤ k → k ≤ ops.size → Sub ρ1 (cut (glue ρ ρ1 (H i).n (H (i + 1)).n) (H k).n) := by
    intro k hk hkm x e hx
    have := r1_lt x e hx
    exact cut_mk (by rw [g_r1 x this]; exact hx) (Nat.lt_of_lt_of_le this (mono_n' hnn hk hkm))
  -- the old window
  have oldwin : ∀ k, Win ops H (done D i) k → k ≤ i → Win ops H D k ∧ Unch (H i) (H (i + 1)) := by
    rintro k ⟨h1, h2, h3⟩ hki
    have hnm : ¬ Mut ops H i := fun hm => by have := h2 i hm (by simp [done]); omega
    refine ⟨⟨h1, fun j hm hj => h2 j hm (by simp [done, hj]), fun j hm hj => ?_⟩, Classical.byContradiction fun hc => hnm ⟨hi, hc⟩⟩
    have hji : j ≠ i := fun e => hnm (e ▸ hm)
    exact h3 j hm (by simp [done, hj, hji])
  have afterUnch : ∀ k, Win ops H (done D i) k → i + 1 ≤ k → Unch (H (i + 1)) (H k) := by
    rintro k ⟨h1, h2, h3⟩ hk
    refine unch_to' hnn hk h1 fun j hj1 hj2 hm => ?_
    cases hd : done D i j with
    | true =>
      rcases done_true hd with hd | hd
      · have := hwin.2.1 j hm hd; omega
      · omega
    | false => have := h3 j hm hd; omega
  -- objects below, in the new world
  have objR : ∀ x e, ρ1 x = some e → ∃ ob, (H (i + 1)).f x = some ob ∧ OR ρ1 w1.heap e ob := hs.rel.obj
  have frame1 : ∀ B, B < w.heap.size → (∀ y e, cut ρ (H i).n y = some e → writable (H i) y → e.blk ≠ B) → w1.heap[B]? = w.heap[B]? := hs.frame
  refine {
    defers := (put_defers _ _ _).trans hJ.defers
    tsize := (put_size _ _ _).trans hJ.tsize
    slot := slot_put hok hJ gsub ho hD hg (hr.mono (r1_cut (i + 1) (Nat.le_refl _) (by omega)))
    down := down_done hJ ho hready
    rng := fun j hj => by rcases done_true hj with h | h; exact hJ.rng j h; exact h ▸ hi
    ids := ?_
    win := ?_
    keep := ?_
    sub := hJ.sub.trans gsub
    os := hs.os.trans hJ.os
    tape := ⟨hs.tape.1.trans hJ.tape.1, fun a => (hs.tape.2 a).trans (hJ.tape.2 a)⟩
    output := hs.output.trans hJ.output
    size := Nat.le_trans hJ.size hs.size
    frame := ?_
    fresh := ?_
    news := ?_
    upper := ?_ }
  · intro j hj hd x h1 h2
    obtain ⟨hdj, hji⟩ := done_false hd
    have : glue ρ ρ1 (H i).n (H (i + 1)).n x = ρ x := by
      unfold glue
      rw [if_neg]
      rintro ⟨h3, h4⟩
      rcases Nat.lt_or_gt_of_ne hji with hlt | hgt
      · have := mono_n' hnn (show j + 1 ≤ i by omega) (by omega); omega
      · have := mono_n' hnn (show i + 1 ≤ j by omega) (by omega); omega
    rw [this]; exact hJ.ids j hj hdj x h1 h2
  · intro k hk
    by_cases hki : k ≤ i
    · -- a heap of before this operation
      obtain ⟨hold, hun⟩ := oldwin k hk hki
      have hR := hJ.win k hold
      have hnk : (H k).n ≤ (H i).n := mono_n' hnn hki (by omega)
      have hki2 : Unch (H k) (H i) := by
        refine unch_to' hnn hki (by omega) fun j hj1 hj2 hm => ?_
        cases hd : D j with
        | true => have := hold.2.1 j hm hd; omega
        | false => have := hwin.2.2 j hm hd; omega
      have hceq : cut (glue ρ ρ1 (H i).n (H (i + 1)).n) (H k).n = cut ρ (H k).n := by
        funext x; unfold cut
        split
        · rename_i hx; exact g_old x (by omega)
        · rfl
      rw [hceq]
      refine ⟨hR.lt, ?_, ?_, hR.inj⟩
      · intro x e hx
        obtain ⟨ob, h1, h2⟩ := hR.obj x e hx
        obtain ⟨hx1, hx2⟩ := cut_some hx
        have hr1 : ρ1 x = some e := by rw [r1_old x (by omega)]; exact hx2
        obtain ⟨ob', h3, h4⟩ := objR x e hr1
        have : ob' = ob := by
          have e1 : (H (i + 1)).f x = (H k).f x := (hun x (by omega)).trans (hki2 x hx1)
          rw [e1, h1] at h3; exact (Option.some.inj h3).symm
        subst this
        refine ⟨ob', h1, h2.restrict (ρb := ρ1) ?_ h4⟩
        intro y ey hy
        obtain ⟨hy1, hy2⟩ := cut_some hy
        rw [r1_old y (by omega)]; exact hy2
      · intro x e hx
        exact Nat.lt_of_lt_of_le (hR.bnd x e hx) hs.size
    · -- a heap of behind it
      have hki : i + 1 ≤ k := by omega
      have hkm : k ≤ ops.size := hk.1
      have hun := afterUnch k hk hki
      have hnk : (H (i + 1)).n ≤ (H k).n := mono_n' hnn hki hkm
      have hsubk := r1_cut k hki hkm
      -- blocks of operations that stand behind this one and have been done
      have later : ∀ x e, (H (i + 1)).n ≤ x → x < (H k).n → ρ x = some e → Unch (H i) (H (i + 1)) ∧ Win ops H D k := by
        intro x e hx1 hx2 hxe
        -- some operation from i + 1 on made it
        have ex : ∃ j, i + 1 ≤ j ∧ j < k ∧ (H j).n ≤ x ∧ x < (H (j + 1)).n := by
          have : ∀ d, i + 1 + d ≤ k → x < (H (i + 1 + d)).n → ∃ j, i + 1 ≤ j ∧ j < k ∧ (H j).n ≤ x ∧ x < (H (j + 1)).n := by
            intro d
            induction d with
            | zero => intro _ h; simp at h; omega
            | succ d ih =>
              intro h1 h2
              by_cases h3 : x < (H (i + 1 + d)).n
              · exact ih (by omega) h3
              · exact ⟨i + 1 + d, by omega, by omega, by omega, h2⟩
          exact this (k - (i + 1)) (by omega) (by rw [show i + 1 + (k - (i + 1)) = k by omega]; exact hx2)
        obtain ⟨j, j1, j2, j3, j4⟩ := ex
        have hDj : D j = true := by
          cases hd : D j with
          | true => rfl
          | false => rw [hJ.ids j (by omega) hd x j3 j4] at hxe; cases hxe
        have hoj : ops[j]? = some ops[j] := Array.getElem?_eq_getElem (by omega)
        obtain ⟨htj, hrj⟩ := hnew j _ hoj (by omega)
        have hnm : ¬ Mut ops H i := by
          intro hm
          have hb := (barrier_order (hbar i hm) hoj htj hrj (by omega)).2 (by omega)
          have := hJ.down _ _ hb hDj
          rw [hD] at this; cases this
        refine ⟨Classical.byContradiction fun hc => hnm ⟨hi, hc⟩, hkm, fun j' hm hj' => hk.2.1 j' hm (by simp [done, hj']), fun j' hm hj' => ?_⟩
        have hji : j' ≠ i := fun e => hnm (e ▸ hm)
        exact hk.2.2 j' hm (by simp [done, hj', hji])
      -- an old one's block behind this operation
      have laterBlk : ∀ x e, (H (i + 1)).n ≤ x → x < (H k).n → ρ x = some e → live (H k) x → w1.heap[e.blk]? = w.heap[e.blk]? := by
        intro x e hx1 hx2 hxe hlx
        obtain ⟨hun1, hwk⟩ := later x e hx1 hx2 hxe
        have hR := hJ.win k hwk
        refine frame1 e.blk (hR.bnd x e (cut_mk hxe hx2)) ?_
        intro y ey hy hwy hb
        obtain ⟨hy1, hy2⟩ := cut_some hy
        have hyk : (H k).f y = (H i).f y := (hun y (by omega)).trans (hun1 y hy1)
        have hwyk : writable (H k) y := by unfold writable at hwy ⊢; rw [hyk]; exact hwy
        have := hR.inj y x ey e (cut_mk hy2 (by omega)) (cut_mk hxe hx2) hb hwyk hlx
        omega
      refine ⟨?_, ?_, ?_, ?_⟩
      · intro x e hx; exact (cut_some hx).1
      · intro x e hx
        obtain ⟨hx1, hx2⟩ := cut_some hx
        by_cases hxi : x < (H (i + 1)).n
        · rw [g_r1 x hxi] at hx2
          obtain ⟨ob, h1, h2⟩ := objR x e hx2
          exact ⟨ob, (hun x hxi).trans h1, h2.mono hsubk rfl⟩
        · rw [g_later x (by omega)] at hx2
          obtain ⟨hun1, hwk⟩ := later x e (by omega) hx1 hx2
          obtain ⟨ob, h1, h2⟩ := (hJ.win k hwk).obj x e (cut_mk hx2 hx1)
          refine ⟨ob, h1, ?_⟩
          by_cases hl : live (H k) x
          · refine h2.mono (fun y ey hy => ?_) (laterBlk x e (by omega) hx1 hx2 hl)
            obtain ⟨hy1, hy2⟩ := cut_some hy
            exact cut_mk (gsub y ey hy2) hy1
          · have : (H k).f x = some .dead := Classical.byContradiction hl
            rw [h1] at this; cases this; trivial
      · intro x e hx
        obtain ⟨hx1, hx2⟩ := cut_some hx
        by_cases hxi : x < (H (i + 1)).n
        · rw [g_r1 x hxi] at hx2
          exact hs.rel.bnd x e hx2
        · rw [g_later x (by omega)] at hx2
          obtain ⟨hun1, hwk⟩ := later x e (by omega) hx1 hx2
          exact Nat.lt_of_lt_of_le ((hJ.win k hwk).bnd x e (cut_mk hx2 hx1)) hs.size
      · intro x y e e' hx hy hb hwx hly
        obtain ⟨hx1, hx2⟩ := cut_some hx
        obtain ⟨hy1, hy2⟩ := cut_some hy
        -- both below
        by_cases hxi : x < (H (i + 1)).n <;> by_cases hyi : y < (H (i + 1)).n
        · rw [g_r1 x hxi] at hx2
          rw [g_r1 y hyi] at hy2
          refine hs.rel.inj x y e e' hx2 hy2 hb ?_ ?_
          · unfold writable at hwx ⊢; rw [hun x hxi] at hwx; exact hwx
          · unfold live at hly ⊢; rw [hun y hyi] at hly; exact hly
        · rw [g_later y (by omega)] at hy2
          obtain ⟨hun1, hwk⟩ := later y e' (by omega) hy1 hy2
          by_cases hxo : x < (H i).n
          · rw [g_old x hxo] at hx2
            exact (hJ.win k hwk).inj x y e e' (cut_mk hx2 hx1) (cut_mk hy2 hy1) hb hwx hly
          · rw [g_r1 x hxi] at hx2
            have hcn : cut ρ (H i).n x = none := by
              cases hc : cut ρ (H i).n x with
              | none => rfl
              | some e2 => have := (cut_some hc).1; omega
            rcases hs.fresh x e hx2 hcn with hf | ⟨z, ez, hz, hwz, hbz⟩
            · have := (hJ.win k hwk).bnd y e' (cut_mk hy2 hy1); omega
            · obtain ⟨hz1, hz2⟩ := cut_some hz
              have hzk : (H k).f z = (H i).f z := (hun z (by omega)).trans (hun1 z hz1)
              have hwzk : writable (H k) z := by unfold writable at hwz ⊢; rw [hzk]; exact hwz
              have := (hJ.win k hwk).inj z y ez e' (cut_mk hz2 (by omega)) (cut_mk hy2 hy1) (hbz.trans hb) hwzk hly
              omega
        · rw [g_later x (by omega)] at hx2
          obtain ⟨hun1, hwk⟩ := later x e (by omega) hx1 hx2
          by_cases hyo : y < (H i).n
          · rw [g_old y hyo] at hy2
            exact (hJ.win k hwk).inj x y e e' (cut_mk hx2 hx1) (cut_mk hy2 hy1) hb hwx hly
          · rw [g_r1 y hyi] at hy2
            have hcn : cut ρ (H i).n y = none := by
              cases hc : cut ρ (H i).n y with
              | none => rfl
              | some e2 => have := (cut_some hc).1; omega
            rcases hs.fresh y e' hy2 hcn with hf | ⟨z, ez, hz, hwz, hbz⟩
            · have := (hJ.win k hwk).bnd x e (cut_mk hx2 hx1); omega
            · -- it would share a block with one that is still written: not so
              obtain ⟨hz1, hz2⟩ := cut_some hz
              have hzk : (H k).f z = (H i).f z := (hun z (by omega)).trans (hun1 z hz1)
              have hlz : live (H k) z := by
                unfold live; rw [hzk]; intro hd; unfold writable at hwz; rw [hd] at hwz; exact hwz
              have := (hJ.win k hwk).inj x z e ez (cut_mk hx2 hx1) (cut_mk hz2 (by omega)) (hb.trans hbz.symm) hwx hlz
              omega
        · rw [g_later x (by omega)] at hx2
          rw [g_later y (by omega)] at hy2
          obtain ⟨hun1, hwk⟩ := later x e (by omega) hx1 hx2
          exact (hJ.win k hwk).inj x y e e' (cut_mk hx2 hx1) (cut_mk hy2 hy1) hb hwx hly
  · intro k hk x e hx hwx
    have hx0 := h0 x e hx
    by_cases hki : k ≤ i
    · exact hJ.keep k (oldwin k hk hki).1 x e hx hwx
    · have hun := afterUnch k hk (by omega)
      have hwx1 : writable (H (i + 1)) x := by unfold writable at hwx ⊢; rw [hun x (by omega)] at hwx; exact hwx
      exact hJ.keep i hwin x e hx (hs.keep x e (cut_mk (hJ.sub x e hx) (by omega)) hwx1)
  · intro B hB hn
    rw [frame1 B (Nat.lt_of_lt_of_le hB hJ.size) ?_, hJ.frame B hB hn]
    intro y e hy hwy
    obtain ⟨hy1, hy2⟩ := cut_some hy
    cases hc : ρ0 y with
    | some e0 =>
      have := hJ.sub y e0 hc
      rw [hy2] at this; cases this
      exact hn y e hc (hJ.keep i hwin y e hc hwy)
    | none =>
      rcases hJ.fresh y e hy2 hc with hf | ⟨z, ez, hz, hwz, hbz⟩
      · omega
      · rw [← hbz]; exact hn z ez hz hwz
  · intro x e hx hn
    unfold glue at hx
    split at hx
    · rename_i hc
      have hcn : cut ρ (H i).n x = none := by
        cases hc2 : cut ρ (H i).n x with
        | none => rfl
        | some e2 => have := (cut_some hc2).1; omega
      rcases hs.fresh x e hx hcn with hf | ⟨z, ez, hz, hwz, hbz⟩
      · exact .inl (Nat.le_trans hJ.size hf)
      · obtain ⟨hz1, hz2⟩ := cut_some hz
        cases hcz : ρ0 z with
        | some e0 =>
          have := hJ.sub z e0 hcz
          rw [hz2] at this; cases this
          exact .inr ⟨z, ez, hcz, hJ.keep i hwin z ez hcz hwz, hbz⟩
        | none =>
          rcases hJ.fresh z ez hz2 hcz with hf | ⟨z2, e2, h1, h2, h3⟩
          · exact .inl (by omega)
          · exact .inr ⟨z2, e2, h1, h2, h3.trans hbz⟩
    · exact hJ.fresh x e hx hn
  · intro x e hx hn
    unfold glue at hx
    split at hx
    · rename_i hc; omega
    · exact hJ.news x e hx hn
  · intro x e hx
    unfold glue at hx
    split at hx
    · rename_i hc
      have := mono_n' hnn (show i + 1 ≤ ops.size by omega) (Nat.le_refl _)
      omega
    · exact hJ.upper x e hx

end
end Go.AB
