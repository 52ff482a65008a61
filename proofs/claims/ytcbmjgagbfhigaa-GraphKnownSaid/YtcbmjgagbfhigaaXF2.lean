/-
  bytes.Compare's own function.
-/
import Derived.Test.YtcbmjgagbfhigaaXF1
namespace Go.AB
open Go
set_option linter.unusedSimpArgs false
set_option linter.unusedVariables false

/-- the bytes that cells hold -/
def byteV : List Value → Option (List UInt8)
  | [] => some []
  | .int .u8 b :: l => (byteV l).map (b.toNat.toUInt8 :: ·)
  | _ :: _ => none

theorem run_loadBytes {P : Program} {ρ : Rho} {A : AHeap} {w : World} {i : Nat} {e : Ent} {cs : List Value} {k : Kind} (h : Rel ρ A w) (hi : ρ i = some e) (hf : A.f i = some (.row cs k)) :
    ∀ (l : List Value) (o : Nat) (bs : List UInt8) (acc : ByteArray), (∀ j v, l[j]? = some v → cs[o + j]? = some v) → byteV l = some bs →
    (Extern.Bytes.loadBytes ⟨e.blk, e.sh + o, none⟩ l.length acc).run P w = .ok ⟨acc.data ++ bs.toArray⟩ w
  | [], o, bs, acc, _, hb => by
    simp only [byteV, Option.some.injEq] at hb
    subst hb
    simp [Extern.Bytes.loadBytes]
  | v :: l, o, bs, acc, hc, hb => by
    unfold byteV at hb
    split at hb
    · cases ‹_ = []›
    · rename_i b l' heq
      cases heq
      obtain ⟨bs', hb', rfl⟩ := Option.map_eq_some_iff.1 hb
      obtain ⟨v', h1, h2⟩ := row_cell h hi hf (hc 0 (.int .u8 b) rfl)
      cases h2
      have ih := run_loadBytes (P := P) h hi hf l (o + 1) bs' (acc.push b.toNat.toUInt8) (fun j v hv => by
        have := hc (j + 1) v (by simpa using hv)
        rwa [show o + (j + 1) = o + 1 + j by omega] at this) hb'
      simp only [List.length_cons, Extern.Bytes.loadBytes, Sem.run_bind, run_load]
      rw [show e.sh + o = e.sh + (o + 0) by omega, h1]
      simp only [Result.andThen_ok, add_none]
      rw [show e.sh + (o + 0) + 1 = e.sh + (o + 1) by omega, ih]
      congr 2
      simp [ByteArray.push]
    · cases hb

/-- the bytes of a slice -/
def aBytes (A : AHeap) : Value → Option (List UInt8)
  | .slice (some ⟨b, o, none⟩) n c => if c = ecap then none else match A.f b with
    | some (.row cs _) => match getCells cs o n with
      | some l => byteV l
      | none => none
    | _ => none
  | _ => none

theorem aBytes_run {P : Program} {ρ : Rho} {A : AHeap} {w : World} {x r : Value} {bs : List UInt8} (h : Rel ρ A w) (hx : VR ρ x r) (hb : aBytes A x = some bs) :
    (Extern.Bytes.bytesOf r).run P w = .ok ⟨bs.toArray⟩ w := by
  unfold aBytes at hb
  split at hb
  · rename_i b o n c
    split at hb
    · cases hb
    · rename_i hc
      split at hb
      · rename_i cs k hf
        split at hb
        · rename_i l hl
          obtain ⟨e, c', he, rfl, _⟩ := hx.slice_inv hc
          obtain ⟨hn, hg⟩ := getCells_some hl
          subst hn
          have := run_loadBytes (P := P) h he hf l o bs .empty hg hb
          have h0 : ByteArray.empty.data ++ bs.toArray = bs.toArray := by
            show (#[] : Array UInt8) ++ bs.toArray = _
            simp
          rw [h0] at this
          exact this
        · cases hb
      · cases hb
  · cases hb

theorem compare_simW {P : Program} {f : FuncId} {fn : Func} (hf : P.funcs[f]? = some fn) (hname : (fn.name == "runtime.NumGoroutine") = false) (hb : fn.body.isNone = true) (hn : Extern.findNext fn = none)
    (he : Extern.find fn = some Extern.BytealgCompare.compare) {A : AHeap} {x y : Value} {a b : List UInt8} (hx : aBytes A x = some a) (hy : aBytes A y = some b) :
    SimW P f [x, y] A (fun v A' => v = goInt (Extern.BytealgCompare.cmp ⟨a.toArray⟩ ⟨b.toArray⟩) ∧ A' = A) := by
  refine simW_extern hf hname hb hn he fun ρ w rargs hr hv => ?_
  obtain ⟨r1, r2, rfl⟩ : ∃ r1 r2, rargs = [r1, r2] := by
    match rargs, hv with
    | [a, b], _ => exact ⟨a, b, rfl⟩
    | [], h => simp [VL] at h
    | [_], h => simp [VL] at h
    | _ :: _ :: _ :: _, h => simp [VL] at h
  have h1 : VR ρ x r1 := hv.2 0 _ _ rfl rfl
  have h2 : VR ρ y r2 := hv.2 1 _ _ rfl rfl
  refine ⟨goInt (Extern.BytealgCompare.cmp ⟨a.toArray⟩ ⟨b.toArray⟩), w, ?_, ρ, _, A, ⟨rfl, rfl⟩, .int _ _, Step.refl hr⟩
  show Sem.run P (do pure (goInt (Extern.BytealgCompare.cmp (← Extern.Bytes.bytesOf r1) (← Extern.Bytes.bytesOf r2)))) w = _
  simp only [Sem.run_bind, aBytes_run hr h1 hx, aBytes_run hr h2 hy, Result.andThen_ok, Sem.run_pure]

end Go.AB
