/-
  (*Graph).Lines, walked.
-/
import Derived.Test.YtcbmjgagbfhigaaH4
namespace Go.AB.Try
open Go Go.AB Go.Proofs Go.IntWalk
set_option linter.unusedSimpArgs false
set_option linter.unusedVariables false
set_option maxRecDepth 10000
set_option maxHeartbeats 1000000
attribute [local irreducible] aops adrawn awp SimW

theorem Wt.slice {A : AHeap} {p : Nat} {s : Value} {hs junk : List (List Int)} (h : Wt A p s hs junk) : ∃ a c, s = .slice a hs.length c := by
  have hh := h.held
  have e : (hs.map vcells).length = hs.length := List.length_map _
  rw [← e]
  generalize hs.map vcells = ls at hh
  generalize junk.map vcells = js at hh
  cases hh with
  | nil => exact ⟨_, _, rfl⟩
  | zero => exact ⟨_, _, rfl⟩
  | grown => exact ⟨_, _, rfl⟩

theorem at_vok {A : AHeap} {p : Nat} {s : Value} {hs junk : List (List Int)} (h : Wt A p s hs junk) (hne : hs ≠ []) : vok (at' [] hs 0) = true := by
  have : 0 < hs.length := List.length_pos_iff.2 hne
  exact h.ok _ (List.mem_append_left _ (by rw [at_eq [] this]; exact List.getElem_mem _))

theorem vneq {a b : List Int} (ha : vok a = true) (hb : vok b = true) : abin Try.prog .neq 27 (vagg a) (vagg b) = some (.bool (!decide (a = b))) := by
  rw [← veq_vagg ha hb]
  exact agg_neq (layQ_ok lay27).1 (vok_key lay27 ha) (vok_key lay27 hb)
theorem veql {a b : List Int} (ha : vok a = true) (hb : vok b = true) : abin Try.prog .eql 27 (vagg a) (vagg b) = some (.bool (decide (a = b))) := by
  rw [← veq_vagg ha hb]
  exact agg_eql (layQ_ok lay27).1 (vok_key lay27 ha) (vok_key lay27 hb)
theorem vok_end : vok vend = true := by decide

theorem t22 {A : AHeap} {g m c : Nat} {pm first0 : Value} {k : Kind} {G : List NE} {out : List LE} (hg : A.f g = some (.row [.bool true, pm, .map (some m), first0] k)) (hgn : g < A.n) (hN : NodesA A m c G)
    (hbig : (G.length + 1) * (edges G + 1) ≤ 1000000000) (hout : linesOf G = some out) :
    SimW Try.prog 22 [.pointer (some ⟨g, 0, none⟩)] A (fun v A' => Held A' 35 v (out.map lcells) [] ∧ Unch A A' ∧ A.n ≤ A'.n ∧ (∀ b, own v = some b → A.n ≤ b) ∧ (out = [] → v = .slice none 0 0)) := by
  have hm := hN.f
  have hmn := hN.lt
  have hborn : ((vents (G.map NE.ve)).map (·.born)).Nodup := by rw [vents_born]; exact hN.vm.born
  have hnd : (G.map (·.b)).Nodup := by
    have := hN.vm.born
    rw [List.map_map] at this
    exact this
  have hE : (G.length + 1) * edges G + (G.length + 1) ≤ 1000000000 := by rw [Nat.mul_succ] at hbig; exact hbig
  have hE1 : edges G ≤ (G.length + 1) * edges G := Nat.le_mul_of_pos_left _ (Nat.succ_pos _)
  have happ46 := app46
  obtain ⟨bytes, hbytes, happ46⟩ := happ46
  
  refine simW_of_awp fine mixed Try.func22 rfl rfl (Nat.le_of_ble_eq_true rfl) ?_
  refine awp_seq fun N1 hN1 => ?_
  refine awp_region ?_
  (repeat ((with_reducible show aops _ _ _ _ _ _ _); first | (with_reducible refine aops_nil ?_) | (refine aops_do rfl rfl (by (try (conv => (lhs; simp only [-List.reduceReplicate, ↓reduceIte, Nat.reduceEqDiff, Nat.reduceLT, Nat.reduceAdd, Nat.reduceMul, Nat.reduceLeDiff, Int.reduceLT, Int.reduceLE, Int.reduceToNat, reduceCtorEq, go_sem]))); try exact rfl) ?_; first | refine aput_some rfl (Nat.le_of_ble_eq_true rfl) ?_ | refine aput_none rfl ?_) | (refine aops_skip rfl rfl (Nat.le_of_ble_eq_true rfl) ?_) | (refine aops_skip0 rfl rfl ?_)))
  refine then_normal (hN1 _ _ ?_); try clear hN1 N1
  refine awp_seq fun N2 hN2 => ?_
  refine awp_seq fun N3 hN3 => ?_
  refine awp_region ?_
  (repeat ((with_reducible show aops _ _ _ _ _ _ _); first | (with_reducible refine aops_nil ?_) | (refine aops_do rfl rfl (by (try (conv => (lhs; simp only [-List.reduceReplicate, ↓reduceIte, Nat.reduceEqDiff, Nat.reduceLT, Nat.reduceAdd, Nat.reduceMul, Nat.reduceLeDiff, Int.reduceLT, Int.reduceLE, Int.reduceToNat, reduceCtorEq, go_sem]))); try exact rfl) ?_; first | refine aput_some rfl (Nat.le_of_ble_eq_true rfl) ?_ | refine aput_none rfl ?_) | (refine aops_skip rfl rfl (Nat.le_of_ble_eq_true rfl) ?_) | (refine aops_skip0 rfl rfl ?_)))
  refine aops_call (hs := t41 hg) rfl rfl rfl (Nat.le_of_ble_eq_true rfl) rfl ?_
  rintro _ Ax ⟨rfl, hAx⟩
  have hAx := hAx.symm
  subst hAx
  (repeat ((with_reducible show aops _ _ _ _ _ _ _); first | (with_reducible refine aops_nil ?_) | (refine aops_do rfl rfl (by (try (conv => (lhs; simp only [-List.reduceReplicate, ↓reduceIte, Nat.reduceEqDiff, Nat.reduceLT, Nat.reduceAdd, Nat.reduceMul, Nat.reduceLeDiff, Int.reduceLT, Int.reduceLE, Int.reduceToNat, reduceCtorEq, go_sem]))); try exact rfl) ?_; first | refine aput_some rfl (Nat.le_of_ble_eq_true rfl) ?_ | refine aput_none rfl ?_) | (refine aops_skip rfl rfl (Nat.le_of_ble_eq_true rfl) ?_) | (refine aops_skip0 rfl rfl ?_)))
  refine then_normal (hN3 _ _ ?_); try clear hN3 N3
  refine awp_false rfl ?_
  refine awp_skip ?_
  refine then_normal (hN2 _ _ ?_); try clear hN2 N2
  refine awp_seq fun N4 hN4 => ?_
  refine awp_region ?_
  (repeat ((with_reducible show aops _ _ _ _ _ _ _); first | (with_reducible refine aops_nil ?_) | (refine aops_do rfl rfl (by (try (conv => (lhs; simp only [-List.reduceReplicate, ↓reduceIte, Nat.reduceEqDiff, Nat.reduceLT, Nat.reduceAdd, Nat.reduceMul, Nat.reduceLeDiff, Int.reduceLT, Int.reduceLE, Int.reduceToNat, reduceCtorEq, go_sem]))); try exact rfl) ?_; first | refine aput_some rfl (Nat.le_of_ble_eq_true rfl) ?_ | refine aput_none rfl ?_) | (refine aops_skip rfl rfl (Nat.le_of_ble_eq_true rfl) ?_) | (refine aops_skip0 rfl rfl ?_)))
  refine aops_call (hs := t52 hg hgn hN (by omega)) rfl rfl rfl (Nat.le_of_ble_eq_true rfl) rfl ?_
  rintro _ A1 ⟨q, L, cl, rfl, hq0, hqn, hfq, hcnt, hu1, hn1⟩
  (repeat ((with_reducible show aops _ _ _ _ _ _ _); first | (with_reducible refine aops_nil ?_) | (refine aops_do rfl rfl (by (try (conv => (lhs; simp only [-List.reduceReplicate, ↓reduceIte, Nat.reduceEqDiff, Nat.reduceLT, Nat.reduceAdd, Nat.reduceMul, Nat.reduceLeDiff, Int.reduceLT, Int.reduceLE, Int.reduceToNat, reduceCtorEq, go_sem]))); try exact rfl) ?_; first | refine aput_some rfl (Nat.le_of_ble_eq_true rfl) ?_ | refine aput_none rfl ?_) | (refine aops_skip rfl rfl (Nat.le_of_ble_eq_true rfl) ?_) | (refine aops_skip0 rfl rfl ?_)))
  refine then_normal (hN4 _ _ ?_); try clear hN4 N4
  refine awp_seq fun NS hNS => ?_
  have loops : ∀ (tt : Tm) (A2 : AHeap) (p : Nat) (s : Value), tt 0 = .pointer (some ⟨g, 0, none⟩) → tt 2 = .slice none 0 0 → tt 3 = .map (some q) → tt 4 = .pointer (some ⟨p, 0, none⟩) →
      LSt A A2 p q s (.slice none 0 0) [] [] [] L cl (fun w => (cntG w G : Nat)) → NS tt A2 := by
    intro tt A2 p s h0 h2 h3 h4 hL
    refine hNS _ _ ?_
    clear hNS
    
    
    refine awp_seq fun NP hNP => ?_
    have main : ∀ (tt : Tm) (A3 : AHeap) (s : Value) (hs junk : List (List Int)), tt 0 = .pointer (some ⟨g, 0, none⟩) → tt 2 = .slice none 0 0 → tt 3 = .map (some q) → tt 4 = .pointer (some ⟨p, 0, none⟩) →
        LSt A A3 p q s (.slice none 0 0) hs junk [] L cl (fun w => (cntG w G : Nat)) → hs.Perm (first G G) → HeapL llt [] hs.length hs → hs.length ≤ G.length → NP tt A3 := by
      intro tt A3 s hs junk h0 h2 h3 h4 hL hperm hheap hlen
      refine hNP _ _ ?_
      clear hNP
      
      
      refine awp_seq fun NZ hNZ => ?_
      have fin : ∀ (tt : Tm) (A4 : AHeap) (so : Value), tt 2 = so → Held A4 35 so (out.map lcells) [] → Unch A A4 → A.n ≤ A4.n → (∀ b, own so = some b → A.n ≤ b) → (out = [] → so = .slice none 0 0) → NZ tt A4 := by
        intro tt A4 so h2 k1 k2 k3 k4 k5
        refine hNZ _ _ ?_
        
        
        refine awp_seq fun N8 hN8 => ?_
        refine awp_region ?_
        (repeat ((with_reducible show aops _ _ _ _ _ _ _); first | (with_reducible refine aops_nil ?_) | (refine aops_do rfl rfl (by (try (conv => (lhs; simp only [-List.reduceReplicate, ↓reduceIte, Nat.reduceEqDiff, Nat.reduceLT, Nat.reduceAdd, Nat.reduceMul, Nat.reduceLeDiff, Int.reduceLT, Int.reduceLE, Int.reduceToNat, reduceCtorEq, go_sem, h2]))); try exact rfl) ?_; first | refine aput_some rfl (Nat.le_of_ble_eq_true rfl) ?_ | refine aput_none rfl ?_) | (refine aops_skip rfl rfl (Nat.le_of_ble_eq_true rfl) ?_) | (refine aops_skip0 rfl rfl ?_)))
        refine then_normal (hN8 _ _ ?_); try clear hN8 N8
        refine awp_ret ?_; (repeat (first | (with_reducible refine then_ret ?_) | (with_reducible refine block_ret ?_)))
        exact end_ret rfl ⟨k1, k2, k3, k4, k5⟩
        
      clear hNZ
      refine awp_block ?_
      
      refine awp_loop (fun f t A3 => ∃ s so hs junk acc L cl dec W rest, t 0 = .pointer (some ⟨g, 0, none⟩) ∧ t 2 = so ∧ t 3 = .map (some q) ∧ t 4 = .pointer (some ⟨p, 0, none⟩) ∧
        LSt A A3 p q s so hs junk acc L cl (fun w => ((cntG w G : Nat) : Int) - (cntL w dec : Nat)) ∧ hs.Perm W ∧ HeapL llt [] hs.length hs ∧ kahn G f dec W = some rest ∧ acc ++ rest = out ∧
        W.length ≤ G.length + dec.length ∧ dec.length + f * edges G ≤ (G.length + 1) * edges G ∧ acc.length + f ≤ G.length + 1 ∧ (acc = [] → so = .slice none 0 0))
        (G.length + 1) ⟨s, _, hs, junk, [], L, cl, [], first G G, out, h0, h2, h3, h4, ⟨hL.unch, hL.n, hL.q0, hL.qn, hL.fq, hL.cnt.congr (fun w => by simp [cntL]), hL.p0, hL.wt, hL.pq, hL.s0, hL.out, hL.o0⟩, hperm, hheap, hout, rfl, by rw [← hperm.length_eq]; simp; omega, by simp, by simp, fun _ => rfl⟩ fun f t A3 hI N hN' => ?_
      clear hL hperm hheap h0 h2 h3 h4
      obtain ⟨s, so, hs, junk, acc, L, cl, dec, W, rest, h0, h2, h3, h4, hL, hperm, hheap, hk, hacc, hWl, hdl, hal, hso⟩ := hI
      obtain ⟨sa0, sc0, rfl⟩ := hL.wt.slice
      have hcell := hL.wt.cell
      have hlenW := hperm.length_eq
      have hlen9 : hs.length ≤ 1000000000 := by
        rw [hlenW]
        have : dec.length ≤ (G.length + 1) * edges G := Nat.le_trans (Nat.le_add_right _ _) hdl
        omega
      refine awp_seq fun N9 hN9 => ?_
      refine awp_seq fun N10 hN10 => ?_
      refine awp_region ?_
      (repeat ((with_reducible show aops _ _ _ _ _ _ _); first | (with_reducible refine aops_nil ?_) | (refine aops_do rfl rfl (by (try (conv => (lhs; simp only [-List.reduceReplicate, ↓reduceIte, Nat.reduceEqDiff, Nat.reduceLT, Nat.reduceAdd, Nat.reduceMul, Nat.reduceLeDiff, Int.reduceLT, Int.reduceLE, Int.reduceToNat, reduceCtorEq, go_sem, h4, hcell]))); try exact rfl) ?_; first | refine aput_some rfl (Nat.le_of_ble_eq_true rfl) ?_ | refine aput_none rfl ?_) | (refine aops_skip rfl rfl (Nat.le_of_ble_eq_true rfl) ?_) | (refine aops_skip0 rfl rfl ?_)))
      refine aops_call (hs := t54 (s := sa0) (n := hs.length) (c := sc0) (A := A3)) rfl rfl rfl (Nat.le_of_ble_eq_true rfl) rfl ?_
      rintro _ Ax ⟨rfl, hAx2⟩
      have hAx2 := hAx2.symm
      subst hAx2
      (repeat ((with_reducible show aops _ _ _ _ _ _ _); first | (with_reducible refine aops_nil ?_) | (refine aops_do rfl rfl (by (try (conv => (lhs; simp only [-List.reduceReplicate, ↓reduceIte, Nat.reduceEqDiff, Nat.reduceLT, Nat.reduceAdd, Nat.reduceMul, Nat.reduceLeDiff, Int.reduceLT, Int.reduceLE, Int.reduceToNat, reduceCtorEq, go_sem]))); try exact rfl) ?_; first | refine aput_some rfl (Nat.le_of_ble_eq_true rfl) ?_ | refine aput_none rfl ?_) | (refine aops_skip rfl rfl (Nat.le_of_ble_eq_true rfl) ?_) | (refine aops_skip0 rfl rfl ?_)))
      refine then_normal (hN10 _ _ ?_); try clear hN10 N10
      obtain ⟨f', rfl⟩ : ∃ f', f = f' + 1 := by
        cases f with
        | zero => cases hk
        | succ f' => exact ⟨f', rfl⟩
      cases W with
      | nil =>
        
        have hz : decide (((hs.length : Nat) : Int) > 0) = false := by rw [hlenW]; rfl
        refine awp_false (by show Value.bool _ = _; rw [hz]) ?_
        refine awp_exit ?_; (repeat (first | (with_reducible refine then_exit ?_) | ((with_reducible refine block_there ?hne ?_); case hne => rfl))); with_reducible refine block_here ?_
        have : rest = [] := by
          unfold kahn at hk; cases hk; rfl
        subst this
        rw [List.append_nil] at hacc
        subst hacc
        exact then_normal (fin _ _ so h2 hL.out hL.unch hL.n (fun b hb => (hL.o0 b hb).1) hso)
        
      | cons w0 ws =>
        have hz : decide (((hs.length : Nat) : Int) > 0) = true := by rw [hlenW]; simp
        have hne : hs ≠ [] := fun e => by rw [e] at hlenW; simp at hlenW
        refine awp_true (by show Value.bool _ = _; rw [hz]) ?_
        refine awp_skip ?_
        refine then_normal (hN9 _ _ ?_); try clear hN9 N9
        have hv0 := at_vok hL.wt hne
        have hmin : minL w0 ws = at' [] hs 0 := by
          obtain ⟨m1, m2, m3⟩ := minL_spec ws w0
          have hmem : minL w0 ws ∈ hs := hperm.mem_iff.2 (by
            rcases m1 with e | e
            · rw [e]; exact List.mem_cons_self ..
            · exact List.mem_cons_of_mem _ e)
          have h0W : at' [] hs 0 ∈ w0 :: ws := hperm.mem_iff.1 (by rw [at_eq [] (List.length_pos_iff.2 hne)]; exact List.getElem_mem _)
          refine llt_lo.tri _ _ (llt_lo.least_of hheap _ hmem) ?_
          rcases List.mem_cons.1 h0W with e | e
          · rw [e]; exact m2
          · exact m3 _ e
        unfold kahn at hk
        simp only [hmin] at hk
        generalize hv : at' [] hs 0 = v0 at *
        cases hfn : findN v0 G with
        | none => rw [hfn] at hk; cases hk
        | some x =>
          rw [hfn] at hk
          simp only at hk
          obtain ⟨hxG, hxk⟩ := findN_mem hfn
          obtain ⟨sa, sc, hs1, hsr⟩ := hN.reads x hxG
          have hxv : x.ve.v = .agg ⟨[.string x.text, .int .i64 x.gone, .int .i64 x.named, .slice sa x.next.length sc]⟩ := by rw [← hs1]; rfl
          have hxe := edges_mem hxG
          generalize hW1 : eraseL v0 (w0 :: ws) = W1 at hk
          have hout1 := outs_len G x.next dec W1
          cases hoo : outs G dec W1 x.next with
          | mk dec' W' =>
            rw [hoo] at hk
            simp only at hk
            cases hkk : kahn G f' dec' W' with
            | none => rw [hkk] at hk; cases hk
            | some rest' =>
              rw [hkk] at hk
              simp only [Option.some.injEq] at hk
              subst hk
              have l1 := vcells_len hv0
              have zf := putCells_full (cs := List.replicate 32 (Value.int .u8 0) ++ [Value.int .i64 0]) (vs := vcells v0) (by rw [l1]; rfl)
              have gf : getCells (vcells v0) 0 33 = some (vcells v0) := by
                unfold getCells; rw [if_pos (by omega), List.drop_zero, ← l1, List.take_length]
              have hpl := popL_perm (lt := llt) [] hne
              have hps := popL_split (lt := llt) [] hne
              have hph := popL_heap llt_lo [] hne hheap
              have hh1 : HeapL llt [] ((popL llt [] hs).take (hs.length - 1)).length ((popL llt [] hs).take (hs.length - 1)) := hph.take (by rw [popL_len]; omega)
              have hp1 : ((popL llt [] hs).take (hs.length - 1)).Perm W1 := by
                rw [hv] at hps
                have e1 : (v0 :: (popL llt [] hs).take (hs.length - 1)).Perm (w0 :: ws) := by
                  refine (List.perm_append_comm (l₁ := [v0])).trans ?_
                  rw [← hps]
                  exact hpl.trans hperm
                have := (List.Perm.erase v0 e1)
                rw [List.erase_cons_head, ← eraseL_eq, hW1] at this
                exact this
              generalize hHS : (popL llt [] hs).take (hs.length - 1) = hs1 at hh1 hp1
              refine awp_block ?_
              refine awp_seq fun NA hNA => ?_
              have cut1 : ∀ (tt : Tm) (A6 : AHeap) (s : Value) (junk : List (List Int)) (a6 : Nat), tt 0 = .pointer (some ⟨g, 0, none⟩) → tt 2 = so → tt 3 = .map (some q) → tt 4 = .pointer (some ⟨p, 0, none⟩) → tt 6 = .pointer (some ⟨a6, 0, none⟩) → tt 7 = .bool true →
                  LSt A A6 p q s so hs1 junk acc L cl (fun w => ((cntG w G : Nat) : Int) - (cntL w dec : Nat)) → a6 < A6.n → A6.f a6 = some (.row (vcells v0) .fix) → NA tt A6 := by
                clear h0 h2 h3 h4 hL hcell fin
                intro tt A6 s junk a6 h0 h2 h3 h4 h6 h7 hL h6n hrow
                refine hNA _ _ ?_
                clear hNA
                
                
                refine awp_seq fun N12 hN12 => ?_
                refine awp_seq fun N13 hN13 => ?_
                refine awp_region ?_
                (repeat ((with_reducible show aops _ _ _ _ _ _ _); first | (with_reducible refine aops_nil ?_) | (refine aops_do rfl rfl (by (try (conv => (lhs; simp only [-List.reduceReplicate, ↓reduceIte, Nat.reduceEqDiff, Nat.reduceLT, Nat.reduceAdd, Nat.reduceMul, Nat.reduceLeDiff, Int.reduceLT, Int.reduceLE, Int.reduceToNat, reduceCtorEq, go_sem, h7]))); try exact rfl) ?_; first | refine aput_some rfl (Nat.le_of_ble_eq_true rfl) ?_ | refine aput_none rfl ?_) | (refine aops_skip rfl rfl (Nat.le_of_ble_eq_true rfl) ?_) | (refine aops_skip0 rfl rfl ?_)))
                refine then_normal (hN13 _ _ ?_); try clear hN13 N13
                refine awp_false rfl ?_
                refine awp_skip ?_
                refine then_normal (hN12 _ _ ?_); try clear hN12 N12
                have hlk35 : alookup Try.prog A6 35 (.map (some m)) (vagg v0) false = some (.agg ⟨[.string x.text, .int .i64 x.gone, .int .i64 x.named, .slice sa x.next.length sc]⟩) := by
                  rw [lookup_v mp35 lay27 (by rw [hL.unch m hmn]; exact hm) hN.vm hv0, findN_vfind, hfn]
                  exact congrArg some hxv
                have hAg : A6.f g = some (.row [.bool true, pm, .map (some m), first0] k) := by rw [hL.unch g hgn]; exact hg
                refine awp_seq fun ND hND => ?_
                have cut2 : ∀ (tt : Tm) (A7 : AHeap) (a8 : Nat), tt 0 = .pointer (some ⟨g, 0, none⟩) → tt 2 = so → tt 3 = .map (some q) → tt 4 = .pointer (some ⟨p, 0, none⟩) → tt 6 = .pointer (some ⟨a6, 0, none⟩) → tt 8 = .pointer (some ⟨a8, 0, none⟩) →
                    LSt A A7 p q s so hs1 junk acc L cl (fun w => ((cntG w G : Nat) : Int) - (cntL w dec : Nat)) → A7.f a6 = some (.row (vcells v0) .fix) → a8 < A7.n → own so ≠ some a8 →
                    A7.f a8 = some (.row [.string x.text, .int .i64 x.gone, .int .i64 x.named, .slice sa x.next.length sc] .fix) → ND tt A7 := by
                  clear h0 h2 h3 h4 h6 h7 hL hrow h6n hlk35 hAg
                  intro tt A7 a8 h0 h2 h3 h4 h6 h8 hL hrow h8n h8o hrow8
                  refine hND _ _ ?_
                  clear hND
                  
                  
                  obtain ⟨p1, p2, p3, sc1, ln1⟩ := lineCells v0 hv0 x.text (x.gone == 0)
                  have hroom : ((acc.map lcells).length + 1) * bytes ≤ room := by
                    rw [List.length_map]
                    have h1 : acc.length + 1 ≤ 1000000000 := by omega
                    have h2 := Nat.mul_le_mul h1 hbytes
                    unfold room; omega
                  obtain ⟨so', A8, happ, hheld, hgrew⟩ := append1 (P := Try.prog) (A := A7.push (.row (vcells v0 ++ [.string x.text, .bool (x.gone == 0)]) .fix)) (st := 46) (xt := 46) (s := so) (x := .slice (some ⟨A7.n, 0, none⟩) 1 1) (ls := acc.map lcells) (junk := []) (y := vcells v0 ++ [.string x.text, .bool (x.gone == 0)]) happ46
                    (appCells_one (k := .fix) (AHeap.push_new _ _) ln1) ln1 (by decide) (hL.out.mono (Nat.le_succ _) (fun b hb => AHeap.push_old _ _ (hL.out.own_lt hb))) hroom
                  have hL8 := (hL.more (Unch.push A7 (.row (vcells v0 ++ [.string x.text, .bool (x.gone == 0)]) .fix)) (Nat.le_succ _)).grew (acc' := acc ++ [⟨v0, x.text, x.gone == 0⟩]) hgrew (by rw [List.map_append]; exact hheld)
                  have h88 : A8.f a8 = some (.row [.string x.text, .int .i64 x.gone, .int .i64 x.named, .slice sa x.next.length sc] .fix) := by
                    rw [hgrew.frame a8 (Nat.lt_succ_of_lt h8n) h8o, AHeap.push_old _ _ h8n]; exact hrow8
                  refine awp_seq fun NF hNF => ?_
                  have cut3 : ∀ (tt : Tm), tt 0 = .pointer (some ⟨g, 0, none⟩) → tt 2 = so' → tt 3 = .map (some q) → tt 4 = .pointer (some ⟨p, 0, none⟩) → tt 8 = .pointer (some ⟨a8, 0, none⟩) → NF tt A8 := by
                    clear h0 h2 h3 h4 h6 h8 hrow happ hL hrow8 p1 p2 p3 sc1 ln1 hroom hheld hgrew
                    intro tt h0 h2 h3 h4 h8
                    refine hNF _ _ ?_
                    clear hNF
                    
                    
                    refine awp_seq fun N16 hN16 => ?_
                    refine awp_region ?_
                    (repeat ((with_reducible show aops _ _ _ _ _ _ _); first | (with_reducible refine aops_nil ?_) | (refine aops_do rfl rfl (by (try (conv => (lhs; simp only [-List.reduceReplicate, ↓reduceIte, Nat.reduceEqDiff, Nat.reduceLT, Nat.reduceAdd, Nat.reduceMul, Nat.reduceLeDiff, Int.reduceLT, Int.reduceLE, Int.reduceToNat, reduceCtorEq, go_sem, h8, h88, goInt]))); try exact rfl) ?_; first | refine aput_some rfl (Nat.le_of_ble_eq_true rfl) ?_ | refine aput_none rfl ?_) | (refine aops_skip rfl rfl (Nat.le_of_ble_eq_true rfl) ?_) | (refine aops_skip0 rfl rfl ?_)))
                    refine then_normal (hN16 _ _ ?_); try clear hN16 N16
                    clear h88
                    refine awp_block ?_
                    
                    refine awp_loop (fun m' t A9 => ∃ j s hs junk L cl, t 0 = .pointer (some ⟨g, 0, none⟩) ∧ t 2 = so' ∧ t 3 = .map (some q) ∧ t 4 = .pointer (some ⟨p, 0, none⟩) ∧ t 67 = .slice sa x.next.length sc ∧ t 68 = .int .i64 (x.next.length : Nat) ∧ t 69 = .int .i64 (j : Nat) ∧
                      j + m' = x.next.length ∧ LSt A A9 p q s so' hs junk (acc ++ [⟨v0, x.text, x.gone == 0⟩]) L cl (fun w => ((cntG w G : Nat) : Int) - (cntL w (outs G dec W1 (x.next.take j)).1 : Nat)) ∧
                      hs.Perm (outs G dec W1 (x.next.take j)).2 ∧ HeapL llt [] hs.length hs)
                      x.next.length ⟨0, s, hs1, junk, L, cl, h0, h2, h3, h4, rfl, rfl, rfl, by omega, hL8, hp1, hh1⟩ fun m' t A9 hI N2 hN2 => ?_
                    clear hL8 hp1 hh1 h0 h2 h3 h4 h8
                    obtain ⟨j, s, hs, junk, L, cl, h0, h2, h3, h4, h67, h68, h69, hjm, hL, hperm, hheap⟩ := hI
                    refine awp_seq fun N17 hN17 => ?_
                    refine awp_region ?_
                    (repeat ((with_reducible show aops _ _ _ _ _ _ _); first | (with_reducible refine aops_nil ?_) | (refine aops_do rfl rfl (by (try (conv => (lhs; simp only [-List.reduceReplicate, ↓reduceIte, Nat.reduceEqDiff, Nat.reduceLT, Nat.reduceAdd, Nat.reduceMul, Nat.reduceLeDiff, Int.reduceLT, Int.reduceLE, Int.reduceToNat, reduceCtorEq, go_sem, h68, h69]))); try exact rfl) ?_; first | refine aput_some rfl (Nat.le_of_ble_eq_true rfl) ?_ | refine aput_none rfl ?_) | (refine aops_skip rfl rfl (Nat.le_of_ble_eq_true rfl) ?_) | (refine aops_skip0 rfl rfl ?_)))
                    refine then_normal (hN17 _ _ ?_); try clear hN17 N17
                    refine awp_seq fun N18 hN18 => ?_
                    by_cases hj : j < x.next.length
                    · 
                      have hdj : decide ((j : Int) < (x.next.length : Int)) = true := by simp; omega
                      refine awp_true (by show Value.bool _ = _; rw [hdj]) ?_
                      refine awp_skip ?_
                      refine then_normal (hN18 _ _ ?_); try clear hN18 N18
                      refine awp_seq fun NH hNH => ?_
                      refine awp_block ?_
                      obtain ⟨b, o, cs, kk, rfl, hb, hc, hfb, hgb⟩ := hsr j hj
                      have hvw : vok (at' [] x.next j) = true := hN.vok x hxG _ (by rw [at_eq [] hj]; exact List.getElem_mem _)
                      have hwe : x.next.take (j + 1) = x.next.take j ++ [at' [] x.next j] := by
                        rw [List.take_add_one, List.getElem?_eq_getElem hj, at_eq [] hj]; rfl
                      have hsn := outs_snoc G (at' [] x.next j) (x.next.take j) dec W1
                      rw [← hwe, outs_one] at hsn
                      have hol := outs_len G (x.next.take j) dec W1
                      rw [List.length_take] at hol
                      have hlen9 : hs.length ≤ 1000000000 := by
                        rw [hperm.length_eq]
                        have e1 : W1.length + 1 = (w0 :: ws).length := by
                          have hmem : v0 ∈ w0 :: ws := by
                            rw [← hmin]
                            rcases (minL_spec ws w0).1 with e | e
                            · rw [e]; exact List.mem_cons_self ..
                            · exact List.mem_cons_of_mem _ e
                          rw [← hW1, eraseL_eq, List.length_erase_of_mem hmem]
                          simp
                        have e2 : dec.length + edges G ≤ (G.length + 1) * edges G := by
                          refine Nat.le_trans ?_ hdl
                          rw [Nat.add_mul, Nat.one_mul]; omega
                        have := hol.2
                        omega
                      generalize hw : at' [] x.next j = w at *
                      have l1 := vcells_len hvw
                      have zf := putCells_full (cs := List.replicate 32 (Value.int .u8 0) ++ [Value.int .i64 0]) (vs := vcells w) (by rw [l1]; rfl)
                      have gf : getCells (vcells w) 0 33 = some (vcells w) := by
                        unfold getCells; rw [if_pos (by omega), List.drop_zero, ← l1, List.take_length]
                      have hfb' : A9.f b = some (.row cs kk) := by rw [hL.unch b hb]; exact hfb
                      have hjj : (0 ≤ (j : Int) ∧ (j : Int) < (x.next.length : Int)) = True := by simp; omega
                      have w1 : IntKind.i64.wrap ((j : Int) + 1) = ((j + 1 : Nat) : Int) := by rw [i64_in _ (by omega)]; omega
                      generalize hdd : (outs G dec W1 (x.next.take j)).1 = dec1 at *
                      generalize hww : (outs G dec W1 (x.next.take j)).2 = W2 at *
                      have stepN : ∀ (tt : Tm) (A12 : AHeap) (s : Value) (hs junk : List (List Int)) (L : List VE) (cl : Nat), tt 0 = .pointer (some ⟨g, 0, none⟩) → tt 2 = so' → tt 3 = .map (some q) → tt 4 = .pointer (some ⟨p, 0, none⟩) → tt 67 = .slice (some ⟨b, o, none⟩) x.next.length sc → tt 68 = .int .i64 (x.next.length : Nat) → tt 69 = .int .i64 (j : Nat) →
                          LSt A A12 p q s so' hs junk (acc ++ [⟨v0, x.text, x.gone == 0⟩]) L cl (fun u => ((cntG u G : Nat) : Int) - (cntL u (w :: dec1) : Nat)) → hs.Perm (if w ≠ vend ∧ cntG w G = cntL w (w :: dec1) then w :: W2 else W2) → HeapL llt [] hs.length hs → NH tt A12 := by
                        intro tt A12 s hs junk L cl h0 h2 h3 h4 h67 h68 h69 hL hperm hheap
                        refine hNH _ _ ?_
                        
                        
                        refine awp_region ?_
                        (repeat ((with_reducible show aops _ _ _ _ _ _ _); first | (with_reducible refine aops_nil ?_) | (refine aops_do rfl rfl (by (try (conv => (lhs; simp only [-List.reduceReplicate, ↓reduceIte, Nat.reduceEqDiff, Nat.reduceLT, Nat.reduceAdd, Nat.reduceMul, Nat.reduceLeDiff, Int.reduceLT, Int.reduceLE, Int.reduceToNat, reduceCtorEq, go_sem, h69, w1]))); try exact rfl) ?_; first | refine aput_some rfl (Nat.le_of_ble_eq_true rfl) ?_ | refine aput_none rfl ?_) | (refine aops_skip rfl rfl (Nat.le_of_ble_eq_true rfl) ?_) | (refine aops_skip0 rfl rfl ?_)))
                        refine then_normal (hN2 _ _ _ (show m' - 1 < m' by omega) ⟨j + 1, s, hs, junk, L, cl, h0, h2, h3, h4, h67, h68, rfl, by omega, ?_, ?_, hheap⟩)
                        · rw [hsn]; exact hL
                        · rw [hsn]; exact hperm
                        
                      clear hNH
                      refine awp_seq fun NJ hNJ => ?_
                      have cut4 : ∀ (tt : Tm) (A10 : AHeap) (a : Nat), tt 0 = .pointer (some ⟨g, 0, none⟩) → tt 2 = so' → tt 3 = .map (some q) → tt 4 = .pointer (some ⟨p, 0, none⟩) → tt 67 = .slice (some ⟨b, o, none⟩) x.next.length sc → tt 68 = .int .i64 (x.next.length : Nat) → tt 69 = .int .i64 (j : Nat) → tt 10 = .pointer (some ⟨a, 0, none⟩) →
                          LSt A A10 p q s so' hs junk (acc ++ [⟨v0, x.text, x.gone == 0⟩]) L cl (fun u => ((cntG u G : Nat) : Int) - (cntL u dec1 : Nat)) → A10.f a = some (.row (vcells w) .fix) → a ≠ q → NJ tt A10 := by
                        clear h0 h2 h3 h4 h67 h68 h69 hL hfb'
                        intro tt A10 a h0 h2 h3 h4 h67 h68 h69 h10 hL hrow haq
                        refine hNJ _ _ ?_
                        clear hNJ
                        
                        
                        have hlk := hL.cnt.look (t := 94) mp94 lay27 zv3 hL.fq hvw
                        obtain ⟨st, L1, hen, hc1, hst⟩ := hL.cnt.bump (t := 94) mp94 lay27 zv3 hL.fq hvw
                        have hL1 := hL.put hc1
                        have hlk1 := hc1.look (t := 94) mp94 lay27 zv3 hL1.fq hvw
                        have hst1 := fun v => hst _ v hL1.fq
                        simp only [goInt] at hst1
                        have hcl1 := cntL_le w dec1
                        have hcg1 := cntG_le w G
                        have e2 : dec.length + edges G ≤ (G.length + 1) * edges G := by
                          refine Nat.le_trans ?_ hdl
                          rw [Nat.add_mul, Nat.one_mul]; omega
                        have hw0 : IntKind.i64.wrap (((cntG w G : Nat) : Int) - (cntL w dec1 : Nat) - 1) = ((cntG w G : Nat) : Int) - (cntL w (w :: dec1) : Nat) := by
                          rw [i64_in _ (by omega), cntL_cons, if_pos rfl]; omega
                        refine awp_seq fun NK hNK => ?_
                        have cut5 : ∀ (tt : Tm) (A11 : AHeap) (L : List VE) (cl : Nat), tt 0 = .pointer (some ⟨g, 0, none⟩) → tt 2 = so' → tt 3 = .map (some q) → tt 4 = .pointer (some ⟨p, 0, none⟩) → tt 67 = .slice (some ⟨b, o, none⟩) x.next.length sc → tt 68 = .int .i64 (x.next.length : Nat) → tt 69 = .int .i64 (j : Nat) → tt 10 = .pointer (some ⟨a, 0, none⟩) →
                            LSt A A11 p q s so' hs junk (acc ++ [⟨v0, x.text, x.gone == 0⟩]) L cl (fun u => ((cntG u G : Nat) : Int) - (cntL u (w :: dec1) : Nat)) → A11.f a = some (.row (vcells w) .fix) → NK tt A11 := by
                          clear h0 h2 h3 h4 h67 h68 h69 h10 hL hrow hlk hen hc1 hst hL1 hlk1 hst1 hw0
                          intro tt A11 L cl h0 h2 h3 h4 h67 h68 h69 h10 hL hrow
                          refine hNK _ _ ?_
                          clear hNK
                          
                          
                          have hlk := hL.cnt.look (t := 94) mp94 lay27 zv3 hL.fq hvw
                          have hnq := vneq hvw vok_end
                          by_cases hwv : w = vend
                          · 
                            have hnq' : abin Try.prog .neq 27 (vagg w) (vagg vend) = some (.bool false) := by rw [hnq]; simp [hwv]
                            refine awp_seq fun N22 hN22 => ?_
                            refine awp_drawn [] (by kernel_rfl) ?_
                            (repeat ((with_reducible show adrawn _ _ _ _ _ _ _ _ _ _ _); first | (with_reducible refine adrawn_nil ?_) | (refine adrawn_do rfl rfl rfl (by (try (conv => (lhs; simp only [-List.reduceReplicate, ↓reduceIte, Nat.reduceEqDiff, Nat.reduceLT, Nat.reduceAdd, Nat.reduceMul, Nat.reduceLeDiff, Int.reduceLT, Int.reduceLE, Int.reduceToNat, reduceCtorEq, go_sem, h10, hrow, gf]))); try exact rfl) (by first | exact Nat.le_refl _ | exact Nat.le_succ _) (by first | exact .inl (Unch.refl _) | exact .inl (Unch.push _ _) | exact .inr (by decide)) ?_; first | refine aput_some rfl (Nat.le_of_ble_eq_true rfl) ?_ | refine aput_none rfl ?_) | (refine adrawn_skip rfl rfl (Nat.le_of_ble_eq_true rfl) ?_) | (refine adrawn_skip0 rfl rfl ?_)))
                            refine adrawn_call (hs := t38 A11) rfl rfl rfl rfl (Nat.le_of_ble_eq_true rfl) rfl (Nat.le_refl _) (.inl (Unch.refl _)) (by intro p hp; cases hp) ?_
                            (repeat ((with_reducible show adrawn _ _ _ _ _ _ _ _ _ _ _); first | (with_reducible refine adrawn_nil ?_) | (refine adrawn_do rfl rfl rfl (by (try (conv => (lhs; simp only [-List.reduceReplicate, ↓reduceIte, Nat.reduceEqDiff, Nat.reduceLT, Nat.reduceAdd, Nat.reduceMul, Nat.reduceLeDiff, Int.reduceLT, Int.reduceLE, Int.reduceToNat, reduceCtorEq, go_sem, hnq']))); try exact rfl) (by first | exact Nat.le_refl _ | exact Nat.le_succ _) (by first | exact .inl (Unch.refl _) | exact .inl (Unch.push _ _) | exact .inr (by decide)) ?_; first | refine aput_some rfl (Nat.le_of_ble_eq_true rfl) ?_ | refine aput_none rfl ?_) | (refine adrawn_skip rfl rfl (Nat.le_of_ble_eq_true rfl) ?_) | (refine adrawn_skip0 rfl rfl ?_)))
                            refine then_normal (hN22 _ _ ?_); try clear hN22 N22
                            refine awp_false rfl ?_
                            refine awp_skip ?_
                            refine block_normal ?_
                            refine then_normal (stepN _ _ s hs junk L cl h0 h2 h3 h4 h67 h68 h69 hL ?_ hheap)
                            rw [if_neg (fun h => h.1 hwv)]; exact hperm
                            
                          · have hnq' : abin Try.prog .neq 27 (vagg w) (vagg vend) = some (.bool true) := by rw [hnq]; simp [hwv]
                            refine awp_seq fun N23 hN23 => ?_
                            refine awp_drawn [] (by kernel_rfl) ?_
                            (repeat ((with_reducible show adrawn _ _ _ _ _ _ _ _ _ _ _); first | (with_reducible refine adrawn_nil ?_) | (refine adrawn_do rfl rfl rfl (by (try (conv => (lhs; simp only [-List.reduceReplicate, ↓reduceIte, Nat.reduceEqDiff, Nat.reduceLT, Nat.reduceAdd, Nat.reduceMul, Nat.reduceLeDiff, Int.reduceLT, Int.reduceLE, Int.reduceToNat, reduceCtorEq, go_sem, h10, hrow, gf]))); try exact rfl) (by first | exact Nat.le_refl _ | exact Nat.le_succ _) (by first | exact .inl (Unch.refl _) | exact .inl (Unch.push _ _) | exact .inr (by decide)) ?_; first | refine aput_some rfl (Nat.le_of_ble_eq_true rfl) ?_ | refine aput_none rfl ?_) | (refine adrawn_skip rfl rfl (Nat.le_of_ble_eq_true rfl) ?_) | (refine adrawn_skip0 rfl rfl ?_)))
                            refine adrawn_call (hs := t38 A11) rfl rfl rfl rfl (Nat.le_of_ble_eq_true rfl) rfl (Nat.le_refl _) (.inl (Unch.refl _)) (by intro p hp; cases hp) ?_
                            (repeat ((with_reducible show adrawn _ _ _ _ _ _ _ _ _ _ _); first | (with_reducible refine adrawn_nil ?_) | (refine adrawn_do rfl rfl rfl (by (try (conv => (lhs; simp only [-List.reduceReplicate, ↓reduceIte, Nat.reduceEqDiff, Nat.reduceLT, Nat.reduceAdd, Nat.reduceMul, Nat.reduceLeDiff, Int.reduceLT, Int.reduceLE, Int.reduceToNat, reduceCtorEq, go_sem, h3, h10, hrow, gf, hnq', hlk]))); try exact rfl) (by first | exact Nat.le_refl _ | exact Nat.le_succ _) (by first | exact .inl (Unch.refl _) | exact .inl (Unch.push _ _) | exact .inr (by decide)) ?_; first | refine aput_some rfl (Nat.le_of_ble_eq_true rfl) ?_ | refine aput_none rfl ?_) | (refine adrawn_skip rfl rfl (Nat.le_of_ble_eq_true rfl) ?_) | (refine adrawn_skip0 rfl rfl ?_)))
                            refine then_normal (hN23 _ _ ?_); try clear hN23 N23
                            by_cases hz : cntG w G = cntL w (w :: dec1)
                            · 
                              have hzz : ((((cntG w G : Nat) : Int) - (cntL w (w :: dec1) : Nat)) == 0) = true := by
                                rw [hz]; simp
                              refine awp_true (by show Value.bool _ = _; rw [hzz]) ?_
                              refine awp_region ?_
                              (repeat ((with_reducible show aops _ _ _ _ _ _ _); first | (with_reducible refine aops_nil ?_) | (refine aops_do rfl rfl (by (try (conv => (lhs; simp only [-List.reduceReplicate, ↓reduceIte, Nat.reduceEqDiff, Nat.reduceLT, Nat.reduceAdd, Nat.reduceMul, Nat.reduceLeDiff, Int.reduceLT, Int.reduceLE, Int.reduceToNat, reduceCtorEq, go_sem, h4, h10, hrow, gf]))); try exact rfl) ?_; first | refine aput_some rfl (Nat.le_of_ble_eq_true rfl) ?_ | refine aput_none rfl ?_) | (refine aops_skip rfl rfl (Nat.le_of_ble_eq_true rfl) ?_) | (refine aops_skip0 rfl rfl ?_)))
                              refine aops_call (hs := t53 hL.wt hvw hlen9) rfl rfl rfl (Nat.le_of_ble_eq_true rfl) rfl ?_
                              rintro _ A12 ⟨rfl, s', hw12, hc12⟩
                              (repeat ((with_reducible show aops _ _ _ _ _ _ _); first | (with_reducible refine aops_nil ?_) | (refine aops_do rfl rfl (by (try (conv => (lhs; simp only [-List.reduceReplicate, ↓reduceIte, Nat.reduceEqDiff, Nat.reduceLT, Nat.reduceAdd, Nat.reduceMul, Nat.reduceLeDiff, Int.reduceLT, Int.reduceLE, Int.reduceToNat, reduceCtorEq, go_sem]))); try exact rfl) ?_; first | refine aput_some rfl (Nat.le_of_ble_eq_true rfl) ?_ | refine aput_none rfl ?_) | (refine aops_skip rfl rfl (Nat.le_of_ble_eq_true rfl) ?_) | (refine aops_skip0 rfl rfl ?_)))
                              refine block_normal ?_
                              refine then_normal (stepN _ _ s' _ _ L cl h0 h2 h3 h4 h67 h68 h69 (hL.chg hc12 hw12) ?_ (pushL_heap llt_lo [] _ hheap))
                              rw [if_pos ⟨hwv, hz⟩]
                              exact (pushL_perm [] hs w).trans (List.Perm.cons _ hperm)
                              
                            · have hzz : ((((cntG w G : Nat) : Int) - (cntL w (w :: dec1) : Nat)) == 0) = false := by
                                simp; omega
                              refine awp_false (by show Value.bool _ = _; rw [hzz]) ?_
                              refine awp_skip ?_
                              refine block_normal ?_
                              refine then_normal (stepN _ _ s hs junk L cl h0 h2 h3 h4 h67 h68 h69 hL ?_ hheap)
                              rw [if_neg (fun h => hz h.2)]; exact hperm
                          
                        (refine awp_drawn [2] (by kernel_rfl) ?_; refine adrawn_pure rfl rfl rfl rfl (Nat.le_of_ble_eq_true rfl) (by (try (conv => (lhs; simp only [-List.reduceReplicate, ↓reduceIte, Nat.reduceEqDiff, Nat.reduceLT, Nat.reduceAdd, Nat.reduceMul, Nat.reduceLeDiff, Int.reduceLT, Int.reduceLE, Int.reduceToNat, reduceCtorEq, go_sem, h3, h10, hrow, gf, hlk, hen, hlk1, hst1, hw0]))); try exact rfl) (by intro p hp; cases hp) ?_; refine adrawn_pure rfl rfl rfl rfl (Nat.le_of_ble_eq_true rfl) (by (try (conv => (lhs; simp only [-List.reduceReplicate, ↓reduceIte, Nat.reduceEqDiff, Nat.reduceLT, Nat.reduceAdd, Nat.reduceMul, Nat.reduceLeDiff, Int.reduceLT, Int.reduceLE, Int.reduceToNat, reduceCtorEq, go_sem, h3, h10, hrow, gf, hlk, hen, hlk1, hst1, hw0]))); try exact rfl) (by intro p hp; cases hp) ?_; refine adrawn_read (v := .int .i64 (((cntG w G : Nat) : Int) - (cntL w dec1 : Nat))) rfl rfl rfl rfl (Nat.le_of_ble_eq_true rfl) (by intro B hB; (obtain rfl : B = _ := (by simpa using hB)); simp only [-List.reduceReplicate, ↓reduceIte, Nat.reduceEqDiff, Nat.reduceLT, Nat.reduceAdd, Nat.reduceMul, Nat.reduceLeDiff, Int.reduceLT, Int.reduceLE, Int.reduceToNat, reduceCtorEq, go_sem, h3, h10, hrow, gf, hlk, hen, hlk1, hst1, hw0]) ⟨fun _ => none, _, fun _ _ => rfl, .int _ _⟩ ?_; refine adrawn_stepR rfl rfl rfl rfl (Nat.le_of_ble_eq_true rfl) (by (try (conv => (lhs; simp only [-List.reduceReplicate, ↓reduceIte, Nat.reduceEqDiff, Nat.reduceLT, Nat.reduceAdd, Nat.reduceMul, Nat.reduceLeDiff, Int.reduceLT, Int.reduceLE, Int.reduceToNat, reduceCtorEq, go_sem, h3, h10, hrow, gf, hlk, hen, hlk1, hst1, hw0]))); try exact rfl) (by exact Nat.le_refl _) (.inl (Unch.refl _)) (keepP_keep (by decide)) (by intro p hp; obtain rfl := List.mem_singleton.1 hp; simp only [-List.reduceReplicate, ↓reduceIte, Nat.reduceEqDiff, Nat.reduceLT, Nat.reduceAdd, Nat.reduceMul, Nat.reduceLeDiff, Int.reduceLT, Int.reduceLE, Int.reduceToNat, reduceCtorEq, go_sem, h3, h10, hrow, gf, hlk, hen, hlk1, hst1, hw0]) ?_; refine adrawn_stepR rfl rfl rfl rfl (Nat.le_of_ble_eq_true rfl) (by (try (conv => (lhs; simp only [-List.reduceReplicate, ↓reduceIte, Nat.reduceEqDiff, Nat.reduceLT, Nat.reduceAdd, Nat.reduceMul, Nat.reduceLeDiff, Int.reduceLT, Int.reduceLE, Int.reduceToNat, reduceCtorEq, go_sem, h3, h10, hrow, gf, hlk, hen, hlk1, hst1, hw0]))); try exact rfl) (by exact Nat.le_refl _) (.inr (by decide)) (keepP_keep (by decide)) (by intro p hp; obtain rfl := List.mem_singleton.1 hp; simp only [-List.reduceReplicate, ↓reduceIte, Nat.reduceEqDiff, Nat.reduceLT, Nat.reduceAdd, Nat.reduceMul, Nat.reduceLeDiff, Int.reduceLT, Int.reduceLE, Int.reduceToNat, reduceCtorEq, go_sem, h3, h10, hrow, gf, hlk, hen, hlk1, hst1, hw0]) ?_; refine adrawn_stepR rfl rfl rfl rfl (Nat.le_of_ble_eq_true rfl) (by (try (conv => (lhs; simp only [-List.reduceReplicate, ↓reduceIte, Nat.reduceEqDiff, Nat.reduceLT, Nat.reduceAdd, Nat.reduceMul, Nat.reduceLeDiff, Int.reduceLT, Int.reduceLE, Int.reduceToNat, reduceCtorEq, go_sem, h3, h10, hrow, gf, hlk, hen, hlk1, hst1, hw0]))); try exact rfl) (by exact Nat.le_refl _) (.inl (Unch.refl _)) (keepP_keep (by decide)) (by intro p hp; obtain rfl := List.mem_singleton.1 hp; simp only [-List.reduceReplicate, ↓reduceIte, Nat.reduceEqDiff, Nat.reduceLT, Nat.reduceAdd, Nat.reduceMul, Nat.reduceLeDiff, Int.reduceLT, Int.reduceLE, Int.reduceToNat, reduceCtorEq, go_sem, h3, h10, hrow, gf, hlk, hen, hlk1, hst1, hw0]) ?_; refine adrawn_stepR0 rfl rfl rfl rfl (by (try (conv => (lhs; simp only [-List.reduceReplicate, ↓reduceIte, Nat.reduceEqDiff, Nat.reduceLT, Nat.reduceAdd, Nat.reduceMul, Nat.reduceLeDiff, Int.reduceLT, Int.reduceLE, Int.reduceToNat, reduceCtorEq, go_sem, h3, h10, hrow, gf, hlk, hen, hlk1, hst1, hw0]))); try exact rfl) (by exact Nat.le_refl _) (.inr (by decide)) (keepP_drop (by decide)) (by intro p hp; cases hp) ?_; refine adrawn_nil ?_)
                        rw [set_set]
                        refine then_normal (cut5 _ _ _ _ h0 h2 h3 h4 h67 h68 h69 h10 (hL.put (hL.cnt.put hvw (n := ((cntG w G : Nat) : Int) - (cntL w (w :: dec1) : Nat)) (fun u => ?_))) ?_)
                        · by_cases hu : u = w
                          · subst hu; rw [if_pos rfl]
                          · rw [if_neg hu, cntL_cons, if_neg (fun e => hu e.symm), Nat.zero_add]
                        · rw [AHeap.set_other _ _ haq]; exact hrow
                        
                      refine awp_region ?_
                      (repeat ((with_reducible show aops _ _ _ _ _ _ _); first | (with_reducible refine aops_nil ?_) | (refine aops_do rfl rfl (by (try (conv => (lhs; simp only [-List.reduceReplicate, ↓reduceIte, Nat.reduceEqDiff, Nat.reduceLT, Nat.reduceAdd, Nat.reduceMul, Nat.reduceLeDiff, Int.reduceLT, Int.reduceLE, Int.reduceToNat, reduceCtorEq, go_sem, h67, h69, hc, hfb', hjj, Int.toNat_natCast, hgb, zf, l1, AHeap.push_f, AHeap.set_f]))); try exact rfl) ?_; first | refine aput_some rfl (Nat.le_of_ble_eq_true rfl) ?_ | refine aput_none rfl ?_) | (refine aops_skip rfl rfl (Nat.le_of_ble_eq_true rfl) ?_) | (refine aops_skip0 rfl rfl ?_)))
                      refine then_normal (cut4 _ _ A9.n h0 h2 h3 h4 h67 h68 h69 rfl (hL.more (tmp_unch _ _ _) (Nat.le_succ _)) (AHeap.set_same _ _ _) ?_)
                      have := hL.qn
                      omega
                      
                    · have hdj : decide ((j : Int) < (x.next.length : Int)) = false := by simp; omega
                      refine awp_false (by show Value.bool _ = _; rw [hdj]) ?_
                      refine awp_exit ?_; (repeat (first | (with_reducible refine then_exit ?_) | ((with_reducible refine block_there ?hne ?_); case hne => rfl))); with_reducible refine block_here ?_
                      refine block_normal ?_
                      rw [List.take_of_length_le (show x.next.length ≤ j by omega), hoo] at hL hperm
                      refine then_normal (hN' _ _ f' (Nat.lt_succ_self _) ⟨s, so', hs, junk, acc ++ [⟨v0, x.text, x.gone == 0⟩], L, cl, dec', W', rest', h0, h2, h3, h4, hL, hperm, hheap, hkk, ?_, ?_, ?_, ?_, fun e => absurd e (by simp)⟩)
                      · rw [← hacc, ieq_eq]; simp
                      · have h1 := hout1.1
                        have h2 := hout1.2
                        rw [hoo] at h1 h2
                        simp only at h1 h2
                        have e1 : W1.length ≤ (w0 :: ws).length := by
                          rw [← hW1, eraseL_eq]; exact List.length_erase_le
                        omega
                      · have h1 := hout1.1
                        rw [hoo] at h1
                        simp only at h1
                        rw [Nat.add_mul, Nat.one_mul] at hdl
                        omega
                      · simp; omega
                    
                  refine awp_region ?_
                  (repeat ((with_reducible show aops _ _ _ _ _ _ _); first | (with_reducible refine aops_nil ?_) | (refine aops_do rfl rfl (by (try (conv => (lhs; simp only [-List.reduceReplicate, ↓reduceIte, Nat.reduceEqDiff, Nat.reduceLT, Nat.reduceAdd, Nat.reduceMul, Nat.reduceLeDiff, Int.reduceLT, Int.reduceLE, Int.reduceToNat, reduceCtorEq, go_sem, h2, h6, h8, hrow, gf, hrow8, afill, p1, p2, p3, l1, Option.bind_some, seqCells, acells_agg, sc1, ln1, happ]))); try exact rfl) ?_; first | refine aput_some rfl (Nat.le_of_ble_eq_true rfl) ?_ | refine aput_none rfl ?_) | (refine aops_skip rfl rfl (Nat.le_of_ble_eq_true rfl) ?_) | (refine aops_skip0 rfl rfl ?_)))
                  exact then_normal (cut3 _ h0 rfl h3 h4 h8)
                  
                refine awp_drawn [] (by kernel_rfl) ?_
                (repeat ((with_reducible show adrawn _ _ _ _ _ _ _ _ _ _ _); first | (with_reducible refine adrawn_nil ?_) | (refine adrawn_do rfl rfl rfl (by (try (conv => (lhs; simp only [-List.reduceReplicate, ↓reduceIte, Nat.reduceEqDiff, Nat.reduceLT, Nat.reduceAdd, Nat.reduceMul, Nat.reduceLeDiff, Int.reduceLT, Int.reduceLE, Int.reduceToNat, reduceCtorEq, go_sem, h0, hAg, h6, hrow, gf, hlk35, acells_agg, scalar, putCells_full, AHeap.push_f, AHeap.set_f]))); try exact rfl) (by first | exact Nat.le_refl _ | exact Nat.le_succ _) (by first | exact .inl (Unch.refl _) | exact .inl (Unch.push _ _) | exact .inr (by decide)) ?_; first | refine aput_some rfl (Nat.le_of_ble_eq_true rfl) ?_ | refine aput_none rfl ?_) | (refine adrawn_skip rfl rfl (Nat.le_of_ble_eq_true rfl) ?_) | (refine adrawn_skip0 rfl rfl ?_)))
                refine then_normal (cut2 _ _ A6.n h0 h2 h3 h4 h6 rfl (hL.more (tmp_unch _ _ _) (Nat.le_succ _)) ?_ (Nat.lt_succ_self _) ?_ (AHeap.set_same _ _ _))
                · rw [AHeap.set_other _ _ (by omega), AHeap.push_old _ _ h6n]; exact hrow
                · intro e; have := hL.out.own_lt e; omega
                
              refine awp_region ?_
              (repeat ((with_reducible show aops _ _ _ _ _ _ _); first | (with_reducible refine aops_nil ?_) | (refine aops_do rfl rfl (by (try (conv => (lhs; simp only [-List.reduceReplicate, ↓reduceIte, Nat.reduceEqDiff, Nat.reduceLT, Nat.reduceAdd, Nat.reduceMul, Nat.reduceLeDiff, Int.reduceLT, Int.reduceLE, Int.reduceToNat, reduceCtorEq, go_sem, h4]))); try exact rfl) ?_; first | refine aput_some rfl (Nat.le_of_ble_eq_true rfl) ?_ | refine aput_none rfl ?_) | (refine aops_skip rfl rfl (Nat.le_of_ble_eq_true rfl) ?_) | (refine aops_skip0 rfl rfl ?_)))
              refine aops_call (hs := t55 hL.wt hne hlen9) rfl rfl rfl (Nat.le_of_ble_eq_true rfl) rfl ?_
              rintro _ A5 ⟨rfl, s5, junk5, hw5, hc5⟩
              rw [hv]
              rw [hHS] at hw5
              (repeat ((with_reducible show aops _ _ _ _ _ _ _); first | (with_reducible refine aops_nil ?_) | (refine aops_do rfl rfl (by (try (conv => (lhs; simp only [-List.reduceReplicate, ↓reduceIte, Nat.reduceEqDiff, Nat.reduceLT, Nat.reduceAdd, Nat.reduceMul, Nat.reduceLeDiff, Int.reduceLT, Int.reduceLE, Int.reduceToNat, reduceCtorEq, go_sem, zf, l1, AHeap.push_f, AHeap.set_f]))); try exact rfl) ?_; first | refine aput_some rfl (Nat.le_of_ble_eq_true rfl) ?_ | refine aput_none rfl ?_) | (refine aops_skip rfl rfl (Nat.le_of_ble_eq_true rfl) ?_) | (refine aops_skip0 rfl rfl ?_)))
              refine then_normal (cut1 _ _ s5 junk5 A5.n h0 h2 h3 h4 rfl rfl ((hL.chg hc5 hw5).more (tmp_unch _ _ _) (Nat.le_succ _)) (Nat.lt_succ_self _) (AHeap.set_same _ _ _))
      
    clear hNP
    refine awp_seq fun NQ hNQ => ?_
    have loopA : ∀ (tt : Tm) (A3 : AHeap) (r : Nat), tt 0 = .pointer (some ⟨g, 0, none⟩) → tt 2 = .slice none 0 0 → tt 3 = .map (some q) → tt 4 = .pointer (some ⟨p, 0, none⟩) → tt 22 = .pointer (some ⟨r, 0, none⟩) →
        LSt A A3 p q s (.slice none 0 0) [] [] [] L cl (fun w => (cntG w G : Nat)) → Aside A A3 p q s r (.iter m c [] c) → NQ tt A3 := by
      intro tt A3 r h0 h2 h3 h4 h22 hL hR
      refine hNQ _ _ ?_
      clear hNQ
      
      
      refine awp_block ?_
      
      refine awp_loop (fun m' t A3 => ∃ seen s hs junk, t 0 = .pointer (some ⟨g, 0, none⟩) ∧ t 2 = .slice none 0 0 ∧ t 3 = .map (some q) ∧ t 4 = .pointer (some ⟨p, 0, none⟩) ∧ t 22 = .pointer (some ⟨r, 0, none⟩) ∧
        LSt A A3 p q s (.slice none 0 0) hs junk [] L cl (fun w => (cntG w G : Nat)) ∧ Aside A A3 p q s r (.iter m c seen c) ∧ hs.Perm (first G (doneN seen G)) ∧ HeapL llt [] hs.length hs ∧ m' = (left (vents (G.map NE.ve)) seen).length)
        _ ⟨[], s, [], [], h0, h2, h3, h4, h22, hL, hR, by rw [doneN_nil]; exact List.Perm.refl _, fun k hk hkn => by simp at hkn, rfl⟩ fun m' t A3 hI N hN' => ?_
      clear hL hR h0 h2 h3 h4 h22
      obtain ⟨seen, s, hs, junk, h0, h2, h3, h4, h22, hL, hR, hperm, hheap, rfl⟩ := hI
      have hlen : hs.length ≤ G.length := by
        rw [hperm.length_eq, first_eq, List.length_map]
        refine Nat.le_trans (List.length_filter_le _ _) ?_
        unfold doneN
        exact List.length_filter_le _ _
      refine awp_seq fun N25 hN25 => ?_
      refine awp_region ?_
      refine aops_next rfl rfl rfl (Nat.le_of_ble_eq_true rfl) (by show anextMap A3 (t 22) = _; rw [h22]; exact anext_of hR.f (by rw [hL.unch m hmn]; exact hm)) ?_
      intro v A4 hv
      cases hv with
      | over hl =>
        
        clear hN'
        (repeat ((with_reducible show aops _ _ _ _ _ _ _); first | (with_reducible refine aops_nil ?_) | (refine aops_do rfl rfl (by (try (conv => (lhs; simp only [-List.reduceReplicate, ↓reduceIte, Nat.reduceEqDiff, Nat.reduceLT, Nat.reduceAdd, Nat.reduceMul, Nat.reduceLeDiff, Int.reduceLT, Int.reduceLE, Int.reduceToNat, reduceCtorEq, go_sem]))); try exact rfl) ?_; first | refine aput_some rfl (Nat.le_of_ble_eq_true rfl) ?_ | refine aput_none rfl ?_) | (refine aops_skip rfl rfl (Nat.le_of_ble_eq_true rfl) ?_) | (refine aops_skip0 rfl rfl ?_)))
        refine then_normal (hN25 _ _ ?_); try clear hN25 N25
        refine awp_seq fun N26 hN26 => ?_
        refine awp_false rfl ?_
        refine awp_exit ?_; (repeat (first | (with_reducible refine then_exit ?_) | ((with_reducible refine block_there ?hne ?_); case hne => rfl))); with_reducible refine block_here ?_
        refine then_normal (main _ _ s hs junk h0 h2 h3 h4 hL ?_ hheap hlen)
        rw [doneN_all hl] at hperm
        exact hperm
        
      | one e he =>
        clear main
        obtain ⟨x, hx, rfl, hxs⟩ := left_node he
        obtain ⟨hL4, hR4⟩ := hL.aside (o' := .iter m c (seen ++ [x.ve.ent.born]) c) hR
        have hlt := left_lt he
        have hok : vok x.k = true := hN.vm.ok x.ve (List.mem_map_of_mem hx)
        have hen1 : aentry (A3.set r (.iter m c (seen ++ [x.ve.ent.born]) c)) (.pointer (some ⟨r, 0, none⟩)) = some (.tuple ⟨[vagg x.k, x.ve.v]⟩) :=
          aentry_of (e := x.ve.ent) hR4.f (by rw [hL4.unch m hmn]; exact hm) hborn (by unfold vents; rw [List.map_map]; exact List.mem_map_of_mem (f := VE.ent ∘ NE.ve) hx)
        have l1 := vcells_len hok
        have zf := putCells_full (cs := List.replicate 32 (Value.int .u8 0) ++ [Value.int .i64 0]) (vs := vcells x.k) (by rw [l1]; rfl)
        have gf : getCells (vcells x.k) 0 33 = some (vcells x.k) := by
          unfold getCells; rw [if_pos (by omega), List.drop_zero, ← l1, List.take_length]
        have hfs := first_step hnd hx hxs
        (repeat ((with_reducible show aops _ _ _ _ _ _ _); first | (with_reducible refine aops_nil ?_) | (refine aops_do rfl rfl (by (try (conv => (lhs; simp only [-List.reduceReplicate, ↓reduceIte, Nat.reduceEqDiff, Nat.reduceLT, Nat.reduceAdd, Nat.reduceMul, Nat.reduceLeDiff, Int.reduceLT, Int.reduceLE, Int.reduceToNat, reduceCtorEq, go_sem]))); try exact rfl) ?_; first | refine aput_some rfl (Nat.le_of_ble_eq_true rfl) ?_ | refine aput_none rfl ?_) | (refine aops_skip rfl rfl (Nat.le_of_ble_eq_true rfl) ?_) | (refine aops_skip0 rfl rfl ?_)))
        refine then_normal (hN25 _ _ ?_); try clear hN25 N25
        refine awp_seq fun N27 hN27 => ?_
        refine awp_true rfl ?_
        refine awp_skip ?_
        refine then_normal (hN27 _ _ ?_); try clear hN27 N27
        refine awp_block ?_
        refine awp_seq fun NB hNB => ?_
        have cut : ∀ (tt : Tm) (A5 : AHeap) (a : Nat), tt 0 = .pointer (some ⟨g, 0, none⟩) → tt 2 = .slice none 0 0 → tt 3 = .map (some q) → tt 4 = .pointer (some ⟨p, 0, none⟩) → tt 22 = .pointer (some ⟨r, 0, none⟩) → tt 5 = .pointer (some ⟨a, 0, none⟩) →
            LSt A A5 p q s (.slice none 0 0) hs junk [] L cl (fun w => (cntG w G : Nat)) → Aside A A5 p q s r (.iter m c (seen ++ [x.ve.ent.born]) c) → A5.f a = some (.row (vcells x.k) .fix) → NB tt A5 := by
          intro tt A5 a h0 h2 h3 h4 h22 h5 hL5 hR5 hrow
          refine hNB _ _ ?_
          clear hNB
          
          
          have hlk := hL5.cnt.look (t := 94) mp94 lay27 zv3 hL5.fq hok
          refine awp_seq fun N29 hN29 => ?_
          refine awp_region ?_
          (repeat ((with_reducible show aops _ _ _ _ _ _ _); first | (with_reducible refine aops_nil ?_) | (refine aops_do rfl rfl (by (try (conv => (lhs; simp only [-List.reduceReplicate, ↓reduceIte, Nat.reduceEqDiff, Nat.reduceLT, Nat.reduceAdd, Nat.reduceMul, Nat.reduceLeDiff, Int.reduceLT, Int.reduceLE, Int.reduceToNat, reduceCtorEq, go_sem, h3, h5, hrow, gf, hlk]))); try exact rfl) ?_; first | refine aput_some rfl (Nat.le_of_ble_eq_true rfl) ?_ | refine aput_none rfl ?_) | (refine aops_skip rfl rfl (Nat.le_of_ble_eq_true rfl) ?_) | (refine aops_skip0 rfl rfl ?_)))
          refine then_normal (hN29 _ _ ?_); try clear hN29 N29
          by_cases hz : cntG x.k G = 0
          · 
            have hzz : (((cntG x.k G : Nat) : Int) == 0) = true := by simp [hz]
            refine awp_true (by show Value.bool _ = _; rw [hzz]) ?_
            refine awp_region ?_
            (repeat ((with_reducible show aops _ _ _ _ _ _ _); first | (with_reducible refine aops_nil ?_) | (refine aops_do rfl rfl (by (try (conv => (lhs; simp only [-List.reduceReplicate, ↓reduceIte, Nat.reduceEqDiff, Nat.reduceLT, Nat.reduceAdd, Nat.reduceMul, Nat.reduceLeDiff, Int.reduceLT, Int.reduceLE, Int.reduceToNat, reduceCtorEq, go_sem, h4, h5, hrow, gf]))); try exact rfl) ?_; first | refine aput_some rfl (Nat.le_of_ble_eq_true rfl) ?_ | refine aput_none rfl ?_) | (refine aops_skip rfl rfl (Nat.le_of_ble_eq_true rfl) ?_) | (refine aops_skip0 rfl rfl ?_)))
            refine aops_call (hs := t53 hL5.wt hok (by omega)) rfl rfl rfl (Nat.le_of_ble_eq_true rfl) rfl ?_
            rintro _ A6 ⟨rfl, s', hw6, hc6⟩
            (repeat ((with_reducible show aops _ _ _ _ _ _ _); first | (with_reducible refine aops_nil ?_) | (refine aops_do rfl rfl (by (try (conv => (lhs; simp only [-List.reduceReplicate, ↓reduceIte, Nat.reduceEqDiff, Nat.reduceLT, Nat.reduceAdd, Nat.reduceMul, Nat.reduceLeDiff, Int.reduceLT, Int.reduceLE, Int.reduceToNat, reduceCtorEq, go_sem]))); try exact rfl) ?_; first | refine aput_some rfl (Nat.le_of_ble_eq_true rfl) ?_ | refine aput_none rfl ?_) | (refine aops_skip rfl rfl (Nat.le_of_ble_eq_true rfl) ?_) | (refine aops_skip0 rfl rfl ?_)))
            refine block_normal ?_
            refine then_normal (hN' _ _ _ hlt ⟨seen ++ [x.ve.ent.born], s', _, _, h0, h2, h3, h4, h22, hL5.chg hc6 hw6, hR5.chg hc6, ?_, pushL_heap llt_lo [] _ hheap, rfl⟩)
            rw [if_pos hz] at hfs
            exact ((pushL_perm [] hs x.k).trans (List.Perm.cons _ hperm)).trans hfs.symm
            
          · have hzz : (((cntG x.k G : Nat) : Int) == 0) = false := by simp; omega
            refine awp_false (by show Value.bool _ = _; rw [hzz]) ?_
            refine awp_skip ?_
            refine block_normal ?_
            refine then_normal (hN' _ _ _ hlt ⟨seen ++ [x.ve.ent.born], s, hs, junk, h0, h2, h3, h4, h22, hL5, hR5, ?_, hheap, rfl⟩)
            rw [if_neg hz] at hfs
            exact hperm.trans hfs.symm
          
        refine awp_region ?_
        (repeat ((with_reducible show aops _ _ _ _ _ _ _); first | (with_reducible refine aops_nil ?_) | (refine aops_do rfl rfl (by (try (conv => (lhs; simp only [-List.reduceReplicate, ↓reduceIte, Nat.reduceEqDiff, Nat.reduceLT, Nat.reduceAdd, Nat.reduceMul, Nat.reduceLeDiff, Int.reduceLT, Int.reduceLE, Int.reduceToNat, reduceCtorEq, go_sem, h22, hen1, zf, l1, AHeap.push_f, AHeap.set_f]))); try exact rfl) ?_; first | refine aput_some rfl (Nat.le_of_ble_eq_true rfl) ?_ | refine aput_none rfl ?_) | (refine aops_skip rfl rfl (Nat.le_of_ble_eq_true rfl) ?_) | (refine aops_skip0 rfl rfl ?_)))
        exact then_normal (cut _ _ _ h0 h2 h3 h4 h22 rfl (hL4.more (tmp_unch _ _ _) (Nat.le_succ _)) (hR4.more (tmp_unch _ _ _) (Nat.le_succ _)) (AHeap.set_same _ _ _))
      
    have hAg : A2.f g = some (.row [.bool true, pm, .map (some m), first0] k) := by rw [hL.unch g hgn]; exact hg
    have hAm : A2.f m = some (.map (vents (G.map NE.ve)) c) := by rw [hL.unch m hmn]; exact hm
    refine awp_region ?_
    (repeat ((with_reducible show aops _ _ _ _ _ _ _); first | (with_reducible refine aops_nil ?_) | (refine aops_do rfl rfl (by (try (conv => (lhs; simp only [-List.reduceReplicate, ↓reduceIte, Nat.reduceEqDiff, Nat.reduceLT, Nat.reduceAdd, Nat.reduceMul, Nat.reduceLeDiff, Int.reduceLT, Int.reduceLE, Int.reduceToNat, reduceCtorEq, go_sem, h0, hAg, hAm, arange]))); try exact rfl) ?_; first | refine aput_some rfl (Nat.le_of_ble_eq_true rfl) ?_ | refine aput_none rfl ?_) | (refine aops_skip rfl rfl (Nat.le_of_ble_eq_true rfl) ?_) | (refine aops_skip0 rfl rfl ?_)))
    refine then_normal (loopA _ _ A2.n h0 h2 h3 h4 rfl (hL.more (Unch.push _ _) (Nat.le_succ _)) ⟨Nat.lt_succ_self _, AHeap.push_new _ _, hL.n, ?_, ?_, ?_⟩)
    · have := hL.wt.lt; omega
    · have := hL.qn; omega
    · intro e; have := hL.wt.held.own_lt e; omega
    
  refine awp_region ?_
  (repeat ((with_reducible show aops _ _ _ _ _ _ _); first | (with_reducible refine aops_nil ?_) | (refine aops_do rfl rfl (by (try (conv => (lhs; simp only [-List.reduceReplicate, ↓reduceIte, Nat.reduceEqDiff, Nat.reduceLT, Nat.reduceAdd, Nat.reduceMul, Nat.reduceLeDiff, Int.reduceLT, Int.reduceLE, Int.reduceToNat, reduceCtorEq, go_sem, seqCells]))); try exact rfl) ?_; first | refine aput_some rfl (Nat.le_of_ble_eq_true rfl) ?_ | refine aput_none rfl ?_) | (refine aops_skip rfl rfl (Nat.le_of_ble_eq_true rfl) ?_) | (refine aops_skip0 rfl rfl ?_)))
  refine then_normal (loops _ _ (A1.n + 1) (.slice (some ⟨A1.n, 0, none⟩) 0 0) rfl rfl rfl rfl ?_)
  refine ⟨(hu1.trans hn1 (Unch.push _ _)).trans (by simp only [AHeap.push_n]; omega) (Unch.push _ _), by simp only [AHeap.push_n]; omega, hq0, by simp only [AHeap.push_n]; omega, ?_, hcnt, by omega, ⟨by simp only [AHeap.push_n]; omega, AHeap.push_new (A1.push (.row [] .fix)) _, ?_, ?_, by simp⟩, by omega, ?_, .nil, ?_⟩
  · rw [AHeap.push_old _ _ (by simp only [AHeap.push_n]; omega), AHeap.push_old _ _ hqn]; exact hfq
  · refine Held.zero A1.n [] .fix (by simp only [AHeap.push_n]; omega) ?_
    rw [AHeap.push_old _ _ (by simp only [AHeap.push_n]; omega), AHeap.push_new]
  · intro e; simp [own] at e
  · intro b hb; cases hb; exact ⟨hn1, by show A1.n ≠ q; omega⟩
  · intro b hb; cases hb
end Go.AB.Try
