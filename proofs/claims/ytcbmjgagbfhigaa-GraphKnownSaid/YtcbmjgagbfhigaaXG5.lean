/-
  Graphs in memory; what Lines tells, in plain Lean.
-/
import Derived.Test.YtcbmjgagbfhigaaXG4
namespace Go.AB
open Go
set_option linter.unusedSimpArgs false
set_option linter.unusedVariables false

/-! ### counting maps -/
structure Cnt (L : List VE) (c : Nat) (f : List Int → Int) : Prop where
  vm : VM L c
  val : ∀ x ∈ L, x.v = .int .i64 (f x.k)
  zero : ∀ k, vfind k L = none → f k = 0

theorem Cnt.put {L : List VE} {c : Nat} {f g : List Int → Int} (h : Cnt L c f) {k : List Int} (hk : vok k = true) {n : Int} (hg : ∀ w, g w = if w = k then n else f w) : Cnt (vput k (.int .i64 n) c L) (vclock k L c) g := by
  refine ⟨h.vm.put hk _, fun x hx => ?_, fun w hw => ?_⟩
  · have hm := h.vm.put hk (.int .i64 n)
    have h1 := vfind_mem hm.keys hx rfl
    have h2 := vfind_put (k := k) (k' := x.k) (v := .int .i64 n) (c := c) (L := L)
    rw [h1] at h2
    simp only [Option.map_some] at h2
    rw [hg]
    by_cases e : x.k = k
    · rw [if_pos e] at h2 ⊢; exact Option.some.inj h2
    · rw [if_neg e] at h2 ⊢
      cases hf : vfind x.k L with
      | none => rw [hf] at h2; cases h2
      | some y =>
        rw [hf] at h2
        obtain ⟨h3, h4⟩ := vfind_some hf
        have := h.val y h3
        rw [h4] at this
        have h2 : x.v = y.v := Option.some.inj h2
        rw [h2, this]
  · have h2 := vfind_put (k := k) (k' := w) (v := .int .i64 n) (c := c) (L := L)
    rw [hw] at h2
    rw [hg]
    by_cases e : w = k
    · rw [if_pos e] at h2; cases h2
    · rw [if_neg e] at h2 ⊢
      cases hf : vfind w L with
      | none => exact h.zero w hf
      | some y => rw [hf] at h2; cases h2

theorem Cnt.congr {L : List VE} {c : Nat} {f g : List Int → Int} (h : Cnt L c f) (hg : ∀ w, g w = f w) : Cnt L c g := by
  have : g = f := funext hg
  rw [this]; exact h

theorem Cnt.look {P : Program} {A : AHeap} {t kt et : TypeId} {m c : Nat} {L : List VE} {f : List Int → Int} {k : List Int} (hm : mapOf P t = some (kt, et)) (hl : layQ P kt = some vlay) (hz : zval P et = some (.int .i64 0))
    (hf : A.f m = some (.map (vents L) c)) (h : Cnt L c f) (hk : vok k = true) : alookup P A t (.map (some m)) (vagg k) false = some (.int .i64 (f k)) := by
  rw [lookup_v hm hl hf h.vm hk]
  cases hv : vfind k L with
  | none => rw [hz, h.zero k hv]; rfl
  | some x =>
    obtain ⟨h1, h2⟩ := vfind_some hv
    have := h.val x h1
    rw [h2] at this
    rw [← this]; rfl

theorem Cnt.bump {P : Program} {A : AHeap} {t kt et : TypeId} {m c : Nat} {L : List VE} {f : List Int → Int} {k : List Int} (hm : mapOf P t = some (kt, et)) (hl : layQ P kt = some vlay) (hz : zval P et = some (.int .i64 0))
    (hf : A.f m = some (.map (vents L) c)) (h : Cnt L c f) (hk : vok k = true) : ∃ st L1, amapEntry P A t (.map (some m)) (vagg k) = some (.tuple ⟨[.int .i64 (f k), goInt (st : Nat)]⟩, A.set m (.map (vents L1) (vclock k L c))) ∧ Cnt L1 (vclock k L c) f ∧
      ∀ (A2 : AHeap) (v : Value), A2.f m = some (.map (vents L1) (vclock k L c)) → aentryStore A2 (.map (some m)) (goInt (st : Nat)) v = some (A2.set m (.map (vents (vput k v c L)) (vclock k L c))) := by
  obtain ⟨st, v1, L1, e1, e2, e3, e4⟩ := entry_v hm hl hf h.vm hk hz
  have hv1 : v1 = .int .i64 (f k) := by
    cases hv : vfind k L with
    | none => rw [hv] at e2; simp only at e2; rw [e2, h.zero k hv]
    | some x =>
      rw [hv] at e2; simp only at e2
      obtain ⟨h1, h2⟩ := vfind_some hv
      rw [e2, h.val x h1, h2]
  subst hv1; subst e1
  refine ⟨st, _, e3, h.put hk (fun w => ?_), e4⟩
  by_cases hw : w = k
  · subst hw; rw [if_pos rfl]
  · rw [if_neg hw]

/-! ### slices of vertices, read -/
def ReadsV (A : AHeap) (s : Value) (ls : List (List Int)) : Prop :=
  ∃ a c, s = .slice a ls.length c ∧ ∀ i, i < ls.length → ∃ b o cs k, a = some ⟨b, o, none⟩ ∧ b < A.n ∧ c ≠ ecap ∧ A.f b = some (.row cs k) ∧ getCells cs (o + i * 33) 33 = some (vcells (at' [] ls i))

theorem ReadsV.mono {A A' : AHeap} {s : Value} {ls : List (List Int)} (h : ReadsV A s ls) (hu : Unch A A') (hn : A.n ≤ A'.n) : ReadsV A' s ls := by
  obtain ⟨a, c, h1, h2⟩ := h
  refine ⟨a, c, h1, fun i hi => ?_⟩
  obtain ⟨b, o, cs, k, e1, e2, e3, e4, e5⟩ := h2 i hi
  exact ⟨b, o, cs, k, e1, Nat.lt_of_lt_of_le e2 hn, e3, by rw [hu b e2]; exact e4, e5⟩

/-! ### nodes -/
structure NE where
  k : List Int
  text : ByteArray
  gone : Int
  named : Int
  next : List (List Int)
  s : Value
  b : Nat

def NE.ve (x : NE) : VE := ⟨x.k, .agg ⟨[.string x.text, .int .i64 x.gone, .int .i64 x.named, x.s]⟩, x.b⟩

structure NodesA (A : AHeap) (m c : Nat) (G : List NE) : Prop where
  lt : m < A.n
  f : A.f m = some (.map (vents (G.map NE.ve)) c)
  vm : VM (G.map NE.ve) c
  reads : ∀ x ∈ G, ReadsV A x.s x.next
  vok : ∀ x ∈ G, ∀ v ∈ x.next, vok v = true

theorem NodesA.mono {A A' : AHeap} {m c : Nat} {G : List NE} (h : NodesA A m c G) (hu : Unch A A') (hn : A.n ≤ A'.n) : NodesA A' m c G :=
  ⟨Nat.lt_of_lt_of_le h.lt hn, by rw [hu m h.lt]; exact h.f, h.vm, fun x hx => (h.reads x hx).mono hu hn, h.vok⟩

/-! ### what is told -/
def leq : List Int → List Int → Bool
  | [], [] => true
  | a :: x, b :: y => match ieq a b with
    | true => leq x y
    | false => false
  | _, _ => false
theorem leq_eq : ∀ a b : List Int, leq a b = decide (a = b)
  | [], [] => rfl
  | [], _ :: _ => rfl
  | _ :: _, [] => rfl
  | a :: x, b :: y => by
    unfold leq
    rw [ieq_eq, leq_eq x y]
    by_cases h : a = b
    · subst h; simp
    · have : (a == b) = false := by simpa using h
      rw [this]; simp [h]

def cntL (w : List Int) : List (List Int) → Nat
  | [] => 0
  | v :: l => match leq v w with
    | true => cntL w l + 1
    | false => cntL w l
theorem cntL_cons (w v : List Int) (l : List (List Int)) : cntL w (v :: l) = (if v = w then 1 else 0) + cntL w l := by
  show (match leq v w with | true => cntL w l + 1 | false => cntL w l) = _
  rw [leq_eq]
  by_cases h : v = w
  · rw [decide_eq_true h, if_pos h]; show cntL w l + 1 = _; omega
  · rw [decide_eq_false h, if_neg h]; show cntL w l = _; omega
theorem cntL_le (w : List Int) : ∀ l, cntL w l ≤ l.length
  | [] => Nat.le_refl _
  | v :: l => by rw [cntL_cons]; have := cntL_le w l; simp only [List.length_cons]; split <;> omega
theorem cntL_append (w : List Int) : ∀ a b, cntL w (a ++ b) = cntL w a + cntL w b
  | [], b => by simp [cntL]
  | v :: a, b => by rw [List.cons_append, cntL_cons, cntL_cons, cntL_append w a b]; omega

def cntG (w : List Int) : List NE → Nat
  | [] => 0
  | x :: G => cntL w x.next + cntG w G

def edges : List NE → Nat
  | [] => 0
  | x :: G => x.next.length + edges G
theorem cntG_le (w : List Int) : ∀ G, cntG w G ≤ edges G
  | [] => Nat.le_refl _
  | x :: G => by unfold cntG edges; have := cntL_le w x.next; have := cntG_le w G; omega

def findN (v : List Int) : List NE → Option NE
  | [] => none
  | x :: G => match leq x.k v with
    | true => some x
    | false => findN v G

theorem findN_vfind (v : List Int) : ∀ G : List NE, vfind v (G.map NE.ve) = (findN v G).map NE.ve
  | [] => rfl
  | x :: G => by
    rw [List.map_cons]
    unfold vfind findN
    rw [leq_eq]
    show (if x.k = v then _ else _) = _
    by_cases h : x.k = v
    · simp [h]
    · simp [h, findN_vfind v G]
theorem findN_mem {v : List Int} {x : NE} : ∀ {G : List NE}, findN v G = some x → x ∈ G ∧ x.k = v
  | [], h => by cases h
  | y :: G, h => by
    unfold findN at h
    rw [leq_eq] at h
    by_cases e : y.k = v
    · simp [e] at h; subst h; exact ⟨List.mem_cons_self .., e⟩
    · simp [e] at h
      obtain ⟨h1, h2⟩ := findN_mem h
      exact ⟨List.mem_cons_of_mem _ h1, h2⟩

def minL : List Int → List (List Int) → List Int
  | m, [] => m
  | m, x :: l => match llt x m with
    | true => minL x l
    | false => minL m l
theorem minL_spec : ∀ (l : List (List Int)) (m : List Int), (minL m l = m ∨ minL m l ∈ l) ∧ llt m (minL m l) = false ∧ ∀ x ∈ l, llt x (minL m l) = false
  | [], m => ⟨.inl rfl, llt_lo.irr m, fun x hx => by simp at hx⟩
  | y :: l, m => by
    unfold minL
    cases h : llt y m with
    | true =>
      obtain ⟨h1, h2, h3⟩ := minL_spec l y
      refine ⟨.inr ?_, ?_, fun x hx => ?_⟩
      · rcases h1 with h1 | h1
        · simp only [h1]; exact List.mem_cons_self ..
        · exact List.mem_cons_of_mem _ h1
      · exact llt_lo.le_trans h2 (llt_lo.asymm h)
      · rcases List.mem_cons.1 hx with rfl | hx
        · exact h2
        · exact h3 x hx
    | false =>
      obtain ⟨h1, h2, h3⟩ := minL_spec l m
      refine ⟨?_, h2, fun x hx => ?_⟩
      · rcases h1 with h1 | h1
        · exact .inl h1
        · exact .inr (List.mem_cons_of_mem _ h1)
      · rcases List.mem_cons.1 hx with rfl | hx
        · exact llt_lo.le_trans h2 h
        · exact h3 x hx

def eraseL (v : List Int) : List (List Int) → List (List Int)
  | [] => []
  | x :: l => match leq x v with
    | true => l
    | false => x :: eraseL v l
theorem eraseL_eq (v : List Int) : ∀ l, eraseL v l = l.erase v
  | [] => rfl
  | x :: l => by
    unfold eraseL
    rw [leq_eq, List.erase_cons, eraseL_eq v l]
    by_cases h : x = v
    · subst h; simp
    · have : (x == v) = false := by simpa using h
      simp [h, this]

def vend : List Int := List.replicate 32 0 ++ [-2]

/-- the edges of one vertex taken away: what was taken, who waits -/
def outs (G : List NE) : List (List Int) → List (List Int) → List (List Int) → List (List Int) × List (List Int)
  | dec, W, [] => (dec, W)
  | dec, W, w :: ws => match leq w vend, Nat.beq (cntG w G) (cntL w (w :: dec)) with
    | false, true => outs G (w :: dec) (w :: W) ws
    | _, _ => outs G (w :: dec) W ws

structure LE where
  v : List Int
  text : ByteArray
  alive : Bool

def lcells (x : LE) : List Value := vcells x.v ++ [.string x.text, .bool x.alive]

def kahn (G : List NE) : Nat → List (List Int) → List (List Int) → Option (List LE)
  | 0, _, _ => none
  | f + 1, dec, W => match W with
    | [] => some []
    | w :: ws => match findN (minL w ws) G with
      | none => none
      | some n => match outs G dec (eraseL (minL w ws) (w :: ws)) n.next with
        | (dec', W') => match kahn G f dec' W' with
          | none => none
          | some l => some (⟨minL w ws, n.text, ieq n.gone 0⟩ :: l)

def first (G : List NE) : List NE → List (List Int)
  | [] => []
  | x :: l => match cntG x.k G with
    | 0 => x.k :: first G l
    | _ + 1 => first G l

def linesOf (G : List NE) : Option (List LE) := kahn G (G.length + 1) [] (first G G)

/-! ### going through a map -/
theorem left_lt {es : List MapEntry} {seen : List Nat} {e : MapEntry} (h : e ∈ left es seen) : (left es (seen ++ [e.born])).length < (left es seen).length := by
  unfold left at h ⊢
  have : (es.filter fun x => !(seen ++ [e.born]).contains x.born) = (es.filter fun x => !seen.contains x.born).filter fun x => !(x.born == e.born) := by
    rw [List.filter_filter]
    congr 1
    funext x
    simp only [List.contains_eq_mem, List.mem_append, List.mem_singleton]
    by_cases h1 : x.born ∈ seen <;> by_cases h2 : x.born = e.born <;> simp [h1, h2]
  rw [this]
  refine List.length_filter_lt_length_iff_exists.2 ⟨e, h, by simp⟩

theorem anext_of {A : AHeap} {r m c : Nat} {seen : List Nat} {es : List MapEntry} (h1 : A.f r = some (.iter m c seen c)) (h2 : A.f m = some (.map es c)) :
    anextMap A (.pointer (some ⟨r, 0, none⟩)) = some (r, m, c, seen, c, es, c) := by
  unfold anextMap
  simp [h1, h2]

theorem find_uniq {e : MapEntry} : ∀ {es : List MapEntry}, (es.map (·.born)).Nodup → e ∈ es → es.find? (fun x => x.born == e.born) = some e
  | [], _, h => by simp at h
  | x :: es, hn, h => by
    rw [List.map_cons, List.nodup_cons] at hn
    rw [List.find?_cons]
    rcases List.mem_cons.1 h with rfl | h
    · simp
    · have : (x.born == e.born) = false := by
        simp only [beq_eq_false_iff_ne, ne_eq]
        exact fun he => hn.1 (by rw [he]; exact List.mem_map_of_mem h)
      rw [this]
      exact find_uniq hn.2 h

theorem aentry_of {A : AHeap} {r m s c : Nat} {seen : List Nat} {es : List MapEntry} {e : MapEntry} (h1 : A.f r = some (.iter m s (seen ++ [e.born]) c)) (h2 : A.f m = some (.map es c)) (hn : (es.map (·.born)).Nodup) (he : e ∈ es) :
    aentry A (.pointer (some ⟨r, 0, none⟩)) = some (.tuple ⟨[e.key, e.val]⟩) := by
  unfold aentry
  simp [h1, h2, find_uniq hn he]

/-- the nodes gone through -/
def doneN (seen : List Nat) (G : List NE) : List NE := G.filter fun x => seen.contains x.b

theorem doneN_nil (G : List NE) : doneN [] G = [] := by
  unfold doneN
  rw [List.filter_eq_nil_iff]
  intro x _; simp

theorem doneN_step {seen : List Nat} {x : NE} : ∀ {G : List NE}, (G.map (·.b)).Nodup → x ∈ G → seen.contains x.b = false → (doneN (seen ++ [x.b]) G).Perm (x :: doneN seen G)
  | [], _, h, _ => by simp at h
  | y :: G, hn, h, hs => by
    rw [List.map_cons, List.nodup_cons] at hn
    have same : ∀ {G : List NE}, x.b ∉ G.map (·.b) → doneN (seen ++ [x.b]) G = doneN seen G := by
      intro G hx
      unfold doneN
      apply List.filter_congr
      intro z hz
      have : z.b ≠ x.b := fun e => hx (by rw [← e]; exact List.mem_map_of_mem hz)
      simp [this]
    rcases List.mem_cons.1 h with rfl | h
    · have h1 : doneN (seen ++ [x.b]) (x :: G) = x :: doneN (seen ++ [x.b]) G := by
        unfold doneN; rw [List.filter_cons, if_pos (by simp)]
      have h2 : doneN seen (x :: G) = doneN seen G := by
        unfold doneN; rw [List.filter_cons, if_neg (by rw [hs]; decide)]
      rw [h1, h2, same hn.1]
    · have ih := doneN_step hn.2 h hs
      have hne : y.b ≠ x.b := fun e => hn.1 (by rw [e]; exact List.mem_map_of_mem h)
      have e1 : (seen ++ [x.b]).contains y.b = seen.contains y.b := by simp [hne]
      have d1 : ∀ s, doneN s (y :: G) = if s.contains y.b then y :: doneN s G else doneN s G := fun s => by unfold doneN; rw [List.filter_cons]
      rw [d1, d1, e1]
      split
      · exact (List.Perm.cons y ih).trans (List.Perm.swap x y _)
      · exact ih

theorem doneN_all {seen : List Nat} {G : List NE} (h : left (vents (G.map NE.ve)) seen = []) : doneN seen G = G := by
  unfold doneN
  rw [List.filter_eq_self]
  intro x hx
  unfold left at h
  rw [List.filter_eq_nil_iff] at h
  have := h (x.ve.ent) (by unfold vents; rw [List.map_map]; exact List.mem_map_of_mem (f := VE.ent ∘ NE.ve) hx)
  have e : x.ve.ent.born = x.b := rfl
  rw [e] at this
  simpa using this

theorem left_node {G : List NE} {seen : List Nat} {e : MapEntry} (h : e ∈ left (vents (G.map NE.ve)) seen) : ∃ x ∈ G, e = x.ve.ent ∧ seen.contains x.b = false := by
  unfold left at h
  obtain ⟨h1, h2⟩ := List.mem_filter.1 h
  unfold vents at h1
  rw [List.map_map] at h1
  obtain ⟨x, hx, rfl⟩ := List.mem_map.1 h1
  have e : (VE.ent ∘ NE.ve) x = x.ve.ent := rfl
  have e2 : x.ve.ent.born = x.b := rfl
  rw [e, e2] at h2
  exact ⟨x, hx, rfl, by simpa using h2⟩

theorem cntG_perm (w : List Int) {G H : List NE} (h : G.Perm H) : cntG w G = cntG w H := by
  induction h with
  | nil => rfl
  | cons x _ ih => unfold cntG; rw [ih]
  | swap x y l => unfold cntG; unfold cntG; omega
  | trans _ _ a b => exact a.trans b
theorem edges_perm {G H : List NE} (h : G.Perm H) : edges G = edges H := by
  induction h with
  | nil => rfl
  | cons x _ ih => unfold edges; rw [ih]
  | swap x y l => unfold edges; unfold edges; omega
  | trans _ _ a b => exact a.trans b
theorem cntG_done_le (w : List Int) (seen : List Nat) : ∀ G, cntG w (doneN seen G) ≤ edges G
  | [] => Nat.le_refl _
  | x :: G => by
    have ih := cntG_done_le w seen G
    have := cntL_le w x.next
    unfold doneN at ih ⊢
    rw [List.filter_cons]
    split
    · unfold cntG edges; omega
    · unfold edges; omega

theorem first_eq (G : List NE) : ∀ l, first G l = (l.filter fun x => cntG x.k G == 0).map (·.k)
  | [] => rfl
  | x :: l => by
    unfold first
    rw [List.filter_cons]
    cases h : cntG x.k G with
    | zero => simp [first_eq G l]
    | succ n => simp [first_eq G l]

/-- who waits at the start, so far -/
theorem first_step {G : List NE} {seen : List Nat} {x : NE} (hn : (G.map (·.b)).Nodup) (h : x ∈ G) (hs : seen.contains x.b = false) :
    (first G (doneN (seen ++ [x.b]) G)).Perm (if cntG x.k G = 0 then x.k :: first G (doneN seen G) else first G (doneN seen G)) := by
  have hp := ((doneN_step hn h hs).filter (fun x => cntG x.k G == 0)).map (·.k)
  rw [← first_eq, ← first_eq] at hp
  refine hp.trans ?_
  conv => lhs; unfold first
  cases hc : cntG x.k G with
  | zero => simp
  | succ n => simp

end Go.AB
