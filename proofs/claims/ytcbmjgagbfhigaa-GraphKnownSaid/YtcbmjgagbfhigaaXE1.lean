/-
  Values brought to normal form before they are handed on: each of these functions is the identity, in the style of continuations.
-/
import Derived.Test.YtcbmjgagbfhigaaXD6
namespace Go.AB
open Go
set_option linter.unusedSimpArgs false
set_option linter.unusedVariables false

section
variable {R : Type}

def fNat (n : Nat) (k : Nat → R) : R := match n with
  | 0 => k 0
  | m + 1 => k (Nat.succ m)
theorem fNat_eq (n : Nat) (k : Nat → R) : fNat n k = k n := by cases n <;> rfl

def fInt (n : Int) (k : Int → R) : R := match n with
  | .ofNat m => fNat m fun m => k (.ofNat m)
  | .negSucc m => fNat m fun m => k (.negSucc m)
theorem fInt_eq (n : Int) (k : Int → R) : fInt n k = k n := by cases n <;> simp [fInt, fNat_eq]

def fAddr (a : Addr) (k : Addr → R) : R := match a with
  | ⟨b, o, s⟩ => fNat b fun b => fNat o fun o => match s with
    | none => k ⟨b, o, none⟩
    | some s => k ⟨b, o, some s⟩
theorem fAddr_eq (a : Addr) (k : Addr → R) : fAddr a k = k a := by
  obtain ⟨b, o, s⟩ := a
  cases s <;> simp [fAddr, fNat_eq]

def fC0 (v : Value) (k : Value → R) : R := match v with
  | .int q n => fInt n fun n => k (.int q n)
  | .bool b => match b with
    | true => k (.bool true)
    | false => k (.bool false)
  | .pointer p => match p with
    | none => k (.pointer none)
    | some a => fAddr a fun a => k (.pointer (some a))
  | .slice p n c => fNat n fun n => fNat c fun c => match p with
    | none => k (.slice none n c)
    | some a => fAddr a fun a => k (.slice (some a) n c)
  | .map p => match p with
    | none => k (.map none)
    | some b => fNat b fun b => k (.map (some b))
  | v => k v
theorem fC0_eq (v : Value) (k : Value → R) : fC0 v k = k v := by
  unfold fC0
  split
  · rw [fInt_eq]
  · split <;> rfl
  · split
    · rfl
    · rw [fAddr_eq]
  · rw [fNat_eq, fNat_eq]
    split
    · rfl
    · rw [fAddr_eq]
  · split
    · rfl
    · rw [fNat_eq]
  · rfl

noncomputable def fList {α : Type} (f : α → (α → R) → R) (l : List α) (k : List α → R) : R :=
  List.rec (motive := fun _ => (List α → R) → R) (fun k => k []) (fun v _ ih k => f v fun v => ih fun vs => k (v :: vs)) l k
theorem fList_eq {α : Type} {f : α → (α → R) → R} (hf : ∀ a k, f a k = k a) : ∀ (l : List α) (k : List α → R), fList f l k = k l
  | [], k => rfl
  | v :: l, k => by
    show f v (fun v => fList f l fun vs => k (v :: vs)) = _
    rw [hf, fList_eq hf l]

noncomputable def fSp {α : Type} (l : List α) (k : List α → R) : R :=
  List.rec (motive := fun _ => (List α → R) → R) (fun k => k []) (fun v _ ih k => ih fun vs => k (v :: vs)) l k
theorem fSp_eq {α : Type} : ∀ (l : List α) (k : List α → R), fSp l k = k l
  | [], k => rfl
  | v :: l, k => by
    show fSp l (fun vs => k (v :: vs)) = _
    rw [fSp_eq l]

noncomputable def fC1 (v : Value) (k : Value → R) : R := match v with
  | .agg ⟨l⟩ => fSp l fun l => k (.agg ⟨l⟩)
  | .iface t x => fNat t fun t => match x with
    | .agg ⟨l⟩ => fSp l fun l => k (.iface t (.agg ⟨l⟩))
    | x => fC0 x fun x => k (.iface t x)
  | .func fn ⟨f⟩ ⟨c⟩ => fList fC0 f fun f => fList fC0 c fun c => k (.func fn ⟨f⟩ ⟨c⟩)
  | v => fC0 v k
theorem fC1_eq (v : Value) (k : Value → R) : fC1 v k = k v := by
  unfold fC1
  split
  · rw [fSp_eq]
  · rw [fNat_eq]
    split
    · rw [fSp_eq]
    · rw [fC0_eq]
  · rw [fList_eq fC0_eq, fList_eq fC0_eq]
  · rw [fC0_eq]

noncomputable def fV (v : Value) (k : Value → R) : R := match v with
  | .agg ⟨l⟩ => fSp l fun l => k (.agg ⟨l⟩)
  | .tuple ⟨l⟩ => fList fC1 l fun l => k (.tuple ⟨l⟩)
  | v => fC1 v k
theorem fV_eq (v : Value) (k : Value → R) : fV v k = k v := by
  unfold fV
  split
  · rw [fSp_eq]
  · rw [fList_eq fC1_eq]
  · rw [fC1_eq]

noncomputable def fEnt (e : MapEntry) (k : MapEntry → R) : R := match e with
  | ⟨x, v, b⟩ => fNat b fun b => k ⟨x, v, b⟩
theorem fEnt_eq (e : MapEntry) (k : MapEntry → R) : fEnt e k = k e := by
  obtain ⟨x, v, b⟩ := e
  simp [fEnt, fNat_eq]

noncomputable def fObj (o : AObj) (k : AObj → R) : R := match o with
  | .row cs kd => fSp cs fun cs => match kd with
    | .ro => k (.row cs .ro)
    | .fix => k (.row cs .fix)
    | .grown n => fNat n fun n => k (.row cs (.grown n))
  | .map es clock => fList fEnt es fun es => fNat clock fun clock => k (.map es clock)
  | .iter m since seen last => fNat m fun m => fNat since fun since => fList fNat seen fun seen => fNat last fun last => k (.iter m since seen last)
  | .siter s pos => fNat pos fun pos => k (.siter s pos)
  | .dead => k .dead
theorem fObj_eq (o : AObj) (k : AObj → R) : fObj o k = k o := by
  cases o with
  | row cs kd => cases kd <;> simp [fObj, fSp_eq, fNat_eq]
  | map es clock => simp [fObj, fList_eq fEnt_eq, fNat_eq]
  | iter m since seen last => simp [fObj, fList_eq fNat_eq, fNat_eq]
  | siter s pos => simp [fObj, fNat_eq]
  | dead => rfl

noncomputable def Tr.putK {α : Type} (f : Nat) : Tr α → Nat → α → (Tr α → R) → R :=
  Nat.rec (motive := fun _ => Tr α → Nat → α → (Tr α → R) → R) (fun t _ _ k => k t)
    (fun _ ih t i a k => match t with
      | .nil => match Nat.beq i 0 with
        | true => k (.node (some a) .nil .nil)
        | false => match Nat.beq (i % 2) 1 with
          | true => fNat (i / 2) fun j => ih .nil j a fun l => k (.node none l .nil)
          | false => fNat (i / 2 - 1) fun j => ih .nil j a fun r => k (.node none .nil r)
      | .node v l r => match Nat.beq i 0 with
        | true => k (.node (some a) l r)
        | false => match Nat.beq (i % 2) 1 with
          | true => fNat (i / 2) fun j => ih l j a fun l => k (.node v l r)
          | false => fNat (i / 2 - 1) fun j => ih r j a fun r => k (.node v l r)) f

theorem Tr.putK_eq {α : Type} : ∀ (f : Nat) (t : Tr α) (i : Nat) (a : α) (k : Tr α → R), Tr.putK f t i a k = k (Tr.put f t i a)
  | 0, t, i, a, k => by cases t <;> rfl
  | f + 1, t, i, a, k => by
    have ih := fun (t : Tr α) (j : Nat) (k : Tr α → R) => Tr.putK_eq f t j a k
    cases t with
    | nil =>
      show (match Nat.beq i 0 with
        | true => k (.node (some a) .nil .nil)
        | false => match Nat.beq (i % 2) 1 with
          | true => fNat (i / 2) fun j => Tr.putK f .nil j a fun l => k (.node none l .nil)
          | false => fNat (i / 2 - 1) fun j => Tr.putK f .nil j a fun r => k (.node none .nil r)) = _
      simp only [Tr.put, fNat_eq, ih]
      generalize Nat.beq i 0 = b
      generalize Nat.beq (i % 2) 1 = c
      cases b <;> cases c <;> rfl
    | node v l r =>
      show (match Nat.beq i 0 with
        | true => k (.node (some a) l r)
        | false => match Nat.beq (i % 2) 1 with
          | true => fNat (i / 2) fun j => Tr.putK f l j a fun l => k (.node v l r)
          | false => fNat (i / 2 - 1) fun j => Tr.putK f r j a fun r => k (.node v l r)) = _
      simp only [Tr.put, fNat_eq, ih]
      generalize Nat.beq i 0 = b
      generalize Nat.beq (i % 2) 1 = c
      cases b <;> cases c <;> rfl
end

end Go.AB
