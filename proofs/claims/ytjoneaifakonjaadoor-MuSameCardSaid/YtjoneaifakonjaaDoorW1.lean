/-
  Types that may be: joins and meets end.
-/
import Derived.Test.YtjoneaifakonjaaDoorV5
set_option linter.all false
namespace Go.Proofs.YtjoneaifakonjaaDoor
open Go.Ab
def nd (ns : List TN) (i : Nat) : TN := ns.getD i ⟨0, 0, 0, []⟩
theorem nd_eq {ns : List TN} {i : Nat} (h : i < ns.length) : nd ns i = ns[i] := by simp [nd, h]
theorem nodes_nd {ns : List TN} {i : Nat} (h : i < ns.length) : (ns.map nodeD).getD i .nilp = .agg [i64 (nd ns i).k, i64 (nd ns i).a, i64 (nd ns i).b, .sl (some 2) ((nd ns i).l.map fldD)] := by
  rw [nd_eq h]; exact nodes_get' h
/-- From a join or a meet to a child. -/
def Edg (ns : List TN) (i j : Nat) : Prop := latZ (nd ns i).k = true ∧ (j = (nd ns i).a.toNat ∨ j = (nd ns i).b.toNat)
inductive Pth (ns : List TN) : Nat → Nat → Prop
  | one {i j : Nat} (h : Edg ns i j) : Pth ns i j
  | cons {i j k : Nat} (h : Edg ns i j) (t : Pth ns j k) : Pth ns i k
theorem Pth.snoc {ns : List TN} {i j k : Nat} (h : Pth ns i j) (e : Edg ns j k) : Pth ns i k := by
  induction h with
  | one h => exact .cons h (.one e)
  | cons h _ ih => exact .cons h (ih e)
inductive Ends (ns : List TN) : Nat → Prop
  | flat {i : Nat} (h : latZ (nd ns i).k = false) : Ends ns i
  | both {i : Nat} (ha : Ends ns (nd ns i).a.toNat) (hb : Ends ns (nd ns i).b.toNat) : Ends ns i
theorem Ends.no {ns : List TN} {i : Nat} (h : Ends ns i) : ¬ Pth ns i i := by
  induction h with
  | flat h =>
    intro p
    have : ∀ j k, Pth ns j k → latZ (nd ns j).k = true := fun j k p => by cases p with
      | one e => exact e.1
      | cons e _ => exact e.1
    rw [this _ _ p] at h; cases h
  | @both i _ _ iha ihb =>
    have key : ∀ x, Edg ns i x → (x = i ∨ Pth ns x i) → False := by
      intro x e hx
      have hp : Pth ns x x := by
        rcases hx with rfl | hx
        · exact .one e
        · exact hx.snoc e
      rcases e.2 with rfl | rfl
      · exact iha hp
      · exact ihb hp
    intro p
    cases p with
    | one e => exact key _ e (.inl rfl)
    | cons e t => exact key _ e (.inr t)
/-- The colours: how many are white. -/
def whites (C : List Int) : Nat := C.countP (· == 0)
/-- Colours that may stand: what is black ends. -/
structure Col (ns : List TN) (C : List Int) : Prop where
  len : C.length = ns.length
  val : ∀ j, C.getD j 0 = 0 ∨ C.getD j 0 = 1 ∨ C.getD j 0 = 2
  black : ∀ j, C.getD j 0 = 2 → Ends ns j
theorem getD_set {C : List Int} {i j : Nat} {x : Int} (h : i < C.length) : (C.set i x).getD j 0 = if j = i then x else C.getD j 0 := by
  simp only [List.getD_eq_getElem?_getD, List.getElem?_set]
  by_cases e : i = j
  · subst e; simp [h]
  · simp [e, Ne.symm e]
theorem Col.set {ns : List TN} {C : List Int} (h : Col ns C) {i : Nat} {x : Int} (hi : i < C.length) (hx : x = 1 ∨ (x = 2 ∧ Ends ns i)) : Col ns (C.set i x) := by
  refine ⟨by simpa using h.len, fun j => ?_, fun j => ?_⟩
  · rw [getD_set hi]
    split
    · rcases hx with rfl | ⟨rfl, _⟩ <;> simp
    · exact h.val j
  · rw [getD_set hi]
    split
    · rename_i e; subst e
      rcases hx with rfl | ⟨rfl, he⟩
      · intro h; cases h
      · exact fun _ => he
    · exact h.black j
theorem whites_set {x : Int} (hx : x ≠ 0) : ∀ (C : List Int) (i : Nat), C.getD i 1 = 0 → whites (C.set i x) < whites C := by
  intro C
  induction C with
  | nil => intro i h; simp at h
  | cons c r ih =>
    intro i h
    cases i with
    | zero =>
      have h : c = 0 := by simpa using h
      subst h
      simp [whites, List.countP_cons, hx]
    | succ i =>
      have := ih i (by simpa using h)
      simp only [whites, List.set_cons_succ, List.countP_cons] at this ⊢
      omega
theorem whites_le : ∀ (C C' : List Int), C.length = C'.length → (∀ j, C'.getD j 1 = 0 → C.getD j 1 = 0) → whites C' ≤ whites C
  | [], [], _, _ => Nat.le_refl _
  | c :: C, c' :: C', hl, h => by
    have ih := whites_le C C' (by simpa using hl) (fun j hj => by simpa using h (j + 1) (by simpa using hj))
    have h0 := h 0
    simp only [whites, List.countP_cons] at ih ⊢
    by_cases e : c' = 0
    · have : c = 0 := by simpa using h0 (by simpa using e)
      simp [e, this, ih]
    · have : (c' == 0) = false := by simpa using e
      rw [this]
      simp only [Bool.false_eq_true, if_false]
      split <;> omega
  | [], _ :: _, hl, _ => by simp at hl
  | _ :: _, [], hl, _ => by simp at hl
/-- What a walk from a node leaves. -/
def WPost (ns : List TN) (C : List Int) (i : Nat) (b : Bool) (C' : List Int) : Prop :=
  C'.length = ns.length ∧ (b = true → Col ns C' ∧ Ends ns i ∧ (∀ j, C'.getD j 0 = 1 ↔ C.getD j 0 = 1) ∧ whites C' ≤ whites C) ∧ (b = false → ∃ j, Pth ns j j ∧ j < ns.length)
end Go.Proofs.YtjoneaifakonjaaDoor
