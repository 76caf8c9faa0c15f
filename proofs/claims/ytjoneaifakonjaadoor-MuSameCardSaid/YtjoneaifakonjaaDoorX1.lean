/-
  Going through what is below, each once; a node's children on their sides; a slice turned about.
-/
import Derived.Test.YtjoneaifakonjaaDoorW4
set_option linter.all false
namespace Go.Proofs.YtjoneaifakonjaaDoor
open Go.Ab
/-- Going through: out stands there already, of todo the last one is next. -/
inductive Dfs {α : Type} (kids : α → List α) : List α → List α → List α → Prop
  | done (out : List α) : Dfs kids out [] out
  | skip {out todo r : List α} {s : α} (h : s ∈ out) (t : Dfs kids out todo r) : Dfs kids out (todo ++ [s]) r
  | take {out todo r : List α} {s : α} (h : s ∉ out) (t : Dfs kids (out ++ [s]) (todo ++ (kids s).reverse) r) : Dfs kids out (todo ++ [s]) r
theorem snoc_inj {α : Type} {a b : List α} {x y : α} (h : a ++ [x] = b ++ [y]) : a = b ∧ x = y := by
  have := List.append_inj' h rfl
  exact ⟨this.1, by simpa using this.2⟩
theorem Dfs.fn {α : Type} {kids : α → List α} {out todo r : List α} (h : Dfs kids out todo r) : ∀ {r'}, Dfs kids out todo r' → r = r' := by
  induction h with
  | done out =>
    intro r' h'
    generalize ht : ([] : List α) = t at h'
    cases h' with
    | done => rfl
    | skip => simp at ht
    | take => simp at ht
  | skip h _ ih =>
    intro r' h'
    generalize ht : _ ++ [_] = t at h'
    cases h' with
    | done => simp at ht
    | skip h1 t1 => obtain ⟨rfl, rfl⟩ := snoc_inj ht; exact ih t1
    | take h1 t1 => obtain ⟨rfl, rfl⟩ := snoc_inj ht; exact absurd h h1
  | take h _ ih =>
    intro r' h'
    generalize ht : _ ++ [_] = t at h'
    cases h' with
    | done => simp at ht
    | skip h1 t1 => obtain ⟨rfl, rfl⟩ := snoc_inj ht; exact absurd h1 h
    | take h1 t1 => obtain ⟨rfl, rfl⟩ := snoc_inj ht; exact ih t1
/-- Under other names it goes alike. -/
theorem Dfs.map {α β : Type} {ka : α → List α} {kb : β → List β} {f : α → β} {ok : α → Prop} (hi : ∀ a b, ok a → ok b → f a = f b → a = b) (hk : ∀ a, ok a → kb (f a) = (ka a).map f ∧ ∀ b ∈ ka a, ok b) {out todo r : List α} (h : Dfs ka out todo r) :
    (∀ a ∈ out, ok a) → (∀ a ∈ todo, ok a) → Dfs kb (out.map f) (todo.map f) (r.map f) ∧ ∀ a ∈ r, ok a := by
  induction h with
  | done out => exact fun ho _ => ⟨.done _, ho⟩
  | @skip out todo r s h _ ih =>
    intro ho ht
    obtain ⟨h1, h2⟩ := ih ho (fun a ha => ht a (List.mem_append_left _ ha))
    refine ⟨?_, h2⟩
    rw [List.map_append, List.map_cons, List.map_nil]
    exact .skip (List.mem_map_of_mem h) h1
  | @take out todo r s h _ ih =>
    intro ho ht
    have hs : ok s := ht s (by simp)
    obtain ⟨g1, g2⟩ := hk s hs
    obtain ⟨h1, h2⟩ := ih (fun a ha => by
      rcases List.mem_append.1 ha with ha | ha
      · exact ho a ha
      · rw [List.mem_singleton.1 ha]; exact hs) (fun a ha => by
      rcases List.mem_append.1 ha with ha | ha
      · exact ht a (List.mem_append_left _ ha)
      · exact g2 a (List.mem_reverse.1 ha))
    refine ⟨?_, h2⟩
    rw [List.map_append, List.map_cons, List.map_nil]
    refine .take (fun hm => ?_) ?_
    · obtain ⟨a, ha, e⟩ := List.mem_map.1 hm
      exact h (hi a s (ho a ha) hs e ▸ ha)
    · simpa [List.map_append, g1, List.map_reverse] using h1
def unseen {α : Type} [DecidableEq α] (U out : List α) : Nat := U.countP fun x => !decide (x ∈ out)
theorem unseen_lt {α : Type} [DecidableEq α] {out : List α} {s : α} (h : s ∉ out) : ∀ {U : List α}, s ∈ U → unseen U (out ++ [s]) < unseen U out
  | [], hs => by cases hs
  | x :: U, hs => by
    have hle : ∀ U : List α, unseen U (out ++ [s]) ≤ unseen U out := fun U => by
      unfold unseen
      refine List.countP_mono_left fun y _ hy => ?_
      simp only [Bool.not_eq_true', decide_eq_false_iff_not, List.mem_append, not_or] at hy ⊢
      exact hy.1
    by_cases e : x = s
    · subst e
      have h1 := hle U
      have e1 : decide (x ∈ out ++ [x]) = true := by simp
      have e2 : decide (x ∈ out) = false := by simpa using h
      simp only [unseen, List.countP_cons, e1, e2] at h1 ⊢
      simp only [Bool.not_true, Bool.not_false, Bool.false_eq_true, if_false, if_true]
      omega
    · have h1 := unseen_lt h (U := U) ((List.mem_cons.1 hs).resolve_left (fun h => e h.symm))
      have e1 : decide (x ∈ out ++ [s]) = decide (x ∈ out) := by simp [e]
      simp only [unseen, List.countP_cons, e1] at h1 ⊢
      omega
abbrev Spot := Int × Int
def spotD (s : Spot) : D := .agg [i64 s.1, i64 s.2]
def kidS (n : TN) (side : Int) (j : Nat) : Spot := ((kidsL n).getD j 0, if (decide (n.k = 6) && decide (j = 0)) = true then flipZ side else side)
def kidsN (n : TN) (side : Int) : List Spot := (List.range (kidsL n).length).map (kidS n side)
def kidsS (ns : List TN) (s : Spot) : List Spot := kidsN (nd ns s.1.toNat) s.2
theorem kidsN_take {n : TN} {side : Int} {i : Nat} (h : i < (kidsL n).length) : ((kidsN n side).take i).map spotD ++ [spotD (kidS n side i)] = ((kidsN n side).take (i + 1)).map spotD := by
  have hl : i < (kidsN n side).length := by simp [kidsN, h]
  rw [List.take_succ_eq_append_getElem hl, List.map_append]
  simp [kidsN]
theorem spot_get {l : List Spot} {i : Nat} (h : i < l.length) : (l.map spotD).getD i .nilp = .agg [i64 (l.getD i (0, 0)).1, i64 (l.getD i (0, 0)).2] := by simp [h, spotD]
end Go.Proofs.YtjoneaifakonjaaDoor
