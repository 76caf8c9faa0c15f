/-
  A type split by sides: the program's answer.
-/
import Derived.Test.YtmplpdjddjiioaaX4
import Derived.Test.YtmplpdjddjiioaaH9
set_option linter.all false
namespace Go.Proofs.Ytmplpdjddjiioaa
open Go.Ab
/-- A copy of fields, to be written. -/
theorem f22_new {G} (l : List Fld) (hl : l.length ≤ 1000000) : HCall Try.prog G 22 [.d (fldsD l)] [] [] (fun r hp' => r = .vw [0] 0 l.length ∧ hp' = [([0], .arr (some 2) (l.map fldD))]) := by
  refine HCall.thaw (Q := fun r hp' => (r = .d .nils ∧ hp' = [] ∧ l = []) ∨ (r = .vw [0] 0 l.length ∧ hp' = [([0], .arr (some 2) (l.map fldD))])) ?_ 0 (some 2) (by simp) ?_
  · unfold fldsD
    refine funO_ok Try.func22 rfl (by decide +kernel) (by simp [Try.ntmps22]) (veil fun E => ?_)
    simp only [go_sem, Nat.reduceEqDiff, Nat.reduceLT, ↓reduceIte, Nat.reduceAdd, Nat.reduceMul, Nat.reduceLeDiff, Nat.reduceSub, Nat.reduceBEq, Int.reduceEq, Int.reduceLT, Int.reduceLE, Int.reduceToNat, Int.reduceAdd, Int.reduceSub, Int.reduceNeg, UInt8.reduceToNat]
    refine e_nileq E (e := 60) (by simp only [go_sem, Nat.reduceEqDiff, Nat.reduceLT, ↓reduceIte, Nat.reduceAdd, Nat.reduceMul, Nat.reduceLeDiff, Nat.reduceSub, Nat.reduceBEq, Int.reduceEq, Int.reduceLT, Int.reduceLE, Int.reduceToNat, Int.reduceAdd, Int.reduceSub, Int.reduceNeg, UInt8.reduceToNat]) (by simp only [go_sem, Nat.reduceEqDiff, Nat.reduceLT, ↓reduceIte, Nat.reduceAdd, Nat.reduceMul, Nat.reduceLeDiff, Nat.reduceSub, Nat.reduceBEq, Int.reduceEq, Int.reduceLT, Int.reduceLE, Int.reduceToNat, Int.reduceAdd, Int.reduceSub, Int.reduceNeg, UInt8.reduceToNat]) rfl fun b hb => ?_
    simp only [go_sem, Nat.reduceEqDiff, Nat.reduceLT, ↓reduceIte, Nat.reduceAdd, Nat.reduceMul, Nat.reduceLeDiff, Nat.reduceSub, Nat.reduceBEq, Int.reduceEq, Int.reduceLT, Int.reduceLE, Int.reduceToNat, Int.reduceAdd, Int.reduceSub, Int.reduceNeg, UInt8.reduceToNat]
    refine e_if E (fun h => ?_) (fun h => ?_) <;> simp only [go_sem, Nat.reduceEqDiff, Nat.reduceLT, ↓reduceIte, Nat.reduceAdd, Nat.reduceMul, Nat.reduceLeDiff, Nat.reduceSub, Nat.reduceBEq, Int.reduceEq, Int.reduceLT, Int.reduceLE, Int.reduceToNat, Int.reduceAdd, Int.reduceSub, Int.reduceNeg, UInt8.reduceToNat]
    · have : l = [] := by simpa using hb h
      subst this
      refine ⟨_, [], [], id, .inl ⟨rfl, rfl, rfl⟩, ?_⟩
      simp only [go_sem, Nat.reduceEqDiff, Nat.reduceLT, ↓reduceIte, Nat.reduceAdd, Nat.reduceMul, Nat.reduceLeDiff, Nat.reduceSub, Nat.reduceBEq, Int.reduceEq, Int.reduceLT, Int.reduceLE, Int.reduceToNat, Int.reduceAdd, Int.reduceSub, Int.reduceNeg, UInt8.reduceToNat]
    · refine ⟨by omega, _, _, [0], tau [([0], [7])], .inr ⟨rfl, rfl⟩, ?_⟩
      simp only [go_sem, Nat.reduceEqDiff, Nat.reduceLT, ↓reduceIte, Nat.reduceAdd, Nat.reduceMul, Nat.reduceLeDiff, Nat.reduceSub, Nat.reduceBEq, Int.reduceEq, Int.reduceLT, Int.reduceLE, Int.reduceToNat, Int.reduceAdd, Int.reduceSub, Int.reduceNeg, UInt8.reduceToNat]
  · rintro r hp' (⟨rfl, rfl, rfl⟩ | h)
    · exact .inr ⟨rfl, rfl, rfl, rfl⟩
    · exact .inl h
/-- What goes through, goes through each once. -/
theorem Dfs.nodup {α : Type} {kids : α → List α} {out todo r : List α} (h : Dfs kids out todo r) : out.Nodup → r.Nodup := by
  induction h with
  | done out => exact fun h => h
  | skip _ _ ih => exact ih
  | take h _ ih =>
    refine fun ho => ih ?_
    rw [List.nodup_append]
    exact ⟨ho, by simp, fun a ha b hb => by rw [List.mem_singleton.1 hb]; exact fun e => h (e ▸ ha)⟩
theorem Spots.nodup {ns : List TN} {root : Int} {l : List Spot} (h : Spots ns root l) : l.Nodup := h.1.nodup (by simp)
theorem Dfs.sub {α : Type} {kids : α → List α} {out todo r : List α} (h : Dfs kids out todo r) : (∀ a ∈ out, a ∈ r) ∧ ∀ a ∈ todo, a ∈ r := by
  induction h with
  | done out => exact ⟨fun a h => h, by simp⟩
  | skip h _ ih =>
    refine ⟨ih.1, fun a ha => ?_⟩
    rcases List.mem_append.1 ha with ha | ha
    · exact ih.2 a ha
    · rw [List.mem_singleton.1 ha]; exact ih.1 _ h
  | take h _ ih =>
    refine ⟨fun a ha => ih.1 a (List.mem_append_left _ ha), fun a ha => ?_⟩
    rcases List.mem_append.1 ha with ha | ha
    · exact ih.2 a (List.mem_append_left _ ha)
    · rw [List.mem_singleton.1 ha]; exact ih.1 _ (by simp)
theorem Dfs.closed {α : Type} {kids : α → List α} {out todo r : List α} (h : Dfs kids out todo r) : (∀ a ∈ out, ∀ b ∈ kids a, b ∈ out ∨ b ∈ todo) → ∀ a ∈ r, ∀ b ∈ kids a, b ∈ r := by
  induction h with
  | done out => exact fun h a ha b hb => (h a ha b hb).resolve_right (by simp)
  | @skip out todo r s h _ ih =>
    refine fun h2 => ih fun a ha b hb => ?_
    rcases h2 a ha b hb with g | g
    · exact .inl g
    · rcases List.mem_append.1 g with g | g
      · exact .inr g
      · rw [List.mem_singleton.1 g]; exact .inl h
  | @take out todo r s h _ ih =>
    refine fun h2 => ih fun a ha b hb => ?_
    rcases List.mem_append.1 ha with ha | ha
    · rcases h2 a ha b hb with g | g
      · exact .inl (List.mem_append_left _ g)
      · rcases List.mem_append.1 g with g | g
        · exact .inr (List.mem_append_left _ g)
        · rw [List.mem_singleton.1 g]; exact .inl (by simp)
    · rw [List.mem_singleton.1 ha] at hb
      exact .inr (List.mem_append_right _ (List.mem_reverse.2 hb))
theorem Spots.kids {ns : List TN} {root : Int} {l : List Spot} (h : Spots ns root l) : ∀ a ∈ l, ∀ b ∈ kidsS ns a, b ∈ l := h.1.closed (by simp)
/-- The place of a spot. -/
def atS (l : List Spot) (s : Spot) : Int := (l.idxOf s : Nat)
def atM (l : List Spot) (k : Nat) : List (Spot × D) := (List.range k).map fun i => (l.getD i (0, 0), i64 (i : Nat))
theorem mset_new {κ : Type} [DecidableEq κ] {a : κ} {d : D} : ∀ {ms : List (κ × D)}, (∀ q ∈ ms, q.1 ≠ a) → mset ms a d = ms ++ [(a, d)]
  | [], _ => rfl
  | q :: r, h => by
    rw [mset, if_neg (h q List.mem_cons_self), mset_new fun x hx => h x (List.mem_cons_of_mem _ hx)]
    rfl
theorem nodup_get {l : List Spot} (hn : l.Nodup) {i j : Nat} (hi : i < l.length) (hj : j < l.length) (h : l.getD i (0, 0) = l.getD j (0, 0)) : i = j := by
  simp only [List.getD_eq_getElem?_getD, List.getElem?_eq_getElem hi, List.getElem?_eq_getElem hj, Option.getD_some] at h
  have hp := List.pairwise_iff_getElem.1 hn
  rcases Nat.lt_trichotomy i j with g | g | g
  · exact absurd h (hp i j hi hj g)
  · exact g
  · exact absurd h.symm (hp j i hj hi g)
theorem atM_step {l : List Spot} (hn : l.Nodup) {k : Nat} (hk : k < l.length) : mset (atM l k) (l.getD k (0, 0)) (i64 (k : Nat)) = atM l (k + 1) := by
  rw [mset_new]
  · simp [atM, List.range_succ]
  · intro q hq
    obtain ⟨i, hi, rfl⟩ := List.mem_map.1 hq
    have hi := List.mem_range.1 hi
    intro e
    have := nodup_get hn (by omega) hk e
    omega
theorem mlook_range {l : List Spot} (hn : l.Nodup) {s : Spot} : ∀ k, k ≤ l.length → mlook (atM l k) s = if l.idxOf s < k then some (i64 (atS l s)) else none := by
  intro k
  induction k with
  | zero => intro _; simp [atM, mlook]
  | succ k ih =>
    intro hk
    rw [← atM_step hn (by omega), mlook_mset, ih (by omega)]
    by_cases e : s = l.getD k (0, 0)
    · have : l.idxOf s = k := by
        have hm : s ∈ l := by
          rw [e]
          simp [show k < l.length by omega]
        have hl := List.idxOf_lt_length_of_mem hm
        refine nodup_get hn hl (by omega) ?_
        rw [← e]
        simp only [List.getD_eq_getElem?_getD, List.getElem?_eq_getElem hl, Option.getD_some]
        exact List.getElem_idxOf hl
      rw [if_pos e, if_pos (by omega), atS, this]
    · rw [if_neg e]
      have : l.idxOf s ≠ k := by
        intro h
        apply e
        rw [← h]
        have hl : l.idxOf s < l.length := by omega
        simp only [List.getD_eq_getElem?_getD, List.getElem?_eq_getElem hl, Option.getD_some]
        exact (List.getElem_idxOf hl).symm
      by_cases h1 : l.idxOf s < k
      · rw [if_pos h1, if_pos (by omega)]
      · rw [if_neg h1, if_neg (by omega)]
theorem mlook_at {l : List Spot} (hn : l.Nodup) {s : Spot} (h : s ∈ l) : mlook (atM l l.length) s = some (i64 (atS l s)) := by
  rw [mlook_range hn _ (Nat.le_refl _), if_pos (List.idxOf_lt_length_of_mem h)]
end Go.Proofs.Ytmplpdjddjiioaa
