/-
  Each variable's sides, in order: what is meant.
-/
import Derived.Test.YtmplpdjddjiioaaXA
import Derived.Test.YtmplpdjddjiioaaI3
set_option linter.all false
namespace Go.Proofs.Ytmplpdjddjiioaa
open Go.Ab
/-- Maps of numbers to numbers. -/
def tD (M : List (Int × Int)) : List (Int × D) := M.map fun q => (q.1, i64 q.2)
def tlook : List (Int × Int) → Int → Option Int
  | [], _ => none
  | q :: r, a => if q.1 = a then some q.2 else tlook r a
def tset : List (Int × Int) → Int → Int → List (Int × Int)
  | [], a, s => [(a, s)]
  | q :: r, a, s => if q.1 = a then (a, s) :: r else q :: tset r a s
theorem mlook_t (a : Int) : ∀ M, mlook (tD M) a = (tlook M a).map i64
  | [] => rfl
  | q :: r => by
    simp only [tD, List.map_cons, mlook, tlook]
    split
    · rfl
    · exact mlook_t a r
theorem mset_t (a s : Int) : ∀ M, mset (tD M) a (i64 s) = tD (tset M a s)
  | [] => rfl
  | q :: r => by
    have := mset_t a s r
    simp only [tD, List.map_cons, mset, tset] at this ⊢
    split
    · rfl
    · rw [List.map_cons, this]
theorem tlook_tset (a b s : Int) : ∀ M, tlook (tset M a s) b = if b = a then some s else tlook M b
  | [] => by
    simp only [tset, tlook]
    by_cases e : a = b
    · rw [if_pos e, if_pos e.symm]
    · rw [if_neg e, if_neg (fun h => e h.symm)]
  | q :: r => by
    simp only [tset]
    split
    · rename_i e
      simp only [tlook]
      by_cases e2 : a = b
      · rw [if_pos e2, if_pos e2.symm]
      · rw [if_neg e2, if_neg (fun h => e2 h.symm), if_neg (fun h => e2 (e.symm.trans h))]
    · rename_i e
      simp only [tlook, tlook_tset a b s r]
      by_cases e2 : q.1 = b
      · rw [if_pos e2, if_neg (fun h => e (e2.trans h)), if_pos e2]
      · rw [if_neg e2, if_neg e2]
theorem tset_keys (a s : Int) : ∀ M : List (Int × Int), ∀ x ∈ (tset M a s).map (·.1), x = a ∨ x ∈ M.map (·.1)
  | [], x, h => .inl (by simpa [tset] using h)
  | q :: r, x, h => by
    simp only [tset] at h
    split at h
    · simp only [List.map_cons, List.mem_cons] at h
      rcases h with h | h
      · exact .inl h
      · exact .inr (by simp [h])
    · simp only [List.map_cons, List.mem_cons] at h
      rcases h with h | h
      · exact .inr (by simp [h])
      · rcases tset_keys a s r x h with h | h
        · exact .inl h
        · exact .inr (by simp [h])
theorem tset_nodup (a s : Int) : ∀ M : List (Int × Int), (M.map (·.1)).Nodup → ((tset M a s).map (·.1)).Nodup
  | [], _ => by simp [tset]
  | q :: r, h => by
    simp only [List.map_cons, List.nodup_cons] at h
    simp only [tset]
    split
    · rename_i e
      simp only [List.map_cons, List.nodup_cons]
      exact ⟨e ▸ h.1, h.2⟩
    · rename_i e
      simp only [List.map_cons, List.nodup_cons]
      refine ⟨fun hm => ?_, tset_nodup a s r h.2⟩
      rcases tset_keys a s r _ hm with hm | hm
      · exact e hm
      · exact h.1 hm
theorem tlook_mem {M : List (Int × Int)} (h : (M.map (·.1)).Nodup) {a s : Int} : tlook M a = some s ↔ (a, s) ∈ M := by
  induction M with
  | nil => simp [tlook]
  | cons q r ih =>
    simp only [List.map_cons, List.nodup_cons] at h
    simp only [tlook, List.mem_cons]
    split
    · rename_i e
      refine ⟨fun g => .inl (by rw [← e, ← Option.some.inj g]), ?_⟩
      rintro (g | g)
      · rw [← g]
      · exact absurd (e ▸ List.mem_map_of_mem (f := (·.1)) g) h.1
    · rename_i e
      rw [ih h.2]
      refine ⟨.inr, ?_⟩
      rintro (g | g)
      · exact absurd (by rw [← g]) e
      · exact g
/-- A variable's sides, of the first so many nodes. -/
def hasS (ns : List TN) (l : List Spot) (v s : Int) (k : Nat) : Bool := (List.range k).any fun i => decide ((nd ns i).k = 11) && decide ((nd ns i).a = v) && decide (((i : Int), s) ∈ l)
def vS (ns : List TN) (l : List Spot) (v : Int) (k : Nat) : Int := (if hasS ns l v 1 k then 1 else 0) + (if hasS ns l v 2 k then 2 else 0)
theorem hasS_succ (ns : List TN) (l : List Spot) (v s : Int) (k : Nat) : hasS ns l v s (k + 1) = (hasS ns l v s k || (decide ((nd ns k).k = 11) && decide ((nd ns k).a = v) && decide (((k : Int), s) ∈ l))) := by
  simp [hasS, List.range_succ]
theorem or_tab2 : ∀ a b c d : Bool, bitI .or .i64 ((if a then 1 else 0) + (if b then 2 else 0)) ((if c then 1 else 0) + (if d then 2 else 0)) = (if a || c then 1 else 0) + (if b || d then 2 else 0) := by decide
theorem vS_var {ns : List TN} {l : List Spot} {k : Nat} (h : (nd ns k).k = 11) : bitI .or .i64 (vS ns l (nd ns k).a k) (sd l k) = vS ns l (nd ns k).a (k + 1) := by
  have := or_tab2 (hasS ns l (nd ns k).a 1 k) (hasS ns l (nd ns k).a 2 k) (decide (((k : Int), (1 : Int)) ∈ l)) (decide (((k : Int), (2 : Int)) ∈ l))
  simp only [vS, hasS_succ, h, decide_true, Bool.true_and, sd, decide_eq_true_eq] at this ⊢
  exact this
theorem vS_other {ns : List TN} {l : List Spot} {k : Nat} {v : Int} (h : ¬ ((nd ns k).k = 11 ∧ (nd ns k).a = v)) : vS ns l v (k + 1) = vS ns l v k := by
  have : (decide ((nd ns k).k = 11) && decide ((nd ns k).a = v)) = false := by
    rw [← Bool.decide_and]
    exact decide_eq_false h
  simp only [vS, hasS_succ, this, Bool.false_and, Bool.or_false]
theorem sd_zero {l : List Spot} {k : Nat} (h : sd l k = 0) (s : Int) (hs : s = 1 ∨ s = 2) : ((k : Int), s) ∉ l := by
  unfold sd at h
  intro hm
  rcases hs with rfl | rfl
  · rw [if_pos hm] at h
    split at h <;> omega
  · rw [if_pos hm] at h
    split at h <;> omega
theorem vS_none {ns : List TN} {l : List Spot} {k : Nat} {v : Int} (h : sd l k = 0) : vS ns l v (k + 1) = vS ns l v k := by
  simp only [vS, hasS_succ, decide_eq_false (sd_zero h 1 (.inl rfl)), decide_eq_false (sd_zero h 2 (.inr rfl)), Bool.and_false, Bool.or_false]
theorem vS_range (ns : List TN) (l : List Spot) (v : Int) (k : Nat) : 0 ≤ vS ns l v k ∧ vS ns l v k ≤ 3 := by
  unfold vS
  split <;> split <;> omega
/-- The map behind so many nodes. -/
structure VM (ns : List TN) (l : List Spot) (k : Nat) (M : List (Int × Int)) : Prop where
  dup : (M.map (·.1)).Nodup
  look : ∀ v, tlook M v = if vS ns l v k = 0 then none else some (vS ns l v k)
theorem VM.init (ns : List TN) (l : List Spot) : VM ns l 0 [] := ⟨by simp, fun v => by simp [tlook, vS, hasS]⟩
theorem VM.get {ns : List TN} {l : List Spot} {k : Nat} {M : List (Int × Int)} (h : VM ns l k M) (v : Int) : (tlook M v).getD 0 = vS ns l v k := by
  rw [h.look]
  split
  · rename_i e; rw [e]; rfl
  · rfl
theorem VM.var {ns : List TN} {l : List Spot} {k : Nat} {M : List (Int × Int)} (h : VM ns l k M) (hv : (nd ns k).k = 11) (hs : sd l k ≠ 0) : VM ns l (k + 1) (tset M (nd ns k).a (vS ns l (nd ns k).a (k + 1))) := by
  refine ⟨tset_nodup _ _ _ h.dup, fun v => ?_⟩
  rw [tlook_tset]
  by_cases e : v = (nd ns k).a
  · rw [if_pos e, e, if_neg]
    intro h0
    apply hs
    have h1 : hasS ns l (nd ns k).a 1 (k + 1) = false ∧ hasS ns l (nd ns k).a 2 (k + 1) = false := by
      unfold vS at h0
      constructor
      · cases hh : hasS ns l (nd ns k).a 1 (k + 1) with
        | false => rfl
        | true => rw [hh, if_pos rfl] at h0; split at h0 <;> omega
      · cases hh : hasS ns l (nd ns k).a 2 (k + 1) with
        | false => rfl
        | true => rw [hh, if_pos rfl] at h0; split at h0 <;> omega
    simp only [hasS_succ, hv, decide_true, Bool.true_and, Bool.or_eq_false_iff, decide_eq_false_iff_not] at h1
    simp [sd, h1.1.2, h1.2.2]
  · rw [if_neg e, h.look, vS_other (fun g => e g.2.symm)]
theorem VM.skip {ns : List TN} {l : List Spot} {k : Nat} {M : List (Int × Int)} (h : VM ns l k M) (hv : ¬ ((nd ns k).k = 11 ∧ sd l k ≠ 0)) : VM ns l (k + 1) M := by
  refine ⟨h.dup, fun v => ?_⟩
  have : vS ns l v (k + 1) = vS ns l v k := by
    by_cases e : (nd ns k).k = 11
    · exact vS_none (by
        by_cases e2 : sd l k = 0
        · exact e2
        · exact absurd ⟨e, e2⟩ hv)
    · exact vS_other (fun g => e g.1)
  rw [this, h.look]
/-- The variables, in order, with their sides. -/
def usesL (ns : List TN) (l : List Spot) : List (Int × Int) := ((List.range 1000).map fun (v : Nat) => ((v : Int), vS ns l v ns.length)).filter fun q => decide (q.2 ≠ 0)
theorem usesL_mem {ns : List TN} {l : List Spot} {v s : Int} : (v, s) ∈ usesL ns l ↔ (0 ≤ v ∧ v < 1000) ∧ s ≠ 0 ∧ s = vS ns l v ns.length := by
  simp only [usesL, List.mem_filter, List.mem_map, List.mem_range, decide_eq_true_eq]
  constructor
  · rintro ⟨⟨x, hx, e⟩, h⟩
    cases e
    exact ⟨⟨by omega, by omega⟩, h, rfl⟩
  · rintro ⟨⟨h1, h2⟩, h3, rfl⟩
    refine ⟨⟨v.toNat, by omega, ?_⟩, h3⟩
    have : ((v.toNat : Nat) : Int) = v := by omega
    rw [this]
theorem usesL_sorted (ns : List TN) (l : List Spot) : (usesL ns l).Pairwise (fun x y => x.1 < y.1) := by
  refine List.Pairwise.filter _ (List.pairwise_map.2 ?_)
  refine List.Pairwise.imp ?_ List.pairwise_lt_range
  intro a b h
  show (a : Int) < b
  omega
/-- What is in order, and has the same, is the same. -/
theorem sorted_same {a b : List (Int × Int)} (ha : a.Pairwise (fun x y => x.1 < y.1)) (hb : b.Pairwise (fun x y => x.1 < y.1)) (h : ∀ q, q ∈ a ↔ q ∈ b) : a = b := by
  induction a generalizing b with
  | nil =>
    cases b with
    | nil => rfl
    | cons y r => exact absurd ((h y).2 List.mem_cons_self) (by simp)
  | cons x r ih =>
    cases b with
    | nil => exact absurd ((h x).1 List.mem_cons_self) (by simp)
    | cons y r' =>
      simp only [List.pairwise_cons] at ha hb
      have hxy : x = y := by
        rcases List.mem_cons.1 ((h x).1 List.mem_cons_self) with e | e
        · exact e
        · rcases List.mem_cons.1 ((h y).2 List.mem_cons_self) with e' | e'
          · exact e'.symm
          · have h1 := hb.1 x e
            have h2 := ha.1 y e'
            omega
      subst hxy
      congr 1
      refine ih ha.2 hb.2 fun q => ?_
      constructor
      · intro hq
        rcases List.mem_cons.1 ((h q).1 (List.mem_cons_of_mem _ hq)) with e | e
        · have := ha.1 q hq
          rw [e] at this; omega
        · exact e
      · intro hq
        rcases List.mem_cons.1 ((h q).2 (List.mem_cons_of_mem _ hq)) with e | e
        · have := hb.1 q hq
          rw [e] at this; omega
        · exact e
end Go.Proofs.Ytmplpdjddjiioaa
