/-
  The chapter's way to the sides: going round until nothing changes.
-/
import Derived.Test.YtmplpdjddjiioaaYC
set_option linter.all false
namespace Go.Proofs.Ytmplpdjddjiioaa
open Go.Ab
/-- The kid's spots that follow from what is found. -/
def addS (ns : List TN) (L : List Spot) (i j : Nat) : List Spot := (if ((i : Int), (1 : Int)) ∈ L then [kidS (nd ns i) 1 j] else []) ++ (if ((i : Int), (2 : Int)) ∈ L then [kidS (nd ns i) 2 j] else [])
theorem addS_mem {ns : List TN} {L : List Spot} {i j : Nat} {t : Spot} : t ∈ addS ns L i j ↔ (((i : Int), (1 : Int)) ∈ L ∧ t = kidS (nd ns i) 1 j) ∨ (((i : Int), (2 : Int)) ∈ L ∧ t = kidS (nd ns i) 2 j) := by
  unfold addS
  by_cases h1 : ((i : Int), (1 : Int)) ∈ L <;> by_cases h2 : ((i : Int), (2 : Int)) ∈ L <;> simp [h1, h2]
def clo (ns : List TN) (L : List Spot) (i j : Nat) : Prop := ∀ t ∈ addS ns L i j, t ∈ L
theorem sd_congr {L L' : List Spot} {i : Nat} (h : ∀ s : Int, ((i : Int), s) ∈ L ↔ ((i : Int), s) ∈ L') : sd L i = sd L' i := by
  simp only [sd, h]
theorem sd_eq {L L' : List Spot} {i : Nat} (h : sd L i = sd L' i) {s : Int} (hs : s = 1 ∨ s = 2) : ((i : Int), s) ∈ L ↔ ((i : Int), s) ∈ L' := by
  unfold sd at h
  by_cases h1 : ((i : Int), (1 : Int)) ∈ L <;> by_cases h2 : ((i : Int), (2 : Int)) ∈ L <;> by_cases h3 : ((i : Int), (1 : Int)) ∈ L' <;> by_cases h4 : ((i : Int), (2 : Int)) ∈ L' <;>
    rcases hs with rfl | rfl <;> simp_all
theorem sd_range (L : List Spot) (i : Nat) : 0 ≤ sd L i ∧ sd L i ≤ 3 := by
  unfold sd
  split <;> split <;> omega
section
variable {ns : List TN} {root : Int} {l L : List Spot}
structure Fx (ns : List TN) (root : Int) (l L : List Spot) : Prop where
  root : (root, 1) ∈ L
  sub : ∀ s ∈ L, s ∈ l
theorem Fx.init (hl : Spots ns root l) : Fx ns root l [(root, 1)] := ⟨by simp, fun s hs => by
  obtain ⟨t, e⟩ := hl.1.first
  rw [List.mem_singleton.1 hs, e]
  exact List.mem_cons_self⟩
theorem kid_in {i j : Nat} {side : Int} (hj : j < (kidsL (nd ns i)).length) : kidS (nd ns i) side j ∈ kidsS ns ((i : Int), side) := by
  show _ ∈ (List.range _).map _
  exact List.mem_map.2 ⟨j, List.mem_range.2 hj, rfl⟩
theorem Fx.step (hl : Spots ns root l) (h : Fx ns root l L) {i j : Nat} (hj : j < (kidsL (nd ns i)).length) : Fx ns root l (L ++ addS ns L i j) :=
  ⟨List.mem_append_left _ h.root, fun s hs => by
    rcases List.mem_append.1 hs with hs | hs
    · exact h.sub s hs
    · rcases addS_mem.1 hs with ⟨h1, rfl⟩ | ⟨h1, rfl⟩
      · exact hl.kids _ (h.sub _ h1) _ (kid_in hj)
      · exact hl.kids _ (h.sub _ h1) _ (kid_in hj)⟩
theorem addS_fst {i j : Nat} {t : Spot} (h : t ∈ addS ns L i j) : t.1 = (kidsL (nd ns i)).getD j 0 ∧ (t.2 = 1 ∨ t.2 = 2) := by
  have key : ∀ side : Int, side = 1 ∨ side = 2 → (kidS (nd ns i) side j).2 = 1 ∨ (kidS (nd ns i) side j).2 = 2 := fun side hs => by
    show (if _ then flipZ side else side) = 1 ∨ (if _ then flipZ side else side) = 2
    split
    · exact flip_ok hs
    · exact hs
  rcases addS_mem.1 h with ⟨_, rfl⟩ | ⟨_, rfl⟩
  · exact ⟨rfl, key 1 (.inl rfl)⟩
  · exact ⟨rfl, key 2 (.inr rfl)⟩
/-- What the loop's body counts. -/
theorem mix_tab : ∀ a b c d : Bool, max (((if a then 1 else 0) + (if b then 2 else 0) : Int).tmod 2) (((if c then 1 else 0) + (if d then 2 else 0) : Int).tmod 2) + 2 * max (((if a then 1 else 0) + (if b then 2 else 0) : Int).tdiv 2) (((if c then 1 else 0) + (if d then 2 else 0) : Int).tdiv 2) = (if a || c then 1 else 0) + (if b || d then 2 else 0) := by decide
theorem turn_tab : ∀ c d : Bool, (((if c then 1 else 0) + (if d then 2 else 0) : Int).tmod 2) * 2 + ((if c then 1 else 0) + (if d then 2 else 0) : Int).tdiv 2 = (if d then 1 else 0) + (if c then 2 else 0) := by decide
def mixZ (cur was : Int) : Int := max (cur.tmod 2) (was.tmod 2) + 2 * max (cur.tdiv 2) (was.tdiv 2)
def wasZ (ns : List TN) (L : List Spot) (i j : Nat) : Int := if (decide ((nd ns i).k = 6) && decide (j = 0)) = true then (sd L i).tmod 2 * 2 + (sd L i).tdiv 2 else sd L i
theorem sd_bool (L : List Spot) (i : Nat) : sd L i = (if decide (((i : Int), (1 : Int)) ∈ L) = true then 1 else 0) + (if decide (((i : Int), (2 : Int)) ∈ L) = true then 2 else 0) := by simp [sd]
theorem add_val {i j K : Nat} (hK : (kidsL (nd ns i)).getD j 0 = (K : Int)) : mixZ (sd L K) (wasZ ns L i j) = sd (L ++ addS ns L i j) K := by
  have hm : ∀ s : Int, ((K : Int), s) ∈ L ++ addS ns L i j ↔ ((K : Int), s) ∈ L ∨ (((i : Int), (1 : Int)) ∈ L ∧ s = (kidS (nd ns i) 1 j).2) ∨ (((i : Int), (2 : Int)) ∈ L ∧ s = (kidS (nd ns i) 2 j).2) := fun s => by
    rw [List.mem_append, addS_mem]
    have e : ∀ side : Int, (((K : Int), s) = kidS (nd ns i) side j) ↔ s = (kidS (nd ns i) side j).2 := fun side => by
      rw [Prod.ext_iff]
      simp only [kidS, hK, true_and]
    rw [e, e]
  rw [sd_bool (L ++ addS ns L i j) K]
  simp only [hm]
  unfold mixZ wasZ
  rw [sd_bool L K, sd_bool L i]
  by_cases hf : (decide ((nd ns i).k = 6) && decide (j = 0)) = true
  · have k1 : (kidS (nd ns i) 1 j).2 = 2 := by show (if _ then _ else _) = _; rw [if_pos hf]; rfl
    have k2 : (kidS (nd ns i) 2 j).2 = 1 := by show (if _ then _ else _) = _; rw [if_pos hf]; rfl
    rw [if_pos hf, turn_tab, mix_tab, k1, k2]
    simp
  · have k1 : (kidS (nd ns i) 1 j).2 = 1 := by show (if _ then _ else _) = _; rw [if_neg hf]
    have k2 : (kidS (nd ns i) 2 j).2 = 2 := by show (if _ then _ else _) = _; rw [if_neg hf]
    rw [if_neg hf, mix_tab, k1, k2]
    simp
theorem add_set {i j K : Nat} (hK : (kidsL (nd ns i)).getD j 0 = (K : Int)) (N : Nat) : (sdL N L).set K (sd (L ++ addS ns L i j) K) = sdL N (L ++ addS ns L i j) := by
  refine List.ext_getElem (by simp [sdL]) fun q h1 h2 => ?_
  have hq : q < N := by simpa [sdL] using h2
  simp only [List.getElem_set, sdL, List.getElem_map, List.getElem_range]
  by_cases e : K = q
  · subst e
    rw [if_pos rfl]
  · rw [if_neg e]
    refine sd_congr fun s => ?_
    rw [List.mem_append]
    refine ⟨.inl, fun h => h.resolve_right fun h => ?_⟩
    have := (addS_fst h).1
    rw [hK] at this
    have : (q : Int) = K := this
    omega
theorem add_clo {i j K : Nat} (hK : (kidsL (nd ns i)).getD j 0 = (K : Int)) (h : sd (L ++ addS ns L i j) K = sd L K) : clo ns L i j := by
  intro t ht
  obtain ⟨h1, h2⟩ := addS_fst ht
  have e : t = ((K : Int), t.2) := by rw [← hK, ← h1]
  rw [e]
  refine (sd_eq h h2).1 ?_
  rw [← e]
  exact List.mem_append_right _ ht
theorem unseen_sub {U : List Spot} {L' : List Spot} (h : ∀ s ∈ L, s ∈ L') : unseen U L' ≤ unseen U L := by
  unfold unseen
  refine List.countP_mono_left fun s _ hs => ?_
  simp only [Bool.not_eq_true', decide_eq_false_iff_not] at hs ⊢
  exact fun g => hs (h s g)
theorem add_lt (hl : Spots ns root l) (h : Fx ns root l L) {i j K : Nat} (hj : j < (kidsL (nd ns i)).length) (hne : sd (L ++ addS ns L i j) K ≠ sd L K) : unseen (univ ns.length) (L ++ addS ns L i j) < unseen (univ ns.length) L := by
  have : ∃ t ∈ addS ns L i j, t ∉ L := Classical.byContradiction fun g => hne <| by
    refine sd_congr fun s => ?_
    rw [List.mem_append]
    exact ⟨fun x => x.elim id fun x => Classical.byContradiction fun y => g ⟨_, x, y⟩, .inl⟩
  obtain ⟨t, ht, hn⟩ := this
  have hin := univ_mem (hl.2.1 t ((h.step hl hj).sub t (List.mem_append_right _ ht)))
  refine Nat.lt_of_le_of_lt (unseen_sub (L := L ++ [t]) fun s hs => ?_) (unseen_lt hn hin)
  rcases List.mem_append.1 hs with hs | hs
  · exact List.mem_append_left _ hs
  · rw [List.mem_singleton.1 hs]
    exact List.mem_append_right _ ht
theorem Fx.done (hl : Spots ns root l) (h : Fx ns root l L) (hc : ∀ i, i < ns.length → ∀ j, j < (kidsL (nd ns i)).length → clo ns L i j) (N : Nat) : sdL N L = sdL N l := by
  have hcl : ∀ a, a ∈ L → ∀ b ∈ kidsS ns a, b ∈ L := fun a ha b hb => by
    obtain ⟨⟨g1, g2⟩, g3⟩ := hl.2.1 a (h.sub a ha)
    obtain ⟨x, s⟩ := a
    obtain ⟨i, rfl⟩ : ∃ i : Nat, x = (i : Int) := ⟨x.toNat, by simp only at g1; omega⟩
    obtain ⟨j, hj, rfl⟩ := List.mem_map.1 hb
    have hj : j < (kidsL (nd ns i)).length := List.mem_range.1 hj
    refine hc i (by simp only at g2; omega) j hj _ (addS_mem.2 ?_)
    simp only at g3
    rcases g3 with rfl | rfl
    · exact .inl ⟨ha, rfl⟩
    · exact .inr ⟨ha, rfl⟩
  have hall := (hl.1.map (kb := kidsS ns) (f := id) (ok := fun a => a ∈ L) (fun _ _ _ _ e => e) (fun a ha => ⟨by simp, hcl a ha⟩) (by simp) (fun a ha => by rw [List.mem_singleton.1 ha]; exact h.root)).2
  refine List.map_congr_left fun i _ => sd_congr fun s => ⟨fun x => h.sub _ x, fun x => hall _ x⟩
theorem sdL_init (h : 0 ≤ root ∧ root < ns.length) : (List.replicate ns.length (i64 0)).set root.toNat (i64 1) = (sdL ns.length [(root, 1)]).map i64 := by
  refine List.ext_getElem (by simp [sdL]) fun q h1 h2 => ?_
  simp only [List.getElem_set, List.getElem_replicate, sdL, List.getElem_map, List.getElem_range, sd, List.mem_singleton, Prod.mk.injEq]
  by_cases e : root.toNat = q
  · have : (q : Int) = root := by omega
    simp [e, this]
  · have : ¬ (q : Int) = root := by omega
    simp [e, this]
end
end Go.Proofs.Ytmplpdjddjiioaa
