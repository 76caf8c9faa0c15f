/-
  Going through what is below a node; a slice of numbers copied, and turned about.
-/
import Derived.Test.YtjoneaifakonjaaDoorX1
import Derived.Test.YtjoneaifakonjaaDoorK1
set_option linter.all false
namespace Go.Proofs.YtjoneaifakonjaaDoor
open Go.Ab
theorem kidsL_len {n : TN} (h : n.l.length ≤ 1000000) : (kidsL n).length ≤ 1000000 := by
  unfold kidsL
  split
  · simp
  · split <;> simp
    omega
theorem getD_of {l : List Int} {i : Nat} (h : i < l.length) : l[i] = l.getD i 0 := by simp [h]
/-- A list, turned about as far as so many of both ends. -/
def revI (l : List Int) (i : Nat) : List Int := (List.range l.length).map fun q => l.getD (if q < i ∨ l.length ≤ q + i then l.length - 1 - q else q) 0
theorem revI_len (l : List Int) (i : Nat) : (revI l i).length = l.length := by simp [revI]
theorem revI_get {l : List Int} {i q : Nat} (h : q < l.length) : (revI l i).getD q 0 = l.getD (if q < i ∨ l.length ≤ q + i then l.length - 1 - q else q) 0 := by
  simp [revI, h]
theorem revI_zero (l : List Int) : revI l 0 = l := by
  refine List.ext_getElem (by simp [revI]) fun q h1 h2 => ?_
  have : ¬ l.length ≤ q := by omega
  simp [revI, h2, this]
theorem revI_end {l : List Int} {i : Nat} (h : l.length ≤ 2 * i + 1) : revI l i = l.reverse := by
  refine List.ext_getElem (by simp [revI]) fun q h1 h2 => ?_
  have h2' : q < l.length := by simpa using h2
  have h3 : l.length - 1 - q < l.length := by omega
  by_cases e : q < i ∨ l.length ≤ q + i
  · simp [revI, e, h3]
  · have : l.length - 1 - q = q := by omega
    simp [revI, e, h2', this]
theorem revI_step {l : List Int} {i : Nat} (h : 2 * i + 1 < l.length) : ((revI l i).set i (l.getD (l.length - 1 - i) 0)).set (l.length - 1 - i) (l.getD i 0) = revI l (i + 1) := by
  refine List.ext_getElem (by simp [revI]) fun q h1 h2 => ?_
  have h2' : q < l.length := by simpa [revI] using h2
  simp only [List.getElem_set]
  by_cases e1 : l.length - 1 - i = q
  · subst e1
    have : l.length - 1 - i < i + 1 ∨ l.length ≤ l.length - 1 - i + (i + 1) := by omega
    have e2 : l.length - 1 - (l.length - 1 - i) = i := by omega
    simp [revI, this, e2]
  · rw [if_neg e1]
    by_cases e2 : i = q
    · subst e2
      have : i < i + 1 ∨ l.length ≤ i + (i + 1) := by omega
      simp [revI, this]
    · rw [if_neg e2]
      have : (q < i + 1 ∨ l.length ≤ q + (i + 1)) ↔ (q < i ∨ l.length ≤ q + i) := by omega
      simp [revI, this]
theorem mlook_mset {κ : Type} [DecidableEq κ] (a b : κ) (d : D) : ∀ ms : List (κ × D), mlook (mset ms a d) b = if b = a then some d else mlook ms b
  | [] => by
    simp only [mset, mlook]
    by_cases e : a = b
    · rw [if_pos e, if_pos e.symm]
    · rw [if_neg e, if_neg (fun h => e h.symm)]
  | q :: r => by
    simp only [mset]
    split
    · rename_i e
      simp only [mlook]
      by_cases e2 : a = b
      · rw [if_pos e2, if_pos e2.symm]
      · rw [if_neg e2, if_neg (fun h => e2 h.symm), if_neg (fun h => e2 (e.symm.trans h))]
    · rename_i e
      simp only [mlook, mlook_mset a b d r]
      by_cases e2 : q.1 = b
      · rw [if_pos e2, if_neg (fun h => e (e2.trans h)), if_pos e2]
      · rw [if_neg e2, if_neg e2]
theorem zero4 : zeroD Tryd.prog 4 = some (.bool false) := by kernel_rfl
/-- Children lie among the nodes, and are not too many. -/
def KidIn (ns : List TN) : Prop := ∀ i, i < ns.length → (∀ x ∈ kidsL (nd ns i), 0 ≤ x ∧ x < ns.length) ∧ (kidsL (nd ns i)).length ≤ 30
theorem snoc_ex {α : Type} {l : List α} (h : 0 < l.length) : ∃ l' x, l = l' ++ [x] := by
  refine ⟨l.dropLast, l.getLast (fun e => by subst e; simp at h), ?_⟩
  exact (List.dropLast_concat_getLast _).symm
theorem right_wide {n : TN} {all : Int} (h : rightB n all = true) : n.l.length ≤ 30 := by
  simp only [rightB, Bool.and_eq_true, Bool.not_eq_true', Bool.or_eq_false_iff, Bool.not_eq_false', decide_eq_true_eq] at h
  exact h.1.2.2.2
theorem rights_kids {ns : List TN} (h : rightsB ns = true) : KidIn ns := by
  intro i hi
  have h1 := rights_nd h hi
  refine ⟨right_kids h1, ?_⟩
  have h2 := right_wide h1
  unfold kidsL
  split
  · simp
  · split <;> simp
    omega
/-- What goes through, goes through each once. -/
theorem Dfs.nodup {α : Type} {kids : α → List α} {out todo r : List α} (h : Dfs kids out todo r) : out.Nodup → r.Nodup := by
  induction h with
  | done out => exact fun h => h
  | skip _ _ ih => exact ih
  | take h _ ih =>
    refine fun ho => ih ?_
    rw [List.nodup_append]
    exact ⟨ho, by simp, fun a ha b hb => by rw [List.mem_singleton.1 hb]; exact fun e => h (e ▸ ha)⟩
theorem Dfs.sub {α : Type} {kids : α → List α} {out todo r : List α} (h : Dfs kids out todo r) : (∀ a ∈ out, a ∈ r) ∧ ∀ a ∈ todo, a ∈ r := by
  induction h with
  | done out => exact ⟨fun a h => h, by simp⟩
  | skip h _ ih =>
    refine ⟨ih.1, fun a ha => ?_⟩
    rcases List.mem_append.1 ha with ha | ha
    · exact ih.2 a ha
    · rw [List.mem_singleton.1 ha]; exact ih.1 _ h
  | take h _ ih =>
    refine ⟨fun a ha => ih.1 a (List.mem_append_left _ ha), fun a ha => ?_⟩
    rcases List.mem_append.1 ha with ha | ha
    · exact ih.2 a (List.mem_append_left _ ha)
    · rw [List.mem_singleton.1 ha]; exact ih.1 _ (by simp)
theorem Dfs.closed {α : Type} {kids : α → List α} {out todo r : List α} (h : Dfs kids out todo r) : (∀ a ∈ out, ∀ b ∈ kids a, b ∈ out ∨ b ∈ todo) → ∀ a ∈ r, ∀ b ∈ kids a, b ∈ r := by
  induction h with
  | done out => exact fun h a ha b hb => (h a ha b hb).resolve_right (by simp)
  | @skip out todo r s h _ ih =>
    refine fun h2 => ih fun a ha b hb => ?_
    rcases h2 a ha b hb with g | g
    · exact .inl g
    · rcases List.mem_append.1 g with g | g
      · exact .inr g
      · rw [List.mem_singleton.1 g]; exact .inl h
  | @take out todo r s h _ ih =>
    refine fun h2 => ih fun a ha b hb => ?_
    rcases List.mem_append.1 ha with ha | ha
    · rcases h2 a ha b hb with g | g
      · exact .inl (List.mem_append_left _ g)
      · rcases List.mem_append.1 g with g | g
        · exact .inr (List.mem_append_left _ g)
        · rw [List.mem_singleton.1 g]; exact .inl (by simp)
    · rw [List.mem_singleton.1 ha] at hb
      exact .inr (List.mem_append_right _ (List.mem_reverse.2 hb))
theorem mset_new {κ : Type} [DecidableEq κ] {a : κ} {d : D} : ∀ {ms : List (κ × D)}, (∀ q ∈ ms, q.1 ≠ a) → mset ms a d = ms ++ [(a, d)]
  | [], _ => rfl
  | q :: r, h => by
    rw [mset, if_neg (h q List.mem_cons_self), mset_new fun x hx => h x (List.mem_cons_of_mem _ hx)]
    rfl
def kidsI (ns : List TN) (x : Int) : List Int := kidsL (nd ns x.toNat)
def okI (ns : List TN) (x : Int) : Prop := 0 ≤ x ∧ x < ns.length
def univI (N : Nat) : List Int := (List.range N).map fun (i : Nat) => (i : Int)
theorem univI_len (N : Nat) : (univI N).length = N := by simp [univI]
theorem univI_mem {ns : List TN} {x : Int} (h : okI ns x) : x ∈ univI ns.length := List.mem_map.2 ⟨x.toNat, List.mem_range.2 (by have := h.1; have := h.2; omega), by have := h.1; omega⟩
structure Bl (ns : List TN) (root : Int) (out td : List Int) : Prop where
  htd : ∀ s ∈ td, okI ns s
  hout : ∀ s ∈ out, okI ns s
  hgo : ∀ r, Dfs (kidsI ns) out td r → Dfs (kidsI ns) [] [root] r
  hlen : unseen (univI ns.length) out + out.length ≤ ns.length
  hfew : td.length + 40 * unseen (univI ns.length) out ≤ 40 * ns.length + 1
theorem Bl.init {ns : List TN} {root : Int} (h : okI ns root) : Bl ns root [] [root] := by
  have hu : unseen (univI ns.length) ([] : List Int) ≤ ns.length := by
    have := List.countP_le_length (p := fun x : Int => !decide (x ∈ ([] : List Int))) (l := univI ns.length)
    rw [univI_len] at this
    exact this
  refine ⟨fun s hs => ?_, by simp, fun _ h => h, by simpa using hu, by simp; omega⟩
  rw [List.mem_singleton.1 hs]
  exact h
theorem Bl.skip {ns : List TN} {root : Int} {out td : List Int} {s : Int} (h : Bl ns root out (td ++ [s])) (hs : s ∈ out) : Bl ns root out td := by
  refine ⟨fun a ha => h.htd a (List.mem_append_left _ ha), h.hout, fun r hr => h.hgo r (.skip hs hr), h.hlen, ?_⟩
  have := h.hfew
  rw [List.length_append] at this
  simp only [List.length_cons, List.length_nil] at this
  omega
theorem Bl.lt {ns : List TN} {root : Int} {out td : List Int} {s : Int} (h : Bl ns root out (td ++ [s])) (hs : s ∉ out) : unseen (univI ns.length) (out ++ [s]) < unseen (univI ns.length) out :=
  unseen_lt hs (univI_mem (h.htd s (by simp)))
theorem Bl.take {ns : List TN} {root : Int} {out td : List Int} {s : Int} (hk : KidIn ns) (h : Bl ns root out (td ++ [s])) (hs : s ∉ out) : Bl ns root (out ++ [s]) (td ++ (kidsI ns s).reverse) := by
  have hok : okI ns s := h.htd s (by simp)
  have hlt := h.lt hs
  obtain ⟨hk1, hkl⟩ := hk s.toNat (by have := hok.1; have := hok.2; omega)
  refine ⟨fun a ha => ?_, fun a ha => ?_, fun r hr => h.hgo r (.take hs hr), ?_, ?_⟩
  · rcases List.mem_append.1 ha with ha | ha
    · exact h.htd a (List.mem_append_left _ ha)
    · exact hk1 a (List.mem_reverse.1 ha)
  · rcases List.mem_append.1 ha with ha | ha
    · exact h.hout a ha
    · rw [List.mem_singleton.1 ha]; exact hok
  · have := h.hlen
    rw [List.length_append]
    simp only [List.length_cons, List.length_nil]
    omega
  · have := h.hfew
    rw [List.length_append] at this
    rw [List.length_append, List.length_reverse]
    simp only [List.length_cons, List.length_nil] at this
    show td.length + (kidsL (nd ns s.toNat)).length + _ ≤ _
    omega
/-- What is below a node. -/
def Belw (ns : List TN) (root : Int) (l : List Int) : Prop := Dfs (kidsI ns) [] [root] l ∧ (∀ s ∈ l, okI ns s) ∧ l.length ≤ ns.length
theorem ints_getD {l : List Int} {i : Nat} (h : i < l.length) : (l.map i64).getD i .nilp = i64 (l.getD i 0) := by simp [h]
/-- The place of a node. -/
def atI (l : List Int) (x : Int) : Int := (l.idxOf x : Nat)
theorem nodup_idx {l : List Int} (hn : l.Nodup) {i : Nat} (hi : i < l.length) : l.idxOf l[i] = i := by
  have hm : l[i] ∈ l := List.getElem_mem hi
  have hl := List.idxOf_lt_length_of_mem hm
  have hp := List.pairwise_iff_getElem.1 hn
  have h : l[l.idxOf l[i]] = l[i] := List.getElem_idxOf hl
  rcases Nat.lt_trichotomy (l.idxOf l[i]) i with g | g | g
  · exact absurd h (hp _ _ hl hi g)
  · exact g
  · exact absurd h.symm (hp _ _ hi hl g)
theorem f33_ok {G} (l : List Int) (hl : l.length ≤ 1000000) : HCall Tryd.prog G 33 [.vw [45, 0] 0 l.length] [([45, 0], .arr none (l.map i64))] [45] (fun r hp' => r = .tup [] ∧ hp' = [([45, 0], .arr none (l.reverse.map i64))]) := by
  refine funO_ok Tryd.func33 rfl (by decide +kernel) (by simp [Tryd.ntmps33]) (veil fun E => ?_)
  simp only [go_sem, Nat.reduceEqDiff, Nat.reduceLT, ↓reduceIte, Nat.reduceAdd, Nat.reduceMul, Nat.reduceLeDiff, Nat.reduceSub, Nat.reduceBEq, Int.reduceEq, Int.reduceLT, Int.reduceLE, Int.reduceToNat, Int.reduceAdd, Int.reduceSub, Int.reduceNeg, UInt8.reduceToNat]
  refine loopO_e E (X := { i : Nat // i ≤ l.length }) (fun x => [(0, .vw [45, 0] 0 l.length), (2, .d (i64 x.1)), (3, .d (i64 ((l.length : Int) - 1 - x.1)))]) (fun x => [([45, 0], .arr none ((revI l x.1).map i64))]) [45] (fun x => l.length - x.1) ⟨0, Nat.zero_le _⟩ ?_ ?_
  · simp only [go_sem, Nat.reduceEqDiff, Nat.reduceLT, ↓reduceIte, Nat.reduceAdd, Nat.reduceMul, Nat.reduceLeDiff, Nat.reduceSub, Nat.reduceBEq, Int.reduceEq, Int.reduceLT, Int.reduceLE, Int.reduceToNat, Int.reduceAdd, Int.reduceSub, Int.reduceNeg, UInt8.reduceToNat]
    rw [w64_in ⟨by omega, by omega⟩, revI_zero]
    exact ⟨congrArg (fun z => AV.d (i64 z)) (by omega), rfl⟩
  rintro ⟨i, hi⟩ E'
  simp only [go_sem, Nat.reduceEqDiff, Nat.reduceLT, ↓reduceIte, Nat.reduceAdd, Nat.reduceMul, Nat.reduceLeDiff, Nat.reduceSub, Nat.reduceBEq, Int.reduceEq, Int.reduceLT, Int.reduceLE, Int.reduceToNat, Int.reduceAdd, Int.reduceSub, Int.reduceNeg, UInt8.reduceToNat]
  refine e_ifd E' (fun h1 => ?_) (fun h1 => ?_) <;> simp only [go_sem, Nat.reduceEqDiff, Nat.reduceLT, ↓reduceIte, Nat.reduceAdd, Nat.reduceMul, Nat.reduceLeDiff, Nat.reduceSub, Nat.reduceBEq, Int.reduceEq, Int.reduceLT, Int.reduceLE, Int.reduceToNat, Int.reduceAdd, Int.reduceSub, Int.reduceNeg, UInt8.reduceToNat]
  · obtain ⟨j, hj⟩ : ∃ j : Nat, j = l.length - 1 - i := ⟨_, rfl⟩
    have hj' : (l.length : Int) - 1 - i = (j : Int) := by omega
    rw [hj']
    refine region_xv mixed E' fun X => ?_
    simp only [go_sem, Nat.reduceEqDiff, Nat.reduceLT, ↓reduceIte, Nat.reduceAdd, Nat.reduceMul, Nat.reduceLeDiff, Nat.reduceSub, Nat.reduceBEq, Int.reduceEq, Int.reduceLT, Int.reduceLE, Int.reduceToNat, Int.reduceAdd, Int.reduceSub, Int.reduceNeg, UInt8.reduceToNat]
    have hjl : j < (revI l i).length := by rw [revI_len]; omega
    have hil : i < (revI l i).length := by rw [revI_len]; omega
    refine ⟨⟨by omega, by omega⟩, ?_⟩
    rw [ints_getD hjl]
    simp only [go_sem, Nat.reduceEqDiff, Nat.reduceLT, ↓reduceIte, Nat.reduceAdd, Nat.reduceMul, Nat.reduceLeDiff, Nat.reduceSub, Nat.reduceBEq, Int.reduceEq, Int.reduceLT, Int.reduceLE, Int.reduceToNat, Int.reduceAdd, Int.reduceSub, Int.reduceNeg, UInt8.reduceToNat]
    refine ⟨⟨by omega, by omega⟩, ?_⟩
    rw [ints_getD hil]
    simp only [go_sem, Nat.reduceEqDiff, Nat.reduceLT, ↓reduceIte, Nat.reduceAdd, Nat.reduceMul, Nat.reduceLeDiff, Nat.reduceSub, Nat.reduceBEq, Int.reduceEq, Int.reduceLT, Int.reduceLE, Int.reduceToNat, Int.reduceAdd, Int.reduceSub, Int.reduceNeg, UInt8.reduceToNat]
    have hji : (revI l i).getD j 0 = l.getD j 0 := by
      rw [revI_get (by omega)]
      rw [if_neg (by omega)]
    have hii : (revI l i).getD i 0 = l.getD i 0 := by
      rw [revI_get (by omega)]
      rw [if_neg (by omega)]
    have hst := revI_step (l := l) (i := i) (by omega)
    rw [← hj] at hst
    refine ⟨⟨by omega, by omega⟩, ⟨by omega, by omega⟩, by decide +kernel, ⟨i + 1, by omega⟩, by show l.length - (i + 1) < _; omega, ⟨by rw [w64_in ⟨by omega, by omega⟩]; rfl, ?_⟩, ?_⟩
    · rw [w64_in ⟨by omega, by omega⟩]
      exact congrArg (fun z => AV.d (i64 z)) (by show (j : Int) - 1 = (l.length : Int) - 1 - ((i + 1 : Nat) : Int); omega)
    · rw [hji, hii]
      show some (Ob.arr none (((List.map i64 (revI l i)).set i (i64 (l.getD j 0))).set j (i64 (l.getD i 0)))) = some (Ob.arr none (List.map i64 (revI l (i + 1))))
      rw [← hst, List.map_set, List.map_set]
  · refine ⟨_, _, [45], id, ⟨rfl, rfl⟩, ?_⟩
    simp only [go_sem, Nat.reduceEqDiff, Nat.reduceLT, ↓reduceIte, Nat.reduceAdd, Nat.reduceMul, Nat.reduceLeDiff, Nat.reduceSub, Nat.reduceBEq, Int.reduceEq, Int.reduceLT, Int.reduceLE, Int.reduceToNat, Int.reduceAdd, Int.reduceSub, Int.reduceNeg, UInt8.reduceToNat]
    rw [revI_end (by omega)]
theorem f32_new {G} (l : List Int) (hl : l.length ≤ 1000000) : HCall Tryd.prog G 32 [.d (intsD l)] [] [] (fun r hp' => r = .vw [0] 0 l.length ∧ hp' = [([0], .arr none (l.map i64))]) := by
  refine HCall.thaw (Q := fun r hp' => (r = .d .nils ∧ hp' = [] ∧ l = []) ∨ (r = .vw [0] 0 l.length ∧ hp' = [([0], .arr none (l.map i64))])) ?_ 0 none (by simp) ?_
  · unfold intsD
    refine funO_ok Tryd.func32 rfl (by decide +kernel) (by simp [Tryd.ntmps32]) (veil fun E => ?_)
    simp only [go_sem, Nat.reduceEqDiff, Nat.reduceLT, ↓reduceIte, Nat.reduceAdd, Nat.reduceMul, Nat.reduceLeDiff, Nat.reduceSub, Nat.reduceBEq, Int.reduceEq, Int.reduceLT, Int.reduceLE, Int.reduceToNat, Int.reduceAdd, Int.reduceSub, Int.reduceNeg, UInt8.reduceToNat]
    refine e_nileq E (e := 3) (by simp only [go_sem, Nat.reduceEqDiff, Nat.reduceLT, ↓reduceIte, Nat.reduceAdd, Nat.reduceMul, Nat.reduceLeDiff, Nat.reduceSub, Nat.reduceBEq, Int.reduceEq, Int.reduceLT, Int.reduceLE, Int.reduceToNat, Int.reduceAdd, Int.reduceSub, Int.reduceNeg, UInt8.reduceToNat]) (by simp only [go_sem, Nat.reduceEqDiff, Nat.reduceLT, ↓reduceIte, Nat.reduceAdd, Nat.reduceMul, Nat.reduceLeDiff, Nat.reduceSub, Nat.reduceBEq, Int.reduceEq, Int.reduceLT, Int.reduceLE, Int.reduceToNat, Int.reduceAdd, Int.reduceSub, Int.reduceNeg, UInt8.reduceToNat]) rfl fun b hb => ?_
    simp only [go_sem, Nat.reduceEqDiff, Nat.reduceLT, ↓reduceIte, Nat.reduceAdd, Nat.reduceMul, Nat.reduceLeDiff, Nat.reduceSub, Nat.reduceBEq, Int.reduceEq, Int.reduceLT, Int.reduceLE, Int.reduceToNat, Int.reduceAdd, Int.reduceSub, Int.reduceNeg, UInt8.reduceToNat]
    refine e_if E (fun h => ?_) (fun h => ?_) <;> simp only [go_sem, Nat.reduceEqDiff, Nat.reduceLT, ↓reduceIte, Nat.reduceAdd, Nat.reduceMul, Nat.reduceLeDiff, Nat.reduceSub, Nat.reduceBEq, Int.reduceEq, Int.reduceLT, Int.reduceLE, Int.reduceToNat, Int.reduceAdd, Int.reduceSub, Int.reduceNeg, UInt8.reduceToNat]
    · have : l = [] := by simpa using hb h
      subst this
      refine ⟨_, [], [], id, .inl ⟨rfl, rfl, rfl⟩, ?_⟩
      simp only [go_sem, Nat.reduceEqDiff, Nat.reduceLT, ↓reduceIte, Nat.reduceAdd, Nat.reduceMul, Nat.reduceLeDiff, Nat.reduceSub, Nat.reduceBEq, Int.reduceEq, Int.reduceLT, Int.reduceLE, Int.reduceToNat, Int.reduceAdd, Int.reduceSub, Int.reduceNeg, UInt8.reduceToNat]
    · refine ⟨by omega, _, _, [0], tau [([0], [7])], .inr ⟨rfl, rfl⟩, ?_⟩
      simp only [go_sem, Nat.reduceEqDiff, Nat.reduceLT, ↓reduceIte, Nat.reduceAdd, Nat.reduceMul, Nat.reduceLeDiff, Nat.reduceSub, Nat.reduceBEq, Int.reduceEq, Int.reduceLT, Int.reduceLE, Int.reduceToNat, Int.reduceAdd, Int.reduceSub, Int.reduceNeg, UInt8.reduceToNat]
  · rintro r hp' (⟨rfl, rfl, rfl⟩ | h)
    · exact .inr ⟨rfl, rfl, rfl, rfl⟩
    · exact .inl h
/-- It comes to an end. -/
theorem Dfs.ex {ns : List TN} {root : Int} (hk : KidIn ns) : ∀ (m : Nat) (out td : List Int), td.length + 40 * unseen (univI ns.length) out ≤ m → Bl ns root out td → ∃ r, Dfs (kidsI ns) out td r := by
  intro m
  induction m with
  | zero =>
    intro out td h hb
    have : td = [] := List.eq_nil_of_length_eq_zero (by omega)
    subst this
    exact ⟨_, .done _⟩
  | succ m ih =>
    intro out td h hb
    by_cases h0 : td = []
    · subst h0; exact ⟨_, .done _⟩
    obtain ⟨td, x, rfl⟩ := snoc_ex (l := td) (List.length_pos_iff.2 h0)
    rw [List.length_append] at h
    simp only [List.length_cons, List.length_nil] at h
    by_cases hx : x ∈ out
    · obtain ⟨r, hr⟩ := ih out td (by omega) (hb.skip hx)
      exact ⟨r, .skip hx hr⟩
    · have h1 := hb.lt hx
      have hok := hb.htd x (by simp)
      have h2 : (kidsI ns x).length ≤ 30 := (hk x.toNat (by have := hok.1; have := hok.2; omega)).2
      obtain ⟨r, hr⟩ := ih (out ++ [x]) (td ++ (kidsI ns x).reverse) (by rw [List.length_append, List.length_reverse]; omega) (hb.take hk hx)
      exact ⟨r, .take hx hr⟩
theorem Belw.ex {ns : List TN} {root : Int} (hk : KidIn ns) (hr : okI ns root) : ∃ l, Belw ns root l := by
  obtain ⟨r, h⟩ := Dfs.ex hk _ [] [root] (Nat.le_refl _) (.init hr)
  refine ⟨r, h, ?_⟩
  have : ∀ {out td r : List Int}, Dfs (kidsI ns) out td r → Bl ns root out td → (∀ s ∈ r, okI ns s) ∧ r.length ≤ ns.length := by
    intro out td r h
    induction h with
    | done out => exact fun hb => ⟨hb.hout, by have := hb.hlen; omega⟩
    | skip hs _ ih => exact fun hb => ih (hb.skip hs)
    | take hs _ ih => exact fun hb => ih (hb.take hk hs)
  exact this h (.init hr)
theorem Dfs.skip_inv {α : Type} {kids : α → List α} {out td r : List α} {s : α} (h : Dfs kids out (td ++ [s]) r) (hs : s ∈ out) : Dfs kids out td r := by
  generalize ht : td ++ [s] = t at h
  cases h with
  | done => simp at ht
  | skip h1 t1 => obtain ⟨rfl, rfl⟩ := snoc_inj ht; exact t1
  | take h1 t1 => obtain ⟨rfl, rfl⟩ := snoc_inj ht; exact absurd hs h1
theorem Dfs.take_inv {α : Type} {kids : α → List α} {out td r : List α} {s : α} (h : Dfs kids out (td ++ [s]) r) (hs : s ∉ out) : Dfs kids (out ++ [s]) (td ++ (kids s).reverse) r := by
  generalize ht : td ++ [s] = t at h
  cases h with
  | done => simp at ht
  | skip h1 t1 => obtain ⟨rfl, rfl⟩ := snoc_inj ht; exact absurd h1 hs
  | take h1 t1 => obtain ⟨rfl, rfl⟩ := snoc_inj ht; exact t1
theorem Dfs.done_inv {α : Type} {kids : α → List α} {out r : List α} (h : Dfs kids out [] r) : r = out := (Dfs.done out).fn h |>.symm
theorem Dfs.pre {α : Type} {kids : α → List α} {out td r : List α} (h : Dfs kids out td r) : ∃ z, r = out ++ z := by
  induction h with
  | done out => exact ⟨[], by simp⟩
  | skip _ _ ih => exact ih
  | @take out td r s _ _ ih => obtain ⟨z, rfl⟩ := ih; exact ⟨s :: z, by simp⟩
end Go.Proofs.YtjoneaifakonjaaDoor
