/-
  All spots, walked.
-/
import Derived.Test.YtmplpdjddjiioaaX2
set_option linter.all false
namespace Go.Proofs.Ytmplpdjddjiioaa
open Go.Ab
def spK : Spot → D := keP .i64 .i64
def spV : Spot → Value := kvP .i64 .i64
def twoInts (t : Option TypeDesc) : Bool := match t with
  | some (.struct ⟨[f0, f1]⟩) => f0.offset == 0 && f1.offset == 1 && f0.type == 3 && f1.type == 3
  | _ => false
theorem twoInts_some : ∀ {t : Option TypeDesc}, twoInts t = true → ∃ f0 f1 : Field, t = some (.struct #[f0, f1]) ∧ f0.offset = 0 ∧ f1.offset = 1 ∧ f0.type = 3 ∧ f1.type = 3
  | some (.struct ⟨[f0, f1]⟩), h => by
    simp only [twoInts, Bool.and_eq_true, beq_iff_eq] at h
    exact ⟨f0, f1, rfl, h.1.1.1, h.1.1.2, h.1.2, h.2⟩
theorem f57 : ∃ f0 f1 : Field, Try.prog.underlying 57 = some (.struct #[f0, f1]) ∧ f0.offset = 0 ∧ f1.offset = 1 ∧ f0.type = 3 ∧ f1.type = 3 :=
  twoInts_some (by kernel_rfl)
theorem keySpot : KeyE Try.prog 57 spK spV := by
  obtain ⟨f0, f1, h, h0, h1, h2, h3⟩ := f57
  exact keyPair h h0 h1 (by rw [h2, ti3]) (by rw [h3, ti3]) (by kernel_rfl) (by rw [ti57, h2, h3])
theorem mlook_mset {κ : Type} [DecidableEq κ] (a b : κ) (d : D) : ∀ ms : List (κ × D), mlook (mset ms a d) b = if b = a then some d else mlook ms b
  | [] => by
    simp only [mset, mlook]
    by_cases e : a = b
    · rw [if_pos e, if_pos e.symm]
    · rw [if_neg e, if_neg (fun h => e h.symm)]
  | q :: r => by
    simp only [mset]
    split
    · rename_i e
      simp only [mlook]
      by_cases e2 : a = b
      · rw [if_pos e2, if_pos e2.symm]
      · rw [if_neg e2, if_neg (fun h => e2 h.symm), if_neg (fun h => e2 (e.symm.trans h))]
    · rename_i e
      simp only [mlook, mlook_mset a b d r]
      by_cases e2 : q.1 = b
      · rw [if_pos e2, if_neg (fun h => e (e2.trans h)), if_pos e2]
      · rw [if_neg e2, if_neg e2]
theorem zero4 : zeroD Try.prog 4 = some (.bool false) := by kernel_rfl
def okS (ns : List TN) (s : Spot) : Prop := (0 ≤ s.1 ∧ s.1 < ns.length) ∧ (s.2 = 1 ∨ s.2 = 2)
/-- Children lie among the nodes, and are not too many. -/
def KidIn (ns : List TN) : Prop := ∀ i, i < ns.length → (∀ x ∈ kidsL (nd ns i), 0 ≤ x ∧ x < ns.length) ∧ (kidsL (nd ns i)).length ≤ 30
def univ (N : Nat) : List Spot := (List.range N).flatMap fun (i : Nat) => [((i : Int), (1 : Int)), ((i : Int), (2 : Int))]
theorem univ_len : ∀ N, (univ N).length = 2 * N
  | 0 => rfl
  | N + 1 => by
    have := univ_len N
    unfold univ at this ⊢
    rw [List.range_succ, List.flatMap_append, List.length_append, this]
    simp
    omega
theorem univ_mem {ns : List TN} {s : Spot} (h : okS ns s) : s ∈ univ ns.length := by
  obtain ⟨a, b⟩ := s
  obtain ⟨⟨h1, h2⟩, h3⟩ := h
  simp only at h1 h2 h3
  refine List.mem_flatMap.2 ⟨a.toNat, List.mem_range.2 (by omega), ?_⟩
  have : ((a.toNat : Nat) : Int) = a := by omega
  rw [this]
  rcases h3 with rfl | rfl <;> simp
theorem flip_ok {s : Int} (h : s = 1 ∨ s = 2) : flipZ s = 1 ∨ flipZ s = 2 := by
  rcases h with rfl | rfl
  · exact .inr rfl
  · exact .inl rfl
theorem kids_ok {ns : List TN} (hk : KidIn ns) {s : Spot} (h : okS ns s) : ∀ t ∈ kidsS ns s, okS ns t := by
  intro t ht
  obtain ⟨⟨h1, h2⟩, h3⟩ := h
  obtain ⟨j, hj, rfl⟩ := List.mem_map.1 ht
  have hj := List.mem_range.1 hj
  have hx := (hk s.1.toNat (by omega)).1 _ (List.getElem_mem hj)
  rw [getD_of hj] at hx
  refine ⟨hx, ?_⟩
  simp only [kidS]
  split
  · exact flip_ok h3
  · exact h3
theorem kidsS_len (ns : List TN) (s : Spot) : (kidsS ns s).length = (kidsL (nd ns s.1.toNat)).length := by simp [kidsS, kidsN]
/-- What stands in the walk's loop. -/
structure Sp (ns : List TN) (root : Int) (out td : List Spot) (ms : List (Spot × D)) : Prop where
  htd : ∀ s ∈ td, okS ns s
  hout : ∀ s ∈ out, okS ns s
  hms : ∀ s : Spot, mlook ms s = if s ∈ out then some (.bool true) else none
  hgo : ∀ r, Dfs (kidsS ns) out td r → Dfs (kidsS ns) [] [(root, 1)] r
  hlen : unseen (univ ns.length) out + out.length ≤ 2 * ns.length
  hfew : td.length + 40 * unseen (univ ns.length) out ≤ 80 * ns.length + 1
theorem Sp.init {ns : List TN} {root : Int} (h : 0 ≤ root ∧ root < ns.length) : Sp ns root [] [(root, 1)] [] := by
  have hu : unseen (univ ns.length) ([] : List Spot) ≤ 2 * ns.length := by
    have := List.countP_le_length (p := fun x : Spot => !decide (x ∈ ([] : List Spot))) (l := univ ns.length)
    rw [univ_len] at this
    exact this
  refine ⟨fun s hs => ?_, by simp, fun s => rfl, fun _ h => h, by simpa using hu, by simp; omega⟩
  rw [List.mem_singleton.1 hs]
  exact ⟨h, .inl rfl⟩
theorem Sp.skip {ns : List TN} {root : Int} {out td : List Spot} {s : Spot} {ms : List (Spot × D)} (h : Sp ns root out (td ++ [s]) ms) (hs : s ∈ out) : Sp ns root out td ms := by
  refine ⟨fun a ha => h.htd a (List.mem_append_left _ ha), h.hout, h.hms, fun r hr => h.hgo r (.skip hs hr), h.hlen, ?_⟩
  have := h.hfew
  rw [List.length_append] at this
  simp only [List.length_cons, List.length_nil] at this
  omega
theorem Sp.kidsLe {ns : List TN} {root : Int} {out td : List Spot} {s : Spot} {ms : List (Spot × D)} (hk : KidIn ns) (h : Sp ns root out (td ++ [s]) ms) : (kidsS ns s).length ≤ 30 := by
  have hok : okS ns s := h.htd s (by simp)
  rw [kidsS_len]
  exact (hk _ (by obtain ⟨⟨h1, h2⟩, _⟩ := hok; omega)).2
theorem Sp.lt {ns : List TN} {root : Int} {out td : List Spot} {s : Spot} {ms : List (Spot × D)} (h : Sp ns root out (td ++ [s]) ms) (hs : s ∉ out) : unseen (univ ns.length) (out ++ [s]) < unseen (univ ns.length) out :=
  unseen_lt hs (univ_mem (h.htd s (by simp)))
theorem Sp.take {ns : List TN} {root : Int} {out td : List Spot} {s : Spot} {ms : List (Spot × D)} (hk : KidIn ns) (h : Sp ns root out (td ++ [s]) ms) (hs : s ∉ out) : Sp ns root (out ++ [s]) (td ++ (kidsS ns s).reverse) (mset ms s (.bool true)) := by
  have hok : okS ns s := h.htd s (by simp)
  have hlt := h.lt hs
  have hkl := h.kidsLe hk
  refine ⟨fun a ha => ?_, fun a ha => ?_, fun a => ?_, fun r hr => h.hgo r (.take hs hr), ?_, ?_⟩
  · rcases List.mem_append.1 ha with ha | ha
    · exact h.htd a (List.mem_append_left _ ha)
    · exact kids_ok hk hok a (List.mem_reverse.1 ha)
  · rcases List.mem_append.1 ha with ha | ha
    · exact h.hout a ha
    · rw [List.mem_singleton.1 ha]; exact hok
  · rw [mlook_mset, h.hms]
    by_cases e : a = s
    · subst e; simp
    · simp [e]
  · have := h.hlen
    rw [List.length_append]
    simp only [List.length_cons, List.length_nil]
    omega
  · have := h.hfew
    rw [List.length_append] at this
    rw [List.length_append, List.length_reverse]
    simp only [List.length_cons, List.length_nil] at this
    omega
theorem snoc_ex {α : Type} {l : List α} (h : 0 < l.length) : ∃ l' x, l = l' ++ [x] := by
  refine ⟨l.dropLast, l.getLast (fun e => by subst e; simp at h), ?_⟩
  exact (List.dropLast_concat_getLast _).symm
theorem f21_ok {G} (ns : List TN) (root : Int) (hN : ns.length ≤ 2000) (hfl : ∀ n ∈ ns, n.l.length ≤ 1000000) (hk : KidIn ns) (hr : 0 ≤ root ∧ root < ns.length) :
    HP Try.prog G 21 [typeS ns root] (fun r => ∃ l, r = .d (.sl (some 2) (l.map spotD)) ∧ Dfs (kidsS ns) [] [(root, 1)] l ∧ (∀ s ∈ l, okS ns s) ∧ l.length ≤ 2 * ns.length) := by
  unfold typeS
  refine funZ_ok Try.func21 rfl (by decide +kernel) (by simp [Try.ntmps21]) (veil fun E => ?_)
  simp only [go_sem, Nat.reduceEqDiff, Nat.reduceLT, ↓reduceIte, Nat.reduceAdd, Nat.reduceMul, Nat.reduceLeDiff, Nat.reduceSub, Nat.reduceBEq, Int.reduceEq, Int.reduceLT, Int.reduceLE, Int.reduceToNat, Int.reduceAdd, Int.reduceSub, Int.reduceNeg, UInt8.reduceToNat]
  refine e_makeMap E (by simp only [go_sem, Nat.reduceEqDiff, Nat.reduceLT, ↓reduceIte, Nat.reduceAdd, Nat.reduceMul, Nat.reduceLeDiff, Nat.reduceSub, Nat.reduceBEq, Int.reduceEq, Int.reduceLT, Int.reduceLE, Int.reduceToNat, Int.reduceAdd, Int.reduceSub, Int.reduceNeg, UInt8.reduceToNat]) (by rw [mk_used]; decide) ?_
  simp only [go_sem, Nat.reduceEqDiff, Nat.reduceLT, ↓reduceIte, Nat.reduceAdd, Nat.reduceMul, Nat.reduceLeDiff, Nat.reduceSub, Nat.reduceBEq, Int.reduceEq, Int.reduceLT, Int.reduceLE, Int.reduceToNat, Int.reduceAdd, Int.reduceSub, Int.reduceNeg, UInt8.reduceToNat]
  refine c_frB E [1] (.agg [.sl (some 4) (ns.map nodeD), i64 root]) rfl rfl ?_
  simp only [go_sem, Nat.reduceEqDiff, Nat.reduceLT, ↓reduceIte, Nat.reduceAdd, Nat.reduceMul, Nat.reduceLeDiff, Nat.reduceSub, Nat.reduceBEq, Int.reduceEq, Int.reduceLT, Int.reduceLE, Int.reduceToNat, Int.reduceAdd, Int.reduceSub, Int.reduceNeg, UInt8.reduceToNat]
  refine c_thaw E 4 98 (some 2) rfl (by rw [mk_used]; decide) ?_
  simp only [go_sem, Nat.reduceEqDiff, Nat.reduceLT, ↓reduceIte, Nat.reduceAdd, Nat.reduceMul, Nat.reduceLeDiff, Nat.reduceSub, Nat.reduceBEq, Int.reduceEq, Int.reduceLT, Int.reduceLE, Int.reduceToNat, Int.reduceAdd, Int.reduceSub, Int.reduceNeg, UInt8.reduceToNat]
  refine loopT_e E (X := { x : List Spot × List Spot × List Spot × List (Spot × D) // Sp ns root x.1 x.2.1 x.2.2.2 }) (fun x => [(1, .d (.ptr (.agg [.sl (some 4) (ns.map nodeD), i64 root]))), (3, .mp [8]), (4, .vw [98] 0 x.1.1.length), (5, .vw [99] 0 x.1.2.1.length)])
    (fun x => [([8], .map (menc spK x.1.2.2.2)), ([98], .arr (some 2) (x.1.1.map spotD)), ([99], .arr (some 2) ((x.1.2.1 ++ x.1.2.2.1).map spotD))]) [8, 98, 99] (fun x => x.1.2.1.length + 40 * unseen (univ ns.length) x.1.1) ⟨([], [(root, 1)], [], []), .init hr⟩ (tau [([99], [12])]) ?_ ?_
  · simp only [go_sem, Nat.reduceEqDiff, Nat.reduceLT, ↓reduceIte, Nat.reduceAdd, Nat.reduceMul, Nat.reduceLeDiff, Nat.reduceSub, Nat.reduceBEq, Int.reduceEq, Int.reduceLT, Int.reduceLE, Int.reduceToNat, Int.reduceAdd, Int.reduceSub, Int.reduceNeg, UInt8.reduceToNat]
    rfl
  rintro ⟨⟨out, td, rest, ms⟩, hsp⟩ E0
  refine hideQ E0 fun Q' hQ E' => ?_
  simp only at hsp ⊢
  simp only [go_sem, Nat.reduceEqDiff, Nat.reduceLT, ↓reduceIte, Nat.reduceAdd, Nat.reduceMul, Nat.reduceLeDiff, Nat.reduceSub, Nat.reduceBEq, Int.reduceEq, Int.reduceLT, Int.reduceLE, Int.reduceToNat, Int.reduceAdd, Int.reduceSub, Int.reduceNeg, UInt8.reduceToNat]
  refine e_ifd E' (fun h1 => ?_) (fun h1 => ?_) <;> simp only [go_sem, Nat.reduceEqDiff, Nat.reduceLT, ↓reduceIte, Nat.reduceAdd, Nat.reduceMul, Nat.reduceLeDiff, Nat.reduceSub, Nat.reduceBEq, Int.reduceEq, Int.reduceLT, Int.reduceLE, Int.reduceToNat, Int.reduceAdd, Int.reduceSub, Int.reduceNeg, UInt8.reduceToNat]
  · obtain ⟨td, ⟨s1, side⟩, rfl⟩ := snoc_ex (l := td) (by omega)
    have hok : okS ns (s1, side) := hsp.htd _ (by simp)
    obtain ⟨x, rfl⟩ : ∃ x : Nat, s1 = (x : Int) := ⟨s1.toNat, by have := hok.1.1; simp only at this; omega⟩
    have hxl : x < ns.length := by have := hok.1.2; simp only at this; omega
    have hks : kidsS ns ((x : Int), side) = kidsN (nd ns x) side := rfl
    have hkl := hsp.kidsLe hk
    rw [hks] at hkl
    have hfew := hsp.hfew
    have hlt : (td ++ [((x : Int), side)]).length = td.length + 1 := by simp
    have hw : w64 (((td ++ [((x : Int), side)]).length : Int) - 1) = (td.length : Int) := by rw [w64_in ⟨by omega, by omega⟩]; omega
    rw [hw]
    refine ⟨⟨by omega, by omega⟩, ?_⟩
    have hx : (List.map spotD (td ++ [((x : Int), side)] ++ rest)).getD (td.length : Int).toNat .nilp = .agg [i64 x, i64 side] := by simp [spotD]
    rw [hx]
    simp only [go_sem, Nat.reduceEqDiff, Nat.reduceLT, ↓reduceIte, Nat.reduceAdd, Nat.reduceMul, Nat.reduceLeDiff, Nat.reduceSub, Nat.reduceBEq, Int.reduceEq, Int.reduceLT, Int.reduceLE, Int.reduceToNat, Int.reduceAdd, Int.reduceSub, Int.reduceNeg, UInt8.reduceToNat]
    rw [hw]
    refine ⟨⟨by omega, by omega⟩, ?_⟩
    refine e_lookup E' [8] ms ((x : Int), side) (.bool false) (by rw [ti71]) keySpot zero4 rfl rfl rfl (by simp) ?_
    rw [hsp.hms]
    by_cases hm : ((x : Int), side) ∈ out
    · rw [if_pos hm]
      simp only [go_sem, Nat.reduceEqDiff, Nat.reduceLT, ↓reduceIte, Nat.reduceAdd, Nat.reduceMul, Nat.reduceLeDiff, Nat.reduceSub, Nat.reduceBEq, Int.reduceEq, Int.reduceLT, Int.reduceLE, Int.reduceToNat, Int.reduceAdd, Int.reduceSub, Int.reduceNeg, UInt8.reduceToNat]
      rw [hQ]
      simp only [go_sem, Nat.reduceEqDiff, Nat.reduceLT, ↓reduceIte, Nat.reduceAdd, Nat.reduceMul, Nat.reduceLeDiff, Nat.reduceSub, Nat.reduceBEq, Int.reduceEq, Int.reduceLT, Int.reduceLE, Int.reduceToNat, Int.reduceAdd, Int.reduceSub, Int.reduceNeg, UInt8.reduceToNat]
      refine ⟨⟨(out, td, ((x : Int), side) :: rest, ms), hsp.skip hm⟩, ?_, id, ?_⟩
      · show td.length + _ < (td ++ [((x : Int), side)]).length + _
        rw [hlt]
        show td.length + 40 * unseen (univ ns.length) out < _
        omega
      simp only [go_sem, Nat.reduceEqDiff, Nat.reduceLT, ↓reduceIte, Nat.reduceAdd, Nat.reduceMul, Nat.reduceLeDiff, Nat.reduceSub, Nat.reduceBEq, Int.reduceEq, Int.reduceLT, Int.reduceLE, Int.reduceToNat, Int.reduceAdd, Int.reduceSub, Int.reduceNeg, UInt8.reduceToNat]
      simp
    · rw [if_neg hm]
      simp only [go_sem, Nat.reduceEqDiff, Nat.reduceLT, ↓reduceIte, Nat.reduceAdd, Nat.reduceMul, Nat.reduceLeDiff, Nat.reduceSub, Nat.reduceBEq, Int.reduceEq, Int.reduceLT, Int.reduceLE, Int.reduceToNat, Int.reduceAdd, Int.reduceSub, Int.reduceNeg, UInt8.reduceToNat]
      refine e_mapUpdate E' [8] ms ((x : Int), side) (.bool true) (by rw [ti71]) keySpot rfl rfl rfl rfl rfl ?_
      simp only [go_sem, Nat.reduceEqDiff, Nat.reduceLT, ↓reduceIte, Nat.reduceAdd, Nat.reduceMul, Nat.reduceLeDiff, Nat.reduceSub, Nat.reduceBEq, Int.reduceEq, Int.reduceLT, Int.reduceLE, Int.reduceToNat, Int.reduceAdd, Int.reduceSub, Int.reduceNeg, UInt8.reduceToNat]
      refine ⟨?_, ?_⟩
      · have := hsp.hlen
        omega
      refine e_callO E' [.d (typeS ns root), .d (.agg [i64 x, i64 side])] [] [] (f23_ok ns root x side hxl hfl) rfl rfl ⟨by simp only [go_sem, Nat.reduceEqDiff, Nat.reduceLT, ↓reduceIte, Nat.reduceAdd, Nat.reduceMul, Nat.reduceLeDiff, Nat.reduceSub, Nat.reduceBEq, Int.reduceEq, Int.reduceLT, Int.reduceLE, Int.reduceToNat, Int.reduceAdd, Int.reduceSub, Int.reduceNeg, UInt8.reduceToNat], by rw [mk_used]; decide⟩ rfl (by simp only [go_sem, Nat.reduceEqDiff, Nat.reduceLT, ↓reduceIte, Nat.reduceAdd, Nat.reduceMul, Nat.reduceLeDiff, Nat.reduceSub, Nat.reduceBEq, Int.reduceEq, Int.reduceLT, Int.reduceLE, Int.reduceToNat, Int.reduceAdd, Int.reduceSub, Int.reduceNeg, UInt8.reduceToNat]) (by simp only [go_sem, Nat.reduceEqDiff, Nat.reduceLT, ↓reduceIte, Nat.reduceAdd, Nat.reduceMul, Nat.reduceLeDiff, Nat.reduceSub, Nat.reduceBEq, Int.reduceEq, Int.reduceLT, Int.reduceLE, Int.reduceToNat, Int.reduceAdd, Int.reduceSub, Int.reduceNeg, UInt8.reduceToNat]) ?_
      rintro _ _ ⟨rfl, rfl⟩
      simp only [go_sem, Nat.reduceEqDiff, Nat.reduceLT, ↓reduceIte, Nat.reduceAdd, Nat.reduceMul, Nat.reduceLeDiff, Nat.reduceSub, Nat.reduceBEq, Int.reduceEq, Int.reduceLT, Int.reduceLE, Int.reduceToNat, Int.reduceAdd, Int.reduceSub, Int.reduceNeg, UInt8.reduceToNat]
      refine e_callO E' [.vw [38, 0] 0 (kidsN (nd ns x) side).length] [([38, 0], .arr (some 2) ((kidsN (nd ns x) side).map spotD))] [38] (f36_ok _ (by omega)) rfl rfl ⟨by simp only [go_sem, Nat.reduceEqDiff, Nat.reduceLT, ↓reduceIte, Nat.reduceAdd, Nat.reduceMul, Nat.reduceLeDiff, Nat.reduceSub, Nat.reduceBEq, Int.reduceEq, Int.reduceLT, Int.reduceLE, Int.reduceToNat, Int.reduceAdd, Int.reduceSub, Int.reduceNeg, UInt8.reduceToNat], by rw [mk_used]; decide⟩ rfl (by simp only [go_sem, Nat.reduceEqDiff, Nat.reduceLT, ↓reduceIte, Nat.reduceAdd, Nat.reduceMul, Nat.reduceLeDiff, Nat.reduceSub, Nat.reduceBEq, Int.reduceEq, Int.reduceLT, Int.reduceLE, Int.reduceToNat, Int.reduceAdd, Int.reduceSub, Int.reduceNeg, UInt8.reduceToNat]) (by simp only [go_sem, Nat.reduceEqDiff, Nat.reduceLT, ↓reduceIte, Nat.reduceAdd, Nat.reduceMul, Nat.reduceLeDiff, Nat.reduceSub, Nat.reduceBEq, Int.reduceEq, Int.reduceLT, Int.reduceLE, Int.reduceToNat, Int.reduceAdd, Int.reduceSub, Int.reduceNeg, UInt8.reduceToNat]) ?_
      rintro _ _ ⟨rfl, rfl⟩
      simp only [go_sem, Nat.reduceEqDiff, Nat.reduceLT, ↓reduceIte, Nat.reduceAdd, Nat.reduceMul, Nat.reduceLeDiff, Nat.reduceSub, Nat.reduceBEq, Int.reduceEq, Int.reduceLT, Int.reduceLE, Int.reduceToNat, Int.reduceAdd, Int.reduceSub, Int.reduceNeg, UInt8.reduceToNat]
      have hrl : (List.take (kidsN (nd ns x) side).length (List.map spotD (kidsN (nd ns x) side).reverse)) = List.map spotD (kidsN (nd ns x) side).reverse := List.take_of_length_le (by simp)
      have htl : List.take (td.length - 0) (List.map spotD (td ++ [((x : Int), side)] ++ rest)) = List.map spotD td := by
        rw [Nat.sub_zero, List.append_assoc, List.map_append, List.take_append_of_le_length (by simp), List.take_of_length_le (by simp)]
      rw [hrl, htl, hQ]
      simp only [go_sem, Nat.reduceEqDiff, Nat.reduceLT, ↓reduceIte, Nat.reduceAdd, Nat.reduceMul, Nat.reduceLeDiff, Nat.reduceSub, Nat.reduceBEq, Int.reduceEq, Int.reduceLT, Int.reduceLE, Int.reduceToNat, Int.reduceAdd, Int.reduceSub, Int.reduceNeg, UInt8.reduceToNat]
      have htk := hsp.take hk hm
      have hlt2 := hsp.lt hm
      refine ⟨by simp, ?_, ⟨(out ++ [((x : Int), side)], td ++ (kidsS ns ((x : Int), side)).reverse, [], mset ms ((x : Int), side) (.bool true)), htk⟩, ?_, tau [([98], [35]), ([99], [43])], ?_⟩
      · simp only [List.length_map, List.length_reverse]
        omega
      · show (td ++ (kidsS ns ((x : Int), side)).reverse).length + 40 * unseen (univ ns.length) (out ++ [((x : Int), side)]) < (td ++ [((x : Int), side)]).length + 40 * unseen (univ ns.length) out
        rw [hks, List.length_append, List.length_reverse]
        omega
      simp only [go_sem, Nat.reduceEqDiff, Nat.reduceLT, ↓reduceIte, Nat.reduceAdd, Nat.reduceMul, Nat.reduceLeDiff, Nat.reduceSub, Nat.reduceBEq, Int.reduceEq, Int.reduceLT, Int.reduceLE, Int.reduceToNat, Int.reduceAdd, Int.reduceSub, Int.reduceNeg, UInt8.reduceToNat]
      rw [hks]
      simp [spotD]
  · rw [hQ]
    simp only [go_sem, Nat.reduceEqDiff, Nat.reduceLT, ↓reduceIte, Nat.reduceAdd, Nat.reduceMul, Nat.reduceLeDiff, Nat.reduceSub, Nat.reduceBEq, Int.reduceEq, Int.reduceLT, Int.reduceLE, Int.reduceToNat, Int.reduceAdd, Int.reduceSub, Int.reduceNeg, UInt8.reduceToNat]
    have : td = [] := List.eq_nil_of_length_eq_zero (by omega)
    subst this
    refine ⟨[([98], some 2, out.map spotD)], ?_⟩
    simp only [go_sem, Nat.reduceEqDiff, Nat.reduceLT, ↓reduceIte, Nat.reduceAdd, Nat.reduceMul, Nat.reduceLeDiff, Nat.reduceSub, Nat.reduceBEq, Int.reduceEq, Int.reduceLT, Int.reduceLE, Int.reduceToNat, Int.reduceAdd, Int.reduceSub, Int.reduceNeg, UInt8.reduceToNat]
    exact ⟨out, rfl, hsp.hgo _ (.done _), hsp.hout, by have := hsp.hlen; omega⟩
end Go.Proofs.Ytmplpdjddjiioaa
