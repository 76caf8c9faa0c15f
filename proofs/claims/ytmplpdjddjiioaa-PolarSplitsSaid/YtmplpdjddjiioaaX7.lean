/-
  What is below a node, in order: the document's answer.
-/
import Derived.Test.YtmplpdjddjiioaaX6
import Derived.Test.YtmplpdjddjiioaaI3
set_option linter.all false
namespace Go.Proofs.Ytmplpdjddjiioaa
open Go.Ab
def kidsI (ns : List TN) (x : Int) : List Int := kidsL (nd ns x.toNat)
def okI (ns : List TN) (x : Int) : Prop := 0 ≤ x ∧ x < ns.length
def univI (N : Nat) : List Int := (List.range N).map fun (i : Nat) => (i : Int)
theorem univI_len (N : Nat) : (univI N).length = N := by simp [univI]
theorem univI_mem {ns : List TN} {x : Int} (h : okI ns x) : x ∈ univI ns.length := List.mem_map.2 ⟨x.toNat, List.mem_range.2 (by have := h.1; have := h.2; omega), by have := h.1; omega⟩
structure Bl (ns : List TN) (root : Int) (out td : List Int) : Prop where
  htd : ∀ s ∈ td, okI ns s
  hout : ∀ s ∈ out, okI ns s
  hgo : ∀ r, Dfs (kidsI ns) out td r → Dfs (kidsI ns) [] [root] r
  hlen : unseen (univI ns.length) out + out.length ≤ ns.length
  hfew : td.length + 40 * unseen (univI ns.length) out ≤ 40 * ns.length + 1
theorem Bl.init {ns : List TN} {root : Int} (h : okI ns root) : Bl ns root [] [root] := by
  have hu : unseen (univI ns.length) ([] : List Int) ≤ ns.length := by
    have := List.countP_le_length (p := fun x : Int => !decide (x ∈ ([] : List Int))) (l := univI ns.length)
    rw [univI_len] at this
    exact this
  refine ⟨fun s hs => ?_, by simp, fun _ h => h, by simpa using hu, by simp; omega⟩
  rw [List.mem_singleton.1 hs]
  exact h
theorem Bl.skip {ns : List TN} {root : Int} {out td : List Int} {s : Int} (h : Bl ns root out (td ++ [s])) (hs : s ∈ out) : Bl ns root out td := by
  refine ⟨fun a ha => h.htd a (List.mem_append_left _ ha), h.hout, fun r hr => h.hgo r (.skip hs hr), h.hlen, ?_⟩
  have := h.hfew
  rw [List.length_append] at this
  simp only [List.length_cons, List.length_nil] at this
  omega
theorem Bl.lt {ns : List TN} {root : Int} {out td : List Int} {s : Int} (h : Bl ns root out (td ++ [s])) (hs : s ∉ out) : unseen (univI ns.length) (out ++ [s]) < unseen (univI ns.length) out :=
  unseen_lt hs (univI_mem (h.htd s (by simp)))
theorem Bl.take {ns : List TN} {root : Int} {out td : List Int} {s : Int} (hk : KidIn ns) (h : Bl ns root out (td ++ [s])) (hs : s ∉ out) : Bl ns root (out ++ [s]) (td ++ (kidsI ns s).reverse) := by
  have hok : okI ns s := h.htd s (by simp)
  have hlt := h.lt hs
  obtain ⟨hk1, hkl⟩ := hk s.toNat (by have := hok.1; have := hok.2; omega)
  refine ⟨fun a ha => ?_, fun a ha => ?_, fun r hr => h.hgo r (.take hs hr), ?_, ?_⟩
  · rcases List.mem_append.1 ha with ha | ha
    · exact h.htd a (List.mem_append_left _ ha)
    · exact hk1 a (List.mem_reverse.1 ha)
  · rcases List.mem_append.1 ha with ha | ha
    · exact h.hout a ha
    · rw [List.mem_singleton.1 ha]; exact hok
  · have := h.hlen
    rw [List.length_append]
    simp only [List.length_cons, List.length_nil]
    omega
  · have := h.hfew
    rw [List.length_append] at this
    rw [List.length_append, List.length_reverse]
    simp only [List.length_cons, List.length_nil] at this
    show td.length + (kidsL (nd ns s.toNat)).length + _ ≤ _
    omega
/-- What is below a node. -/
def Belw (ns : List TN) (root : Int) (l : List Int) : Prop := Dfs (kidsI ns) [] [root] l ∧ (∀ s ∈ l, okI ns s) ∧ l.length ≤ ns.length
theorem rev_take {l : List Int} {m : Nat} (h : m < l.length) : (l.reverse.take m).map i64 ++ [i64 (l.getD (l.length - 1 - m) 0)] = (l.reverse.take (m + 1)).map i64 := by
  have h' : m < l.reverse.length := by simpa using h
  rw [List.take_succ_eq_append_getElem h', List.map_append]
  have : l.length - 1 - m < l.length := by omega
  simp [this]
set_option maxHeartbeats 1000000 in
theorem f25_ok {G} (ns : List TN) (r0 : Int) (root : Int) (hN : ns.length ≤ 4000) (hfl : ∀ n ∈ ns, n.l.length ≤ 1000000) (hk : KidIn ns) (hr : okI ns root) :
    HP Try.prog G 25 [typeS ns r0, i64 root] (fun r => ∃ l, r = .d (intsD l) ∧ Belw ns root l) := by
  unfold typeS
  refine funZ_ok Try.func25 rfl (by decide +kernel) (by simp [Try.ntmps25]) (veil fun E => ?_)
  simp only [go_sem, Nat.reduceEqDiff, Nat.reduceLT, ↓reduceIte, Nat.reduceAdd, Nat.reduceMul, Nat.reduceLeDiff, Nat.reduceSub, Nat.reduceBEq, Int.reduceEq, Int.reduceLT, Int.reduceLE, Int.reduceToNat, Int.reduceAdd, Int.reduceSub, Int.reduceNeg, UInt8.reduceToNat]
  refine c_frB E [2] (.agg [.sl (some 4) (ns.map nodeD), i64 r0]) rfl rfl ?_
  simp only [go_sem, Nat.reduceEqDiff, Nat.reduceLT, ↓reduceIte, Nat.reduceAdd, Nat.reduceMul, Nat.reduceLeDiff, Nat.reduceSub, Nat.reduceBEq, Int.reduceEq, Int.reduceLT, Int.reduceLE, Int.reduceToNat, Int.reduceAdd, Int.reduceSub, Int.reduceNeg, UInt8.reduceToNat]
  refine loopT_e E (X := { x : List Int × List Int × List Int // Bl ns root x.1 x.2.1 }) (fun x => [(2, .d (.ptr (.agg [.sl (some 4) (ns.map nodeD), i64 r0]))), (5, .vw [98] 0 x.1.1.length), (6, .vw [99] 0 x.1.2.1.length)])
    (fun x => [([98], .arr none (x.1.1.map i64)), ([99], .arr none ((x.1.2.1 ++ x.1.2.2).map i64))]) [98, 99] (fun x => x.1.2.1.length + 40 * unseen (univI ns.length) x.1.1) ⟨([], [root], []), .init hr⟩ (tau [([98], [10]), ([99], [12])]) ?_ ?_
  · simp only [go_sem, Nat.reduceEqDiff, Nat.reduceLT, ↓reduceIte, Nat.reduceAdd, Nat.reduceMul, Nat.reduceLeDiff, Nat.reduceSub, Nat.reduceBEq, Int.reduceEq, Int.reduceLT, Int.reduceLE, Int.reduceToNat, Int.reduceAdd, Int.reduceSub, Int.reduceNeg, UInt8.reduceToNat]
    all_goals rfl
  rintro ⟨⟨out, td, rest⟩, hsp⟩ E0
  refine hideQ E0 fun Q' hQ E' => ?_
  simp only at hsp ⊢
  simp only [go_sem, Nat.reduceEqDiff, Nat.reduceLT, ↓reduceIte, Nat.reduceAdd, Nat.reduceMul, Nat.reduceLeDiff, Nat.reduceSub, Nat.reduceBEq, Int.reduceEq, Int.reduceLT, Int.reduceLE, Int.reduceToNat, Int.reduceAdd, Int.reduceSub, Int.reduceNeg, UInt8.reduceToNat]
  refine e_ifd E' (fun h1 => ?_) (fun h1 => ?_) <;> simp only [go_sem, Nat.reduceEqDiff, Nat.reduceLT, ↓reduceIte, Nat.reduceAdd, Nat.reduceMul, Nat.reduceLeDiff, Nat.reduceSub, Nat.reduceBEq, Int.reduceEq, Int.reduceLT, Int.reduceLE, Int.reduceToNat, Int.reduceAdd, Int.reduceSub, Int.reduceNeg, UInt8.reduceToNat]
  · obtain ⟨td, x, rfl⟩ := snoc_ex (l := td) (by omega)
    have hok : okI ns x := hsp.htd _ (by simp)
    obtain ⟨x, rfl⟩ : ∃ y : Nat, x = (y : Int) := ⟨x.toNat, by have := hok.1; omega⟩
    have hxl : x < ns.length := by have := hok.2; omega
    have hin : nd ns x ∈ ns := by rw [nd_eq hxl]; exact List.getElem_mem hxl
    obtain ⟨hk1, hkl⟩ := hk x hxl
    have hfew := hsp.hfew
    have hle := hsp.hlen
    have hlt : (td ++ [(x : Int)]).length = td.length + 1 := by simp
    have hw : w64 (((td ++ [(x : Int)]).length : Int) - 1) = (td.length : Int) := by rw [w64_in ⟨by omega, by omega⟩]; omega
    rw [hw]
    refine ⟨⟨by omega, by omega⟩, ?_⟩
    have hx : (List.map i64 (td ++ [(x : Int)] ++ rest)).getD (td.length : Int).toNat .nilp = i64 x := by simp
    rw [hx]
    simp only [go_sem, Nat.reduceEqDiff, Nat.reduceLT, ↓reduceIte, Nat.reduceAdd, Nat.reduceMul, Nat.reduceLeDiff, Nat.reduceSub, Nat.reduceBEq, Int.reduceEq, Int.reduceLT, Int.reduceLE, Int.reduceToNat, Int.reduceAdd, Int.reduceSub, Int.reduceNeg, UInt8.reduceToNat]
    rw [hw]
    refine ⟨⟨by omega, by omega⟩, ?_⟩
    refine e_callB E' [([98], none, out.map i64)] (f40_ok out x (by omega)) (by rintro _ rfl; rfl) (by simp only [go_sem, Nat.reduceEqDiff, Nat.reduceLT, ↓reduceIte, Nat.reduceAdd, Nat.reduceMul, Nat.reduceLeDiff, Nat.reduceSub, Nat.reduceBEq, Int.reduceEq, Int.reduceLT, Int.reduceLE, Int.reduceToNat, Int.reduceAdd, Int.reduceSub, Int.reduceNeg, UInt8.reduceToNat]) (by simp only [go_sem, Nat.reduceEqDiff, Nat.reduceLT, ↓reduceIte, Nat.reduceAdd, Nat.reduceMul, Nat.reduceLeDiff, Nat.reduceSub, Nat.reduceBEq, Int.reduceEq, Int.reduceLT, Int.reduceLE, Int.reduceToNat, Int.reduceAdd, Int.reduceSub, Int.reduceNeg, UInt8.reduceToNat]; rfl) (by simp only [go_sem, Nat.reduceEqDiff, Nat.reduceLT, ↓reduceIte, Nat.reduceAdd, Nat.reduceMul, Nat.reduceLeDiff, Nat.reduceSub, Nat.reduceBEq, Int.reduceEq, Int.reduceLT, Int.reduceLE, Int.reduceToNat, Int.reduceAdd, Int.reduceSub, Int.reduceNeg, UInt8.reduceToNat]; rfl) (by simp) ?_
    rintro _ rfl
    simp only [go_sem, Nat.reduceEqDiff, Nat.reduceLT, ↓reduceIte, Nat.reduceAdd, Nat.reduceMul, Nat.reduceLeDiff, Nat.reduceSub, Nat.reduceBEq, Int.reduceEq, Int.reduceLT, Int.reduceLE, Int.reduceToNat, Int.reduceAdd, Int.reduceSub, Int.reduceNeg, UInt8.reduceToNat]
    refine e_ifd E' (fun hm => ?_) (fun hm => ?_) <;> simp only [go_sem, Nat.reduceEqDiff, Nat.reduceLT, ↓reduceIte, Nat.reduceAdd, Nat.reduceMul, Nat.reduceLeDiff, Nat.reduceSub, Nat.reduceBEq, Int.reduceEq, Int.reduceLT, Int.reduceLE, Int.reduceToNat, Int.reduceAdd, Int.reduceSub, Int.reduceNeg, UInt8.reduceToNat]
    · rw [hQ]
      simp only [go_sem, Nat.reduceEqDiff, Nat.reduceLT, ↓reduceIte, Nat.reduceAdd, Nat.reduceMul, Nat.reduceLeDiff, Nat.reduceSub, Nat.reduceBEq, Int.reduceEq, Int.reduceLT, Int.reduceLE, Int.reduceToNat, Int.reduceAdd, Int.reduceSub, Int.reduceNeg, UInt8.reduceToNat]
      refine ⟨⟨(out, td, (x : Int) :: rest), hsp.skip hm⟩, ?_, id, ?_⟩
      · show td.length + _ < (td ++ [(x : Int)]).length + _
        rw [hlt]
        show td.length + 40 * unseen (univI ns.length) out < _
        omega
      simp only [go_sem, Nat.reduceEqDiff, Nat.reduceLT, ↓reduceIte, Nat.reduceAdd, Nat.reduceMul, Nat.reduceLeDiff, Nat.reduceSub, Nat.reduceBEq, Int.reduceEq, Int.reduceLT, Int.reduceLE, Int.reduceToNat, Int.reduceAdd, Int.reduceSub, Int.reduceNeg, UInt8.reduceToNat]
      simp
    · refine ⟨by omega, ⟨by omega, by omega⟩, ?_⟩
      rw [nodes_nd hxl]
      simp only [go_sem, Nat.reduceEqDiff, Nat.reduceLT, ↓reduceIte, Nat.reduceAdd, Nat.reduceMul, Nat.reduceLeDiff, Nat.reduceSub, Nat.reduceBEq, Int.reduceEq, Int.reduceLT, Int.reduceLE, Int.reduceToNat, Int.reduceAdd, Int.reduceSub, Int.reduceNeg, UInt8.reduceToNat]
      refine e_call E' (f31_ok (nd ns x) (hfl _ hin)) rfl rfl (by simp) ?_
      rintro _ rfl
      simp only [go_sem, Nat.reduceEqDiff, Nat.reduceLT, ↓reduceIte, Nat.reduceAdd, Nat.reduceMul, Nat.reduceLeDiff, Nat.reduceSub, Nat.reduceBEq, Int.reduceEq, Int.reduceLT, Int.reduceLE, Int.reduceToNat, Int.reduceAdd, Int.reduceSub, Int.reduceNeg, UInt8.reduceToNat]
      obtain ⟨K, hK⟩ : ∃ K, K = kidsL (nd ns x) := ⟨_, rfl⟩
      rw [← hK] at hkl hk1 ⊢
      unfold intsD
      simp only [go_sem, Nat.reduceEqDiff, Nat.reduceLT, ↓reduceIte, Nat.reduceAdd, Nat.reduceMul, Nat.reduceLeDiff, Nat.reduceSub, Nat.reduceBEq, Int.reduceEq, Int.reduceLT, Int.reduceLE, Int.reduceToNat, Int.reduceAdd, Int.reduceSub, Int.reduceNeg, UInt8.reduceToNat]
      refine loopT_e E' (X := { y : Nat × List Int // y.1 ≤ K.length }) (fun y => [(2, .d (.ptr (.agg [.sl (some 4) (ns.map nodeD), i64 r0]))), (5, .vw [98] 0 (out.length + 1)), (6, .vw [99] 0 (td.length + y.1.1)), (8, .d (.sl none (K.map i64))), (9, .d (i64 ((K.length : Int) - 1 - y.1.1)))])
        (fun y => [([98], .arr none ((out ++ [(x : Int)]).map i64)), ([99], .arr none ((td ++ K.reverse.take y.1.1 ++ y.1.2).map i64))]) [98, 99] (fun y => K.length - y.1.1) ⟨(0, (x : Int) :: rest), Nat.zero_le _⟩ (tau [([98], [33])]) ?_ ?_
      · simp only [go_sem, Nat.reduceEqDiff, Nat.reduceLT, ↓reduceIte, Nat.reduceAdd, Nat.reduceMul, Nat.reduceLeDiff, Nat.reduceSub, Nat.reduceBEq, Int.reduceEq, Int.reduceLT, Int.reduceLE, Int.reduceToNat, Int.reduceAdd, Int.reduceSub, Int.reduceNeg, UInt8.reduceToNat]
        rw [w64_in ⟨by omega, by omega⟩]
        simp
      rintro ⟨⟨m, rest'⟩, hm2⟩ E1
      refine hideQ E1 fun Q2 hQ2 E2 => ?_
      simp only at hm2 ⊢
      simp only [go_sem, Nat.reduceEqDiff, Nat.reduceLT, ↓reduceIte, Nat.reduceAdd, Nat.reduceMul, Nat.reduceLeDiff, Nat.reduceSub, Nat.reduceBEq, Int.reduceEq, Int.reduceLT, Int.reduceLE, Int.reduceToNat, Int.reduceAdd, Int.reduceSub, Int.reduceNeg, UInt8.reduceToNat]
      refine e_ifd E2 (fun h3 => ?_) (fun h3 => ?_) <;> simp only [go_sem, Nat.reduceEqDiff, Nat.reduceLT, ↓reduceIte, Nat.reduceAdd, Nat.reduceMul, Nat.reduceLeDiff, Nat.reduceSub, Nat.reduceBEq, Int.reduceEq, Int.reduceLT, Int.reduceLE, Int.reduceToNat, Int.reduceAdd, Int.reduceSub, Int.reduceNeg, UInt8.reduceToNat]
      · have h3' : m < K.length := by omega
        obtain ⟨j, hj⟩ : ∃ j : Nat, j = K.length - 1 - m := ⟨_, rfl⟩
        have hj' : (K.length : Int) - 1 - m = (j : Int) := by omega
        rw [hj']
        refine ⟨⟨by omega, by omega⟩, ?_⟩
        have hx : (K.map i64).getD (j : Int).toNat .nilp = i64 (K.getD (K.length - 1 - m) 0) := by
          rw [← hj]; simp [show j < K.length by omega]
        rw [hx]
        simp only [go_sem, Nat.reduceEqDiff, Nat.reduceLT, ↓reduceIte, Nat.reduceAdd, Nat.reduceMul, Nat.reduceLeDiff, Nat.reduceSub, Nat.reduceBEq, Int.reduceEq, Int.reduceLT, Int.reduceLE, Int.reduceToNat, Int.reduceAdd, Int.reduceSub, Int.reduceNeg, UInt8.reduceToNat]
        have hrt := rev_take h3'
        have htl : List.take (td.length + m) (List.map i64 (td ++ List.take m K.reverse ++ rest')) = List.map i64 td ++ (List.take m K.reverse).map i64 := by
          rw [List.map_append, List.take_append_of_le_length (by simp; omega), List.take_of_length_le (by simp; omega), List.map_append]
        refine ⟨by omega, ?_⟩
        rw [htl, hQ2]
        simp only [go_sem, Nat.reduceEqDiff, Nat.reduceLT, ↓reduceIte, Nat.reduceAdd, Nat.reduceMul, Nat.reduceLeDiff, Nat.reduceSub, Nat.reduceBEq, Int.reduceEq, Int.reduceLT, Int.reduceLE, Int.reduceToNat, Int.reduceAdd, Int.reduceSub, Int.reduceNeg, UInt8.reduceToNat]
        refine ⟨⟨(m + 1, []), by show m + 1 ≤ _; omega⟩, by show K.length - (m + 1) < _; omega, tau [([99], [53])], ?_⟩
        simp only [go_sem, Nat.reduceEqDiff, Nat.reduceLT, ↓reduceIte, Nat.reduceAdd, Nat.reduceMul, Nat.reduceLeDiff, Nat.reduceSub, Nat.reduceBEq, Int.reduceEq, Int.reduceLT, Int.reduceLE, Int.reduceToNat, Int.reduceAdd, Int.reduceSub, Int.reduceNeg, UInt8.reduceToNat]
        rw [w64_in ⟨by omega, by omega⟩, List.append_assoc, hrt]
        simp
        omega
      · have h3' : m = K.length := by omega
        subst h3'
        rw [hQ2]
        simp only [go_sem, Nat.reduceEqDiff, Nat.reduceLT, ↓reduceIte, Nat.reduceAdd, Nat.reduceMul, Nat.reduceLeDiff, Nat.reduceSub, Nat.reduceBEq, Int.reduceEq, Int.reduceLT, Int.reduceLE, Int.reduceToNat, Int.reduceAdd, Int.reduceSub, Int.reduceNeg, UInt8.reduceToNat]
        rw [hQ]
        simp only [go_sem, Nat.reduceEqDiff, Nat.reduceLT, ↓reduceIte, Nat.reduceAdd, Nat.reduceMul, Nat.reduceLeDiff, Nat.reduceSub, Nat.reduceBEq, Int.reduceEq, Int.reduceLT, Int.reduceLE, Int.reduceToNat, Int.reduceAdd, Int.reduceSub, Int.reduceNeg, UInt8.reduceToNat]
        have htk := hsp.take hk hm
        have hlt2 := hsp.lt hm
        have hks : kidsI ns (x : Int) = K := hK.symm
        rw [hks] at htk
        refine ⟨⟨(out ++ [(x : Int)], td ++ K.reverse, rest'), htk⟩, ?_, id, ?_⟩
        · show (td ++ K.reverse).length + 40 * unseen (univI ns.length) (out ++ [(x : Int)]) < (td ++ [(x : Int)]).length + 40 * unseen (univI ns.length) out
          rw [List.length_append, List.length_reverse]
          omega
        simp only [go_sem, Nat.reduceEqDiff, Nat.reduceLT, ↓reduceIte, Nat.reduceAdd, Nat.reduceMul, Nat.reduceLeDiff, Nat.reduceSub, Nat.reduceBEq, Int.reduceEq, Int.reduceLT, Int.reduceLE, Int.reduceToNat, Int.reduceAdd, Int.reduceSub, Int.reduceNeg, UInt8.reduceToNat]
        rw [List.take_of_length_le (by simp)]
        simp
  · rw [hQ]
    simp only [go_sem, Nat.reduceEqDiff, Nat.reduceLT, ↓reduceIte, Nat.reduceAdd, Nat.reduceMul, Nat.reduceLeDiff, Nat.reduceSub, Nat.reduceBEq, Int.reduceEq, Int.reduceLT, Int.reduceLE, Int.reduceToNat, Int.reduceAdd, Int.reduceSub, Int.reduceNeg, UInt8.reduceToNat]
    have : td = [] := List.eq_nil_of_length_eq_zero (by omega)
    subst this
    refine ⟨[([98], none, out.map i64)], ?_⟩
    simp only [go_sem, Nat.reduceEqDiff, Nat.reduceLT, ↓reduceIte, Nat.reduceAdd, Nat.reduceMul, Nat.reduceLeDiff, Nat.reduceSub, Nat.reduceBEq, Int.reduceEq, Int.reduceLT, Int.reduceLE, Int.reduceToNat, Int.reduceAdd, Int.reduceSub, Int.reduceNeg, UInt8.reduceToNat]
    exact ⟨out, rfl, hsp.hgo _ (.done _), hsp.hout, by have := hsp.hlen; omega⟩
end Go.Proofs.Ytmplpdjddjiioaa
