/-
  A node's text.
-/
import Derived.Test.YtjoneaifakonjaaDoorPE
import Derived.Test.YtjoneaifakonjaaDoorK3
set_option linter.all false
namespace Go.Proofs.YtjoneaifakonjaaDoor
open Go.Ab
/-- What is handed back of a node: a piece that is data, or one with a map of its own. -/
def NR (ns : List TN) (root : Int) (path : List Int) (m : Pc × PSt) (r : AV) (hp' : List (Name × Ob)) : Prop :=
  NQ ns root path m r hp' ∨ ∃ ks l rest, m.1.nm = some l ∧ Set ks l ∧ r = .agg [.d (.str m.1.s), .d (i64 m.1.t), .mp [104]] ∧ hp' = ([104], .map (menc ki (setM ks))) :: PO [103] ns root m.2.1 path rest m.2.2
theorem NR.fz {G : List (Nat × Obj)} {ns : List TN} {root : Int} {path : List Int} {m : Pc × PSt} {f : FuncId} {args : List AV} {hp : List (Name × Ob)} (h : HCall Tryd.prog G f args hp PU (NR ns root path m)) : HCall Tryd.prog G f args hp PU (NQ ns root path m) := by
  refine HCall.fM h [104] fun r hp' hq => ?_
  rcases hq with hq | ⟨ks, l, rest, hn, hks, rfl, rfl⟩
  · exact .inl hq
  · refine .inr ⟨_, rfl, fun clk bs hst => ⟨mpD clk bs (menc ki (setM ks)), rest, ?_, by rw [hn]; exact ⟨clk, bs, ks, hst, rfl, hks⟩, ?_⟩⟩
    · unfold pcD
      simp only [go_sem, Nat.reduceEqDiff, Nat.reduceLT, ↓reduceIte, Nat.reduceAdd, Nat.reduceMul, Nat.reduceLeDiff, Nat.reduceSub, Nat.reduceBEq, Int.reduceEq, Int.reduceLT, Int.reduceLE, Int.reduceToNat, Int.reduceAdd, Int.reduceSub, Int.reduceNeg, UInt8.reduceToNat]
    · unfold PO
      simp only [go_sem, Nat.reduceEqDiff, Nat.reduceLT, ↓reduceIte, Nat.reduceAdd, Nat.reduceMul, Nat.reduceLeDiff, Nat.reduceSub, Nat.reduceBEq, Int.reduceEq, Int.reduceLT, Int.reduceLE, Int.reduceToNat, Int.reduceAdd, Int.reduceSub, Int.reduceNeg, UInt8.reduceToNat]
theorem name_len {k : Nat} (hk : k < 100) : (nameT k).length ≤ 4 := by
  have := dig_len k hk
  simp [nameT]; omega
theorem set_del {ks : List Int} {l : List Nat} (h : Set ks l) (n : Nat) : ∃ ks', mdel (setM ks) (n : Int) = setM ks' ∧ Set ks' (l.filter (· ≠ n)) := by
  have key : ∀ ks : List Int, ks.Nodup → mdel (setM ks) (n : Int) = setM (ks.filter (· ≠ (n : Int))) := by
    intro ks
    induction ks with
    | nil => intro _; rfl
    | cons a r ih =>
      intro hn
      obtain ⟨h1, h2⟩ := List.nodup_cons.1 hn
      have ih := ih h2
      by_cases e : a = (n : Int)
      · subst e
        have hf : r.filter (· ≠ (n : Int)) = r := List.filter_eq_self.2 fun x hx => by simp; exact fun e => h1 (e ▸ hx)
        rw [List.filter_cons_of_neg (by simp), hf]
        simp [mdel, setM, midx]
      · rw [List.filter_cons_of_pos (by simpa using e)]
        unfold mdel at ih ⊢
        simp only [setM, List.map_cons, midx, if_neg e] at ih ⊢
        cases hm : midx (List.map (fun x : Int × D => x.1) (List.map (fun k => (k, D.bool true)) r)) (n : Int) with
        | none => rw [hm] at ih; simp only [Option.map_none] at ih ⊢; rw [ih]
        | some i => rw [hm] at ih; simp only [Option.map_some, List.eraseIdx_cons_succ] at ih ⊢; rw [ih]
  refine ⟨_, key ks h.1, h.1.sublist List.filter_sublist, fun k => ?_⟩
  rw [List.mem_filter, h.2 k]
  constructor
  · rintro ⟨⟨m, hm, rfl⟩, hne⟩
    refine ⟨m, List.mem_filter.2 ⟨hm, ?_⟩, rfl⟩
    simp at hne ⊢
    omega
  · rintro ⟨m, hm, rfl⟩
    obtain ⟨h1, h2⟩ := List.mem_filter.1 hm
    refine ⟨⟨m, h1, rfl⟩, ?_⟩
    simp at h2 ⊢
    omega
theorem e_names {P : Program} {cf : Cf} {Q : Exit → St → Prop} {s : St} {k : List It} (E : Eng P cf Q) (hP : P = Tryd.prog) {x y : Operand} {dst : Option Nat} {ty : TypeId} {pos : String} {af : Array Edge} {d : D} {nm : Option (List Nat)} (n : Nat) (hd : NmD d nm) (hx : ev s x = .d d) (hy : ev s y = .d (i64 n)) (hdst : ∀ t ∈ dst, t < cf.n)
    (hk : E.run k (s.putO dst (.d (.bool (decide (n ∈ nmL nm)))))) : E.stp { dst := dst, op := .lookup 44 x y false, type := ty, pos := pos, after := af, guard := none } s k .no := by
  subst hP
  cases nm with
  | none =>
    cases hd
    refine e_lookupN E (n : Int) (.bool false) (by rw [ti44]) keyK zero4 hx hy hdst ?_
    simpa [nmL, lookV] using hk
  | some l =>
    obtain ⟨clk, bs, ks, hst, rfl, hks⟩ := hd
    refine e_lookupD E clk bs (setM ks) (n : Int) (.bool false) (by rw [ti44]) keyK zero4 hx hy hdst ?_
    rw [mlook_set]
    have : ((n : Int) ∈ ks) ↔ n ∈ l := by
      rw [hks.2]
      constructor
      · rintro ⟨m, hm, e⟩
        obtain rfl : n = m := by omega
        exact hm
      · exact fun h => ⟨n, h, rfl⟩
    by_cases hm : n ∈ l
    · rw [if_pos (this.2 hm)]
      simpa [nmL, lookV, hm] using hk
    · rw [if_neg (fun h => hm (this.1 h))]
      simpa [nmL, lookV, hm] using hk
theorem f10_in {G} (ns : List TN) (root : Int) (m : Nat) (path : List Int) (i : Int) (st : PSt) (rest : List Int) (hp : path.length ≤ 50) (hm : i ∈ path) :
    HCall Tryd.prog G 10 [.bx [100] 0, .d (i64 i)] (PO [102] ns root st.1 path rest st.2) PU (NR ns root path (nodeS ns (m + 1) path i st)) := by
  have hk : path.idxOf i < path.length := List.idxOf_lt_length_of_mem hm
  have hnl := name_len (k := path.idxOf i) (by omega)
  have hS : nodeS ns (m + 1) path i st = ({ (madeS st.2 (nameT (path.idxOf i)) 4 []).1 with nm := (madeS st.2 (nameT (path.idxOf i)) 4 []).1.nm.map fun l => path.idxOf i :: l }, (st.1, (madeS st.2 (nameT (path.idxOf i)) 4 []).2)) := by
    rw [nodeS, if_pos hm]
  have htk : (path ++ rest).take path.length = path := by simp
  unfold PO PU
  refine funO_ok Tryd.func10 rfl (by decide +kernel) (by simp [Tryd.ntmps10]) (veil fun E => ?_)
  simp only [go_sem, Nat.reduceEqDiff, Nat.reduceLT, ↓reduceIte, Nat.reduceAdd, Nat.reduceMul, Nat.reduceLeDiff, Nat.reduceSub, Nat.reduceBEq, Int.reduceEq, Int.reduceLT, Int.reduceLE, Int.reduceToNat, Int.reduceAdd, Int.reduceSub, Int.reduceNeg, UInt8.reduceToNat]
  refine e_callB E [([102], none, (path ++ rest).map i64)] (f18_ok path i (by omega)) (by rintro _ rfl; rfl) (by simp only [go_sem, Nat.reduceEqDiff, Nat.reduceLT, ↓reduceIte, Nat.reduceAdd, Nat.reduceMul, Nat.reduceLeDiff, Nat.reduceSub, Nat.reduceBEq, Int.reduceEq, Int.reduceLT, Int.reduceLE, Int.reduceToNat, Int.reduceAdd, Int.reduceSub, Int.reduceNeg, UInt8.reduceToNat]) (by simp only [go_sem, Nat.reduceEqDiff, Nat.reduceLT, ↓reduceIte, Nat.reduceAdd, Nat.reduceMul, Nat.reduceLeDiff, Nat.reduceSub, Nat.reduceBEq, Int.reduceEq, Int.reduceLT, Int.reduceLE, Int.reduceToNat, Int.reduceAdd, Int.reduceSub, Int.reduceNeg, UInt8.reduceToNat]; rfl) (by simp only [go_sem, Nat.reduceEqDiff, Nat.reduceLT, ↓reduceIte, Nat.reduceAdd, Nat.reduceMul, Nat.reduceLeDiff, Nat.reduceSub, Nat.reduceBEq, Int.reduceEq, Int.reduceLT, Int.reduceLE, Int.reduceToNat, Int.reduceAdd, Int.reduceSub, Int.reduceNeg, UInt8.reduceToNat]; rw [← List.map_take, htk]; rfl) (by simp) ?_
  rintro _ rfl
  rw [idx1, if_pos hm]
  simp only [go_sem, Nat.reduceEqDiff, Nat.reduceLT, ↓reduceIte, Nat.reduceAdd, Nat.reduceMul, Nat.reduceLeDiff, Nat.reduceSub, Nat.reduceBEq, Int.reduceEq, Int.reduceLT, Int.reduceLE, Int.reduceToNat, Int.reduceAdd, Int.reduceSub, Int.reduceNeg, UInt8.reduceToNat]
  rw [show decide ((0 : Int) ≤ (path.idxOf i : Nat)) = true from decide_eq_true (by omega)]
  simp only [go_sem, Nat.reduceEqDiff, Nat.reduceLT, ↓reduceIte, Nat.reduceAdd, Nat.reduceMul, Nat.reduceLeDiff, Nat.reduceSub, Nat.reduceBEq, Int.reduceEq, Int.reduceLT, Int.reduceLE, Int.reduceToNat, Int.reduceAdd, Int.reduceSub, Int.reduceNeg, UInt8.reduceToNat]
  refine e_call E (f20_ok (path.idxOf i) (by omega)) rfl rfl (by simp) ?_
  rintro _ rfl
  simp only [go_sem, Nat.reduceEqDiff, Nat.reduceLT, ↓reduceIte, Nat.reduceAdd, Nat.reduceMul, Nat.reduceLeDiff, Nat.reduceSub, Nat.reduceBEq, Int.reduceEq, Int.reduceLT, Int.reduceLE, Int.reduceToNat, Int.reduceAdd, Int.reduceSub, Int.reduceNeg, UInt8.reduceToNat]
  obtain ⟨v, lg⟩ := st
  cases lg with
  | true =>
    have hS2 : nodeS ns (m + 1) path i (v, true) = (⟨[], 4, none⟩, (v, true)) := by rw [hS]; simp [madeS_long]
    refine e_callO E [.bx [100] 0, .d (.str (nameT (path.idxOf i))), .d (i64 4), .d .nils] (PO [102] ns root v path rest true) PU (f19_long [102] rfl ns root v path rest _ 4 .nils) rfl rfl ⟨by simp only [go_sem, Nat.reduceEqDiff, Nat.reduceLT, ↓reduceIte, Nat.reduceAdd, Nat.reduceMul, Nat.reduceLeDiff, Nat.reduceSub, Nat.reduceBEq, Int.reduceEq, Int.reduceLT, Int.reduceLE, Int.reduceToNat, Int.reduceAdd, Int.reduceSub, Int.reduceNeg, UInt8.reduceToNat], by rw [mk_used]; decide⟩ rfl (by unfold PO PU; simp only [go_sem, Nat.reduceEqDiff, Nat.reduceLT, ↓reduceIte, Nat.reduceAdd, Nat.reduceMul, Nat.reduceLeDiff, Nat.reduceSub, Nat.reduceBEq, Int.reduceEq, Int.reduceLT, Int.reduceLE, Int.reduceToNat, Int.reduceAdd, Int.reduceSub, Int.reduceNeg, UInt8.reduceToNat]) (by unfold PO; simp only [go_sem, Nat.reduceEqDiff, Nat.reduceLT, ↓reduceIte, Nat.reduceAdd, Nat.reduceMul, Nat.reduceLeDiff, Nat.reduceSub, Nat.reduceBEq, Int.reduceEq, Int.reduceLT, Int.reduceLE, Int.reduceToNat, Int.reduceAdd, Int.reduceSub, Int.reduceNeg, UInt8.reduceToNat]) ?_
    rintro _ hp' ⟨rfl, rfl⟩
    unfold PO pcD
    simp only [go_sem, Nat.reduceEqDiff, Nat.reduceLT, ↓reduceIte, Nat.reduceAdd, Nat.reduceMul, Nat.reduceLeDiff, Nat.reduceSub, Nat.reduceBEq, Int.reduceEq, Int.reduceLT, Int.reduceLE, Int.reduceToNat, Int.reduceAdd, Int.reduceSub, Int.reduceNeg, UInt8.reduceToNat]
    rw [hS2]
    refine ⟨Nat.le_refl _, ?_⟩
    refine ⟨_, _, [100, 101, 102, 103], tau [([103], [102])], .inl ⟨.nilm, rest, rfl, rfl, rfl⟩, ?_⟩
    unfold PO pcD
    simp only [go_sem, Nat.reduceEqDiff, Nat.reduceLT, ↓reduceIte, Nat.reduceAdd, Nat.reduceMul, Nat.reduceLeDiff, Nat.reduceSub, Nat.reduceBEq, Int.reduceEq, Int.reduceLT, Int.reduceLE, Int.reduceToNat, Int.reduceAdd, Int.reduceSub, Int.reduceNeg, UInt8.reduceToNat]
  | false =>
    have hS2 : nodeS ns (m + 1) path i (v, false) = (⟨nameT (path.idxOf i), 4, some [path.idxOf i]⟩, (v, false)) := by
      rw [hS, madeS_fits (by omega)]; rfl
    refine e_callO E [.bx [100] 0, .d (.str (nameT (path.idxOf i))), .d (i64 4), .d .nils] (PO [102] ns root v path rest false) PU (f19_fits [102] rfl ns root v path rest _ 4 .nils [] (by omega) (.inl ⟨rfl, rfl⟩)) rfl rfl ⟨by simp only [go_sem, Nat.reduceEqDiff, Nat.reduceLT, ↓reduceIte, Nat.reduceAdd, Nat.reduceMul, Nat.reduceLeDiff, Nat.reduceSub, Nat.reduceBEq, Int.reduceEq, Int.reduceLT, Int.reduceLE, Int.reduceToNat, Int.reduceAdd, Int.reduceSub, Int.reduceNeg, UInt8.reduceToNat], by rw [mk_used]; decide⟩ rfl (by unfold PO PU; simp only [go_sem, Nat.reduceEqDiff, Nat.reduceLT, ↓reduceIte, Nat.reduceAdd, Nat.reduceMul, Nat.reduceLeDiff, Nat.reduceSub, Nat.reduceBEq, Int.reduceEq, Int.reduceLT, Int.reduceLE, Int.reduceToNat, Int.reduceAdd, Int.reduceSub, Int.reduceNeg, UInt8.reduceToNat]) (by unfold PO; simp only [go_sem, Nat.reduceEqDiff, Nat.reduceLT, ↓reduceIte, Nat.reduceAdd, Nat.reduceMul, Nat.reduceLeDiff, Nat.reduceSub, Nat.reduceBEq, Int.reduceEq, Int.reduceLT, Int.reduceLE, Int.reduceToNat, Int.reduceAdd, Int.reduceSub, Int.reduceNeg, UInt8.reduceToNat]) ?_
    rintro _ hp' ⟨ks, hks, rfl, rfl⟩
    unfold PO
    simp only [go_sem, Nat.reduceEqDiff, Nat.reduceLT, ↓reduceIte, Nat.reduceAdd, Nat.reduceMul, Nat.reduceLeDiff, Nat.reduceSub, Nat.reduceBEq, Int.reduceEq, Int.reduceLT, Int.reduceLE, Int.reduceToNat, Int.reduceAdd, Int.reduceSub, Int.reduceNeg, UInt8.reduceToNat]
    refine ⟨Nat.le_refl _, ?_⟩
    refine e_mapUpdate E [20, 104] (setM ks) ((path.idxOf i : Nat) : Int) (.bool true) (by rw [ti44]) keyK rfl rfl rfl rfl rfl ?_
    rw [mset_set]
    simp only [go_sem, Nat.reduceEqDiff, Nat.reduceLT, ↓reduceIte, Nat.reduceAdd, Nat.reduceMul, Nat.reduceLeDiff, Nat.reduceSub, Nat.reduceBEq, Int.reduceEq, Int.reduceLT, Int.reduceLE, Int.reduceToNat, Int.reduceAdd, Int.reduceSub, Int.reduceNeg, UInt8.reduceToNat]
    rw [hS2]
    refine ⟨_, _, [100, 101, 102, 103, 104], tau [([103], [102]), ([104], [20, 104])], .inr ⟨(if ((path.idxOf i : Nat) : Int) ∈ ks then ks else ks ++ [((path.idxOf i : Nat) : Int)]), _, rest, rfl, ?_, rfl, rfl⟩, ?_⟩
    · have := set_ins hks (path.idxOf i)
      simpa using this
    · unfold PO
      simp only [go_sem, Nat.reduceEqDiff, Nat.reduceLT, ↓reduceIte, Nat.reduceAdd, Nat.reduceMul, Nat.reduceLeDiff, Nat.reduceSub, Nat.reduceBEq, Int.reduceEq, Int.reduceLT, Int.reduceLE, Int.reduceToNat, Int.reduceAdd, Int.reduceSub, Int.reduceNeg, UInt8.reduceToNat]
theorem f10_long {G} (ns : List TN) (root : Int) (m : Nat) (path : List Int) (i : Int) (v : List Int) (rest : List Int) (hp : path.length ≤ 50) (hm : i ∉ path) :
    HCall Tryd.prog G 10 [.bx [100] 0, .d (i64 i)] (PO [102] ns root v path rest true) PU (NR ns root path (nodeS ns (m + 1) path i (v, true))) := by
  have hS : nodeS ns (m + 1) path i (v, true) = (⟨[], 4, none⟩, (v, true)) := by rw [nodeS, if_neg hm, if_pos rfl]
  have htk : (path ++ rest).take path.length = path := by simp
  unfold PO PU
  refine funO_ok Tryd.func10 rfl (by decide +kernel) (by simp [Tryd.ntmps10]) (veil fun E => ?_)
  simp only [go_sem, Nat.reduceEqDiff, Nat.reduceLT, ↓reduceIte, Nat.reduceAdd, Nat.reduceMul, Nat.reduceLeDiff, Nat.reduceSub, Nat.reduceBEq, Int.reduceEq, Int.reduceLT, Int.reduceLE, Int.reduceToNat, Int.reduceAdd, Int.reduceSub, Int.reduceNeg, UInt8.reduceToNat]
  refine e_callB E [([102], none, (path ++ rest).map i64)] (f18_ok path i (by omega)) (by rintro _ rfl; rfl) (by simp only [go_sem, Nat.reduceEqDiff, Nat.reduceLT, ↓reduceIte, Nat.reduceAdd, Nat.reduceMul, Nat.reduceLeDiff, Nat.reduceSub, Nat.reduceBEq, Int.reduceEq, Int.reduceLT, Int.reduceLE, Int.reduceToNat, Int.reduceAdd, Int.reduceSub, Int.reduceNeg, UInt8.reduceToNat]) (by simp only [go_sem, Nat.reduceEqDiff, Nat.reduceLT, ↓reduceIte, Nat.reduceAdd, Nat.reduceMul, Nat.reduceLeDiff, Nat.reduceSub, Nat.reduceBEq, Int.reduceEq, Int.reduceLT, Int.reduceLE, Int.reduceToNat, Int.reduceAdd, Int.reduceSub, Int.reduceNeg, UInt8.reduceToNat]; rfl) (by simp only [go_sem, Nat.reduceEqDiff, Nat.reduceLT, ↓reduceIte, Nat.reduceAdd, Nat.reduceMul, Nat.reduceLeDiff, Nat.reduceSub, Nat.reduceBEq, Int.reduceEq, Int.reduceLT, Int.reduceLE, Int.reduceToNat, Int.reduceAdd, Int.reduceSub, Int.reduceNeg, UInt8.reduceToNat]; rw [← List.map_take, htk]; rfl) (by simp) ?_
  rintro _ rfl
  rw [idx1, if_neg hm]
  simp only [go_sem, Nat.reduceEqDiff, Nat.reduceLT, ↓reduceIte, Nat.reduceAdd, Nat.reduceMul, Nat.reduceLeDiff, Nat.reduceSub, Nat.reduceBEq, Int.reduceEq, Int.reduceLT, Int.reduceLE, Int.reduceToNat, Int.reduceAdd, Int.reduceSub, Int.reduceNeg, UInt8.reduceToNat]
  rw [hS]
  refine ⟨_, _, [100, 101, 102, 103], tau [([103], [102])], .inl ⟨.nilm, rest, rfl, rfl, rfl⟩, ?_⟩
  unfold PO pcD
  simp only [go_sem, Nat.reduceEqDiff, Nat.reduceLT, ↓reduceIte, Nat.reduceAdd, Nat.reduceMul, Nat.reduceLeDiff, Nat.reduceSub, Nat.reduceBEq, Int.reduceEq, Int.reduceLT, Int.reduceLE, Int.reduceToNat, Int.reduceAdd, Int.reduceSub, Int.reduceNeg, UInt8.reduceToNat]
theorem f10_go {G} (ns : List TN) (root : Int) (m : Nat) (path : List Int) (i : Int) (v : List Int) (rest : List Int) (hN : ns.length ≤ 16) (hp : path.length ≤ 50) (hm : i ∉ path) (hi : okI ns i) (hv : VI ns v) (hn : NOk ns (nd ns i.toNat)) (h : RC G ns root (path ++ [i]) (nodeS ns m (path ++ [i]))) :
    HCall Tryd.prog G 10 [.bx [100] 0, .d (i64 i)] (PO [102] ns root v path rest false) PU (NR ns root path (nodeS ns (m + 1) path i (v, false))) := by
  have htk : (path ++ rest).take path.length = path := by simp
  obtain ⟨x, rfl⟩ : ∃ x : Nat, i = (x : Int) := ⟨i.toNat, by have := hi.1; omega⟩
  have hxl : x < ns.length := by have := hi.2; omega
  have hS : nodeS ns (m + 1) path (x : Int) (v, false) = (if path.length ∈ nmL (headS (nodeS ns m (path ++ [(x : Int)])) (nd ns x) (v, false)).1.nm then
       ({ (madeS (headS (nodeS ns m (path ++ [(x : Int)])) (nd ns x) (v, false)).2.2 (((([109, 117, 32] ++ nameT path.length) ++ [46, 32])) ++ (headS (nodeS ns m (path ++ [(x : Int)])) (nd ns x) (v, false)).1.s) 0 (nmL (headS (nodeS ns m (path ++ [(x : Int)])) (nd ns x) (v, false)).1.nm)).1 with
          nm := (madeS (headS (nodeS ns m (path ++ [(x : Int)])) (nd ns x) (v, false)).2.2 (((([109, 117, 32] ++ nameT path.length) ++ [46, 32])) ++ (headS (nodeS ns m (path ++ [(x : Int)])) (nd ns x) (v, false)).1.s) 0 (nmL (headS (nodeS ns m (path ++ [(x : Int)])) (nd ns x) (v, false)).1.nm)).1.nm.map fun l => l.filter (· ≠ path.length) },
        ((headS (nodeS ns m (path ++ [(x : Int)])) (nd ns x) (v, false)).2.1, (madeS (headS (nodeS ns m (path ++ [(x : Int)])) (nd ns x) (v, false)).2.2 (((([109, 117, 32] ++ nameT path.length) ++ [46, 32])) ++ (headS (nodeS ns m (path ++ [(x : Int)])) (nd ns x) (v, false)).1.s) 0 (nmL (headS (nodeS ns m (path ++ [(x : Int)])) (nd ns x) (v, false)).1.nm)).2))
      else headS (nodeS ns m (path ++ [(x : Int)])) (nd ns x) (v, false)) := by
    rw [nodeS, if_neg hm, if_neg (by simp)]
    rfl
  have hg := good_head h.ok (nd ns x) (v, false) hn hv
  have hc := f21_ok h (nd ns x) (v, false) [] hN hn hv
  generalize headS (nodeS ns m (path ++ [(x : Int)])) (nd ns x) (v, false) = R at hS hg hc
  generalize nodeS ns (m + 1) path (x : Int) (v, false) = Z at hS
  unfold PO PU
  refine funO_ok Tryd.func10 rfl (by decide +kernel) (by simp [Tryd.ntmps10]) (veil fun E => ?_)
  simp only [go_sem, Nat.reduceEqDiff, Nat.reduceLT, ↓reduceIte, Nat.reduceAdd, Nat.reduceMul, Nat.reduceLeDiff, Nat.reduceSub, Nat.reduceBEq, Int.reduceEq, Int.reduceLT, Int.reduceLE, Int.reduceToNat, Int.reduceAdd, Int.reduceSub, Int.reduceNeg, UInt8.reduceToNat]
  refine e_callB E [([102], none, (path ++ rest).map i64)] (f18_ok path x (by omega)) (by rintro _ rfl; rfl) (by simp only [go_sem, Nat.reduceEqDiff, Nat.reduceLT, ↓reduceIte, Nat.reduceAdd, Nat.reduceMul, Nat.reduceLeDiff, Nat.reduceSub, Nat.reduceBEq, Int.reduceEq, Int.reduceLT, Int.reduceLE, Int.reduceToNat, Int.reduceAdd, Int.reduceSub, Int.reduceNeg, UInt8.reduceToNat]) (by simp only [go_sem, Nat.reduceEqDiff, Nat.reduceLT, ↓reduceIte, Nat.reduceAdd, Nat.reduceMul, Nat.reduceLeDiff, Nat.reduceSub, Nat.reduceBEq, Int.reduceEq, Int.reduceLT, Int.reduceLE, Int.reduceToNat, Int.reduceAdd, Int.reduceSub, Int.reduceNeg, UInt8.reduceToNat]; rfl) (by simp only [go_sem, Nat.reduceEqDiff, Nat.reduceLT, ↓reduceIte, Nat.reduceAdd, Nat.reduceMul, Nat.reduceLeDiff, Nat.reduceSub, Nat.reduceBEq, Int.reduceEq, Int.reduceLT, Int.reduceLE, Int.reduceToNat, Int.reduceAdd, Int.reduceSub, Int.reduceNeg, UInt8.reduceToNat]; rw [← List.map_take, htk]; rfl) (by simp) ?_
  rintro _ rfl
  rw [idx1, if_neg hm]
  simp only [go_sem, Nat.reduceEqDiff, Nat.reduceLT, ↓reduceIte, Nat.reduceAdd, Nat.reduceMul, Nat.reduceLeDiff, Nat.reduceSub, Nat.reduceBEq, Int.reduceEq, Int.reduceLT, Int.reduceLE, Int.reduceToNat, Int.reduceAdd, Int.reduceSub, Int.reduceNeg, UInt8.reduceToNat]
  have hlen : path.length + 1 = (path ++ [(x : Int)]).length := by simp
  have harr : List.take path.length (List.map i64 (path ++ rest)) ++ [i64 x] = List.map i64 ((path ++ [(x : Int)]) ++ []) := by
    rw [← List.map_take, htk]; simp
  rw [harr, hlen]
  refine ⟨by rw [← hlen]; omega, ⟨by omega, by omega⟩, ?_⟩
  rw [nodes_nd hxl]
  simp only [go_sem, Nat.reduceEqDiff, Nat.reduceLT, ↓reduceIte, Nat.reduceAdd, Nat.reduceMul, Nat.reduceLeDiff, Nat.reduceSub, Nat.reduceBEq, Int.reduceEq, Int.reduceLT, Int.reduceLE, Int.reduceToNat, Int.reduceAdd, Int.reduceSub, Int.reduceNeg, UInt8.reduceToNat]
  refine e_callS E (tau [([102], [47])]) [.bx [100] 0, .d (nodeD (nd ns x))] (PO [102] ns root v (path ++ [(x : Int)]) [] false) PU hc rfl (by simp only [go_sem, Nat.reduceEqDiff, Nat.reduceLT, ↓reduceIte, Nat.reduceAdd, Nat.reduceMul, Nat.reduceLeDiff, Nat.reduceSub, Nat.reduceBEq, Int.reduceEq, Int.reduceLT, Int.reduceLE, Int.reduceToNat, Int.reduceAdd, Int.reduceSub, Int.reduceNeg, UInt8.reduceToNat]; rfl) ⟨by simp only [go_sem, Nat.reduceEqDiff, Nat.reduceLT, ↓reduceIte, Nat.reduceAdd, Nat.reduceMul, Nat.reduceLeDiff, Nat.reduceSub, Nat.reduceBEq, Int.reduceEq, Int.reduceLT, Int.reduceLE, Int.reduceToNat, Int.reduceAdd, Int.reduceSub, Int.reduceNeg, UInt8.reduceToNat], by rw [mk_used]; decide⟩ rfl (by unfold PO PU; simp only [go_sem, Nat.reduceEqDiff, Nat.reduceLT, ↓reduceIte, Nat.reduceAdd, Nat.reduceMul, Nat.reduceLeDiff, Nat.reduceSub, Nat.reduceBEq, Int.reduceEq, Int.reduceLT, Int.reduceLE, Int.reduceToNat, Int.reduceAdd, Int.reduceSub, Int.reduceNeg, UInt8.reduceToNat]) (by unfold PO; simp only [go_sem, Nat.reduceEqDiff, Nat.reduceLT, ↓reduceIte, Nat.reduceAdd, Nat.reduceMul, Nat.reduceLeDiff, Nat.reduceSub, Nat.reduceBEq, Int.reduceEq, Int.reduceLT, Int.reduceLE, Int.reduceToNat, Int.reduceAdd, Int.reduceSub, Int.reduceNeg, UInt8.reduceToNat]) ?_
  rintro _ hp' ⟨d, rest3, rfl, hd, rfl⟩
  unfold PO pcD
  simp only [go_sem, Nat.reduceEqDiff, Nat.reduceLT, ↓reduceIte, Nat.reduceAdd, Nat.reduceMul, Nat.reduceLeDiff, Nat.reduceSub, Nat.reduceBEq, Int.reduceEq, Int.reduceLT, Int.reduceLE, Int.reduceToNat, Int.reduceAdd, Int.reduceSub, Int.reduceNeg, UInt8.reduceToNat]
  have hxs : path ++ [(x : Int)] ++ rest3 = path ++ ((x : Int) :: rest3) := by simp
  rw [hxs]
  refine ⟨⟨by omega, by rw [← hlen]; omega⟩, ?_⟩
  rw [Nat.sub_zero]
  refine e_names E rfl path.length hd rfl rfl (by simp) ?_
  simp only [go_sem, Nat.reduceEqDiff, Nat.reduceLT, ↓reduceIte, Nat.reduceAdd, Nat.reduceMul, Nat.reduceLeDiff, Nat.reduceSub, Nat.reduceBEq, Int.reduceEq, Int.reduceLT, Int.reduceLE, Int.reduceToNat, Int.reduceAdd, Int.reduceSub, Int.reduceNeg, UInt8.reduceToNat]
  refine e_ifd E (fun h1 => ?_) (fun h1 => ?_) <;> simp only [go_sem, Nat.reduceEqDiff, Nat.reduceLT, ↓reduceIte, Nat.reduceAdd, Nat.reduceMul, Nat.reduceLeDiff, Nat.reduceSub, Nat.reduceBEq, Int.reduceEq, Int.reduceLT, Int.reduceLE, Int.reduceToNat, Int.reduceAdd, Int.reduceSub, Int.reduceNeg, UInt8.reduceToNat]
  · refine region_xvt 10 mixed E (by simp only [List.take_succ_cons, List.take_zero]; exact rfl) (by simp only [List.drop_succ_cons, List.drop_zero]; exact rfl) rfl rfl (by decide +kernel) fun X => ?_
    simp only [go_sem, Nat.reduceEqDiff, Nat.reduceLT, ↓reduceIte, Nat.reduceAdd, Nat.reduceMul, Nat.reduceLeDiff, Nat.reduceSub, Nat.reduceBEq, Int.reduceEq, Int.reduceLT, Int.reduceLE, Int.reduceToNat, Int.reduceAdd, Int.reduceSub, Int.reduceNeg, UInt8.reduceToNat]
    refine x_call X (f20_ok path.length (by omega)) rfl rfl (by simp) ?_
    simp only [go_sem, Nat.reduceEqDiff, Nat.reduceLT, ↓reduceIte, Nat.reduceAdd, Nat.reduceMul, Nat.reduceLeDiff, Nat.reduceSub, Nat.reduceBEq, Int.reduceEq, Int.reduceLT, Int.reduceLE, Int.reduceToNat, Int.reduceAdd, Int.reduceSub, Int.reduceNeg, UInt8.reduceToNat]
    have hsd := hd.scal
    have hnl := name_len (k := path.length) (by omega)
    have hRl := hg.1
    unfold D.scal at hsd
    rw [hsd]
    simp only [go_sem, Nat.reduceEqDiff, Nat.reduceLT, ↓reduceIte, Nat.reduceAdd, Nat.reduceMul, Nat.reduceLeDiff, Nat.reduceSub, Nat.reduceBEq, Int.reduceEq, Int.reduceLT, Int.reduceLE, Int.reduceToNat, Int.reduceAdd, Int.reduceSub, Int.reduceNeg, UInt8.reduceToNat]
    refine ⟨by omega, by omega, by simp only [List.length_append, List.length_cons, List.length_nil]; omega, by decide +kernel, ?_⟩
    refine e_frzA E [82] (some 3) [pcD R.1.s R.1.t d] rfl (by simp only [go_sem, Nat.reduceEqDiff, Nat.reduceLT, ↓reduceIte, Nat.reduceAdd, Nat.reduceMul, Nat.reduceLeDiff, Nat.reduceSub, Nat.reduceBEq, Int.reduceEq, Int.reduceLT, Int.reduceLE, Int.reduceToNat, Int.reduceAdd, Int.reduceSub, Int.reduceNeg, UInt8.reduceToNat]; rfl) ?_
    simp only [go_sem, Nat.reduceEqDiff, Nat.reduceLT, ↓reduceIte, Nat.reduceAdd, Nat.reduceMul, Nat.reduceLeDiff, Nat.reduceSub, Nat.reduceBEq, Int.reduceEq, Int.reduceLT, Int.reduceLE, Int.reduceToNat, Int.reduceAdd, Int.reduceSub, Int.reduceNeg, UInt8.reduceToNat]
    have hsome : R.1.nm = some (nmL R.1.nm) := nm_some fun e => by rw [e] at h1; exact absurd h1 (by simp [nmL])
    have hLs : LsOk R.2.2 (psD [⟨R.1.s, R.1.t, d⟩]) [nmL R.1.nm] := fun _ => .inr ⟨_, rfl, ⟨by show NmD d (some (nmL R.1.nm)); rw [← hsome]; exact hd, trivial⟩, by simp⟩
    rw [if_pos h1] at hS
    have hmk := made_ok (G := G) ns root R.2.1 path ((x : Int) :: rest3) R.2.2 (((([109, 117, 32] ++ nameT path.length) ++ [46, 32])) ++ R.1.s) 0 _ [nmL R.1.nm] (by simp only [List.length_append, List.length_cons, List.length_nil]; omega) hLs
    rw [show [nmL R.1.nm].flatten = nmL R.1.nm by simp] at hmk
    generalize madeS R.2.2 (((([109, 117, 32] ++ nameT path.length) ++ [46, 32])) ++ R.1.s) 0 (nmL R.1.nm) = Y at hS hmk
    refine e_callS E (tau [([102], [59, 103])]) [.bx [100] 0, .d (.str (((([109, 117, 32] ++ nameT path.length) ++ [46, 32])) ++ R.1.s)), .d (i64 0), .d (psD [⟨R.1.s, R.1.t, d⟩])] (PO [102] ns root R.2.1 path ((x : Int) :: rest3) R.2.2) PU hmk rfl (by simp only [go_sem, Nat.reduceEqDiff, Nat.reduceLT, ↓reduceIte, Nat.reduceAdd, Nat.reduceMul, Nat.reduceLeDiff, Nat.reduceSub, Nat.reduceBEq, Int.reduceEq, Int.reduceLT, Int.reduceLE, Int.reduceToNat, Int.reduceAdd, Int.reduceSub, Int.reduceNeg, UInt8.reduceToNat]; rfl) ⟨by simp only [go_sem, Nat.reduceEqDiff, Nat.reduceLT, ↓reduceIte, Nat.reduceAdd, Nat.reduceMul, Nat.reduceLeDiff, Nat.reduceSub, Nat.reduceBEq, Int.reduceEq, Int.reduceLT, Int.reduceLE, Int.reduceToNat, Int.reduceAdd, Int.reduceSub, Int.reduceNeg, UInt8.reduceToNat], by rw [mk_used]; decide⟩ rfl (by unfold PO PU; simp only [go_sem, Nat.reduceEqDiff, Nat.reduceLT, ↓reduceIte, Nat.reduceAdd, Nat.reduceMul, Nat.reduceLeDiff, Nat.reduceSub, Nat.reduceBEq, Int.reduceEq, Int.reduceLT, Int.reduceLE, Int.reduceToNat, Int.reduceAdd, Int.reduceSub, Int.reduceNeg, UInt8.reduceToNat]) (by unfold PO; simp only [go_sem, Nat.reduceEqDiff, Nat.reduceLT, ↓reduceIte, Nat.reduceAdd, Nat.reduceMul, Nat.reduceLeDiff, Nat.reduceSub, Nat.reduceBEq, Int.reduceEq, Int.reduceLT, Int.reduceLE, Int.reduceToNat, Int.reduceAdd, Int.reduceSub, Int.reduceNeg, UInt8.reduceToNat]) ?_
    rintro r hp' hq
    unfold MQ at hq
    split at hq
    · rename_i hn2
      obtain ⟨rfl, rfl⟩ := hq
      unfold PO pcD
      simp only [go_sem, Nat.reduceEqDiff, Nat.reduceLT, ↓reduceIte, Nat.reduceAdd, Nat.reduceMul, Nat.reduceLeDiff, Nat.reduceSub, Nat.reduceBEq, Int.reduceEq, Int.reduceLT, Int.reduceLE, Int.reduceToNat, Int.reduceAdd, Int.reduceSub, Int.reduceNeg, UInt8.reduceToNat]
      refine ⟨Nat.le_refl _, ?_⟩
      refine e_deleteN E ((path.length : Nat) : Int) (by rw [ti44]) keyK rfl rfl ?_
      simp only [go_sem, Nat.reduceEqDiff, Nat.reduceLT, ↓reduceIte, Nat.reduceAdd, Nat.reduceMul, Nat.reduceLeDiff, Nat.reduceSub, Nat.reduceBEq, Int.reduceEq, Int.reduceLT, Int.reduceLE, Int.reduceToNat, Int.reduceAdd, Int.reduceSub, Int.reduceNeg, UInt8.reduceToNat]
      rw [hn2] at hS
      subst hS
      refine ⟨_, _, [100, 101, 102, 103], tau [([103], [59, 103])], .inl ⟨.nilm, (x : Int) :: rest3, rfl, rfl, rfl⟩, ?_⟩
      unfold PO pcD
      simp only [go_sem, Nat.reduceEqDiff, Nat.reduceLT, ↓reduceIte, Nat.reduceAdd, Nat.reduceMul, Nat.reduceLeDiff, Nat.reduceSub, Nat.reduceBEq, Int.reduceEq, Int.reduceLT, Int.reduceLE, Int.reduceToNat, Int.reduceAdd, Int.reduceSub, Int.reduceNeg, UInt8.reduceToNat]
    · rename_i l hn2
      obtain ⟨ks, hks, rfl, rfl⟩ := hq
      unfold PO
      simp only [go_sem, Nat.reduceEqDiff, Nat.reduceLT, ↓reduceIte, Nat.reduceAdd, Nat.reduceMul, Nat.reduceLeDiff, Nat.reduceSub, Nat.reduceBEq, Int.reduceEq, Int.reduceLT, Int.reduceLE, Int.reduceToNat, Int.reduceAdd, Int.reduceSub, Int.reduceNeg, UInt8.reduceToNat]
      refine ⟨Nat.le_refl _, ?_⟩
      obtain ⟨ks', hdel, hks'⟩ := set_del hks path.length
      refine e_delete E [83, 104] (setM ks) ((path.length : Nat) : Int) (by rw [ti44]) keyK rfl rfl rfl ?_
      rw [hdel]
      simp only [go_sem, Nat.reduceEqDiff, Nat.reduceLT, ↓reduceIte, Nat.reduceAdd, Nat.reduceMul, Nat.reduceLeDiff, Nat.reduceSub, Nat.reduceBEq, Int.reduceEq, Int.reduceLT, Int.reduceLE, Int.reduceToNat, Int.reduceAdd, Int.reduceSub, Int.reduceNeg, UInt8.reduceToNat]
      rw [hn2] at hS
      subst hS
      refine ⟨_, _, [100, 101, 102, 103, 104], tau [([103], [59, 103]), ([104], [83, 104])], .inr ⟨ks', _, (x : Int) :: rest3, rfl, hks', rfl, rfl⟩, ?_⟩
      unfold PO
      simp only [go_sem, Nat.reduceEqDiff, Nat.reduceLT, ↓reduceIte, Nat.reduceAdd, Nat.reduceMul, Nat.reduceLeDiff, Nat.reduceSub, Nat.reduceBEq, Int.reduceEq, Int.reduceLT, Int.reduceLE, Int.reduceToNat, Int.reduceAdd, Int.reduceSub, Int.reduceNeg, UInt8.reduceToNat]
  · rw [if_neg h1] at hS
    subst hS
    refine ⟨_, _, [100, 101, 102, 103], tau [([103], [59, 103])], .inl ⟨d, (x : Int) :: rest3, rfl, hd, rfl⟩, ?_⟩
    unfold PO pcD
    simp only [go_sem, Nat.reduceEqDiff, Nat.reduceLT, ↓reduceIte, Nat.reduceAdd, Nat.reduceMul, Nat.reduceLeDiff, Nat.reduceSub, Nat.reduceBEq, Int.reduceEq, Int.reduceLT, Int.reduceLE, Int.reduceToNat, Int.reduceAdd, Int.reduceSub, Int.reduceNeg, UInt8.reduceToNat]
end Go.Proofs.YtjoneaifakonjaaDoor
