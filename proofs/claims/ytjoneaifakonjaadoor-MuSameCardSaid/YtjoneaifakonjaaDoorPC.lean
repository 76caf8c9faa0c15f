/-
  A child's text; a node of two children.
-/
import Derived.Test.YtjoneaifakonjaaDoorPB
set_option linter.all false
namespace Go.Proofs.YtjoneaifakonjaaDoor
open Go.Ab
def Good (ns : List TN) (st : PSt) (r : Pc × PSt) : Prop := r.1.s.length ≤ 4000 ∧ VI ns r.2.1 ∧ (r.1.nm = none → r.2.2 = true) ∧ (st.2 = true → r.2.2 = true)
/-- What is handed back of a piece; the path lies elsewhere then. -/
def NQ (ns : List TN) (root : Int) (path : List Int) (m : Pc × PSt) (r : AV) (hp' : List (Name × Ob)) : Prop :=
  ∃ d rest, r = .d (pcD m.1.s m.1.t d) ∧ NmD d m.1.nm ∧ hp' = PO [103] ns root m.2.1 path rest m.2.2
structure RC (G : List (Nat × Obj)) (ns : List TN) (root : Int) (path : List Int) (rec : Int → PSt → Pc × PSt) : Prop where
  ok : ∀ i st, okI ns i → VI ns st.1 → Good ns st (rec i st)
  call : ∀ i st rest, okI ns i → VI ns st.1 → HCall Tryd.prog G 10 [.bx [100] 0, .d (i64 i)] (PO [102] ns root st.1 path rest st.2) PU (NQ ns root path (rec i st))
theorem good_made {ns : List TN} {v : List Int} (hv : VI ns v) (lg : Bool) (s : List UInt8) (t : Int) (nms : List Nat) (st : PSt) (hst : st.2 = true → lg = true) : Good ns st ((madeS lg s t nms).1, (v, (madeS lg s t nms).2)) := by
  unfold madeS
  split
  · exact ⟨by simp, hv, fun _ => rfl, fun _ => rfl⟩
  · rename_i h
    refine ⟨by simp only; omega, hv, fun h => (by cases h), fun h2 => ?_⟩
    exact absurd (.inl (hst h2)) h
theorem f43_ok {G} {ns : List TN} {root : Int} {path : List Int} {rec : Int → PSt → Pc × PSt} (h : RC G ns root path rec) (i : Int) (st : PSt) (rest : List Int) (least : Int) (hi : okI ns i) (hv : VI ns st.1) :
    HCall Tryd.prog G 43 [.bx [100] 0, .d (i64 i), .d (i64 least)] (PO [102] ns root st.1 path rest st.2) PU (NQ ns root path (childS (rec i st).1 least, (rec i st).2)) := by
  have hc := h.call i st rest hi hv
  have hg := h.ok i st hi hv
  generalize rec i st = R at hc hg
  unfold PO PU
  refine funO_ok Tryd.func43 rfl (by decide +kernel) (by simp [Tryd.ntmps43]) (veil fun E => ?_)
  simp only [go_sem, Nat.reduceEqDiff, Nat.reduceLT, ↓reduceIte, Nat.reduceAdd, Nat.reduceMul, Nat.reduceLeDiff, Nat.reduceSub, Nat.reduceBEq, Int.reduceEq, Int.reduceLT, Int.reduceLE, Int.reduceToNat, Int.reduceAdd, Int.reduceSub, Int.reduceNeg, UInt8.reduceToNat]
  refine e_callO E [.bx [100] 0, .d (i64 i)] (PO [102] ns root st.1 path rest st.2) PU hc rfl rfl ⟨by simp only [go_sem, Nat.reduceEqDiff, Nat.reduceLT, ↓reduceIte, Nat.reduceAdd, Nat.reduceMul, Nat.reduceLeDiff, Nat.reduceSub, Nat.reduceBEq, Int.reduceEq, Int.reduceLT, Int.reduceLE, Int.reduceToNat, Int.reduceAdd, Int.reduceSub, Int.reduceNeg, UInt8.reduceToNat], by rw [mk_used]; decide⟩ rfl (by unfold PO PU; simp only [go_sem, Nat.reduceEqDiff, Nat.reduceLT, ↓reduceIte, Nat.reduceAdd, Nat.reduceMul, Nat.reduceLeDiff, Nat.reduceSub, Nat.reduceBEq, Int.reduceEq, Int.reduceLT, Int.reduceLE, Int.reduceToNat, Int.reduceAdd, Int.reduceSub, Int.reduceNeg, UInt8.reduceToNat]) (by unfold PO; simp only [go_sem, Nat.reduceEqDiff, Nat.reduceLT, ↓reduceIte, Nat.reduceAdd, Nat.reduceMul, Nat.reduceLeDiff, Nat.reduceSub, Nat.reduceBEq, Int.reduceEq, Int.reduceLT, Int.reduceLE, Int.reduceToNat, Int.reduceAdd, Int.reduceSub, Int.reduceNeg, UInt8.reduceToNat]) ?_
  rintro r hp' ⟨d, rest', rfl, hd, rfl⟩
  unfold PO pcD
  simp only [go_sem, Nat.reduceEqDiff, Nat.reduceLT, ↓reduceIte, Nat.reduceAdd, Nat.reduceMul, Nat.reduceLeDiff, Nat.reduceSub, Nat.reduceBEq, Int.reduceEq, Int.reduceLT, Int.reduceLE, Int.reduceToNat, Int.reduceAdd, Int.reduceSub, Int.reduceNeg, UInt8.reduceToNat]
  refine e_ifd E (fun h1 => ?_) (fun h1 => ?_) <;> simp only [go_sem, Nat.reduceEqDiff, Nat.reduceLT, ↓reduceIte, Nat.reduceAdd, Nat.reduceMul, Nat.reduceLeDiff, Nat.reduceSub, Nat.reduceBEq, Int.reduceEq, Int.reduceLT, Int.reduceLE, Int.reduceToNat, Int.reduceAdd, Int.reduceSub, Int.reduceNeg, UInt8.reduceToNat]
  · have hs := hg.1
    refine ⟨by omega, by omega, ?_⟩
    have e : childS R.1 least = { R.1 with s := ([40] ++ R.1.s) ++ [41] } := by rw [childS, if_pos h1]
    rw [e]
    refine ⟨_, _, [100, 101, 102, 103], tau [([103], [10, 103])], ⟨d, rest', rfl, hd, rfl⟩, ?_⟩
    unfold PO pcD
    simp only [go_sem, Nat.reduceEqDiff, Nat.reduceLT, ↓reduceIte, Nat.reduceAdd, Nat.reduceMul, Nat.reduceLeDiff, Nat.reduceSub, Nat.reduceBEq, Int.reduceEq, Int.reduceLT, Int.reduceLE, Int.reduceToNat, Int.reduceAdd, Int.reduceSub, Int.reduceNeg, UInt8.reduceToNat]
  · have e : childS R.1 least = R.1 := by rw [childS, if_neg h1]
    rw [e]
    refine ⟨_, _, [100, 101, 102, 103], tau [([103], [10, 103])], ⟨d, rest', rfl, hd, rfl⟩, ?_⟩
    unfold PO pcD
    simp only [go_sem, Nat.reduceEqDiff, Nat.reduceLT, ↓reduceIte, Nat.reduceAdd, Nat.reduceMul, Nat.reduceLeDiff, Nat.reduceSub, Nat.reduceBEq, Int.reduceEq, Int.reduceLT, Int.reduceLE, Int.reduceToNat, Int.reduceAdd, Int.reduceSub, Int.reduceNeg, UInt8.reduceToNat]
theorem child_len {x : Pc} (h : x.s.length ≤ 4000) (least : Int) : (childS x least).s.length ≤ 4002 := by
  unfold childS
  split
  · simp; omega
  · omega
theorem child_nm (x : Pc) (least : Int) : (childS x least).nm = x.nm := by unfold childS; split <;> rfl
theorem good_pair {ns : List TN} {rec : Int → PSt → Pc × PSt} (hr : ∀ i st, okI ns i → VI ns st.1 → Good ns st (rec i st)) (n : TN) (sign : List UInt8) (l r t : Int) (st : PSt) (ha : okI ns n.a) (hb : okI ns n.b) (hv : VI ns st.1) : Good ns st (pairS rec n sign l r t st) := by
  have h1 := hr n.a st ha hv
  have h2 := hr n.b (rec n.a st).2 hb h1.2.1
  exact good_made h2.2.1 _ _ _ _ st (fun h => h2.2.2.2 (h1.2.2.2 h))
theorem NmD.scal {d : D} {o : Option (List Nat)} (h : NmD d o) : d.scal = true := by
  cases o with
  | none => cases h; rfl
  | some l => obtain ⟨_, _, _, _, rfl, _⟩ := h; rfl
theorem nm_some {o : Option (List Nat)} (h : o ≠ none) : o = some (nmL o) := by cases o with
  | none => exact absurd rfl h
  | some l => rfl
theorem f36_ok {G} {ns : List TN} {root : Int} {path : List Int} {rec : Int → PSt → Pc × PSt} (h : RC G ns root path rec) (n : TN) (st : PSt) (rest : List Int) (sign : List UInt8) (l r t : Int) (hsg : sign.length ≤ 10) (ha : okI ns n.a) (hb : okI ns n.b) (hv : VI ns st.1) :
    HCall Tryd.prog G 36 [.bx [100] 0, .d (nodeD n), .d (.str sign), .d (i64 l), .d (i64 r), .d (i64 t)] (PO [102] ns root st.1 path rest st.2) PU (NQ ns root path (pairS rec n sign l r t st)) := by
  have hga := h.ok n.a st ha hv
  have hca := f43_ok h n.a st rest l ha hv
  have hcb := fun rest' => f43_ok h n.b (rec n.a st).2 rest' r hb hga.2.1
  have hgb := h.ok n.b (rec n.a st).2 hb hga.2.1
  unfold pairS
  simp only
  generalize rec n.a st = RA at hga hca hcb hgb ⊢
  generalize rec n.b RA.2 = RB at hcb hgb ⊢
  have hla := child_len hga.1 l
  have hlb := child_len hgb.1 r
  have hna := child_nm RA.1 l
  have hnb := child_nm RB.1 r
  generalize childS RA.1 l = CA at hca hla hna ⊢
  generalize childS RB.1 r = CB at hcb hlb hnb ⊢
  unfold PO PU
  rw [show nodeD n = .agg [i64 n.k, i64 n.a, i64 n.b, fldsD n.l] from rfl]
  refine funO_ok Tryd.func36 rfl (by decide +kernel) (by simp [Tryd.ntmps36]) (veil fun E => ?_)
  simp only [go_sem, Nat.reduceEqDiff, Nat.reduceLT, ↓reduceIte, Nat.reduceAdd, Nat.reduceMul, Nat.reduceLeDiff, Nat.reduceSub, Nat.reduceBEq, Int.reduceEq, Int.reduceLT, Int.reduceLE, Int.reduceToNat, Int.reduceAdd, Int.reduceSub, Int.reduceNeg, UInt8.reduceToNat]
  refine e_callO E [.bx [100] 0, .d (i64 n.a), .d (i64 l)] (PO [102] ns root st.1 path rest st.2) PU hca rfl rfl ⟨by simp only [go_sem, Nat.reduceEqDiff, Nat.reduceLT, ↓reduceIte, Nat.reduceAdd, Nat.reduceMul, Nat.reduceLeDiff, Nat.reduceSub, Nat.reduceBEq, Int.reduceEq, Int.reduceLT, Int.reduceLE, Int.reduceToNat, Int.reduceAdd, Int.reduceSub, Int.reduceNeg, UInt8.reduceToNat], by rw [mk_used]; decide⟩ rfl (by unfold PO PU; simp only [go_sem, Nat.reduceEqDiff, Nat.reduceLT, ↓reduceIte, Nat.reduceAdd, Nat.reduceMul, Nat.reduceLeDiff, Nat.reduceSub, Nat.reduceBEq, Int.reduceEq, Int.reduceLT, Int.reduceLE, Int.reduceToNat, Int.reduceAdd, Int.reduceSub, Int.reduceNeg, UInt8.reduceToNat]) (by unfold PO; simp only [go_sem, Nat.reduceEqDiff, Nat.reduceLT, ↓reduceIte, Nat.reduceAdd, Nat.reduceMul, Nat.reduceLeDiff, Nat.reduceSub, Nat.reduceBEq, Int.reduceEq, Int.reduceLT, Int.reduceLE, Int.reduceToNat, Int.reduceAdd, Int.reduceSub, Int.reduceNeg, UInt8.reduceToNat]) ?_
  rintro _ hp' ⟨da, resta, rfl, hda, rfl⟩
  unfold PO pcD
  simp only [go_sem, Nat.reduceEqDiff, Nat.reduceLT, ↓reduceIte, Nat.reduceAdd, Nat.reduceMul, Nat.reduceLeDiff, Nat.reduceSub, Nat.reduceBEq, Int.reduceEq, Int.reduceLT, Int.reduceLE, Int.reduceToNat, Int.reduceAdd, Int.reduceSub, Int.reduceNeg, UInt8.reduceToNat]
  refine e_callS E (tau [([102], [19, 103])]) [.bx [100] 0, .d (i64 n.b), .d (i64 r)] (PO [102] ns root RA.2.1 path resta RA.2.2) PU (hcb resta) rfl (by simp only [go_sem, Nat.reduceEqDiff, Nat.reduceLT, ↓reduceIte, Nat.reduceAdd, Nat.reduceMul, Nat.reduceLeDiff, Nat.reduceSub, Nat.reduceBEq, Int.reduceEq, Int.reduceLT, Int.reduceLE, Int.reduceToNat, Int.reduceAdd, Int.reduceSub, Int.reduceNeg, UInt8.reduceToNat]) ⟨by simp only [go_sem, Nat.reduceEqDiff, Nat.reduceLT, ↓reduceIte, Nat.reduceAdd, Nat.reduceMul, Nat.reduceLeDiff, Nat.reduceSub, Nat.reduceBEq, Int.reduceEq, Int.reduceLT, Int.reduceLE, Int.reduceToNat, Int.reduceAdd, Int.reduceSub, Int.reduceNeg, UInt8.reduceToNat], by rw [mk_used]; decide⟩ rfl (by unfold PO PU; simp only [go_sem, Nat.reduceEqDiff, Nat.reduceLT, ↓reduceIte, Nat.reduceAdd, Nat.reduceMul, Nat.reduceLeDiff, Nat.reduceSub, Nat.reduceBEq, Int.reduceEq, Int.reduceLT, Int.reduceLE, Int.reduceToNat, Int.reduceAdd, Int.reduceSub, Int.reduceNeg, UInt8.reduceToNat]) (by unfold PO; simp only [go_sem, Nat.reduceEqDiff, Nat.reduceLT, ↓reduceIte, Nat.reduceAdd, Nat.reduceMul, Nat.reduceLeDiff, Nat.reduceSub, Nat.reduceBEq, Int.reduceEq, Int.reduceLT, Int.reduceLE, Int.reduceToNat, Int.reduceAdd, Int.reduceSub, Int.reduceNeg, UInt8.reduceToNat]) ?_
  rintro _ hp' ⟨db, restb, rfl, hdb, rfl⟩
  unfold PO pcD
  simp only [go_sem, Nat.reduceEqDiff, Nat.reduceLT, ↓reduceIte, Nat.reduceAdd, Nat.reduceMul, Nat.reduceLeDiff, Nat.reduceSub, Nat.reduceBEq, Int.reduceEq, Int.reduceLT, Int.reduceLE, Int.reduceToNat, Int.reduceAdd, Int.reduceSub, Int.reduceNeg, UInt8.reduceToNat]
  have hsa := hda.scal
  have hsb := hdb.scal
  unfold D.scal at hsa hsb
  rw [hsa, hsb]
  simp only [go_sem, Nat.reduceEqDiff, Nat.reduceLT, ↓reduceIte, Nat.reduceAdd, Nat.reduceMul, Nat.reduceLeDiff, Nat.reduceSub, Nat.reduceBEq, Int.reduceEq, Int.reduceLT, Int.reduceLE, Int.reduceToNat, Int.reduceAdd, Int.reduceSub, Int.reduceNeg, UInt8.reduceToNat]
  refine ⟨by omega, by rw [List.length_append]; omega, ?_⟩
  refine e_frzA E [36] (some 3) [pcD CA.s CA.t da, pcD CB.s CB.t db] rfl (by simp only [go_sem, Nat.reduceEqDiff, Nat.reduceLT, ↓reduceIte, Nat.reduceAdd, Nat.reduceMul, Nat.reduceLeDiff, Nat.reduceSub, Nat.reduceBEq, Int.reduceEq, Int.reduceLT, Int.reduceLE, Int.reduceToNat, Int.reduceAdd, Int.reduceSub, Int.reduceNeg, UInt8.reduceToNat]; rfl) ?_
  simp only [go_sem, Nat.reduceEqDiff, Nat.reduceLT, ↓reduceIte, Nat.reduceAdd, Nat.reduceMul, Nat.reduceLeDiff, Nat.reduceSub, Nat.reduceBEq, Int.reduceEq, Int.reduceLT, Int.reduceLE, Int.reduceToNat, Int.reduceAdd, Int.reduceSub, Int.reduceNeg, UInt8.reduceToNat]
  have hL : LsOk RB.2.2 (psD [⟨CA.s, CA.t, da⟩, ⟨CB.s, CB.t, db⟩]) [nmL RA.1.nm, nmL RB.1.nm] := fun hlg => .inr ⟨_, rfl, ⟨by
      show NmD da (some (nmL RA.1.nm))
      rw [← nm_some (fun e => by have := hgb.2.2.2 (hga.2.2.1 e); rw [hlg] at this; cases this), ← hna]; exact hda, by
      show NmD db (some (nmL RB.1.nm))
      rw [← nm_some (fun e => by have := hgb.2.2.1 e; rw [hlg] at this; cases this), ← hnb]; exact hdb, trivial⟩, by simp⟩
  refine e_callS E (tau [([102], [24, 103])]) [.bx [100] 0, .d (.str ((CA.s ++ sign) ++ CB.s)), .d (i64 t), .d (psD [⟨CA.s, CA.t, da⟩, ⟨CB.s, CB.t, db⟩])] (PO [102] ns root RB.2.1 path restb RB.2.2) PU (made_fz ns root RB.2.1 path restb RB.2.2 _ t _ [nmL RA.1.nm, nmL RB.1.nm] (by simp only [List.length_append]; omega) hL) rfl (by simp only [go_sem, Nat.reduceEqDiff, Nat.reduceLT, ↓reduceIte, Nat.reduceAdd, Nat.reduceMul, Nat.reduceLeDiff, Nat.reduceSub, Nat.reduceBEq, Int.reduceEq, Int.reduceLT, Int.reduceLE, Int.reduceToNat, Int.reduceAdd, Int.reduceSub, Int.reduceNeg, UInt8.reduceToNat]; rfl) ⟨by simp only [go_sem, Nat.reduceEqDiff, Nat.reduceLT, ↓reduceIte, Nat.reduceAdd, Nat.reduceMul, Nat.reduceLeDiff, Nat.reduceSub, Nat.reduceBEq, Int.reduceEq, Int.reduceLT, Int.reduceLE, Int.reduceToNat, Int.reduceAdd, Int.reduceSub, Int.reduceNeg, UInt8.reduceToNat], by rw [mk_used]; decide⟩ rfl (by unfold PO PU; simp only [go_sem, Nat.reduceEqDiff, Nat.reduceLT, ↓reduceIte, Nat.reduceAdd, Nat.reduceMul, Nat.reduceLeDiff, Nat.reduceSub, Nat.reduceBEq, Int.reduceEq, Int.reduceLT, Int.reduceLE, Int.reduceToNat, Int.reduceAdd, Int.reduceSub, Int.reduceNeg, UInt8.reduceToNat]) (by unfold PO; simp only [go_sem, Nat.reduceEqDiff, Nat.reduceLT, ↓reduceIte, Nat.reduceAdd, Nat.reduceMul, Nat.reduceLeDiff, Nat.reduceSub, Nat.reduceBEq, Int.reduceEq, Int.reduceLT, Int.reduceLE, Int.reduceToNat, Int.reduceAdd, Int.reduceSub, Int.reduceNeg, UInt8.reduceToNat]) ?_
  rintro _ hp' ⟨d, rfl, hd, rfl⟩
  rw [show [nmL RA.1.nm, nmL RB.1.nm].flatten = nmL RA.1.nm ++ nmL RB.1.nm by simp] at hd ⊢
  unfold PO pcD
  simp only [go_sem, Nat.reduceEqDiff, Nat.reduceLT, ↓reduceIte, Nat.reduceAdd, Nat.reduceMul, Nat.reduceLeDiff, Nat.reduceSub, Nat.reduceBEq, Int.reduceEq, Int.reduceLT, Int.reduceLE, Int.reduceToNat, Int.reduceAdd, Int.reduceSub, Int.reduceNeg, UInt8.reduceToNat]
  refine ⟨Nat.le_refl _, ?_⟩
  refine ⟨_, _, [100, 101, 102, 103], tau [([103], [24, 103])], ⟨d, restb, rfl, hd, rfl⟩, ?_⟩
  unfold PO pcD
  simp only [go_sem, Nat.reduceEqDiff, Nat.reduceLT, ↓reduceIte, Nat.reduceAdd, Nat.reduceMul, Nat.reduceLeDiff, Nat.reduceSub, Nat.reduceBEq, Int.reduceEq, Int.reduceLT, Int.reduceLE, Int.reduceToNat, Int.reduceAdd, Int.reduceSub, Int.reduceNeg, UInt8.reduceToNat]
end Go.Proofs.YtjoneaifakonjaaDoor
