/-
  A record's text, or a variant's.
-/
import Derived.Test.YtjoneaifakonjaaDoorPC
set_option linter.all false
namespace Go.Proofs.YtjoneaifakonjaaDoor
open Go.Ab
theorem wideL_cons (rec : Int → PSt → Pc × PSt) (f : Fld) (r : List Fld) (i : Nat) (s : List UInt8) (nms : List Nat) (st : PSt) : wideL rec (f :: r) i s nms st =
    if (rec f.2 st).2.2 then ((if 0 < i then s ++ [44, 32] else s) ++ ((f.1 ++ [58, 32]) ++ (childS (rec f.2 st).1 0).s), nms ++ nmL (rec f.2 st).1.nm, (rec f.2 st).2)
    else wideL rec r (i + 1) ((if 0 < i then s ++ [44, 32] else s) ++ ((f.1 ++ [58, 32]) ++ (childS (rec f.2 st).1 0).s)) (nms ++ nmL (rec f.2 st).1.nm) (rec f.2 st).2 := rfl
theorem good_wideL {ns : List TN} {rec : Int → PSt → Pc × PSt} (hr : ∀ i st, okI ns i → VI ns st.1 → Good ns st (rec i st)) : ∀ (l : List Fld) (i : Nat) (s : List UInt8) (nms : List Nat) (st : PSt), (∀ f ∈ l, okI ns f.2) → VI ns st.1 →
    VI ns (wideL rec l i s nms st).2.2.1 ∧ (st.2 = true → (wideL rec l i s nms st).2.2.2 = true)
  | [], _, _, _, _, _, hv => ⟨hv, fun h => h⟩
  | f :: r, i, s, nms, st, hf, hv => by
    have hg := hr f.2 st (hf f List.mem_cons_self) hv
    rw [wideL_cons]
    split
    · rename_i h; exact ⟨hg.2.1, fun _ => h⟩
    · obtain ⟨h1, h2⟩ := good_wideL hr r (i + 1) _ _ (rec f.2 st).2 (fun g hg => hf g (List.mem_cons_of_mem _ hg)) hg.2.1
      exact ⟨h1, fun h => h2 (hg.2.2.2 h)⟩
theorem good_wide {ns : List TN} {rec : Int → PSt → Pc × PSt} (hr : ∀ i st, okI ns i → VI ns st.1 → Good ns st (rec i st)) (n : TN) (op sh : List UInt8) (st : PSt) (hf : ∀ f ∈ n.l, okI ns f.2) (hv : VI ns st.1) : Good ns st (wideS rec n op sh st) := by
  obtain ⟨h1, h2⟩ := good_wideL hr n.l 0 op [] st hf hv
  exact good_made h1 _ _ _ _ st h2
/-- How far the parts are. -/
structure Wd (ns : List TN) (rec : Int → PSt → Pc × PSt) (n : TN) (op : List UInt8) (st0 : PSt) (j : Nat) (s : List UInt8) (ps : List PcD) (ls : List (List Nat)) (st : PSt) : Prop where
  go : wideL rec (n.l.drop j) j s ls.flatten st = wideL rec n.l 0 op [] st0
  len : s.length ≤ 5000 * (j + 1)
  vi : VI ns st.1
  pl : ps.length = j
  lg : st.2 = false → NmsD ps ls
theorem NmsD.snoc : ∀ {ps : List PcD} {ls : List (List Nat)} {q : PcD} {l : List Nat}, NmsD ps ls → NmD q.d (some l) → NmsD (ps ++ [q]) (ls ++ [l])
  | [], [], _, _, _, hq => ⟨hq, trivial⟩
  | _ :: _, _ :: _, _, _, h, hq => ⟨h.1, h.2.snoc hq⟩
  | [], _ :: _, _, _, h, _ => h.elim
  | _ :: _, [], _, _, h, _ => h.elim
set_option maxHeartbeats 1000000 in
theorem f37_ok {G} {ns : List TN} {root : Int} {path : List Int} {rec : Int → PSt → Pc × PSt} (h : RC G ns root path rec) (n : TN) (st : PSt) (rest : List Int) (op sh : List UInt8) (ho : op.length ≤ 10) (hsh : sh.length ≤ 10) (hf : ∀ f ∈ n.l, okI ns f.2) (hfn : ∀ f ∈ n.l, f.1.length ≤ 20) (hl : n.l.length ≤ 30) (hv : VI ns st.1) :
    HCall Tryd.prog G 37 [.bx [100] 0, .d (nodeD n), .d (.str op), .d (.str sh)] (PO [102] ns root st.1 path rest st.2) PU (NQ ns root path (wideS rec n op sh st)) := by
  unfold PO PU
  rw [show nodeD n = .agg [i64 n.k, i64 n.a, i64 n.b, .sl (some 2) (n.l.map fldD)] from rfl]
  refine funO_ok Tryd.func37 rfl (by decide +kernel) (by simp [Tryd.ntmps37]) (veil fun E => ?_)
  simp only [go_sem, Nat.reduceEqDiff, Nat.reduceLT, ↓reduceIte, Nat.reduceAdd, Nat.reduceMul, Nat.reduceLeDiff, Nat.reduceSub, Nat.reduceBEq, Int.reduceEq, Int.reduceLT, Int.reduceLE, Int.reduceToNat, Int.reduceAdd, Int.reduceSub, Int.reduceNeg, UInt8.reduceToNat]
  refine c_thaw E 10 98 (some 3) rfl (by rw [mk_used]; decide) ?_
  simp only [go_sem, Nat.reduceEqDiff, Nat.reduceLT, ↓reduceIte, Nat.reduceAdd, Nat.reduceMul, Nat.reduceLeDiff, Nat.reduceSub, Nat.reduceBEq, Int.reduceEq, Int.reduceLT, Int.reduceLE, Int.reduceToNat, Int.reduceAdd, Int.reduceSub, Int.reduceNeg, UInt8.reduceToNat]
  refine loopT_e E (X := { x : Nat × List UInt8 × List PcD × List (List Nat) × PSt × List Int // x.1 ≤ n.l.length ∧ Wd ns rec n op st x.1 x.2.1 x.2.2.1 x.2.2.2.1 x.2.2.2.2.1 }) (fun x => [(0, .bx [100] 0), (3, .d (.str sh)), (8, .bx [8] 0), (9, .d (.str x.1.2.1)), (10, .vw [98] 0 x.1.2.2.1.length), (16, .d (.sl (some 2) (n.l.map fldD))), (17, .d (i64 n.l.length)), (18, .d (i64 x.1.1))])
    (fun x => [([100], .box [.d (.sl (some 4) (ns.map nodeD)), .d (i64 root), .mp [101], .vw [105] 0 path.length, .d (.bool x.1.2.2.2.2.1.2)]), ([101], .map (menc ki (atMs x.1.2.2.2.2.1.1 x.1.2.2.2.2.1.1.length))), ([105], .arr none ((path ++ x.1.2.2.2.2.2).map i64)), ([8], .box [.d (.str []), .d (i64 0), .d .nilm]), ([98], .arr (some 3) (x.1.2.2.1.map fun q => pcD q.s q.t q.d))]) [8, 98, 105, 100, 101, 102] (fun x => n.l.length - x.1.1)
    ⟨(0, op, [], [], st, rest), Nat.zero_le _, ⟨rfl, by show op.length ≤ _; omega, hv, rfl, fun _ => trivial⟩⟩ (tau [([105], [102])]) ?_ ?_
  · simp only [go_sem, Nat.reduceEqDiff, Nat.reduceLT, ↓reduceIte, Nat.reduceAdd, Nat.reduceMul, Nat.reduceLeDiff, Nat.reduceSub, Nat.reduceBEq, Int.reduceEq, Int.reduceLT, Int.reduceLE, Int.reduceToNat, Int.reduceAdd, Int.reduceSub, Int.reduceNeg, UInt8.reduceToNat]
    all_goals rfl
  rintro ⟨⟨j, s, ps, ls, st1, rest1⟩, hj, hw⟩ E0
  refine hideQ E0 fun Q' hQ E' => ?_
  simp only at hj hw ⊢
  simp only [go_sem, Nat.reduceEqDiff, Nat.reduceLT, ↓reduceIte, Nat.reduceAdd, Nat.reduceMul, Nat.reduceLeDiff, Nat.reduceSub, Nat.reduceBEq, Int.reduceEq, Int.reduceLT, Int.reduceLE, Int.reduceToNat, Int.reduceAdd, Int.reduceSub, Int.reduceNeg, UInt8.reduceToNat]
  refine e_ifd E' (fun h1 => ?_) (fun h1 => ?_) <;> simp only [go_sem, Nat.reduceEqDiff, Nat.reduceLT, ↓reduceIte, Nat.reduceAdd, Nat.reduceMul, Nat.reduceLeDiff, Nat.reduceSub, Nat.reduceBEq, Int.reduceEq, Int.reduceLT, Int.reduceLE, Int.reduceToNat, Int.reduceAdd, Int.reduceSub, Int.reduceNeg, UInt8.reduceToNat]
  · have hj' : j < n.l.length := by omega
    obtain ⟨f, hfe⟩ : ∃ f, f = n.l[j] := ⟨_, rfl⟩
    have hfm : f ∈ n.l := by rw [hfe]; exact List.getElem_mem hj'
    have hgf : (n.l.map fldD).getD j .nilp = .agg [.str f.1, i64 f.2] := by simp [hj', hfe, fldD]
    refine ⟨⟨by omega, by omega⟩, ?_⟩
    rw [hgf]
    simp only [go_sem, Nat.reduceEqDiff, Nat.reduceLT, ↓reduceIte, Nat.reduceAdd, Nat.reduceMul, Nat.reduceLeDiff, Nat.reduceSub, Nat.reduceBEq, Int.reduceEq, Int.reduceLT, Int.reduceLE, Int.reduceToNat, Int.reduceAdd, Int.reduceSub, Int.reduceNeg, UInt8.reduceToNat]
    have hg := h.ok f.2 st1 (hf f hfm) hw.vi
    have hdrop : n.l.drop j = f :: n.l.drop (j + 1) := by rw [hfe]; exact List.drop_eq_getElem_cons hj'
    have hwl := hw.len
    have hpl := hw.pl
    have hfl := hfn f hfm
    refine e_ifd E' (fun h2 => ?_) (fun h2 => ?_) <;> simp only [go_sem, Nat.reduceEqDiff, Nat.reduceLT, ↓reduceIte, Nat.reduceAdd, Nat.reduceMul, Nat.reduceLeDiff, Nat.reduceSub, Nat.reduceBEq, Int.reduceEq, Int.reduceLT, Int.reduceLE, Int.reduceToNat, Int.reduceAdd, Int.reduceSub, Int.reduceNeg, UInt8.reduceToNat]
    · have hif : (if 0 < j then s ++ [44, 32] else s) = s ++ [44, 32] := if_pos (by omega)
      refine ⟨by omega, ?_⟩
      refine e_callS E' (tau [([102], [105])]) [.bx [100] 0, .d (i64 f.2), .d (i64 0)] (PO [102] ns root st1.1 path rest1 st1.2) PU (f43_ok h f.2 st1 rest1 0 (hf f hfm) hw.vi) rfl (by simp only [go_sem, Nat.reduceEqDiff, Nat.reduceLT, ↓reduceIte, Nat.reduceAdd, Nat.reduceMul, Nat.reduceLeDiff, Nat.reduceSub, Nat.reduceBEq, Int.reduceEq, Int.reduceLT, Int.reduceLE, Int.reduceToNat, Int.reduceAdd, Int.reduceSub, Int.reduceNeg, UInt8.reduceToNat]) ⟨by simp only [go_sem, Nat.reduceEqDiff, Nat.reduceLT, ↓reduceIte, Nat.reduceAdd, Nat.reduceMul, Nat.reduceLeDiff, Nat.reduceSub, Nat.reduceBEq, Int.reduceEq, Int.reduceLT, Int.reduceLE, Int.reduceToNat, Int.reduceAdd, Int.reduceSub, Int.reduceNeg, UInt8.reduceToNat], by rw [mk_used]; decide⟩ rfl (by unfold PO PU; simp only [go_sem, Nat.reduceEqDiff, Nat.reduceLT, ↓reduceIte, Nat.reduceAdd, Nat.reduceMul, Nat.reduceLeDiff, Nat.reduceSub, Nat.reduceBEq, Int.reduceEq, Int.reduceLT, Int.reduceLE, Int.reduceToNat, Int.reduceAdd, Int.reduceSub, Int.reduceNeg, UInt8.reduceToNat]) (by unfold PO; simp only [go_sem, Nat.reduceEqDiff, Nat.reduceLT, ↓reduceIte, Nat.reduceAdd, Nat.reduceMul, Nat.reduceLeDiff, Nat.reduceSub, Nat.reduceBEq, Int.reduceEq, Int.reduceLT, Int.reduceLE, Int.reduceToNat, Int.reduceAdd, Int.reduceSub, Int.reduceNeg, UInt8.reduceToNat]) ?_
      rintro _ hp' ⟨d, rest2, rfl, hd, rfl⟩
      have hcl := child_len hg.1 0
      have hcn := child_nm (rec f.2 st1).1 0
      have hgo := hw.go
      rw [hdrop, wideL_cons, hif] at hgo
      generalize childS (rec f.2 st1).1 0 = C at hd hcl hcn hgo ⊢
      generalize rec f.2 st1 = R at hd hg hcn hgo ⊢
      unfold PO pcD
      simp only [go_sem, Nat.reduceEqDiff, Nat.reduceLT, ↓reduceIte, Nat.reduceAdd, Nat.reduceMul, Nat.reduceLeDiff, Nat.reduceSub, Nat.reduceBEq, Int.reduceEq, Int.reduceLT, Int.reduceLE, Int.reduceToNat, Int.reduceAdd, Int.reduceSub, Int.reduceNeg, UInt8.reduceToNat]
      have hsd := hd.scal
      unfold D.scal at hsd
      rw [hsd]
      simp only [go_sem, Nat.reduceEqDiff, Nat.reduceLT, ↓reduceIte, Nat.reduceAdd, Nat.reduceMul, Nat.reduceLeDiff, Nat.reduceSub, Nat.reduceBEq, Int.reduceEq, Int.reduceLT, Int.reduceLE, Int.reduceToNat, Int.reduceAdd, Int.reduceSub, Int.reduceNeg, UInt8.reduceToNat]
      have hsl : ((s ++ [44, 32]) ++ ((f.1 ++ [58, 32]) ++ C.s)).length ≤ 5000 * (j + 1 + 1) := by simp only [List.length_append, List.length_cons, List.length_nil]; omega
      have hxs : (ps.map fun q => D.agg [D.str q.s, i64 q.t, q.d]) ++ [D.agg [D.str C.s, i64 C.t, d]] = (ps ++ [(⟨C.s, C.t, d⟩ : PcD)]).map fun q : PcD => pcD q.s q.t q.d := by simp [pcD]
      have hps1 : ps.length + 1 = (ps ++ [(⟨C.s, C.t, d⟩ : PcD)]).length := by simp
      have hlg2 : R.2.2 = false → NmsD (ps ++ [⟨C.s, C.t, d⟩]) (ls ++ [nmL R.1.nm]) := fun hf2 => by
        have h1 : st1.2 = false := by
          cases e : st1.2 with
          | false => rfl
          | true => have := hg.2.2.2 e; rw [hf2] at this; cases this
        refine (hw.lg h1).snoc ?_
        show NmD d (some (nmL R.1.nm))
        rw [← nm_some (fun e => by have := hg.2.2.1 e; rw [hf2] at this; cases this), ← hcn]
        exact hd
      have hfl2 : (ls ++ [nmL R.1.nm]).flatten = ls.flatten ++ nmL R.1.nm := by simp
      rw [hxs, hps1]
      refine ⟨by rw [← hps1]; omega, by omega, by simp only [List.length_append, List.length_cons, List.length_nil]; omega, by simp only [List.length_append, List.length_cons, List.length_nil]; omega, ?_⟩
      generalize (ps ++ [(⟨C.s, C.t, d⟩ : PcD)]) = PS at hlg2 hps1 ⊢
      rw [← hfl2] at hgo
      generalize ls ++ [nmL R.1.nm] = LS at hgo hlg2
      refine e_if E' (fun h3 => ?_) (fun h3 => ?_) <;> simp only [go_sem, Nat.reduceEqDiff, Nat.reduceLT, ↓reduceIte, Nat.reduceAdd, Nat.reduceMul, Nat.reduceLeDiff, Nat.reduceSub, Nat.reduceBEq, Int.reduceEq, Int.reduceLT, Int.reduceLE, Int.reduceToNat, Int.reduceAdd, Int.reduceSub, Int.reduceNeg, UInt8.reduceToNat]
      · rw [h3, if_pos rfl] at hgo
        rw [h3]
        have hgo : ((s ++ [44, 32]) ++ ((f.1 ++ [58, 32]) ++ C.s), LS.flatten, (R.2.1, true)) = wideL rec n.l 0 op [] st := by rw [← hgo, ← h3]
        have hlg3 : true = false → NmsD PS LS := fun h => by cases h
        generalize (s ++ [44, 32]) ++ ((f.1 ++ [58, 32]) ++ C.s) = SS at hgo hsl ⊢
        rw [hQ]
        simp only [go_sem, Nat.reduceEqDiff, Nat.reduceLT, ↓reduceIte, Nat.reduceAdd, Nat.reduceMul, Nat.reduceLeDiff, Nat.reduceSub, Nat.reduceBEq, Int.reduceEq, Int.reduceLT, Int.reduceLE, Int.reduceToNat, Int.reduceAdd, Int.reduceSub, Int.reduceNeg, UInt8.reduceToNat]
        refine ⟨by omega, ?_⟩
        refine e_frzA E [34] (some 3) (PS.map fun q => pcD q.s q.t q.d) rfl (by simp only [go_sem, Nat.reduceEqDiff, Nat.reduceLT, ↓reduceIte, Nat.reduceAdd, Nat.reduceMul, Nat.reduceLeDiff, Nat.reduceSub, Nat.reduceBEq, Int.reduceEq, Int.reduceLT, Int.reduceLE, Int.reduceToNat, Int.reduceAdd, Int.reduceSub, Int.reduceNeg, UInt8.reduceToNat]; rfl) ?_
        simp only [go_sem, Nat.reduceEqDiff, Nat.reduceLT, ↓reduceIte, Nat.reduceAdd, Nat.reduceMul, Nat.reduceLeDiff, Nat.reduceSub, Nat.reduceBEq, Int.reduceEq, Int.reduceLT, Int.reduceLE, Int.reduceToNat, Int.reduceAdd, Int.reduceSub, Int.reduceNeg, UInt8.reduceToNat]
        have hwS : wideS rec n op sh st = ((madeS true (SS ++ sh) 4 LS.flatten).1, (R.2.1, (madeS true (SS ++ sh) 4 LS.flatten).2)) := by
          unfold wideS
          rw [← hgo]
        have hLs : LsOk true (psD PS) LS := fun hf3 => .inr ⟨_, rfl, hlg3 hf3, by omega⟩
        refine e_callS E (tau [([102], [30, 103])]) [.bx [100] 0, .d (.str (SS ++ sh)), .d (i64 4), .d (psD PS)] (PO [102] ns root R.2.1 path rest2 true) PU (made_fz ns root R.2.1 path rest2 true _ 4 _ LS (by simp only [List.length_append]; omega) hLs) rfl (by simp only [go_sem, Nat.reduceEqDiff, Nat.reduceLT, ↓reduceIte, Nat.reduceAdd, Nat.reduceMul, Nat.reduceLeDiff, Nat.reduceSub, Nat.reduceBEq, Int.reduceEq, Int.reduceLT, Int.reduceLE, Int.reduceToNat, Int.reduceAdd, Int.reduceSub, Int.reduceNeg, UInt8.reduceToNat]; rfl) ⟨by simp only [go_sem, Nat.reduceEqDiff, Nat.reduceLT, ↓reduceIte, Nat.reduceAdd, Nat.reduceMul, Nat.reduceLeDiff, Nat.reduceSub, Nat.reduceBEq, Int.reduceEq, Int.reduceLT, Int.reduceLE, Int.reduceToNat, Int.reduceAdd, Int.reduceSub, Int.reduceNeg, UInt8.reduceToNat], by rw [mk_used]; decide⟩ rfl (by unfold PO PU; simp only [go_sem, Nat.reduceEqDiff, Nat.reduceLT, ↓reduceIte, Nat.reduceAdd, Nat.reduceMul, Nat.reduceLeDiff, Nat.reduceSub, Nat.reduceBEq, Int.reduceEq, Int.reduceLT, Int.reduceLE, Int.reduceToNat, Int.reduceAdd, Int.reduceSub, Int.reduceNeg, UInt8.reduceToNat]) (by unfold PO; simp only [go_sem, Nat.reduceEqDiff, Nat.reduceLT, ↓reduceIte, Nat.reduceAdd, Nat.reduceMul, Nat.reduceLeDiff, Nat.reduceSub, Nat.reduceBEq, Int.reduceEq, Int.reduceLT, Int.reduceLE, Int.reduceToNat, Int.reduceAdd, Int.reduceSub, Int.reduceNeg, UInt8.reduceToNat]) ?_
        rintro _ hp' ⟨d2, rfl, hd2, rfl⟩
        unfold PO pcD
        simp only [go_sem, Nat.reduceEqDiff, Nat.reduceLT, ↓reduceIte, Nat.reduceAdd, Nat.reduceMul, Nat.reduceLeDiff, Nat.reduceSub, Nat.reduceBEq, Int.reduceEq, Int.reduceLT, Int.reduceLE, Int.reduceToNat, Int.reduceAdd, Int.reduceSub, Int.reduceNeg, UInt8.reduceToNat]
        refine ⟨Nat.le_refl _, ?_⟩
        rw [hwS]
        refine ⟨_, _, [100, 101, 102, 103], tau [([103], [30, 103])], ⟨d2, rest2, rfl, hd2, rfl⟩, ?_⟩
        unfold PO pcD
        simp only [go_sem, Nat.reduceEqDiff, Nat.reduceLT, ↓reduceIte, Nat.reduceAdd, Nat.reduceMul, Nat.reduceLeDiff, Nat.reduceSub, Nat.reduceBEq, Int.reduceEq, Int.reduceLT, Int.reduceLE, Int.reduceToNat, Int.reduceAdd, Int.reduceSub, Int.reduceNeg, UInt8.reduceToNat]
      · rw [h3, if_neg (by simp)] at hgo
        rw [w64_in ⟨by omega, by omega⟩, hQ]
        simp only [go_sem, Nat.reduceEqDiff, Nat.reduceLT, ↓reduceIte, Nat.reduceAdd, Nat.reduceMul, Nat.reduceLeDiff, Nat.reduceSub, Nat.reduceBEq, Int.reduceEq, Int.reduceLT, Int.reduceLE, Int.reduceToNat, Int.reduceAdd, Int.reduceSub, Int.reduceNeg, UInt8.reduceToNat]
        refine ⟨⟨(j + 1, (s ++ [44, 32]) ++ ((f.1 ++ [58, 32]) ++ C.s), PS, LS, R.2, rest2), by omega, ⟨hgo, hsl, hg.2.1, by rw [← hps1, hpl], hlg2⟩⟩, by show n.l.length - (j + 1) < _; omega, tau [([105], [30, 103]), ([98], [34])], ?_⟩
        simp only [go_sem, Nat.reduceEqDiff, Nat.reduceLT, ↓reduceIte, Nat.reduceAdd, Nat.reduceMul, Nat.reduceLeDiff, Nat.reduceSub, Nat.reduceBEq, Int.reduceEq, Int.reduceLT, Int.reduceLE, Int.reduceToNat, Int.reduceAdd, Int.reduceSub, Int.reduceNeg, UInt8.reduceToNat]
        rfl
    · have hif : (if 0 < j then s ++ [44, 32] else s) = s := if_neg (by omega)
      refine e_callS E' (tau [([102], [105])]) [.bx [100] 0, .d (i64 f.2), .d (i64 0)] (PO [102] ns root st1.1 path rest1 st1.2) PU (f43_ok h f.2 st1 rest1 0 (hf f hfm) hw.vi) rfl (by simp only [go_sem, Nat.reduceEqDiff, Nat.reduceLT, ↓reduceIte, Nat.reduceAdd, Nat.reduceMul, Nat.reduceLeDiff, Nat.reduceSub, Nat.reduceBEq, Int.reduceEq, Int.reduceLT, Int.reduceLE, Int.reduceToNat, Int.reduceAdd, Int.reduceSub, Int.reduceNeg, UInt8.reduceToNat]) ⟨by simp only [go_sem, Nat.reduceEqDiff, Nat.reduceLT, ↓reduceIte, Nat.reduceAdd, Nat.reduceMul, Nat.reduceLeDiff, Nat.reduceSub, Nat.reduceBEq, Int.reduceEq, Int.reduceLT, Int.reduceLE, Int.reduceToNat, Int.reduceAdd, Int.reduceSub, Int.reduceNeg, UInt8.reduceToNat], by rw [mk_used]; decide⟩ rfl (by unfold PO PU; simp only [go_sem, Nat.reduceEqDiff, Nat.reduceLT, ↓reduceIte, Nat.reduceAdd, Nat.reduceMul, Nat.reduceLeDiff, Nat.reduceSub, Nat.reduceBEq, Int.reduceEq, Int.reduceLT, Int.reduceLE, Int.reduceToNat, Int.reduceAdd, Int.reduceSub, Int.reduceNeg, UInt8.reduceToNat]) (by unfold PO; simp only [go_sem, Nat.reduceEqDiff, Nat.reduceLT, ↓reduceIte, Nat.reduceAdd, Nat.reduceMul, Nat.reduceLeDiff, Nat.reduceSub, Nat.reduceBEq, Int.reduceEq, Int.reduceLT, Int.reduceLE, Int.reduceToNat, Int.reduceAdd, Int.reduceSub, Int.reduceNeg, UInt8.reduceToNat]) ?_
      rintro _ hp' ⟨d, rest2, rfl, hd, rfl⟩
      have hcl := child_len hg.1 0
      have hcn := child_nm (rec f.2 st1).1 0
      have hgo := hw.go
      rw [hdrop, wideL_cons, hif] at hgo
      generalize childS (rec f.2 st1).1 0 = C at hd hcl hcn hgo ⊢
      generalize rec f.2 st1 = R at hd hg hcn hgo ⊢
      unfold PO pcD
      simp only [go_sem, Nat.reduceEqDiff, Nat.reduceLT, ↓reduceIte, Nat.reduceAdd, Nat.reduceMul, Nat.reduceLeDiff, Nat.reduceSub, Nat.reduceBEq, Int.reduceEq, Int.reduceLT, Int.reduceLE, Int.reduceToNat, Int.reduceAdd, Int.reduceSub, Int.reduceNeg, UInt8.reduceToNat]
      have hsd := hd.scal
      unfold D.scal at hsd
      rw [hsd]
      simp only [go_sem, Nat.reduceEqDiff, Nat.reduceLT, ↓reduceIte, Nat.reduceAdd, Nat.reduceMul, Nat.reduceLeDiff, Nat.reduceSub, Nat.reduceBEq, Int.reduceEq, Int.reduceLT, Int.reduceLE, Int.reduceToNat, Int.reduceAdd, Int.reduceSub, Int.reduceNeg, UInt8.reduceToNat]
      have hsl : (s ++ ((f.1 ++ [58, 32]) ++ C.s)).length ≤ 5000 * (j + 1 + 1) := by simp only [List.length_append, List.length_cons, List.length_nil]; omega
      have hxs : (ps.map fun q => D.agg [D.str q.s, i64 q.t, q.d]) ++ [D.agg [D.str C.s, i64 C.t, d]] = (ps ++ [(⟨C.s, C.t, d⟩ : PcD)]).map fun q : PcD => pcD q.s q.t q.d := by simp [pcD]
      have hps1 : ps.length + 1 = (ps ++ [(⟨C.s, C.t, d⟩ : PcD)]).length := by simp
      have hlg2 : R.2.2 = false → NmsD (ps ++ [⟨C.s, C.t, d⟩]) (ls ++ [nmL R.1.nm]) := fun hf2 => by
        have h1 : st1.2 = false := by
          cases e : st1.2 with
          | false => rfl
          | true => have := hg.2.2.2 e; rw [hf2] at this; cases this
        refine (hw.lg h1).snoc ?_
        show NmD d (some (nmL R.1.nm))
        rw [← nm_some (fun e => by have := hg.2.2.1 e; rw [hf2] at this; cases this), ← hcn]
        exact hd
      have hfl2 : (ls ++ [nmL R.1.nm]).flatten = ls.flatten ++ nmL R.1.nm := by simp
      rw [hxs, hps1]
      refine ⟨by rw [← hps1]; omega, by omega, by simp only [List.length_append, List.length_cons, List.length_nil]; omega, by simp only [List.length_append, List.length_cons, List.length_nil]; omega, ?_⟩
      generalize (ps ++ [(⟨C.s, C.t, d⟩ : PcD)]) = PS at hlg2 hps1 ⊢
      rw [← hfl2] at hgo
      generalize ls ++ [nmL R.1.nm] = LS at hgo hlg2
      refine e_if E' (fun h3 => ?_) (fun h3 => ?_) <;> simp only [go_sem, Nat.reduceEqDiff, Nat.reduceLT, ↓reduceIte, Nat.reduceAdd, Nat.reduceMul, Nat.reduceLeDiff, Nat.reduceSub, Nat.reduceBEq, Int.reduceEq, Int.reduceLT, Int.reduceLE, Int.reduceToNat, Int.reduceAdd, Int.reduceSub, Int.reduceNeg, UInt8.reduceToNat]
      · rw [h3, if_pos rfl] at hgo
        rw [h3]
        have hgo : (s ++ ((f.1 ++ [58, 32]) ++ C.s), LS.flatten, (R.2.1, true)) = wideL rec n.l 0 op [] st := by rw [← hgo, ← h3]
        have hlg3 : true = false → NmsD PS LS := fun h => by cases h
        generalize s ++ ((f.1 ++ [58, 32]) ++ C.s) = SS at hgo hsl ⊢
        rw [hQ]
        simp only [go_sem, Nat.reduceEqDiff, Nat.reduceLT, ↓reduceIte, Nat.reduceAdd, Nat.reduceMul, Nat.reduceLeDiff, Nat.reduceSub, Nat.reduceBEq, Int.reduceEq, Int.reduceLT, Int.reduceLE, Int.reduceToNat, Int.reduceAdd, Int.reduceSub, Int.reduceNeg, UInt8.reduceToNat]
        refine ⟨by omega, ?_⟩
        refine e_frzA E [34] (some 3) (PS.map fun q => pcD q.s q.t q.d) rfl (by simp only [go_sem, Nat.reduceEqDiff, Nat.reduceLT, ↓reduceIte, Nat.reduceAdd, Nat.reduceMul, Nat.reduceLeDiff, Nat.reduceSub, Nat.reduceBEq, Int.reduceEq, Int.reduceLT, Int.reduceLE, Int.reduceToNat, Int.reduceAdd, Int.reduceSub, Int.reduceNeg, UInt8.reduceToNat]; rfl) ?_
        simp only [go_sem, Nat.reduceEqDiff, Nat.reduceLT, ↓reduceIte, Nat.reduceAdd, Nat.reduceMul, Nat.reduceLeDiff, Nat.reduceSub, Nat.reduceBEq, Int.reduceEq, Int.reduceLT, Int.reduceLE, Int.reduceToNat, Int.reduceAdd, Int.reduceSub, Int.reduceNeg, UInt8.reduceToNat]
        have hwS : wideS rec n op sh st = ((madeS true (SS ++ sh) 4 LS.flatten).1, (R.2.1, (madeS true (SS ++ sh) 4 LS.flatten).2)) := by
          unfold wideS
          rw [← hgo]
        have hLs : LsOk true (psD PS) LS := fun hf3 => .inr ⟨_, rfl, hlg3 hf3, by omega⟩
        refine e_callS E (tau [([102], [30, 103])]) [.bx [100] 0, .d (.str (SS ++ sh)), .d (i64 4), .d (psD PS)] (PO [102] ns root R.2.1 path rest2 true) PU (made_fz ns root R.2.1 path rest2 true _ 4 _ LS (by simp only [List.length_append]; omega) hLs) rfl (by simp only [go_sem, Nat.reduceEqDiff, Nat.reduceLT, ↓reduceIte, Nat.reduceAdd, Nat.reduceMul, Nat.reduceLeDiff, Nat.reduceSub, Nat.reduceBEq, Int.reduceEq, Int.reduceLT, Int.reduceLE, Int.reduceToNat, Int.reduceAdd, Int.reduceSub, Int.reduceNeg, UInt8.reduceToNat]; rfl) ⟨by simp only [go_sem, Nat.reduceEqDiff, Nat.reduceLT, ↓reduceIte, Nat.reduceAdd, Nat.reduceMul, Nat.reduceLeDiff, Nat.reduceSub, Nat.reduceBEq, Int.reduceEq, Int.reduceLT, Int.reduceLE, Int.reduceToNat, Int.reduceAdd, Int.reduceSub, Int.reduceNeg, UInt8.reduceToNat], by rw [mk_used]; decide⟩ rfl (by unfold PO PU; simp only [go_sem, Nat.reduceEqDiff, Nat.reduceLT, ↓reduceIte, Nat.reduceAdd, Nat.reduceMul, Nat.reduceLeDiff, Nat.reduceSub, Nat.reduceBEq, Int.reduceEq, Int.reduceLT, Int.reduceLE, Int.reduceToNat, Int.reduceAdd, Int.reduceSub, Int.reduceNeg, UInt8.reduceToNat]) (by unfold PO; simp only [go_sem, Nat.reduceEqDiff, Nat.reduceLT, ↓reduceIte, Nat.reduceAdd, Nat.reduceMul, Nat.reduceLeDiff, Nat.reduceSub, Nat.reduceBEq, Int.reduceEq, Int.reduceLT, Int.reduceLE, Int.reduceToNat, Int.reduceAdd, Int.reduceSub, Int.reduceNeg, UInt8.reduceToNat]) ?_
        rintro _ hp' ⟨d2, rfl, hd2, rfl⟩
        unfold PO pcD
        simp only [go_sem, Nat.reduceEqDiff, Nat.reduceLT, ↓reduceIte, Nat.reduceAdd, Nat.reduceMul, Nat.reduceLeDiff, Nat.reduceSub, Nat.reduceBEq, Int.reduceEq, Int.reduceLT, Int.reduceLE, Int.reduceToNat, Int.reduceAdd, Int.reduceSub, Int.reduceNeg, UInt8.reduceToNat]
        refine ⟨Nat.le_refl _, ?_⟩
        rw [hwS]
        refine ⟨_, _, [100, 101, 102, 103], tau [([103], [30, 103])], ⟨d2, rest2, rfl, hd2, rfl⟩, ?_⟩
        unfold PO pcD
        simp only [go_sem, Nat.reduceEqDiff, Nat.reduceLT, ↓reduceIte, Nat.reduceAdd, Nat.reduceMul, Nat.reduceLeDiff, Nat.reduceSub, Nat.reduceBEq, Int.reduceEq, Int.reduceLT, Int.reduceLE, Int.reduceToNat, Int.reduceAdd, Int.reduceSub, Int.reduceNeg, UInt8.reduceToNat]
      · rw [h3, if_neg (by simp)] at hgo
        rw [w64_in ⟨by omega, by omega⟩, hQ]
        simp only [go_sem, Nat.reduceEqDiff, Nat.reduceLT, ↓reduceIte, Nat.reduceAdd, Nat.reduceMul, Nat.reduceLeDiff, Nat.reduceSub, Nat.reduceBEq, Int.reduceEq, Int.reduceLT, Int.reduceLE, Int.reduceToNat, Int.reduceAdd, Int.reduceSub, Int.reduceNeg, UInt8.reduceToNat]
        refine ⟨⟨(j + 1, s ++ ((f.1 ++ [58, 32]) ++ C.s), PS, LS, R.2, rest2), by omega, ⟨hgo, hsl, hg.2.1, by rw [← hps1, hpl], hlg2⟩⟩, by show n.l.length - (j + 1) < _; omega, tau [([105], [30, 103]), ([98], [34])], ?_⟩
        simp only [go_sem, Nat.reduceEqDiff, Nat.reduceLT, ↓reduceIte, Nat.reduceAdd, Nat.reduceMul, Nat.reduceLeDiff, Nat.reduceSub, Nat.reduceBEq, Int.reduceEq, Int.reduceLT, Int.reduceLE, Int.reduceToNat, Int.reduceAdd, Int.reduceSub, Int.reduceNeg, UInt8.reduceToNat]
        rfl
  · have hjl : j = n.l.length := by omega
    have hgo := hw.go
    rw [hjl, List.drop_length] at hgo
    have hgo : (s, ls.flatten, st1) = wideL rec n.l 0 op [] st := hgo
    have hgv := hw.vi
    have hsl := hw.len
    have hpl := hw.pl
    have hlg3 := hw.lg
    rw [hQ]
    simp only [go_sem, Nat.reduceEqDiff, Nat.reduceLT, ↓reduceIte, Nat.reduceAdd, Nat.reduceMul, Nat.reduceLeDiff, Nat.reduceSub, Nat.reduceBEq, Int.reduceEq, Int.reduceLT, Int.reduceLE, Int.reduceToNat, Int.reduceAdd, Int.reduceSub, Int.reduceNeg, UInt8.reduceToNat]
    refine ⟨by omega, ?_⟩
    refine e_frzA E [98] (some 3) (ps.map fun q => pcD q.s q.t q.d) rfl (by simp only [go_sem, Nat.reduceEqDiff, Nat.reduceLT, ↓reduceIte, Nat.reduceAdd, Nat.reduceMul, Nat.reduceLeDiff, Nat.reduceSub, Nat.reduceBEq, Int.reduceEq, Int.reduceLT, Int.reduceLE, Int.reduceToNat, Int.reduceAdd, Int.reduceSub, Int.reduceNeg, UInt8.reduceToNat]; rfl) ?_
    simp only [go_sem, Nat.reduceEqDiff, Nat.reduceLT, ↓reduceIte, Nat.reduceAdd, Nat.reduceMul, Nat.reduceLeDiff, Nat.reduceSub, Nat.reduceBEq, Int.reduceEq, Int.reduceLT, Int.reduceLE, Int.reduceToNat, Int.reduceAdd, Int.reduceSub, Int.reduceNeg, UInt8.reduceToNat]
    have hwS : wideS rec n op sh st = ((madeS st1.2 (s ++ sh) 4 ls.flatten).1, (st1.1, (madeS st1.2 (s ++ sh) 4 ls.flatten).2)) := by
      unfold wideS
      rw [← hgo]
    have hLs : LsOk st1.2 (psD ps) ls := fun hf3 => .inr ⟨_, rfl, hlg3 hf3, by omega⟩
    refine e_callS E (tau [([102], [105])]) [.bx [100] 0, .d (.str (s ++ sh)), .d (i64 4), .d (psD ps)] (PO [102] ns root st1.1 path rest1 st1.2) PU (made_fz ns root st1.1 path rest1 st1.2 _ 4 _ ls (by simp only [List.length_append]; omega) hLs) rfl (by simp only [go_sem, Nat.reduceEqDiff, Nat.reduceLT, ↓reduceIte, Nat.reduceAdd, Nat.reduceMul, Nat.reduceLeDiff, Nat.reduceSub, Nat.reduceBEq, Int.reduceEq, Int.reduceLT, Int.reduceLE, Int.reduceToNat, Int.reduceAdd, Int.reduceSub, Int.reduceNeg, UInt8.reduceToNat]; rfl) ⟨by simp only [go_sem, Nat.reduceEqDiff, Nat.reduceLT, ↓reduceIte, Nat.reduceAdd, Nat.reduceMul, Nat.reduceLeDiff, Nat.reduceSub, Nat.reduceBEq, Int.reduceEq, Int.reduceLT, Int.reduceLE, Int.reduceToNat, Int.reduceAdd, Int.reduceSub, Int.reduceNeg, UInt8.reduceToNat], by rw [mk_used]; decide⟩ rfl (by unfold PO PU; simp only [go_sem, Nat.reduceEqDiff, Nat.reduceLT, ↓reduceIte, Nat.reduceAdd, Nat.reduceMul, Nat.reduceLeDiff, Nat.reduceSub, Nat.reduceBEq, Int.reduceEq, Int.reduceLT, Int.reduceLE, Int.reduceToNat, Int.reduceAdd, Int.reduceSub, Int.reduceNeg, UInt8.reduceToNat]) (by unfold PO; simp only [go_sem, Nat.reduceEqDiff, Nat.reduceLT, ↓reduceIte, Nat.reduceAdd, Nat.reduceMul, Nat.reduceLeDiff, Nat.reduceSub, Nat.reduceBEq, Int.reduceEq, Int.reduceLT, Int.reduceLE, Int.reduceToNat, Int.reduceAdd, Int.reduceSub, Int.reduceNeg, UInt8.reduceToNat]) ?_
    rintro _ hp' ⟨d2, rfl, hd2, rfl⟩
    unfold PO pcD
    simp only [go_sem, Nat.reduceEqDiff, Nat.reduceLT, ↓reduceIte, Nat.reduceAdd, Nat.reduceMul, Nat.reduceLeDiff, Nat.reduceSub, Nat.reduceBEq, Int.reduceEq, Int.reduceLT, Int.reduceLE, Int.reduceToNat, Int.reduceAdd, Int.reduceSub, Int.reduceNeg, UInt8.reduceToNat]
    refine ⟨Nat.le_refl _, ?_⟩
    rw [hwS]
    refine ⟨_, _, [100, 101, 102, 103], tau [([103], [105])], ⟨d2, rest1, rfl, hd2, rfl⟩, ?_⟩
    unfold PO pcD
    simp only [go_sem, Nat.reduceEqDiff, Nat.reduceLT, ↓reduceIte, Nat.reduceAdd, Nat.reduceMul, Nat.reduceLeDiff, Nat.reduceSub, Nat.reduceBEq, Int.reduceEq, Int.reduceLT, Int.reduceLE, Int.reduceToNat, Int.reduceAdd, Int.reduceSub, Int.reduceNeg, UInt8.reduceToNat]
end Go.Proofs.YtjoneaifakonjaaDoor
