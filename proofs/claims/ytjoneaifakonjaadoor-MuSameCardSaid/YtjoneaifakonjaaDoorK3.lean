/-
  The generic layer, part 65: regions that draw their order, whose last operations stand behind all others: these are walked as written. (with the parts that follow it)
-/
import Derived.Test.YtjoneaifakonjaaDoorK1
set_option linter.all false
/-! ### The generic layer, part 65: regions whose last operations stand behind all others. -/
namespace Go.Ab
section
variable {P : Program} {cf : Cf} {ops opsP : Array Oper}
theorem tail_any {ro : Option Nat} {Q : Exit → Act → World → Prop} {m : Nat} (haft : ∀ i o, ops[i]? = some o → ∀ e ∈ o.after, Region.binds .any e = true → e.on < i) (htl : ∀ j i, m ≤ j → j < ops.size → i < j → Anc ops j i) :
    ∀ (d j fuel : Nat) (listed : Array Bool) (a : Act) (w : World), j + d = ops.size → m ≤ j → d ≤ fuel → Up ops listed (List.range j) → wpOpsIn (Fw ro) 0 P ops Q (List.range' j d) a w → wpAnyIn (Fw ro) 0 P .any ops Q fuel listed a w := by
  intro d
  induction d with
  | zero =>
    intro j fuel listed a w hj hmj hf hu h
    have hr : Region.ready .any ops listed = [] := by
      apply List.eq_nil_iff_forall_not_mem.2
      intro i hi
      obtain ⟨h0, o, ho, _⟩ := mem_ready.1 hi
      have hlt : i < ops.size := by
        rcases Nat.lt_or_ge i ops.size with hlt | hge
        · exact hlt
        · rw [Array.getElem?_eq_none hge] at ho; cases ho
      have h3 := (hu.mem i hlt).2 (List.mem_range.2 (by omega))
      simp [h3] at h0
    cases fuel with
    | zero => exact ⟨hr, h⟩
    | succ fuel => exact ⟨fun _ => h, fun i hi => by rw [hr] at hi; cases hi⟩
  | succ d ih =>
    intro j fuel listed a w hj hmj hf hu h
    cases fuel with
    | zero => omega
    | succ fuel =>
      have hjl : j < ops.size := by omega
      obtain ⟨o, ho⟩ : ∃ o, ops[j]? = some o := ⟨ops[j], by simp⟩
      have hjr : j ∈ Region.ready .any ops listed := by
        rw [mem_ready]
        refine ⟨?_, o, ho, fun e he hb => ?_⟩
        · have := hu.mem j hjl
          have hl : j < listed.size := by rw [hu.size]; exact hjl
          cases hv : listed[j] with
          | true =>
            have := List.mem_range.1 (this.1 (by simp [hl, hv]))
            omega
          | false => simp [hl, hv]
        · have h2 := haft j o ho e he hb
          have h3 := (hu.mem e.on (by omega)).2 (List.mem_range.2 h2)
          simp [h3]
      refine ⟨fun hr => (by rw [hr] at hjr; cases hjr), fun i hi => ?_⟩
      obtain ⟨h0, oi, hoi, hw⟩ := mem_ready.1 hi
      have hlt : i < ops.size := by
        rcases Nat.lt_or_ge i ops.size with hlt | hge
        · exact hlt
        · rw [Array.getElem?_eq_none hge] at hoi; cases hoi
      have hij : i = j := by
        rcases Nat.lt_trichotomy i j with g | g | g
        · have h3 := (hu.mem i hlt).2 (List.mem_range.2 g)
          simp [h3] at h0
        · exact g
        · have hwL : ∀ e ∈ oi.after, Region.binds .any e = true → e.on ∈ List.range j := fun e he hb => by
            have h1 := hw e he hb
            have h2 := haft i oi hoi e he hb
            refine (hu.mem e.on (by omega)).1 ?_
            have hl : e.on < listed.size := by rw [hu.size]; omega
            simp [hl] at h1
            simp [hl, h1]
          have := List.mem_range.1 (anc_ready hu hoi hwL (htl i j (by omega) hlt g))
          omega
      subst hij
      rw [List.range'_succ, wpOpsIn_cons] at h
      refine wpOpIn_mono (fun a' w' h' => ih (i + 1) fuel _ a' w' (by omega) (by omega) (by omega) ?_ h') h
      refine ⟨by simpa using hu.size, fun x hx => ?_, fun x hx => by have := List.mem_range.1 hx; omega, fun x hx o' ho' e he hb => ?_⟩
      · have hl : i < listed.size := by rw [hu.size]; exact hlt
        by_cases hij : i = x
        · subst hij; simp [hl]
        · rw [Array.getElem?_setIfInBounds_ne hij, hu.mem x hx, List.mem_range, List.mem_range]
          omega
      · have h2 := haft x o' ho' e he hb
        have := List.mem_range.1 hx
        exact List.mem_range.2 (by omega)

variable {ns : Ns} {xs : Nat → AV} {fs : Nat → Fp} {s : St}
theorem anyE2 (hq : chk opsP ns = true) (hns : ∀ i, i < opsP.size → ns.getD i ([], [], []) = fpN (fs i)) {B : Base} (hB : cf.fits B) {ds : List Deferred} {Q : Exit → Act → World → Prop}
    (hlt0 : opsP.size < ops.size) (hpre : ∀ i, i < opsP.size → ops[i]? = opsP[i]?) (hgd : ∀ (i : Nat) (o : Oper), opsP[i]? = some o → o.guard = none)
    (haft : ∀ i o, ops[i]? = some o → ∀ e ∈ o.after, Region.binds .any e = true → e.on < i) (htl : ∀ j i, opsP.size ≤ j → j < ops.size → i < j → Anc ops j i)
    (hall : ∀ j o, opsP[j]? = some o → FactE P cf opsP j o (layE opsP xs fs (List.range' 0 (j - 0)) s) (xs j) (fs j))
    (hK : ∀ β a w, a.defers = ds → Sim B β (layE opsP xs fs (List.range' 0 opsP.size) s) a.tmps w → wpOpsIn (Fw cf.ro) 0 P ops Q (List.range' opsP.size (ops.size - opsP.size)) a w) :
    ∀ (fuel : Nat) (listed listedP : Array Bool) (L : List Nat) (s' : St) (β : Name → Option Blk) (a : Act) (w : World), Up ops listed L → Up opsP listedP L → L.Nodup → ops.size ≤ fuel + L.length → a.defers = ds → OKE opsP xs fs s L s' → Sim B β s' a.tmps w →
      wpAnyIn (Fw cf.ro) 0 P .any ops Q fuel listed a w := by
  intro fuel
  induction fuel with
  | zero =>
    intro listed listedP L s' β a w hu huP hnd hn hds hL hs
    have := nodup_len opsP.size L hnd huP.lt
    omega
  | succ fuel ih =>
    intro listed listedP L s' β a w hu huP hnd hn hds hL hs
    have full : (∀ j, j < opsP.size → j ∈ L) → wpAnyIn (Fw cf.ro) 0 P .any ops Q (fuel + 1) listed a w := by
      intro hfull
      obtain ⟨⟨e1, e2⟩, e3⟩ := sched_fin hq hL huP.lt hfull
      have h1 := hK β a w hds (hs.reuse e1.symm e2.symm e3)
      have hmem : ∀ j, j ∈ L ↔ j < opsP.size := fun j => ⟨huP.lt j, hfull j⟩
      have hlen := nodup_len opsP.size L hnd huP.lt
      refine tail_any haft htl (ops.size - opsP.size) opsP.size (fuel + 1) listed a w (by omega) (Nat.le_refl _) (by omega) ?_ h1
      exact ⟨hu.size, fun j hj => by rw [hu.mem j hj, hmem, List.mem_range], fun j hj => by have := List.mem_range.1 hj; omega, fun j hj o ho e he hb => by
        have := haft j o ho e he hb
        have := List.mem_range.1 hj
        exact List.mem_range.2 (by omega)⟩
    by_cases hfull : ∀ j, j < opsP.size → j ∈ L
    · exact full hfull
    have hmiss : ∃ j, j < opsP.size ∧ j ∉ L := by
      apply Decidable.byContradiction
      intro h
      exact hfull fun j hj => Decidable.byContradiction fun hn => h ⟨j, hj, hn⟩
    obtain ⟨j0, hj0, hj0L⟩ := hmiss
    refine ⟨fun hr => ?_, fun i hi => ?_⟩
    · exfalso
      have key : ∀ j, j < opsP.size → j ∈ L := by
        intro j
        induction j using Nat.strongRecOn with
        | ind j ih2 =>
          intro hlt
          apply Decidable.byContradiction
          intro hn2
          have hjo : j < ops.size := by omega
          obtain ⟨o, ho⟩ : ∃ o, ops[j]? = some o := ⟨ops[j], by simp⟩
          have : j ∈ Region.ready .any ops listed := by
            rw [mem_ready]
            refine ⟨?_, o, ho, fun e he hb => ?_⟩
            · have := hu.mem j hjo
              have hl : j < listed.size := by rw [hu.size]; exact hjo
              cases hv : listed[j] with
              | true => exact absurd (this.1 (by simp [hl, hv])) hn2
              | false => simp [hl, hv]
            · have h2 := haft j o ho e he hb
              have h3 := (hu.mem e.on (by omega)).2 (ih2 e.on h2 (by omega))
              simp [h3]
          rw [hr] at this; cases this
      exact hj0L (key j0 hj0)
    · obtain ⟨h0, o, ho, hw⟩ := mem_ready.1 hi
      have hlt : i < ops.size := by
        rcases Nat.lt_or_ge i ops.size with hlt | hge
        · exact hlt
        · rw [Array.getElem?_eq_none hge] at ho; cases ho
      have hiL : i ∉ L := fun h => by
        have h3 := (hu.mem i hlt).2 h
        simp [h3] at h0
      have hwL : ∀ e ∈ o.after, Region.binds .any e = true → e.on ∈ L := fun e he hb => by
        have h1 := hw e he hb
        have h2 := haft i o ho e he hb
        refine (hu.mem e.on (by omega)).1 ?_
        have hl : e.on < listed.size := by rw [hu.size]; omega
        simp [hl] at h1
        simp [hl, h1]
      have hiP : i < opsP.size := by
        apply Decidable.byContradiction
        intro hge
        exact hj0L (anc_ready hu ho hwL (htl i j0 (by omega) hlt (by omega)))
      have hoP : opsP[i]? = some o := by rw [← hpre i hiP]; exact ho
      have hd : dstOf opsP i = o.dst := by simp [dstOf, hoP]
      have hg := hgd i o hoP
      have hconv : ∀ K a w, wpOpIn (Fw cf.ro) 0 P opsP Q i K a w → wpOpIn (Fw cf.ro) 0 P ops Q i K a w := fun K a w h => by
        simp only [wpOpIn, hoP, ho, Region.wanted, hg, if_true] at h ⊢
        exact h
      refine hconv _ _ _ (wpOpIn_mono (fun a' w' ⟨hd', β', hs'⟩ => ih (listed.setIfInBounds i true) (listedP.setIfInBounds i true) (L ++ [i]) _ β' a' w' ?_ ?_ ?_ ?_ hd' (hd ▸ hL.snoc ?_) hs') ((hall i o hoP).2 _ (sched_agr hq hns huP hL hoP hiL hwL (hall i o hoP).1) B hB ds β a w hds hs Q))
      · refine ⟨by simpa using hu.size, fun j hj => ?_, fun j hj => ?_, fun j hj o' ho' e he hb => ?_⟩
        · have hl : j < listed.size := by rw [hu.size]; exact hj
          by_cases hij : i = j
          · subst hij; simp [hl]
          · rw [Array.getElem?_setIfInBounds_ne hij, hu.mem j hj]
            simp [Ne.symm hij]
        · rcases List.mem_append.1 hj with hj | hj
          · exact hu.lt j hj
          · rw [List.mem_singleton.1 hj]; exact hlt
        · rcases List.mem_append.1 hj with hj | hj
          · exact List.mem_append_left _ (hu.closed j hj o' ho' e he hb)
          · rw [List.mem_singleton.1 hj, ho] at ho'
            cases ho'
            exact List.mem_append_left _ (hwL e he hb)
      · refine ⟨by simpa using huP.size, fun j hj => ?_, fun j hj => ?_, fun j hj o' ho' e he hb => ?_⟩
        · have hl : j < listedP.size := by rw [huP.size]; exact hj
          by_cases hij : i = j
          · subst hij; simp [hl]
          · rw [Array.getElem?_setIfInBounds_ne hij, huP.mem j hj]
            simp [Ne.symm hij]
        · rcases List.mem_append.1 hj with hj | hj
          · exact huP.lt j hj
          · rw [List.mem_singleton.1 hj]; exact hiP
        · rcases List.mem_append.1 hj with hj | hj
          · exact List.mem_append_left _ (huP.closed j hj o' ho' e he hb)
          · rw [List.mem_singleton.1 hj, hoP] at ho'
            cases ho'
            exact List.mem_append_left _ (hwL e he hb)
      · rw [List.nodup_append]
        exact ⟨hnd, by simp, fun x hx y hy => by rw [List.mem_singleton.1 hy]; rintro rfl; exact hiL hx⟩
      · simp only [List.length_append, List.length_singleton]; omega
      · intro k hk p o1 o2 h1 h2
        have hne : i ≠ k := fun e => hiL (e ▸ hk)
        rcases wr_bef hq hns hiP (huP.lt k hk) hne h1 (.inr ⟨o2, h2⟩) with ⟨h3, _⟩ | ⟨_, h4⟩
        · omega
        · exact absurd (anc_closed huP h4 hk) hiL

/-- The last operations stand behind all others, one behind the other. -/
def tailOk (ops : Array Oper) (m : Nat) : Bool :=
  let A := ancs [] ops.toList
  ((List.range ops.size).all fun i => match ops[i]? with
    | some o => o.after.toList.all fun e => !Region.binds .any e || decide (e.on < i)
    | none => true) &&
  (List.range ops.size).all fun j => decide (j < m) || (List.range j).all fun i => (A.getD j []).contains i
theorem tailOk_aft {m : Nat} (h : tailOk ops m = true) : ∀ i o, ops[i]? = some o → ∀ e ∈ o.after, Region.binds .any e = true → e.on < i := by
  intro i o ho e he hb
  have hi : i < ops.size := by
    rcases Nat.lt_or_ge i ops.size with hlt | hge
    · exact hlt
    · rw [Array.getElem?_eq_none hge] at ho; cases ho
  simp only [tailOk, Bool.and_eq_true] at h
  have h2 := List.all_eq_true.1 h.1 i (List.mem_range.2 hi)
  simp only [ho] at h2
  have h3 := List.all_eq_true.1 h2 e (Array.mem_toList_iff.2 he)
  simpa [hb] using h3
theorem tailOk_anc {m : Nat} (h : tailOk ops m = true) : ∀ j i, m ≤ j → j < ops.size → i < j → Anc ops j i := by
  intro j i hm hj hi
  simp only [tailOk, Bool.and_eq_true] at h
  have h2 := List.all_eq_true.1 h.2 j (List.mem_range.2 hj)
  simp only [Bool.or_eq_true, decide_eq_true_eq] at h2
  have h3 := h2.resolve_left (by omega)
  have h4 := List.all_eq_true.1 h3 i (List.mem_range.2 hi)
  exact ancs_sound (ops := ops) ops.toList [] (fun j => by simp) (fun i k hk => by simp at hk) _ _ (by simpa using h4)

/-- A region that draws its order: its head by one walk, its tail as written. -/
theorem region_xt {id : Nat} {l q : List Oper} {s : St} {k : List It} {Q : Exit → St → Prop} (hm : P.follows .mixedOrders = true) (hq0 : q ≠ []) (hg : (l.all fun o => o.guard.isNone) = true) (ht : tailOk (l ++ q).toArray l.length = true)
    (h : xrun P cf l.toArray (fun s' ns => chk l.toArray ns = true ∧ run P cf (.ops (l ++ q).toArray q :: k) Q s') l s []) : ACk P cf (.region id (l ++ q).toArray true) s k Q := by
  obtain ⟨xs, fs, ⟨hq, hK⟩, hall⟩ := xrun_facts (ops := l.toArray) l 0 s [] (fun j => by simp) h
  intro B hB ds β a w hds hs
  refine wpIn_region_any hm ?_
  have hns : ∀ i, i < l.toArray.size → (([] : Ns) ++ (List.range' 0 l.length).map fun j => fpN (fs j)).getD i ([], [], []) = fpN (fs i) := by
    intro i hi
    have hi : i < l.length := by simpa using hi
    simp [hi]
  have hql : 0 < q.length := List.length_pos_iff.2 hq0
  refine anyE2 (ops := (l ++ q).toArray) (opsP := l.toArray) hq hns hB (ds := ds) (by simp; omega) (fun i hi => ?_) (fun i o ho => ?_) (tailOk_aft ht) (by simpa using tailOk_anc ht) (fun j o ho => hall j o (Nat.zero_le _) ho) (fun β a w hds hs => ?_) _ _ (Array.replicate l.toArray.size false) [] s β a _ ?_ ?_ List.nodup_nil (by simp) hds (.nil _ _ _) (hs.heap_eq rfl rfl)
  · have hi : i < l.length := by simpa using hi
    simp [List.getElem?_append_left, hi]
  · have hi : i < l.length := by
      have := (Array.getElem?_eq_some_iff.1 ho).1
      simpa using this
    have hm2 : o ∈ l := by
      have : l[i]? = some o := by simpa using ho
      exact List.mem_of_getElem? this
    have := List.all_eq_true.1 hg o hm2
    simpa using this
  · refine run_ok hK B hB ds β a w hds (by simpa using hs) _ ?_
    apply List.ext_getElem?
    intro j
    simp only [List.getElem?_map, List.size_toArray, List.length_append]
    by_cases hj : j < q.length
    · rw [List.getElem?_range' (by omega)]
      simp [hj]
    · simp [hj]
  · refine ⟨by simp, fun j hj => ?_, by simp, by simp⟩
    have hj : j < l.length + q.length := by simpa using hj
    simp [hj]
  · refine ⟨by simp, fun j hj => ?_, by simp, by simp⟩
    have hj : j < l.length := by simpa using hj
    simp [hj]
theorem region_xvt (n : Nat) {id : Nat} {l p q : List Oper} {s : St} {k : List It} {Q : Exit → St → Prop} (hm : P.follows .mixedOrders = true) (E0 : Eng P cf Q) (htd : l.take n = p) (hqd : l.drop n = q) (hq0 : q.isEmpty = false) (hg : (p.all fun o => o.guard.isNone) = true) (ht : tailOk l.toArray p.length = true)
    (h : ∀ E : XEng P cf p.toArray (fun s' ns => chk p.toArray ns = true ∧ E0.run (.ops l.toArray q :: k) s'), E.run p s []) : CodeE E0 (.region id l.toArray true) s k := by
  have e0 : p ++ q = l := by rw [← htd, ← hqd]; exact List.take_append_drop n l
  have key := region_xt (P := P) (cf := cf) (id := id) (l := p) (q := q) (s := s) (k := k) (Q := Q) hm (by intro e; rw [e] at hq0; cases hq0) hg (by rw [e0]; exact ht)
  rw [e0] at key
  refine key ?_
  have e : (fun s' ns => chk p.toArray ns = true ∧ E0.run (.ops l.toArray q :: k) s') = fun s' ns => chk p.toArray ns = true ∧ run P cf (.ops l.toArray q :: k) Q s' := by funext s' ns; rw [E0.run_eq]
  obtain ⟨E⟩ := xeng_ex P cf p.toArray (fun s' ns => chk p.toArray ns = true ∧ E0.run (.ops l.toArray q :: k) s')
  have := h E
  rw [E.run_eq, e] at this
  exact this
end
end Go.Ab
