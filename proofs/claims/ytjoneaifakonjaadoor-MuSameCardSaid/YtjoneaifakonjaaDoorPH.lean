/-
  A type in order is printed as the type itself.
-/
import Derived.Test.YtjoneaifakonjaaDoorPG
set_option linter.all false
namespace Go.Proofs.YtjoneaifakonjaaDoor
open Go.Ab
theorem Dfs.first {α : Type} {kids : α → List α} {s : α} {r : List α} (h : Dfs kids [] [s] r) : ∃ t, r = s :: t := by
  generalize ht : [s] = td at h
  cases h with
  | done => simp at ht
  | skip h => simp at h
  | @take _ todo _ s' h1 t1 =>
    obtain ⟨rfl, rfl⟩ := snoc_inj (a := []) (b := todo) ht
    obtain ⟨t, e⟩ := t1.pre
    exact ⟨t, by simpa using e⟩
theorem idx_map {α β : Type} [BEq α] [LawfulBEq α] [BEq β] [LawfulBEq β] {f : α → β} {q : α} : ∀ l : List α, (∀ s ∈ l, f s = f q → s = q) → (l.map f).idxOf (f q) = l.idxOf q
  | [], _ => rfl
  | s :: l, h => by
    have ih := idx_map l fun t ht => h t (List.mem_cons_of_mem _ ht)
    rw [List.map_cons, List.idxOf_cons, List.idxOf_cons, ih]
    rcases Classical.em (s = q) with e | e
    · subst e; simp
    · have : f s ≠ f q := fun e' => e (h s List.mem_cons_self e')
      rw [beq_false_of_ne this, beq_false_of_ne e]
theorem at_in {l : List Int} {q : Int} (h : q ∈ l) : (atI l q).toNat < l.length ∧ 0 ≤ atI l q ∧ l[(atI l q).toNat]? = some q := by
  have h1 := List.idxOf_lt_length_of_mem h
  refine ⟨by simpa [atI] using h1, by simp [atI], ?_⟩
  have : (atI l q).toNat = l.idxOf q := by simp [atI]
  rw [this, List.getElem?_eq_getElem h1, List.getElem_idxOf h1]
theorem atI_inj {l : List Int} {a b : Int} (ha : a ∈ l) (hb : b ∈ l) (h : atI l a = atI l b) : a = b := by
  have h1 := (at_in ha).2.2
  have h2 := (at_in hb).2.2
  rw [h, h2] at h1
  exact (Option.some.inj h1).symm
theorem nd_norm {ns : List TN} {l : List Int} {q : Int} (h : q ∈ l) : nd (l.map (normP ns l)) (atI l q).toNat = normP ns l q := by
  simp [nd, (at_in h).2.2]
theorem getD_eq {α : Type} {l : List α} {i : Nat} {d : α} (h : i < l.length) : l.getD i d = l[i] := by simp [h]
theorem kidsL_mov (f : Int → Int) (n : TN) : kidsL (movN f n) = (kidsL n).map f := by
  by_cases hp : pairZ n.k = true
  · simp [kidsL, movN, hp]
  · by_cases hw : wideZ n.k = true
    · simp [kidsL, movN, hp, hw]
    · simp [kidsL, movN, hp, hw]
theorem fnm_mov (f : Int → Int) (l : List Fld) (i : Nat) : fnm (l.map fun q => (q.1, f q.2)) i = fnm l i := by
  by_cases h : i < l.length
  · simp [fnm, h]
  · have h1 : l.length ≤ i := by omega
    simp [fnm, h1]
section
variable {ns : List TN} {root : Int} {l : List Int}
theorem belw_nodup (h : Belw ns root l) : l.Nodup := h.1.nodup (by simp)
theorem belw_kids (h : Belw ns root l) : ∀ {q : Int}, q ∈ l → ∀ y ∈ kidsL (nd ns q.toNat), y ∈ l := fun {q} hq y hy => h.1.closed (by simp) q hq y hy
theorem belw_in (h : Belw ns root l) {q : Int} (hq : q ∈ l) : q.toNat < ns.length ∧ ((q.toNat : Nat) : Int) = q := by
  have := h.2.1 q hq
  have := this.1
  have := (h.2.1 q hq).2
  omega
theorem right_norm (hrs : rightsB ns = true) (h : Belw ns root l) {q : Int} (hq : q ∈ l) : rightB (normP ns l q) l.length = true := by
  have hrt := rights_nd hrs (belw_in h hq).1
  have hkid : (kidsL (normP ns l q)).any (rightK l.length) = false := by
    rw [List.any_eq_false]
    intro x hx
    rw [normP, kidsL_mov] at hx
    obtain ⟨t, ht, rfl⟩ := List.mem_map.1 hx
    obtain ⟨g1, g2, _⟩ := at_in (belw_kids h hq t ht)
    simp only [rightK, Bool.or_eq_true, decide_eq_true_eq, not_or]
    omega
  have hln : (normP ns l q).l.length = (nd ns q.toNat).l.length := by simp [normP, movN]
  have hnm : namesB (normP ns l q).k (normP ns l q).l = namesB (nd ns q.toNat).k (nd ns q.toNat).l := by
    show namesB (nd ns q.toNat).k ((nd ns q.toNat).l.map fun x => (x.1, atI l x.2)) = _
    simp only [namesB, badO, fnm_mov, List.length_map]
  have hk : (normP ns l q).k = (nd ns q.toNat).k := rfl
  unfold rightB at hrt ⊢
  rw [hkid, hnm, hln, hk]
  by_cases hp : pairZ (nd ns q.toNat).k = true
  · have h11 : ¬ (nd ns q.toNat).k = 11 := fun e => by rw [e] at hp; cases hp
    simp only [Bool.and_eq_true] at hrt
    simp only [Bool.and_eq_true]
    refine ⟨⟨⟨⟨hrt.1.1.1.1, ?_⟩, ?_⟩, hrt.1.2⟩, rfl⟩
    · rw [hp]; rfl
    · rw [decide_eq_false h11]; rfl
  · have ha : (normP ns l q).a = (nd ns q.toNat).a := if_neg hp
    have hb : (normP ns l q).b = (nd ns q.toNat).b := if_neg hp
    rw [ha, hb]
    simp only [Bool.and_eq_true] at hrt
    simp only [Bool.and_eq_true]
    exact ⟨hrt.1, rfl⟩
theorem ends_norm (h : Belw ns root l) {x : Nat} (he : Ends ns x) : ∀ q ∈ l, q.toNat = x → Ends (l.map (normP ns l)) (atI l q).toNat := by
  have flat : ∀ q ∈ l, latZ (nd ns q.toNat).k = false → Ends (l.map (normP ns l)) (atI l q).toNat := fun q hq hl => .flat (by rw [nd_norm hq]; exact hl)
  induction he with
  | flat hf => exact fun q hq e => flat q hq (by rw [e]; exact hf)
  | @both i _ _ iha ihb =>
    intro q hq e
    by_cases hl : latZ (nd ns q.toNat).k = true
    · have hp := lat_pair hl
      have hL : kidsL (nd ns q.toNat) = [(nd ns q.toNat).a, (nd ns q.toNat).b] := by simp [kidsL, hp]
      have hkid := belw_kids h hq
      rw [hL] at hkid
      have ha : (normP ns l q).a = atI l (nd ns q.toNat).a := if_pos hp
      have hb : (normP ns l q).b = atI l (nd ns q.toNat).b := if_pos hp
      refine .both ?_ ?_
      · rw [nd_norm hq, ha]
        exact iha _ (hkid _ (by simp)) (by rw [e])
      · rw [nd_norm hq, hb]
        exact ihb _ (hkid _ (by simp)) (by rw [e])
    · exact flat q hq (by simpa using hl)
theorem at_nth (h : Belw ns root l) {i : Nat} (hi : i < l.length) : (atI l l[i]).toNat = i := by simp [atI, nodup_idx (belw_nodup h) hi]
theorem may_norm (hm : mayZ ns root = 0) (h : Belw ns root l) : mayZ (l.map (normP ns l)) 0 = 0 := by
  obtain ⟨⟨_, hN⟩, _, hrs, he⟩ := may_ok hm
  have hlen := h.2.2
  have h0 : 0 < l.length := by
    obtain ⟨t, e⟩ := h.1.first
    rw [e]; simp
  have h1 : rightsB (l.map (normP ns l)) = true := by
    unfold rightsB
    rw [Bool.not_eq_true', List.any_eq_false]
    intro n hn
    obtain ⟨q, hq, rfl⟩ := List.mem_map.1 hn
    rw [List.length_map, right_norm hrs h hq]
    decide
  have h2 : endsB (l.map (normP ns l)) = true := endsB_true fun i hi => by
    rw [List.length_map] at hi
    have hq : l[i] ∈ l := List.getElem_mem hi
    have hE : Ends ns l[i].toNat := by
      have he : ∀ i, i < ns.length → Ends ns i := by simpa [endsB] using he
      exact he _ (belw_in h hq).1
    have := ends_norm h hE l[i] hq rfl
    rwa [at_nth h hi] at this
  unfold mayZ
  have e1 : (decide ((l.length : Int) = 0) || decide (2000 < (l.length : Int))) = false := by
    simp only [Bool.or_eq_false_iff, decide_eq_false_iff_not]
    omega
  have e2 : (decide ((0 : Int) < 0) || decide ((l.length : Int) ≤ 0)) = false := by
    simp only [Bool.or_eq_false_iff, decide_eq_false_iff_not]
    omega
  rw [h1, h2, List.length_map, e1, e2]
  rfl
theorem sane_norm (hs : Sane ns) (h : Belw ns root l) : Sane (l.map (normP ns l)) := by
  have := h.2.2
  have := hs.1
  refine ⟨by rw [List.length_map]; omega, fun n hn => ?_⟩
  obtain ⟨q, hq, rfl⟩ := List.mem_map.1 hn
  have hx := (belw_in h hq).1
  have hin : nd ns q.toNat ∈ ns := by rw [nd_eq hx]; exact List.getElem_mem hx
  obtain ⟨g1, g2⟩ := hs.2 _ hin
  refine ⟨by simpa [normP, movN] using g1, fun f hf => ?_⟩
  obtain ⟨f', hf', rfl⟩ := List.mem_map.1 (show f ∈ (nd ns q.toNat).l.map fun x => (x.1, atI l x.2) from hf)
  exact g2 f' hf'
/-! ### The same text -/
theorem pair_cong {r r' : Int → PSt → Pc × PSt} {n n' : TN} {sign : List UInt8} {a b t : Int} {st : PSt} (ha : ∀ st, r' n'.a st = r n.a st) (hb : ∀ st, r' n'.b st = r n.b st) : pairS r' n' sign a b t st = pairS r n sign a b t st := by
  unfold pairS
  simp only [ha, hb]
theorem wide_cong {r r' : Int → PSt → Pc × PSt} {f : Int → Int} : ∀ (fs : List Fld) (_ : ∀ q ∈ fs, ∀ st, r' (f q.2) st = r q.2 st) (i : Nat) (s : List UInt8) (nms : List Nat) (st : PSt), wideL r' (fs.map fun q => (q.1, f q.2)) i s nms st = wideL r fs i s nms st
  | [], _, _, _, _, _ => rfl
  | q :: fs, h, i, s, nms, st => by
    rw [List.map_cons, wideL_cons, wideL_cons]
    simp only [h q List.mem_cons_self]
    split
    · rfl
    · exact wide_cong fs (fun x hx => h x (List.mem_cons_of_mem _ hx)) _ _ _ _
theorem head_cong {r r' : Int → PSt → Pc × PSt} {f : Int → Int} {n : TN} {st : PSt} (h : ∀ y ∈ kidsL n, ∀ st, r' (f y) st = r y st) : headS r' (movN f n) st = headS r n st := by
  have hk : (movN f n).k = n.k := rfl
  by_cases hp : pairZ n.k = true
  · have hL : kidsL n = [n.a, n.b] := by simp [kidsL, hp]
    rw [hL] at h
    have ha : ∀ st, r' (movN f n).a st = r n.a st := fun st => by
      rw [show (movN f n).a = f n.a from if_pos hp]
      exact h _ (by simp) st
    have hb : ∀ st, r' (movN f n).b st = r n.b st := fun st => by
      rw [show (movN f n).b = f n.b from if_pos hp]
      exact h _ (by simp) st
    simp only [pairZ, Bool.or_eq_true, decide_eq_true_eq] at hp
    unfold headS
    rw [hk]
    rcases hp with (e | e) | e <;> rw [e] <;> simp [pair_cong ha hb]
  · have hp : pairZ n.k = false := by simpa using hp
    by_cases hw : wideZ n.k = true
    · have hL : kidsL n = n.l.map (·.2) := by simp [kidsL, hp, hw]
      rw [hL] at h
      have hq : ∀ q ∈ n.l, ∀ st, r' (f q.2) st = r q.2 st := fun q hq st => h _ (List.mem_map_of_mem hq) st
      have hl : (movN f n).l = n.l.map fun q => (q.1, f q.2) := rfl
      simp only [wideZ, Bool.or_eq_true, decide_eq_true_eq] at hw
      unfold headS wideS
      rw [hk, hl, wide_cong _ hq, wide_cong _ hq]
      rcases hw with e | e <;> rw [e] <;> simp
    · have ha : (movN f n).a = n.a := if_neg (by simp [hp])
      simp only [pairZ, Bool.or_eq_false_iff, decide_eq_false_iff_not] at hp
      simp only [wideZ, Bool.or_eq_true, decide_eq_true_eq, not_or] at hw
      unfold headS
      rw [hk, ha, if_neg hp.1.1, if_neg hp.1.1, if_neg hp.1.2, if_neg hp.1.2, if_neg hp.2, if_neg hp.2, if_neg hw.1, if_neg hw.1, if_neg hw.2, if_neg hw.2]
theorem node_norm (hl : Belw ns root l) : ∀ (m : Nat) (path : List Int) (i : Int) (st : PSt), (∀ y ∈ path, y ∈ l) → i ∈ l → nodeS (l.map (normP ns l)) m (path.map (atI l)) (atI l i) st = nodeS ns m path i st := by
  intro m
  induction m with
  | zero => intro path i st _ _; rfl
  | succ m ih =>
    intro path i st hp hi
    have hmem : atI l i ∈ path.map (atI l) ↔ i ∈ path := by
      constructor
      · intro h
        obtain ⟨y, hy, e⟩ := List.mem_map.1 h
        rw [← atI_inj (hp y hy) hi e]; exact hy
      · exact fun h => List.mem_map_of_mem h
    have hidx : (path.map (atI l)).idxOf (atI l i) = path.idxOf i := idx_map path fun s hs e => atI_inj (hp s hs) hi e
    have hh : headS (nodeS (l.map (normP ns l)) m (path.map (atI l) ++ [atI l i])) (nd (l.map (normP ns l)) (atI l i).toNat) st = headS (nodeS ns m (path ++ [i])) (nd ns i.toNat) st := by
      rw [nd_norm hi, normP]
      refine head_cong fun y hy st => ?_
      have := ih (path ++ [i]) y st (fun z hz => ?_) (belw_kids hl hi y hy)
      · rw [List.map_append] at this
        exact this
      · rcases List.mem_append.1 hz with hz | hz
        · exact hp z hz
        · rw [List.mem_singleton.1 hz]; exact hi
    rw [nodeS, nodeS, hidx, hh, List.length_map]
    simp only [hmem]
theorem print_norm (hm : mayZ ns root = 0) (hl : Belw ns root l) : printS (l.map (normP ns l)) 0 = printS ns root := by
  have h0 : atI l root = 0 := by
    obtain ⟨t, e⟩ := hl.1.first
    simp [atI, e]
  have hr : root ∈ l := by
    obtain ⟨t, e⟩ := hl.1.first
    rw [e]; simp
  have := node_norm hl 100 [] root ([], false) (by simp) hr
  rw [h0, List.map_nil] at this
  rw [printS, printS, may_norm hm hl, hm, this]
end
end Go.Proofs.YtjoneaifakonjaaDoor
