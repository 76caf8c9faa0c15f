/-
  A type that was split is split again: nothing changes.
-/
import Derived.Test.YtmplpdjddjiioaaYB
set_option linter.all false
namespace Go.Proofs.Ytmplpdjddjiioaa
open Go.Ab
theorem hp_mono {P : Program} {G : List (Nat × Obj)} {f : FuncId} {ds : List D} {Q Q' : AV → Prop} (h : HP P G f ds Q) (hq : ∀ r, Q r → Q' r) : HP P G f ds Q' := HCall.mono h fun r _ hr => ⟨hq r hr.1, hr.2⟩
theorem f15_fn {G} {ns : List TN} {root : Int} {l : List Spot} (hs : Sane ns) (hm : mayZ ns root = 0) (h : Spots ns root l) : HP Try.prog G 15 [typeS ns root] (fun r => r = .d (i64 (if polarB ns l then 0 else 12))) :=
  hp_mono (f15_ok ns root hs) fun r hr => by
    obtain ⟨m, rfl, hm'⟩ := (hr.resolve_left fun g => g.1 hm).2
    rw [hm'.1.fn h.1]
theorem Dfs.pre {α : Type} {kids : α → List α} {out todo r : List α} (h : Dfs kids out todo r) : ∃ t, r = out ++ t := by
  induction h with
  | done out => exact ⟨[], by simp⟩
  | skip _ _ ih => exact ih
  | take _ _ ih =>
    obtain ⟨t, e⟩ := ih
    exact ⟨[_] ++ t, by rw [e, List.append_assoc]⟩
theorem Dfs.first {α : Type} {kids : α → List α} {s : α} {r : List α} (h : Dfs kids [] [s] r) : ∃ t, r = s :: t := by
  generalize ht : [s] = td at h
  cases h with
  | done => simp at ht
  | skip h => simp at h
  | @take _ todo _ s' h1 t1 =>
    obtain ⟨rfl, rfl⟩ := snoc_inj (a := []) (b := todo) ht
    obtain ⟨t, e⟩ := t1.pre
    exact ⟨t, by simpa using e⟩
theorem idx_map {α β : Type} [BEq α] [LawfulBEq α] [BEq β] [LawfulBEq β] {f : α → β} {q : α} : ∀ l : List α, (∀ s ∈ l, f s = f q → s = q) → (l.map f).idxOf (f q) = l.idxOf q
  | [], _ => rfl
  | s :: l, h => by
    have ih := idx_map l fun t ht => h t (List.mem_cons_of_mem _ ht)
    rw [List.map_cons, List.idxOf_cons, List.idxOf_cons, ih]
    rcases Classical.em (s = q) with e | e
    · subst e; simp
    · have : f s ≠ f q := fun e' => e (h s List.mem_cons_self e')
      rw [beq_false_of_ne this, beq_false_of_ne e]
theorem spot_at {l : List Spot} {q : Spot} (h : q ∈ l) : (atS l q).toNat < l.length ∧ 0 ≤ atS l q ∧ l[(atS l q).toNat]? = some q := by
  have h1 := List.idxOf_lt_length_of_mem h
  refine ⟨by simpa [atS] using h1, by simp [atS], ?_⟩
  have : (atS l q).toNat = l.idxOf q := by simp [atS]
  rw [this, List.getElem?_eq_getElem h1, List.getElem_idxOf h1]
def shf (l : List Spot) (q : Spot) : Spot := (atS l q, q.2)
theorem atS_inj {l : List Spot} {a b : Spot} (ha : a ∈ l) (hb : b ∈ l) (h : atS l a = atS l b) : a = b := by
  have h1 := (spot_at ha).2.2
  have h2 := (spot_at hb).2.2
  rw [h, h2] at h1
  exact (Option.some.inj h1).symm
theorem shf_inj {l : List Spot} {a b : Spot} (ha : a ∈ l) (hb : b ∈ l) (h : shf l a = shf l b) : a = b := atS_inj ha hb (congrArg Prod.fst h)
theorem at_shf {l : List Spot} {q : Spot} (h : q ∈ l) : atS (l.map (shf l)) (shf l q) = atS l q := by
  unfold atS
  rw [idx_map l fun s hs e => shf_inj hs h e]
theorem nd_split {ns : List TN} {l : List Spot} {q : Spot} (h : q ∈ l) : nd (l.map (splitN ns l)) (atS l q).toNat = splitN ns l q := by
  simp [nd, (spot_at h).2.2]
theorem getD_eq {α : Type} {l : List α} {i : Nat} {d : α} (h : i < l.length) : l.getD i d = l[i] := by simp [h]
theorem getD_map2 {α β : Type} {f : α → β} {l : List α} {i : Nat} {a : α} {b : β} (h : i < l.length) : (l.map f).getD i b = f (l.getD i a) := by simp [h]
theorem fnm_split (ns : List TN) (l : List Spot) (s : Spot) (j i : Nat) : fnm (fsplit ns l s j) i = fnm (nd ns s.1.toNat).l i := by
  by_cases h : i < (nd ns s.1.toNat).l.length
  · rw [fnm, fsplit_get h]; rfl
  · have h1 : (fsplit ns l s j).length ≤ i := by rw [fsplit_len]; omega
    have h2 : (nd ns s.1.toNat).l.length ≤ i := by omega
    simp [fnm, h1, h2]
section
variable {ns : List TN} {root : Int} {l : List Spot}
theorem spot_in (h : Spots ns root l) {q : Spot} (hq : q ∈ l) : q.1.toNat < ns.length ∧ ((q.1.toNat : Nat) : Int) = q.1 := by
  have := (h.2.1 q hq).1
  omega
theorem kidsL_split (hrs : rightsB ns = true) (h : Spots ns root l) {q : Spot} (hq : q ∈ l) : kidsL (splitN ns l q) = (kidsS ns q).map (atS l) := by
  have hrt := rights_nd hrs (spot_in h hq).1
  by_cases hp : pairZ (nd ns q.1.toNat).k = true
  · have h2 : (kidsS ns q).length = 2 := kids_pair hp q.2
    have : kidsL (splitN ns l q) = [atS l ((kidsS ns q).getD 0 (0, 0)), atS l ((kidsS ns q).getD 1 (0, 0))] := by
      simp [kidsL, splitN, hp]
    rw [this]
    match hk : kidsS ns q, h2 with
    | [a, b], _ => simp
  · have hp : pairZ (nd ns q.1.toNat).k = false := by simpa using hp
    by_cases hw : wideZ (nd ns q.1.toNat).k = true
    · have hl : (kidsS ns q).length = (nd ns q.1.toNat).l.length := by simp [kidsS, kidsN, kidsL, hp, hw]
      have : kidsL (splitN ns l q) = (fsplit ns l q (nd ns q.1.toNat).l.length).map (·.2) := by simp [kidsL, splitN, hp, hw]
      rw [this]
      refine List.ext_getElem (by simp [fsplit, hl]) fun i h1 h2 => ?_
      have hi : i < (nd ns q.1.toNat).l.length := by simpa [fsplit] using h1
      have hi2 : i < (kidsS ns q).length := by omega
      simp [fsplit, fspl, hi, hi2]
    · have hw : wideZ (nd ns q.1.toNat).k = false := by simpa using hw
      have h1 : kidsL (splitN ns l q) = [] := by simp [kidsL, splitN, hp, hw]
      have h2 : kidsS ns q = [] := by simp [kidsS, kidsN, kidsL, hp, hw]
      rw [h1, h2]; rfl
theorem kidsS_split (hrs : rightsB ns = true) (h : Spots ns root l) {q : Spot} (hq : q ∈ l) : kidsS (l.map (splitN ns l)) (shf l q) = (kidsS ns q).map (shf l) := by
  have hk := kidsL_split hrs h hq
  have hl : (kidsL (splitN ns l q)).length = (kidsS ns q).length := by rw [hk]; simp
  have hl2 := kidsS_len ns q
  have : kidsS (l.map (splitN ns l)) (shf l q) = kidsN (splitN ns l q) q.2 := by
    show kidsN (nd _ (atS l q).toNat) q.2 = _
    rw [nd_split hq]
  rw [this]
  refine List.ext_getElem (by simp [kidsN, hl]) fun i h1 h2 => ?_
  have hi : i < (kidsS ns q).length := by simpa using h2
  have hi3 : i < (kidsL (nd ns q.1.toNat)).length := by omega
  have e2 : (kidsS ns q)[i] = kidS (nd ns q.1.toNat) q.2 i := by simp [kidsS, kidsN]
  have e1 : (kidsN (splitN ns l q) q.2)[i] = kidS (splitN ns l q) q.2 i := by simp [kidsN]
  rw [e1, List.getElem_map, e2]
  have e3 : (kidsL (splitN ns l q)).getD i 0 = atS l (kidS (nd ns q.1.toNat) q.2 i) := by
    rw [hk, getD_map2 (a := (0, 0)) hi]
    congr 1
    rw [← e2]
    simp [hi]
  show ((kidsL (splitN ns l q)).getD i 0, _) = (atS l _, _)
  rw [e3]
  rfl
theorem spots_split (hrs : rightsB ns = true) (h : Spots ns root l) : Spots (l.map (splitN ns l)) 0 (l.map (shf l)) := by
  have hd := (h.1.map (kb := kidsS (l.map (splitN ns l))) (f := shf l) (ok := fun q => q ∈ l) (fun a b ha hb e => shf_inj ha hb e) (fun a ha => ⟨kidsS_split hrs h ha, h.kids a ha⟩) (by simp) (fun a ha => by
    obtain ⟨t, e⟩ := h.1.first
    rw [List.mem_singleton.1 ha, e]
    exact List.mem_cons_self)).1
  have e0 : [(root, (1 : Int))].map (shf l) = [(0, 1)] := by
    obtain ⟨t, e⟩ := h.1.first
    simp [shf, atS, e]
  rw [e0] at hd
  refine ⟨hd, fun s hs => ?_, by simp; omega⟩
  obtain ⟨q, hq, rfl⟩ := List.mem_map.1 hs
  obtain ⟨h1, h2, _⟩ := spot_at hq
  refine ⟨⟨h2, ?_⟩, (h.2.1 q hq).2⟩
  show atS l q < _
  rw [List.length_map]
  omega
theorem again_split (hrs : rightsB ns = true) (h : Spots ns root l) : (l.map (shf l)).map (splitN (l.map (splitN ns l)) (l.map (shf l))) = l.map (splitN ns l) := by
  rw [List.map_map]
  refine List.map_congr_left fun q hq => ?_
  have hn : nd (l.map (splitN ns l)) (shf l q).1.toNat = splitN ns l q := nd_split hq
  have hks := kidsS_split hrs h hq
  have hkid := h.kids q hq
  have hat : ∀ i, i < (kidsS ns q).length → atS (l.map (shf l)) (((kidsS ns q).map (shf l)).getD i (0, 0)) = atS l ((kidsS ns q).getD i (0, 0)) := fun i hi => by
    rw [getD_map2 (a := (0, 0)) hi]
    refine at_shf (hkid _ ?_)
    rw [getD_eq hi]
    exact List.getElem_mem hi
  have hrt := rights_nd hrs (spot_in h hq).1
  show splitN _ _ (shf l q) = splitN ns l q
  have key : ∀ S m p, splitN S m p = ⟨(nd S p.1.toNat).k, if pairZ (nd S p.1.toNat).k then atS m ((kidsS S p).getD 0 (0, 0)) else (nd S p.1.toNat).a, if pairZ (nd S p.1.toNat).k then atS m ((kidsS S p).getD 1 (0, 0)) else (nd S p.1.toNat).b, fsplit S m p (nd S p.1.toNat).l.length⟩ := fun _ _ _ => rfl
  rw [key (l.map (splitN ns l)) (l.map (shf l)) (shf l q), hn, hks]
  have hfl : fsplit (l.map (splitN ns l)) (l.map (shf l)) (shf l q) (splitN ns l q).l.length = (splitN ns l q).l := by
    show fsplit _ _ _ (fsplit ns l q _).length = fsplit ns l q _
    unfold fsplit
    rw [hn]
    show List.map _ (List.range (fsplit ns l q _).length) = _
    rw [fsplit_len]
    refine List.map_congr_left fun i hi => ?_
    have hi : i < (nd ns q.1.toNat).l.length := List.mem_range.1 (by simpa using hi)
    have hw : (kidsS ns q).length = (nd ns q.1.toNat).l.length := kids_wide hrt hi q.2
    unfold fspl
    rw [hn, hks, hat i (by omega), if_pos (by simpa using hi), if_pos hi]
    show (fnm (fsplit ns l q _) i, _) = _
    rw [fnm_split]
  rw [hfl]
  have hk : (splitN ns l q).k = (nd ns q.1.toNat).k := rfl
  rw [hk]
  by_cases hp : pairZ (nd ns q.1.toNat).k = true
  · have h2 : (kidsS ns q).length = 2 := kids_pair hp q.2
    rw [if_pos hp, if_pos hp, hat 0 (by omega), hat 1 (by omega)]
    show _ = (⟨_, if _ then _ else _, if _ then _ else _, _⟩ : TN)
    rw [if_pos hp, if_pos hp]
    rfl
  · rw [if_neg hp, if_neg hp]
    rfl
theorem sides_shf : (l.map (shf l)).map (·.2) = l.map (·.2) := by rw [List.map_map]; rfl
theorem mem_shf (h : Spots ns root l) {i : Nat} (hi : i < l.length) (s : Int) : ((i : Int), s) ∈ l.map (shf l) ↔ l[i].2 = s := by
  constructor
  · intro hm
    obtain ⟨t, ht, e⟩ := List.mem_map.1 hm
    have h1 : atS l t = i := congrArg Prod.fst e
    have h2 : t.2 = s := congrArg Prod.snd e
    have := (spot_at ht).2.2
    rw [h1, Int.toNat_natCast, List.getElem?_eq_getElem hi] at this
    rw [Option.some.inj this]
    exact h2
  · intro e
    refine List.mem_map.2 ⟨l[i], List.getElem_mem hi, ?_⟩
    have : atS l l[i] = i := by
      have := List.Nodup.idxOf_getElem h.nodup i hi
      simp [atS, this]
    rw [shf, this, e]
theorem sdL_split (h : Spots ns root l) : sdL (l.map (splitN ns l)).length (l.map (shf l)) = l.map (·.2) := by
  rw [List.length_map]
  refine List.ext_getElem (by simp [sdL]) fun i h1 h2 => ?_
  have hi : i < l.length := by simpa using h2
  have hs := (h.2.1 l[i] (List.getElem_mem hi)).2
  simp only [sdL, List.getElem_map, List.getElem_range, sd, mem_shf h hi]
  rcases hs with e | e <;> simp [e]
theorem polar_split (h : Spots ns root l) : polarB (l.map (splitN ns l)) (l.map (shf l)) = polarB ns l := by
  unfold polarB
  congr 1
  rw [Bool.eq_iff_iff, List.any_eq_true, List.any_eq_true]
  have hk : ∀ t ∈ l, (nd (l.map (splitN ns l)) (atS l t).toNat).k = (nd ns t.1.toNat).k := fun t ht => by rw [nd_split ht]; rfl
  have key : ∀ (i : Nat) (s k : Int), (nd (l.map (splitN ns l)) i).k = k → ((i : Int), s) ∈ l.map (shf l) → ∃ x, x < ns.length ∧ (nd ns x).k = k ∧ ((x : Int), s) ∈ l := fun i s k e hm => by
    obtain ⟨t, ht, e2⟩ := List.mem_map.1 hm
    have h1 : atS l t = i := congrArg Prod.fst e2
    have h2 : t.2 = s := congrArg Prod.snd e2
    have h3 := hk t ht
    rw [h1, Int.toNat_natCast, e] at h3
    obtain ⟨g1, g2⟩ := spot_in h ht
    refine ⟨_, g1, h3.symm, ?_⟩
    rw [g2, ← h2]
    exact ht
  have back : ∀ (x : Nat) (s k : Int), (nd ns x).k = k → ((x : Int), s) ∈ l → ∃ i, i < (l.map (splitN ns l)).length ∧ (nd (l.map (splitN ns l)) i).k = k ∧ ((i : Int), s) ∈ l.map (shf l) := fun x s k e hm => by
    obtain ⟨g1, g2, _⟩ := spot_at hm
    have h3 := hk _ hm
    refine ⟨_, by simpa using g1, h3.trans (by simpa using e), List.mem_map.2 ⟨_, hm, ?_⟩⟩
    rw [shf, Int.toNat_of_nonneg g2]
  simp only [badP, Bool.or_eq_true, Bool.and_eq_true, decide_eq_true_eq, List.mem_range]
  constructor
  · rintro ⟨i, hi, ⟨h1, h2⟩ | ⟨h1, h2⟩⟩
    · obtain ⟨x, g1, g2, g3⟩ := key i _ _ h1 h2
      exact ⟨x, g1, .inl ⟨g2, g3⟩⟩
    · obtain ⟨x, g1, g2, g3⟩ := key i _ _ h1 h2
      exact ⟨x, g1, .inr ⟨g2, g3⟩⟩
  · rintro ⟨x, hx, ⟨h1, h2⟩ | ⟨h1, h2⟩⟩
    · obtain ⟨i, g1, g2, g3⟩ := back x _ _ h1 h2
      exact ⟨i, g1, .inl ⟨g2, g3⟩⟩
    · obtain ⟨i, g1, g2, g3⟩ := back x _ _ h1 h2
      exact ⟨i, g1, .inr ⟨g2, g3⟩⟩
theorem right_split (hrs : rightsB ns = true) (h : Spots ns root l) {q : Spot} (hq : q ∈ l) : rightB (splitN ns l q) l.length = true := by
  have hrt := rights_nd hrs (spot_in h hq).1
  have hkid : (kidsL (splitN ns l q)).any (rightK l.length) = false := by
    rw [List.any_eq_false]
    intro x hx
    rw [kidsL_split hrs h hq] at hx
    obtain ⟨t, ht, rfl⟩ := List.mem_map.1 hx
    obtain ⟨g1, g2, _⟩ := spot_at (h.kids q hq t ht)
    simp only [rightK, Bool.or_eq_true, decide_eq_true_eq, not_or]
    omega
  have hnm : namesB (splitN ns l q).k (splitN ns l q).l = namesB (nd ns q.1.toNat).k (nd ns q.1.toNat).l := by
    show namesB (nd ns q.1.toNat).k (fsplit ns l q _) = _
    simp only [namesB, badO, fnm_split, fsplit_len]
  have hln : (splitN ns l q).l.length = (nd ns q.1.toNat).l.length := fsplit_len _ _ _ _
  have hk : (splitN ns l q).k = (nd ns q.1.toNat).k := rfl
  unfold rightB at hrt ⊢
  rw [hkid, hnm, hln, hk]
  by_cases hp : pairZ (nd ns q.1.toNat).k = true
  · have h11 : ¬ (nd ns q.1.toNat).k = 11 := fun e => by rw [e] at hp; cases hp
    simp only [Bool.and_eq_true] at hrt
    simp only [Bool.and_eq_true]
    refine ⟨⟨⟨⟨hrt.1.1.1.1, ?_⟩, ?_⟩, hrt.1.2⟩, rfl⟩
    · rw [hp]; rfl
    · rw [decide_eq_false h11]; rfl
  · have ha : (splitN ns l q).a = (nd ns q.1.toNat).a := if_neg hp
    have hb : (splitN ns l q).b = (nd ns q.1.toNat).b := if_neg hp
    rw [ha, hb]
    simp only [Bool.and_eq_true] at hrt
    simp only [Bool.and_eq_true]
    exact ⟨hrt.1, rfl⟩
theorem ends_split (_hrs : rightsB ns = true) (h : Spots ns root l) {x : Nat} (he : Ends ns x) : ∀ q ∈ l, q.1.toNat = x → Ends (l.map (splitN ns l)) (atS l q).toNat := by
  have flat : ∀ q ∈ l, latZ (nd ns q.1.toNat).k = false → Ends (l.map (splitN ns l)) (atS l q).toNat := fun q hq hl => .flat (by rw [nd_split hq]; exact hl)
  induction he with
  | flat hf => exact fun q hq e => flat q hq (by rw [e]; exact hf)
  | @both i _ _ iha ihb =>
    intro q hq e
    by_cases hl : latZ (nd ns q.1.toNat).k = true
    · have hp := lat_pair hl
      have h2 : (kidsS ns q).length = 2 := kids_pair hp q.2
      have hkid := h.kids q hq
      have hL : kidsL (nd ns q.1.toNat) = [(nd ns q.1.toNat).a, (nd ns q.1.toNat).b] := by simp [kidsL, hp]
      have h0 : ((kidsS ns q).getD 0 (0, 0)).1 = (nd ns q.1.toNat).a := by simp [kidsS, kidsN, hL, kidS]
      have h1 : ((kidsS ns q).getD 1 (0, 0)).1 = (nd ns q.1.toNat).b := by simp [kidsS, kidsN, hL, kidS]
      have hmem : ∀ j, j < 2 → (kidsS ns q).getD j (0, 0) ∈ l := fun j hj => by
        rw [getD_eq (by omega)]
        exact hkid _ (List.getElem_mem _)
      have ha : (splitN ns l q).a = atS l ((kidsS ns q).getD 0 (0, 0)) := if_pos hp
      have hb : (splitN ns l q).b = atS l ((kidsS ns q).getD 1 (0, 0)) := if_pos hp
      refine .both ?_ ?_
      · rw [nd_split hq, ha]
        exact iha _ (hmem 0 (by omega)) (by rw [h0, e])
      · rw [nd_split hq, hb]
        exact ihb _ (hmem 1 (by omega)) (by rw [h1, e])
    · exact flat q hq (by simpa using hl)
theorem may_split (hm : mayZ ns root = 0) (h : Spots ns root l) (hN : l.length ≤ 2000) : mayZ (l.map (splitN ns l)) 0 = 0 := by
  obtain ⟨_, _, hrs, he⟩ := may_ok hm
  have h0 : 0 < l.length := by
    obtain ⟨t, e⟩ := h.1.first
    rw [e]; simp
  have h1 : rightsB (l.map (splitN ns l)) = true := by
    unfold rightsB
    rw [Bool.not_eq_true', List.any_eq_false]
    intro n hn
    obtain ⟨q, hq, rfl⟩ := List.mem_map.1 hn
    rw [List.length_map, right_split hrs h hq]
    decide
  have h2 : endsB (l.map (splitN ns l)) = true := endsB_true fun i hi => by
    rw [List.length_map] at hi
    have hq : l[i] ∈ l := List.getElem_mem hi
    have hat : (atS l l[i]).toNat = i := by
      have := List.Nodup.idxOf_getElem h.nodup i hi
      simp [atS, this]
    have hE : Ends ns l[i].1.toNat := by
      have he : ∀ i, i < ns.length → Ends ns i := by simpa [endsB] using he
      exact he _ (spot_in h hq).1
    have := ends_split hrs h hE l[i] hq rfl
    rwa [hat] at this
  unfold mayZ
  have e1 : (decide ((l.length : Int) = 0) || decide (2000 < (l.length : Int))) = false := by
    simp only [Bool.or_eq_false_iff, decide_eq_false_iff_not]
    omega
  have e2 : (decide ((0 : Int) < 0) || decide ((l.length : Int) ≤ 0)) = false := by
    simp only [Bool.or_eq_false_iff, decide_eq_false_iff_not]
    omega
  rw [h1, h2, List.length_map, e1, e2]
  rfl
theorem sane_split (hs : Sane ns) (hN : l.length ≤ 2000) (h : Spots ns root l) : Sane (l.map (splitN ns l)) := by
  have := h.2.2
  have := hs.1
  refine ⟨by rw [List.length_map]; omega, fun n hn => ?_⟩
  obtain ⟨q, hq, rfl⟩ := List.mem_map.1 hn
  refine ⟨split_fld hs h hq, fun f hf => ?_⟩
  obtain ⟨i, hi, rfl⟩ := List.getElem_of_mem hf
  have hx := (spot_in h hq).1
  have hin : nd ns q.1.toNat ∈ ns := by rw [nd_eq hx]; exact List.getElem_mem hx
  have hi2 : i < (nd ns q.1.toNat).l.length := by simpa [splitN, fsplit_len] using hi
  have e : ((splitN ns l q).l[i]).1 = fnm (nd ns q.1.toNat).l i := by
    have := fnm_split ns l q (nd ns q.1.toNat).l.length i
    rw [← this]
    show _ = ((splitN ns l q).l.getD i ([], 0)).1
    rw [getD_eq hi]
  rw [e, fnm, getD_eq hi2]
  exact (hs.2 _ hin).2 _ (List.getElem_mem hi2)
end
end Go.Proofs.Ytmplpdjddjiioaa
