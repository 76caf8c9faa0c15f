/-
  The generic layer, part 28: regions that draw their order: every order ends as the text's order does.
-/
import Derived.Test.YtmplpdjddjiioaaDoorG1
namespace Go.Ab
section
variable {P : Program} {cf : Cf} {ops : Array Oper}
def dstOf (ops : Array Oper) (i : Nat) : Option Nat := (ops[i]?).bind (·.dst)
/-- The state behind some operations. -/
def lay (ops : Array Oper) (xs : Nat → AV) : List Nat → St → St
  | [], s => s
  | i :: l, s => lay ops xs l (s.putd (dstOf ops i) (xs i))
theorem putd_hp (s : St) (d : Option Nat) (x : AV) : (s.putd d x).hp = s.hp := by cases d <;> rfl
theorem putd_used (s : St) (d : Option Nat) (x : AV) : (s.putd d x).used = s.used := by cases d <;> rfl
theorem lay_hp (xs : Nat → AV) : ∀ (l : List Nat) (s : St), (lay ops xs l s).hp = s.hp
  | [], _ => rfl
  | i :: l, s => by rw [lay, lay_hp xs l, putd_hp]
theorem lay_used (xs : Nat → AV) : ∀ (l : List Nat) (s : St), (lay ops xs l s).used = s.used
  | [], _ => rfl
  | i :: l, s => by rw [lay, lay_used xs l, putd_used]
theorem lay_snoc (xs : Nat → AV) (i : Nat) : ∀ (l : List Nat) (s : St), lay ops xs (l ++ [i]) s = (lay ops xs l s).putd (dstOf ops i) (xs i)
  | [], _ => rfl
  | j :: l, s => by rw [List.cons_append, lay, lay_snoc xs i l, lay]
/-- No slot is written by two. -/
def dst1 (ops : Array Oper) : Prop := ∀ i j t, dstOf ops i = some t → dstOf ops j = some t → i = j
theorem lay_out (xs : Nat → AV) (t : Nat) : ∀ (l : List Nat) (s : St), (∀ k ∈ l, dstOf ops k ≠ some t) → (lay ops xs l s).fr t = s.fr t
  | [], _, _ => rfl
  | k :: l, s, h => by
    rw [lay, lay_out xs t l _ fun j hj => h j (List.mem_cons_of_mem _ hj)]
    have hk := h k List.mem_cons_self
    cases hd : dstOf ops k with
    | none => rfl
    | some u =>
      rw [hd] at hk
      show updN _ _ _ _ = _
      unfold updN
      rw [if_neg (fun e => hk (by rw [e]))]
theorem lay_in (h1 : dst1 ops) (xs : Nat → AV) {k t : Nat} (hk : dstOf ops k = some t) : ∀ (l : List Nat) (s : St), k ∈ l → (lay ops xs l s).fr t = xs k
  | [], _, h => by cases h
  | j :: l, s, h => by
    rw [lay]
    by_cases hkl : k ∈ l
    · exact lay_in h1 xs hk l _ hkl
    · rcases List.mem_cons.1 h with rfl | h
      · rw [lay_out xs t l _ fun i hi e => hkl (by rw [h1 k i t hk e]; exact hi), hk]
        show updN _ _ _ _ = _
        simp [updN]
      · exact absurd h hkl

/-- Who looks at what another one writes stands behind it, or ahead. -/
def waits (ops : Array Oper) (i j : Nat) : Bool := match ops[i]? with
  | some o => o.after.any fun e => Region.binds .any e && e.on == j
  | none => false
def looksO (ops : Array Oper) (i : Nat) : List Nat := match ops[i]? with
  | some o => o.looksAt ops
  | none => []
/-- Each pair is in order, or apart; no slot is written twice; each waits for some ahead of it alone. -/
def qB (ops : Array Oper) : Bool :=
  (List.range ops.size).all fun i =>
    (match ops[i]? with
     | some o => o.after.toList.all fun e => !Region.binds .any e || decide (e.on < i)
     | none => true) &&
    (List.range ops.size).all fun k => match dstOf ops k with
      | none => true
      | some t => (decide (i = k) || dstOf ops i != some t) && (!(looksO ops i).contains t || (decide (k < i) && waits ops i k) || (decide (i < k) && waits ops k i))
theorem dstOf_lt {i t : Nat} (h : dstOf ops i = some t) : i < ops.size := by
  unfold dstOf at h
  rcases Nat.lt_or_ge i ops.size with hlt | hge
  · exact hlt
  · rw [Array.getElem?_eq_none hge] at h; cases h
theorem qB_dst (h : qB ops = true) : dst1 ops := by
  intro i j t hi hj
  have h2 := List.all_eq_true.1 h i (List.mem_range.2 (dstOf_lt hi))
  simp only [Bool.and_eq_true] at h2
  have h3 := List.all_eq_true.1 h2.2 j (List.mem_range.2 (dstOf_lt hj))
  rw [hj] at h3
  simp only [Bool.and_eq_true, Bool.or_eq_true, decide_eq_true_eq, hi, bne_self_eq_false, Bool.false_eq_true, or_false] at h3
  exact h3.1
theorem qB_look (h : qB ops = true) {i k t : Nat} (hi : i < ops.size) (hk : dstOf ops k = some t) (ht : t ∈ looksO ops i) : (k < i ∧ waits ops i k = true) ∨ (i < k ∧ waits ops k i = true) := by
  have h2 := List.all_eq_true.1 h i (List.mem_range.2 hi)
  simp only [Bool.and_eq_true] at h2
  have h3 := List.all_eq_true.1 h2.2 k (List.mem_range.2 (dstOf_lt hk))
  rw [hk] at h3
  simp only [Bool.and_eq_true, Bool.or_eq_true, Bool.not_eq_true', List.contains_eq_mem, decide_eq_false_iff_not, decide_eq_true_eq] at h3
  rcases h3.2 with (h4 | h4) | h4
  · exact absurd ht h4
  · exact .inl h4
  · exact .inr h4
theorem qB_after (h : qB ops = true) {i : Nat} {o : Oper} (ho : ops[i]? = some o) : ∀ e ∈ o.after, Region.binds .any e = true → e.on < i := by
  intro e he hb
  have hi : i < ops.size := by
    rcases Nat.lt_or_ge i ops.size with hlt | hge
    · exact hlt
    · rw [Array.getElem?_eq_none hge] at ho; cases ho
  have h2 := List.all_eq_true.1 h i (List.mem_range.2 hi)
  simp only [ho, Bool.and_eq_true] at h2
  have h3 := List.all_eq_true.1 h2.1 e (Array.mem_toList_iff.2 he)
  simpa [hb] using h3

/-- The facts of all operations out of the walk. -/
theorem qrun_facts {K : St → Prop} : ∀ (r : List Oper) (i : Nat) (s : St), (∀ j, (r[j]? = ops[i + j]?)) → qrun P cf ops K r s →
    ∃ xs : Nat → AV, K (lay ops xs (List.range' i r.length) s) ∧ ∀ j o, i ≤ j → ops[j]? = some o → Fact P cf ops j o (lay ops xs (List.range' i (j - i)) s) (xs j)
  | [], i, s, hr, h => ⟨fun _ => .un, h, fun j o hij ho => by
      have := hr (j - i)
      rw [show i + (j - i) = j by omega, ho] at this
      simp at this⟩
  | o :: r, i, s, hr, h => by
    have hi : ops[i]? = some o := by simpa using (hr 0).symm
    obtain ⟨x, hf, h2⟩ := qrun_one hi h
    obtain ⟨xs, hK, hall⟩ := qrun_facts r (i + 1) (s.putd o.dst x) (fun j => by have := hr (j + 1); rw [List.getElem?_cons_succ] at this; rw [this, show i + (j + 1) = i + 1 + j by omega]) h2
    obtain ⟨ys, hys⟩ : ∃ ys : Nat → AV, ys = fun j => if j = i then x else xs j := ⟨_, rfl⟩
    have hd : dstOf ops i = o.dst := by simp [dstOf, hi]
    have e1 : ∀ (n k : Nat) (s : St), i < k → lay ops ys (List.range' k n) s = lay ops xs (List.range' k n) s := by
      intro n
      induction n with
      | zero => intros; rfl
      | succ n ih =>
        intro k s hk
        rw [List.range'_succ, lay, lay, ih (k + 1) _ (by omega), hys]
        simp only [if_neg (show ¬ k = i by omega)]
    have hyi : ys i = x := by rw [hys]; simp
    refine ⟨ys, ?_, fun j o' hij ho' => ?_⟩
    · rw [List.length_cons, List.range'_succ, lay, hd, hyi, e1 _ _ _ (by omega)]; exact hK
    · rcases Nat.lt_or_ge i j with hlt | hge
      · have := hall j o' (by omega) ho'
        rw [show j - i = (j - (i + 1)) + 1 by omega, List.range'_succ, lay, hd, hyi, e1 _ _ _ (by omega)]
        rw [show ys j = xs j by rw [hys]; simp only [if_neg (show ¬ j = i by omega)]]
        exact this
      · have : j = i := by omega
        subst this
        rw [hi] at ho'
        cases ho'
        rw [Nat.sub_self, hyi]
        exact hf

/-- What has come up: L, each behind what it waits for. -/
structure Up (ops : Array Oper) (listed : Array Bool) (L : List Nat) : Prop where
  size : listed.size = ops.size
  mem : ∀ j, j < ops.size → (listed[j]? = some true ↔ j ∈ L)
  lt : ∀ j ∈ L, j < ops.size
  closed : ∀ j ∈ L, ∀ o, ops[j]? = some o → ∀ e ∈ o.after, Region.binds .any e = true → e.on ∈ L

theorem waits_mem {i j : Nat} (h : waits ops i j = true) : ∃ o, ops[i]? = some o ∧ ∃ e ∈ o.after, Region.binds .any e = true ∧ e.on = j := by
  unfold waits at h
  split at h
  · rename_i o ho
    rw [Array.any_eq_true] at h
    obtain ⟨k, hk, hb⟩ := h
    simp only [Bool.and_eq_true, beq_iff_eq] at hb
    exact ⟨o, ho, _, Array.getElem_mem hk, hb⟩
  · cases h

theorem up_agr (hq : qB ops = true) {listed : Array Bool} {L : List Nat} (hu : Up ops listed L) (xs : Nat → AV) (s : St) {i : Nat} {o : Oper} (ho : ops[i]? = some o) (hi : i ∉ L)
    (hw : ∀ e ∈ o.after, Region.binds .any e = true → e.on ∈ L) : agr (o.looksAt ops) (lay ops xs (List.range' 0 (i - 0)) s) (lay ops xs L s) := by
  refine ⟨by rw [lay_hp, lay_hp], by rw [lay_used, lay_used], fun t ht => ?_⟩
  have hlt : i < ops.size := by
    rcases Nat.lt_or_ge i ops.size with hlt | hge
    · exact hlt
    · rw [Array.getElem?_eq_none hge] at ho; cases ho
  have ht' : t ∈ looksO ops i := by unfold looksO; rw [ho]; exact ht
  have h1 := qB_dst hq
  by_cases hk : ∃ k, dstOf ops k = some t
  · obtain ⟨k, hk⟩ := hk
    rcases qB_look hq hlt hk ht' with ⟨h2, h3⟩ | ⟨h2, h3⟩
    · obtain ⟨o', ho', e, he, hb, rfl⟩ := waits_mem h3
      rw [ho] at ho'; cases ho'
      rw [lay_in h1 xs hk _ _ (hw e he hb), lay_in h1 xs hk _ _ (by rw [List.mem_range'_1]; omega)]
    · obtain ⟨o', ho', e, he, hb, e1⟩ := waits_mem h3
      have hkL : k ∉ L := fun hkL => hi (by rw [← e1]; exact hu.closed k hkL o' ho' e he hb)
      rw [lay_out xs t _ _ fun j hj e => hkL (by rw [h1 k j t hk e]; exact hj), lay_out xs t _ _ fun j hj e => by
        have := h1 k j t hk e
        subst this
        rw [List.mem_range'_1] at hj
        omega]
  · rw [lay_out xs t _ _ fun j _ e => hk ⟨j, e⟩, lay_out xs t _ _ fun j _ e => hk ⟨j, e⟩]

theorem nodup_len : ∀ (n : Nat) (L : List Nat), L.Nodup → (∀ x ∈ L, x < n) → L.length ≤ n
  | 0, L, _, h => by
    cases L with
    | nil => simp
    | cons a r => exact absurd (h a List.mem_cons_self) (Nat.not_lt_zero _)
  | n + 1, L, hn, h => by
    have h1 := nodup_len n (L.erase n) (hn.erase n) fun x hx => by
      have := (hn.mem_erase_iff).1 hx
      have h2 := h x this.2
      omega
    by_cases hm : n ∈ L
    · rw [List.length_erase_of_mem hm] at h1; omega
    · rw [List.erase_of_not_mem hm] at h1; omega
theorem st_ext {s s' : St} (h1 : s.hp = s'.hp) (h2 : s.used = s'.used) (h3 : ∀ t, s.fr t = s'.fr t) : s = s' := by
  obtain ⟨f, h, u⟩ := s
  obtain ⟨f', h', u'⟩ := s'
  simp only at h1 h2 h3
  subst h1; subst h2
  rw [show f = f' from funext h3]

theorem anyQ {B : Base} (hB : cf.fits B) {ds : List Deferred} {Q : Exit → Act → World → Prop} (hq : qB ops = true) (xs : Nat → AV) (s : St)
    (hall : ∀ j o, ops[j]? = some o → Fact P cf ops j o (lay ops xs (List.range' 0 (j - 0)) s) (xs j))
    (hK : ∀ β a w, a.defers = ds → Sim B β (lay ops xs (List.range' 0 ops.size) s) a.tmps w → Q .normal a w) :
    ∀ (fuel : Nat) (listed : Array Bool) (L : List Nat) (β : Name → Option Blk) (a : Act) (w : World), Up ops listed L → L.Nodup → ops.size ≤ fuel + L.length → a.defers = ds → Sim B β (lay ops xs L s) a.tmps w →
      wpAnyIn (Fw cf.ro) 0 P .any ops Q fuel listed a w := by
  have fin : ∀ (listed : Array Bool) (L : List Nat) (β : Name → Option Blk) (a : Act) (w : World), Up ops listed L → a.defers = ds → Sim B β (lay ops xs L s) a.tmps w → Region.ready .any ops listed = [] → Q .normal a w := by
    intro listed L β a w hu hds hs hr
    have hfull : ∀ n j, j ≤ n → j < ops.size → j ∈ L := by
      intro n
      induction n with
      | zero =>
        intro j hj hlt
        have hj0 : j = 0 := by omega
        subst hj0
        apply Decidable.byContradiction
        intro hn
        obtain ⟨o, ho⟩ : ∃ o, ops[0]? = some o := ⟨ops[0], by simp⟩
        have : 0 ∈ Region.ready .any ops listed := by
          rw [mem_ready]
          refine ⟨?_, o, ho, fun e he hb => ?_⟩
          · have := hu.mem 0 hlt
            have hl : 0 < listed.size := by rw [hu.size]; exact hlt
            cases hv : listed[0] with
            | true => exact absurd (this.1 (by simp [hl, hv])) hn
            | false => simp [hl, hv]
          · have := qB_after hq ho e he hb; omega
        rw [hr] at this; cases this
      | succ n ih =>
        intro j hj hlt
        rcases Nat.lt_or_ge j (n + 1) with h | h
        · exact ih j (by omega) hlt
        · apply Decidable.byContradiction
          intro hn
          obtain ⟨o, ho⟩ : ∃ o, ops[j]? = some o := ⟨ops[j], by simp⟩
          have : j ∈ Region.ready .any ops listed := by
            rw [mem_ready]
            refine ⟨?_, o, ho, fun e he hb => ?_⟩
            · have := hu.mem j hlt
              have hl : j < listed.size := by rw [hu.size]; exact hlt
              cases hv : listed[j] with
              | true => exact absurd (this.1 (by simp [hl, hv])) hn
              | false => simp [hl, hv]
            · have h2 := qB_after hq ho e he hb
              have h3 := (hu.mem e.on (by omega)).2 (ih e.on (by omega) (by omega))
              simp [h3]
          rw [hr] at this; cases this
    have h1 := qB_dst hq
    have e : lay ops xs L s = lay ops xs (List.range' 0 ops.size) s := by
      refine st_ext (by rw [lay_hp, lay_hp]) (by rw [lay_used, lay_used]) fun t => ?_
      by_cases hk : ∃ k, dstOf ops k = some t
      · obtain ⟨k, hk⟩ := hk
        have hlt := dstOf_lt hk
        rw [lay_in h1 xs hk _ _ (hfull k k (Nat.le_refl _) hlt), lay_in h1 xs hk _ _ (by rw [List.mem_range'_1]; omega)]
      · rw [lay_out xs t _ _ fun j _ e => hk ⟨j, e⟩, lay_out xs t _ _ fun j _ e => hk ⟨j, e⟩]
    rw [e] at hs
    exact hK β a w hds hs
  intro fuel
  induction fuel with
  | zero =>
    intro listed L β a w hu hnd hn hds hs
    have hr : Region.ready .any ops listed = [] := by
      apply List.eq_nil_iff_forall_not_mem.2
      intro j hj
      obtain ⟨h0, o, ho, _⟩ := mem_ready.1 hj
      have hlt : j < ops.size := by
        rcases Nat.lt_or_ge j ops.size with hlt | hge
        · exact hlt
        · rw [Array.getElem?_eq_none hge] at ho; cases ho
      have hjL : j ∈ L := by
        apply Decidable.byContradiction
        intro hn'
        have hsub : (j :: L).length ≤ ops.size := by
          refine nodup_len ops.size (j :: L) (List.nodup_cons.2 ⟨hn', hnd⟩) fun x hx => ?_
          rcases List.mem_cons.1 hx with rfl | hx
          · exact hlt
          · exact hu.lt x hx
        simp only [List.length_cons] at hsub
        omega
      have h3 := (hu.mem j hlt).2 hjL
      simp [h3] at h0
    exact ⟨hr, fin listed L β a w hu hds hs hr⟩
  | succ fuel ih =>
    intro listed L β a w hu hnd hn hds hs
    refine ⟨fun hr => fin listed L β a w hu hds hs hr, fun i hi => ?_⟩
    obtain ⟨h0, o, ho, hw⟩ := mem_ready.1 hi
    have hlt : i < ops.size := by
      rcases Nat.lt_or_ge i ops.size with hlt | hge
      · exact hlt
      · rw [Array.getElem?_eq_none hge] at ho; cases ho
    have hiL : i ∉ L := fun h => by
      have h3 := (hu.mem i hlt).2 h
      simp [h3] at h0
    have hwL : ∀ e ∈ o.after, Region.binds .any e = true → e.on ∈ L := fun e he hb => by
      have h1 := hw e he hb
      have h2 := qB_after hq ho e he hb
      refine (hu.mem e.on (by omega)).1 ?_
      have hl : e.on < listed.size := by rw [hu.size]; omega
      simp [hl] at h1
      simp [hl, h1]
    refine wpOpIn_mono (fun a' w' ⟨hd', β', hs'⟩ => ih (listed.setIfInBounds i true) (L ++ [i]) β' a' w' ?_ ?_ ?_ hd' ?_) (hall i o ho _ (up_agr hq hu xs s ho hiL hwL) B hB ds β a w hds hs Q)
    · refine ⟨by simpa using hu.size, fun j hj => ?_, fun j hj => ?_, fun j hj o' ho' e he hb => ?_⟩
      · have hl : j < listed.size := by rw [hu.size]; exact hj
        by_cases hij : i = j
        · subst hij; simp [hl]
        · rw [Array.getElem?_setIfInBounds_ne hij, hu.mem j hj]
          simp [Ne.symm hij]
      · rcases List.mem_append.1 hj with hj | hj
        · exact hu.lt j hj
        · rw [List.mem_singleton.1 hj]; exact hlt
      · rcases List.mem_append.1 hj with hj | hj
        · exact List.mem_append_left _ (hu.closed j hj o' ho' e he hb)
        · rw [List.mem_singleton.1 hj, ho] at ho'
          cases ho'
          exact List.mem_append_left _ (hwL e he hb)
    · rw [List.nodup_append]
      exact ⟨hnd, by simp, fun x hx y hy => by rw [List.mem_singleton.1 hy]; rintro rfl; exact hiL hx⟩
    · simp only [List.length_append, List.length_singleton]; omega
    · rw [lay_snoc, show dstOf ops i = o.dst by simp [dstOf, ho]]; exact hs'

/-- A region that draws its order, by one walk. -/
theorem region_q {id : Nat} {l : List Oper} {s : St} {k : List It} {Q : Exit → St → Prop} (hm : P.follows .mixedOrders = true) (hq : qB l.toArray = true) (h : qrun P cf l.toArray (fun s' => run P cf k Q s') l s) :
    ACk P cf (.region id l.toArray true) s k Q := by
  obtain ⟨xs, hK, hall⟩ := qrun_facts (ops := l.toArray) l 0 s (fun j => by simp) h
  intro B hB ds β a w hds hs
  refine wpIn_region_any hm ?_
  refine anyQ hB (ds := ds) hq xs s (fun j o ho => hall j o (Nat.zero_le _) ho) (fun β a w hds hs => run_ok hK B hB ds β a w hds (by simpa using hs)) _ _ [] β a _ ?_ List.nodup_nil (by simp) hds (hs.heap_eq rfl rfl)
  refine ⟨by simp, fun j hj => ?_, by simp, by simp⟩
  have hj : j < l.length := by simpa using hj
  simp [hj]
end
end Go.Ab
