/-
  The generic layer, part 9: each step is sound: objects.
-/
import Derived.Test.YtmplpdjddjiioaaDoorA8
import Derived.Laws.MakeOwn
import Derived.Laws.NewBlocks
namespace Go.Ab
section
variable {P : Program} {B : Base} {β : Name → Option Blk} {s : St} {tm : Array Value} {w : World} {t : Nat}

theorem nm_ne {used : List Nat} {p : Name} (h : nm used p) (ht : t ∉ used) : p ≠ [t] := by
  obtain ⟨a, l, rfl, ha⟩ := h
  intro e
  simp at e
  exact ht (e.1 ▸ ha)

/-- An object gives its block to a new one. -/
theorem Sim.renew (h : Sim B β s tm w) (ht : t ∉ s.used) {p : Name} {ob : Ob} {k : Blk} (hp : s.hp p = some ob) (hk : β p = some k) (wf : W) (xs : List D) (o' : Nat) {w' : World} (hio : wio w' = wio w) (hsz : w'.heap.size = w.heap.size)
    (hw : ∀ b, b ≠ k.b → w'.heap[b]? = w.heap[b]?)
    (hO : (∀ v d, Rep w.heap (s.own B.A β) v d → Rep w'.heap (s.own B.A β) v d) →
      ∃ c e, w'.heap[k.b]? = some (.cells c e (0, 0)) ∧ c.size = k.z ∧ o' + xs.length * wd wf ≤ k.z ∧ (∀ x ∈ xs, okW wf x) ∧
        ∀ i x j d, xs[i]? = some x → x.cells[j]? = some d → Rep w'.heap (s.own B.A β) (c.getD (o' + i * wd wf + j) undef) d) :
    Sim B (updP β [t] (some ⟨k.b, o', k.z⟩)) ((s.set p none).add t (.arr wf xs)) tm w' := by
  obtain ⟨β', hβ'⟩ : ∃ β', updP β [t] (some ⟨k.b, o', k.z⟩) = β' := ⟨_, rfl⟩
  obtain ⟨s', hs'⟩ : ∃ s', (s.set p none).add t (.arr wf xs) = s' := ⟨_, rfl⟩
  have hnew : β' [t] = some ⟨k.b, o', k.z⟩ := by rw [← hβ']; simp [updP]
  have hold : ∀ q, q ≠ [t] → β' q = β q := fun q hq => by rw [← hβ']; simp [updP, hq]
  have hpn := nm_ne (h.objs p ob hp).1 ht
  have hhn : s'.hp [t] = some (.arr wf xs) := by rw [← hs']; simp [St.add, updP]
  have hhp : s'.hp p = none := by rw [← hs']; simp [St.add, St.set, updP, hpn]
  have hhq : ∀ q, q ≠ [t] → q ≠ p → s'.hp q = s.hp q := fun q h1 h2 => by rw [← hs']; simp [St.add, St.set, updP, h1, h2]
  have hus : s'.used = t :: s.used := by rw [← hs']; rfl
  have hfr : s'.fr = s.fr := by rw [← hs']; rfl
  have hpne : s.hp p ≠ none := by rw [hp]; simp
  have hown : s'.own B.A β' = s.own B.A β := by
    funext b
    refine propext (or_congr_right ⟨?_, ?_⟩)
    · rintro ⟨q, l, hq, hl, rfl⟩
      by_cases e1 : q = [t]
      · subst e1; rw [hnew] at hl; cases hl; exact ⟨p, k, hpne, hk, rfl⟩
      · by_cases e2 : q = p
        · subst e2; exact absurd hhp hq
        · rw [hold q e1] at hl; rw [hhq q e1 e2] at hq; exact ⟨q, l, hq, hl, rfl⟩
    · rintro ⟨q, l, hq, hl, rfl⟩
      by_cases e2 : q = p
      · subst e2; rw [hk] at hl; cases hl; exact ⟨[t], _, by rw [hhn]; simp, hnew, rfl⟩
      · cases ho : s.hp q with
        | none => exact absurd ho hq
        | some o =>
          have e1 := nm_ne (h.objs q o ho).1 ht
          exact ⟨q, l, by rw [hhq q e1 e2]; exact hq, by rw [hold q e1]; exact hl, rfl⟩
  have hr : ∀ v d, Rep w.heap (s.own B.A β) v d → Rep w'.heap (s.own B.A β) v d := fun v d hd => hd.mono (fun b hb _ => hw b fun e => hb (.inr ⟨p, k, hpne, hk, e.symm⟩)) (fun _ _ h => h)
  have hst : ∀ q, nm s.used q → Stays s.hp s'.hp β β' q := by
    intro q hq o ho
    have e1 := nm_ne hq ht
    have e2 : q ≠ p := by rintro rfl; rw [hhp] at ho; cases ho
    exact ⟨o, by rwa [hhq q e1 e2] at ho, Ob.like_refl _, hold q e1⟩
  have hu : ∀ x ∈ s.used, x ∈ s'.used := fun x hx => by rw [hus]; exact List.mem_cons_of_mem _ hx
  rw [hβ', hs']
  refine { tms := h.tms, io := hio.trans h.io, size := by rw [hsz]; exact h.size, frame := ?_, slots := fun i => ?_, objs := ?_, blocks := ?_, inj := ?_, us := fun x hx => hu x (h.us x hx),
           stay := fun p hp => (hold p (nm_ne (hp.mono h.us) ht)).trans (h.stay p hp) }
  · intro b hb hn
    rw [hw b ?_]
    · exact h.frame b hb hn
    · rintro rfl
      rcases (h.blocks p k hpne hk).2.2 with h3 | h3
      · omega
      · exact hn h3
  · rw [hown, hfr]; exact (h.slots i).mono hr hu hst
  · intro q o ho
    rw [hown]
    by_cases e1 : q = [t]
    · subst e1
      rw [hhn] at ho; cases ho
      obtain ⟨c, e, h1, h2, h3, h4, h5⟩ := hO hr
      exact ⟨⟨t, [], rfl, by rw [hus]; exact List.mem_cons_self⟩, .inr ⟨_, c, e, hnew, h1, h2, h3, h4, h5⟩⟩
    · have e2 : q ≠ p := by rintro rfl; rw [hhp] at ho; cases ho
      rw [hhq q e1 e2] at ho
      obtain ⟨h1, h2⟩ := h.objs q o ho
      refine ⟨h1.mono hu, h2.mono hr hu hst (hold q e1) fun l hl => hw l.b fun e => ?_⟩
      exact e2 (h.inj q p l k (by rw [ho]; simp) hpne hl hk e)
  · intro q l hq hl
    rw [hsz]
    by_cases e1 : q = [t]
    · subst e1; rw [hnew] at hl; cases hl; exact h.blocks p k hpne hk
    · have e2 : q ≠ p := by rintro rfl; exact hq hhp
      rw [hold q e1] at hl; rw [hhq q e1 e2] at hq
      exact h.blocks q l hq hl
  · intro q q' l l' hq hq' hl hl' e
    have key : ∀ q l, s'.hp q ≠ none → β' q = some l → ∃ r, (q = [t] ∧ r = p ∨ q ≠ [t] ∧ r = q ∧ q ≠ p) ∧ s.hp r ≠ none ∧ ∃ m, β r = some m ∧ m.b = l.b := by
      intro q l hq hl
      by_cases e1 : q = [t]
      · subst e1; rw [hnew] at hl; cases hl; exact ⟨p, .inl ⟨rfl, rfl⟩, hpne, k, hk, rfl⟩
      · have e2 : q ≠ p := by rintro rfl; exact hq hhp
        rw [hold q e1] at hl; rw [hhq q e1 e2] at hq
        exact ⟨q, .inr ⟨e1, rfl, e2⟩, hq, l, hl, rfl⟩
    obtain ⟨r, h1, h2, m, h3, h4⟩ := key q l hq hl
    obtain ⟨r', g1, g2, m', g3, g4⟩ := key q' l' hq' hl'
    have : r = r' := h.inj r r' m m' h2 g2 h3 g3 (by rw [h4, g4, e])
    rcases h1 with ⟨rfl, rfl⟩ | ⟨h1, rfl, h5⟩ <;> rcases g1 with ⟨rfl, rfl⟩ | ⟨g1, rfl, g5⟩
    · rfl
    · exact absurd this.symm g5
    · exact absurd this h5
    · exact this

/-- An empty object that lies nowhere. -/
theorem Sim.addNone (h : Sim B β s tm w) (ht : t ∉ s.used) (wf : W) : Sim B (updP β [t] none) (s.add t (.arr wf [])) tm w := by
  have hold : ∀ q, q ≠ [t] → updP β [t] none q = β q := fun q hq => by simp [updP, hq]
  have hnew : updP β [t] none [t] = none := by simp [updP]
  have hhq : ∀ q, q ≠ [t] → (s.add t (.arr wf [])).hp q = s.hp q := fun q h1 => by simp [St.add, updP, h1]
  have hown : (s.add t (.arr wf [])).own B.A (updP β [t] none) = s.own B.A β := by
    funext b
    refine propext (or_congr_right ⟨?_, ?_⟩)
    · rintro ⟨q, l, hq, hl, rfl⟩
      by_cases e1 : q = [t]
      · subst e1; rw [hnew] at hl; cases hl
      · rw [hold q e1] at hl; rw [hhq q e1] at hq; exact ⟨q, l, hq, hl, rfl⟩
    · rintro ⟨q, l, hq, hl, rfl⟩
      cases ho : s.hp q with
      | none => exact absurd ho hq
      | some o =>
        have e1 := nm_ne (h.objs q o ho).1 ht
        exact ⟨q, l, by rw [hhq q e1]; exact hq, by rw [hold q e1]; exact hl, rfl⟩
  have hst : ∀ q, nm s.used q → Stays s.hp (s.add t (.arr wf [])).hp β (updP β [t] none) q := by
    intro q hq o ho
    have e1 := nm_ne hq ht
    exact ⟨o, by rwa [hhq q e1] at ho, Ob.like_refl _, hold q e1⟩
  have hu : ∀ x ∈ s.used, x ∈ (s.add t (.arr wf [])).used := fun x hx => List.mem_cons_of_mem _ hx
  refine { tms := h.tms, io := h.io, size := h.size, frame := h.frame, slots := fun i => ?_, objs := ?_, blocks := ?_, inj := ?_, us := fun x hx => hu x (h.us x hx),
           stay := fun p hp => (hold p (nm_ne (hp.mono h.us) ht)).trans (h.stay p hp) }
  · rw [hown]; exact (h.slots i).mono (fun _ _ h => h) hu hst
  · intro q o ho
    rw [hown]
    by_cases e1 : q = [t]
    · subst e1
      have : o = .arr wf [] := by simpa [St.add, updP] using ho.symm
      subst this
      exact ⟨⟨t, [], rfl, List.mem_cons_self⟩, .inl ⟨hnew, rfl⟩⟩
    · rw [hhq q e1] at ho
      obtain ⟨h1, h2⟩ := h.objs q o ho
      exact ⟨h1.mono hu, h2.mono (fun _ _ h => h) hu hst (hold q e1) fun _ _ => rfl⟩
  · intro q l hq hl
    by_cases e1 : q = [t]
    · subst e1; rw [hnew] at hl; cases hl
    · rw [hold q e1] at hl; rw [hhq q e1] at hq
      exact h.blocks q l hq hl
  · intro q q' l l' hq hq' hl hl' e
    by_cases e1 : q = [t]
    · subst e1; rw [hnew] at hl; cases hl
    · by_cases e2 : q' = [t]
      · subst e2; rw [hnew] at hl'; cases hl'
      · rw [hold q e1] at hl; rw [hhq q e1] at hq; rw [hold q' e2] at hl'; rw [hhq q' e2] at hq'
        exact h.inj q q' l l' hq hq' hl hl' e

theorem VR.own_at {H own} (p : Name) (b z : Nat) {used : List Nat} {hp : Name → Option Ob} {β : Name → Option Blk} (hu : nm used p) (hβ : β p = some ⟨b, 0, z⟩) : VR H own used hp β (.pointer (some ⟨b, 0, none⟩)) (.at p 0) :=
  .at _ _ _ hu rfl fun _ _ => ⟨_, hβ, rfl, rfl⟩

/-- A new variable. -/
theorem newBox_sound (h : Sim B β s tm w) (ht : t < B.n) (hu : t ∉ s.used) {c : Array Value} {cs : List AV} (hs : c.size = cs.length) (h1 : ∀ u ∈ c, u.oneCell' = true)
    (hv : ∀ i x, cs[i]? = some x → VR w.heap (s.own B.A β) s.used s.hp β (c.getD i undef) x) (e : TypeId) :
    ∃ β', Sim B β' ((s.add t (.box cs)).put t (.at [t] 0)) (tm.setIfInBounds t (.pointer (some ⟨w.heap.size, 0, none⟩))) (w.alloc (.cells c e)) := by
  obtain ⟨hsim, _⟩ := h.alloc hu (.cells c e) (.box cs) c.size (fun β' hβ hmono =>
    ⟨_, c, e, hβ, rfl, heap_alloc_new w _, rfl, hs, h1, fun j x hj => hmono _ _ (hv j x hj)⟩)
  refine ⟨_, hsim.put ht (.own_at [t] w.heap.size c.size ⟨t, [], rfl, List.mem_cons_self⟩ ?_)⟩
  simp [updP]

/-- A new row. -/
theorem newArr_sound (h : Sim B β s tm w) (ht : t < B.n) (hu : t ∉ s.used) {c : Array Value} {wf : W} {xs : List D} {cap : Nat} (hl : xs.length ≤ cap) (hz : cap * wd wf ≤ c.size) (hok : ∀ x ∈ xs, okW wf x)
    (hv : ∀ i x j d, xs[i]? = some x → x.cells[j]? = some d → Rep w.heap (s.own B.A β) (c.getD (i * wd wf + j) undef) d) (e : TypeId) :
    ∃ β', Sim B β' ((s.add t (.arr wf xs)).put t (.vw [t] 0 xs.length)) (tm.setIfInBounds t (.slice (some ⟨w.heap.size, 0, none⟩) xs.length cap)) (w.alloc (.cells c e)) := by
  have hle : xs.length * wd wf ≤ cap * wd wf := Nat.mul_le_mul_right _ hl
  obtain ⟨hsim, _⟩ := h.alloc hu (.cells c e) (.arr wf xs) c.size (fun β' hβ hmono =>
    .inr ⟨_, c, e, hβ, heap_alloc_new w _, rfl, by simp; omega, hok, fun i x j d hi hj => by
      have := hmono _ _ (.d _ _ (hv i x j d hi hj))
      simpa using this.toD⟩)
  refine ⟨_, hsim.put ht (.vw _ _ _ _ ⟨t, [], rfl, List.mem_cons_self⟩ rfl fun w' xs' hp' => ?_)⟩
  have : w' = wf ∧ xs' = xs := by simpa [St.add, updP, eq_comm] using hp'
  obtain ⟨rfl, rfl⟩ := this
  exact ⟨by simp, _, cap, rfl, .inr ⟨⟨w.heap.size, 0, c.size⟩, by simp [updP], by simp, hl, by simpa using hz⟩⟩
end
end Go.Ab
