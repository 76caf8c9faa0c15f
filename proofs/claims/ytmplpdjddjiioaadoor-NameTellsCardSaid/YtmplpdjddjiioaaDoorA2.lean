/-
  The generic layer, part 2: what stands for a value goes on standing for it when memory turns elsewhere.
-/
import Derived.Test.YtmplpdjddjiioaaDoorA1
namespace Go.Ab

theorem lt_of_some {α : Type} {a : Array α} {i : Nat} {x : α} (h : a[i]? = some x) : i < a.size := (Array.getElem?_eq_some_iff.1 h).1

theorem Rep.mono {H H' : Array Obj} {own own' : Nat → Prop} (hH : ∀ b, ¬ own b → b < H.size → H'[b]? = H[b]?) (ho : ∀ b, b < H.size → own' b → own b)
    {v : Value} {d : D} (h : Rep H own v d) : Rep H' own' v d := by
  induction h with
  | int k n => exact .int k n
  | bool b => exact .bool b
  | str l => exact .str l
  | nilp => exact .nilp
  | nils => exact .nils
  | nilm => exact .nilm
  | nilf => exact .nilf
  | nili => exact .nili
  | agg vs cs hs hc _ ih => exact .agg vs cs hs hc ih
  | sl0 a cap w => exact .sl0 a cap w
  | sl b o cap c e fz w xs hb hn hcap hz hw _ ih => exact .sl b o cap c e fz w xs ((hH b hn (lt_of_some hb)).trans hb) (fun h => hn (ho b (lt_of_some hb) h)) hcap hz hw ih
  | ptr b o c e fz d hb hn hz hsc _ ih => exact .ptr b o c e fz d ((hH b hn (lt_of_some hb)).trans hb) (fun h => hn (ho b (lt_of_some hb) h)) hz hsc ih
  | clo f vs cs hs _ ih => exact .clo f vs cs hs ih
  | ifc t v d _ ih => exact .ifc t v d ih

theorem Rep.oneCell {H : Array Obj} {own : Nat → Prop} {v : Value} {d : D} (h : Rep H own v d) (hd : d.scal = true) : v.oneCell' = true := by
  cases h <;> first | rfl | simp [D.scal] at hd

/-- An object may turn into one of the same make. -/
def Ob.like : Ob → Ob → Prop
  | .arr w xs, .arr w' xs' => w = w' ∧ xs.length ≤ xs'.length
  | .box _, .box _ => True
  | .map _, .map _ => True
  | .siter _ _, .siter _ _ => True
  | .miter _ _, .miter _ _ => True
  | _, _ => False
theorem Ob.like_refl (o : Ob) : o.like o := by cases o <;> simp [Ob.like]

def Stays (hp hp' : Name → Option Ob) (β β' : Name → Option Blk) (p : Name) : Prop := ∀ o', hp' p = some o' → ∃ o, hp p = some o ∧ o.like o' ∧ β' p = β p

section
variable {H H' : Array Obj} {own own' : Nat → Prop} {used used' : List Nat} {hp hp' : Name → Option Ob} {β β' : Name → Option Blk}

theorem nm.mono {p : Name} (hu : ∀ x ∈ used, x ∈ used') (h : nm used p) : nm used' p := let ⟨a, t, e, m⟩ := h; ⟨a, t, e, hu a m⟩

theorem VR.mono (hr : ∀ v d, Rep H own v d → Rep H' own' v d) (hu : ∀ x ∈ used, x ∈ used') (hst : ∀ p, nm used p → Stays hp hp' β β' p)
    {v : Value} {x : AV} (h : VR H own used hp β v x) : VR H' own' used' hp' β' v x := by
  induction h with
  | un v => exact .un v
  | d v x h => exact .d v x (hr v x h)
  | vw v p off len hn h1 h =>
    refine .vw v p off len (hn.mono hu) h1 fun w xs hx => ?_
    obtain ⟨o, ho, hl, hb⟩ := hst p hn _ hx
    cases o <;> simp [Ob.like] at hl
    obtain ⟨rfl, hle⟩ := hl
    obtain ⟨h1, a, cap, rfl, h2⟩ := h _ _ ho
    exact ⟨by omega, a, cap, rfl, by rw [hb]; exact h2⟩
  | «at» v p c hn h1 h =>
    refine .at v p c (hn.mono hu) h1 fun cs hx => ?_
    obtain ⟨o, ho, hl, hb⟩ := hst p hn _ hx
    cases o <;> simp [Ob.like] at hl
    rw [hb]; exact h _ ho
  | el v p i c hn h1 h =>
    refine .el v p i c (hn.mono hu) h1 fun w xs hx => ?_
    obtain ⟨o, ho, hl, hb⟩ := hst p hn _ hx
    cases o <;> simp [Ob.like] at hl
    obtain ⟨rfl, hle⟩ := hl
    obtain ⟨h1, h2⟩ := h _ _ ho
    exact ⟨by omega, by rw [hb]; exact h2⟩
  | mp v p hn h1 h =>
    refine .mp v p (hn.mono hu) h1 fun es hx => ?_
    obtain ⟨o, ho, hl, hb⟩ := hst p hn _ hx
    cases o <;> simp [Ob.like] at hl
    rw [hb]; exact h _ ho
  | its v p hn h1 h h' =>
    refine .its v p (hn.mono hu) h1 (fun s i hx => ?_) (fun s i hx => ?_)
    · obtain ⟨o, ho, hl, hb⟩ := hst p hn _ hx
      cases o <;> simp [Ob.like] at hl
      rw [hb]; exact h _ _ ho
    · obtain ⟨o, ho, hl, hb⟩ := hst p hn _ hx
      cases o <;> simp [Ob.like] at hl
      rw [hb]; exact h' _ _ ho
  | agg vs cs hs hc _ ih => exact .agg vs cs hs hc ih
  | tup vs cs hs _ ih => exact .tup vs cs hs ih
  | clo f vs cs hs _ ih => exact .clo f vs cs hs ih

theorem OR.mono (hr : ∀ v d, Rep H own v d → Rep H' own' v d) (hu : ∀ x ∈ used, x ∈ used') (hst : ∀ p, nm used p → Stays hp hp' β β' p)
    {p : Name} {o : Ob} (hb : β' p = β p) (hH : ∀ k, β p = some k → H'[k.b]? = H[k.b]?) (h : OR H own used hp β p o) : OR H' own' used' hp' β' p o := by
  cases o with
  | arr w xs =>
    rcases h with ⟨h1, h2⟩ | ⟨k, c, e, hk, hc, hz, hl, hw, h⟩
    · exact .inl ⟨hb.trans h1, h2⟩
    · exact .inr ⟨k, c, e, hb.trans hk, (hH k hk).trans hc, hz, hl, hw, fun i x j d hi hj => hr _ _ (h i x j d hi hj)⟩
  | box cs =>
    obtain ⟨k, c, e, hk, ho, hc, hz, hl, h1, h⟩ := h
    exact ⟨k, c, e, hb.trans hk, ho, (hH k hk).trans hc, hz, hl, h1, fun j x hj => (h j x hj).mono hr hu hst⟩
  | map es =>
    obtain ⟨k, ents, clock, hk, hc, hz, h⟩ := h
    refine ⟨k, ents, clock, hb.trans hk, (hH k hk).trans hc, hz, fun i x hi => ?_⟩
    obtain ⟨en, h1, h2, h3⟩ := h i x hi
    exact ⟨en, h1, hr _ _ h2, hr _ _ h3⟩
  | siter s pos =>
    obtain ⟨k, hk, hc⟩ := h
    exact ⟨k, hb.trans hk, (hH k hk).trans hc⟩
  | miter _ _ => exact h.elim
end

/-! ### The state's turns -/
def updN {α : Type} (f : Nat → α) (i : Nat) (v : α) : Nat → α := fun j => if j = i then v else f j
def updP {α : Type} (f : Name → α) (i : Name) (v : α) : Name → α := fun j => if j = i then v else f j
def St.put (s : St) (t : Nat) (v : AV) : St := { s with fr := updN s.fr t v }
def St.set (s : St) (p : Name) (o : Option Ob) : St := { s with hp := updP s.hp p o }
def St.add (s : St) (t : Nat) (o : Ob) : St := { s with hp := updP s.hp [t] (some o), used := t :: s.used }

section
variable {B : Base} {β : Name → Option Blk} {s : St} {tm : Array Value} {w : World}

theorem Sim.put (h : Sim B β s tm w) {t : Nat} (ht : t < B.n) {v : Value} {x : AV} (hv : VR w.heap (s.own B.A β) s.used s.hp β v x) :
    Sim B β (s.put t x) (tm.setIfInBounds t v) w := by
  refine { h with tms := by simpa using h.tms, slots := fun i => ?_ }
  show VR w.heap (s.own B.A β) s.used s.hp β _ (updN s.fr t x i)
  unfold updN
  by_cases hi : i = t
  · subst hi
    rw [if_pos rfl]
    have : i < tm.size := by rw [h.tms]; exact ht
    simpa [Array.getD_eq_getD_getElem?, this] using hv
  · rw [if_neg hi]
    have := h.slots i
    rw [show (tm.setIfInBounds t v).getD i undef = tm.getD i undef from by simp [Array.getD_eq_getD_getElem?, Ne.symm hi]]
    exact this

/-- Where only what is counted turns (the tape's count), all stands. -/
theorem Sim.heap_eq (h : Sim B β s tm w) {w' : World} (e : w'.heap = w.heap) (e2 : wio w' = wio w) : Sim B β s tm w' :=
  { tms := h.tms, io := e2.trans h.io, size := by rw [e]; exact h.size, frame := by rw [e]; exact h.frame, slots := by rw [e]; exact h.slots, objs := by rw [e]; exact h.objs, blocks := by rw [e]; exact h.blocks, inj := h.inj, us := h.us, stay := h.stay }

theorem Sim.own_lt (h : Sim B β s tm w) {b : Nat} (hb : s.own B.A β b) : b < w.heap.size := by
  rcases hb with hb | ⟨p, k, hp, hk, rfl⟩
  · exact Nat.lt_of_lt_of_le (B.hA b hb) h.size
  · exact (h.blocks p k hp hk).1

/-- A new block with a new object in it. -/
theorem Sim.alloc (h : Sim B β s tm w) {t : Nat} (ht : t ∉ s.used) (o : Obj) (ob : Ob) (z : Nat)
    (hO : ∀ β' : Name → Option Blk, β' [t] = some ⟨w.heap.size, 0, z⟩ → (∀ v x, VR w.heap (s.own B.A β) s.used s.hp β v x → VR (w.alloc o).heap ((s.add t ob).own B.A β') (t :: s.used) (s.add t ob).hp β' v x) →
      OR (w.alloc o).heap ((s.add t ob).own B.A β') (t :: s.used) (s.add t ob).hp β' [t] ob) :
    Sim B (updP β [t] (some ⟨w.heap.size, 0, z⟩)) (s.add t ob) tm (w.alloc o) ∧
      ∀ v x, VR w.heap (s.own B.A β) s.used s.hp β v x → VR (w.alloc o).heap ((s.add t ob).own B.A (updP β [t] (some ⟨w.heap.size, 0, z⟩))) (t :: s.used) (s.add t ob).hp (updP β [t] (some ⟨w.heap.size, 0, z⟩)) v x := by
  obtain ⟨β', hβ'⟩ : ∃ β', updP β [t] (some ⟨w.heap.size, 0, z⟩) = β' := ⟨_, rfl⟩
  have hnew : β' [t] = some ⟨w.heap.size, 0, z⟩ := by rw [← hβ']; simp [updP]
  have hold : ∀ p, p ≠ [t] → β' p = β p := fun p hp => by rw [← hβ']; simp [updP, hp]
  have hhp : ∀ p, p ≠ [t] → (s.add t ob).hp p = s.hp p := fun p hp => by simp [St.add, updP, hp]
  have hnm : ∀ p, nm s.used p → p ≠ [t] := by
    rintro p ⟨a, l, rfl, ha⟩ e
    simp at e
    exact ht (e.1 ▸ ha)
  have hown : ∀ b, b < w.heap.size → (s.add t ob).own B.A β' b → s.own B.A β b := by
    rintro b hb (hA | ⟨p, k, hp, hk, rfl⟩)
    · exact .inl hA
    · by_cases e : p = [t]
      · subst e
        rw [hnew] at hk; cases hk
        exact absurd hb (Nat.lt_irrefl _)
      · rw [hold p e] at hk; rw [hhp p e] at hp
        exact .inr ⟨p, k, hp, hk, rfl⟩
  have hr : ∀ v d, Rep w.heap (s.own B.A β) v d → Rep (w.alloc o).heap ((s.add t ob).own B.A β') v d :=
    fun v d hd => hd.mono (fun b _ hb => heap_alloc_old w o b hb) hown
  have hst : ∀ p, nm s.used p → Stays s.hp (s.add t ob).hp β β' p := fun p hp o' ho' =>
    ⟨o', by rwa [hhp p (hnm p hp)] at ho', Ob.like_refl _, hold p (hnm p hp)⟩
  have hv : ∀ v x, VR w.heap (s.own B.A β) s.used s.hp β v x → VR (w.alloc o).heap ((s.add t ob).own B.A β') (t :: s.used) (s.add t ob).hp β' v x :=
    fun v x hx => hx.mono hr (fun y hy => List.mem_cons_of_mem _ hy) hst
  rw [hβ']
  refine ⟨{ tms := h.tms, io := h.io, size := by simp; exact Nat.le_succ_of_le h.size, frame := ?_, slots := fun i => hv _ _ (h.slots i), objs := ?_, blocks := ?_, inj := ?_, us := fun x hx => List.mem_cons_of_mem _ (h.us x hx),
            stay := fun p hp => (hold p (hnm p (hp.mono h.us))).trans (h.stay p hp) }, hv⟩
  · intro b hb hn
    rw [heap_alloc_old w o b (Nat.lt_of_lt_of_le hb h.size)]
    exact h.frame b hb hn
  · intro p o' ho'
    by_cases e : p = [t]
    · subst e
      have : o' = ob := by simpa [St.add, updP] using ho'.symm
      subst this
      exact ⟨⟨t, [], rfl, List.mem_cons_self⟩, hO β' hnew hv⟩
    · rw [hhp p e] at ho'
      obtain ⟨h1, h2⟩ := h.objs p o' ho'
      refine ⟨h1.mono fun y hy => List.mem_cons_of_mem _ hy, h2.mono hr (fun y hy => List.mem_cons_of_mem _ hy) hst (hold p e) fun k hk => ?_⟩
      exact heap_alloc_old w o k.b (h.blocks p k (by rw [ho']; simp) hk).1
  · intro p k hp hk
    by_cases e : p = [t]
    · subst e
      rw [hnew] at hk; cases hk
      refine ⟨by simp, fun hA => absurd (Nat.lt_of_lt_of_le (B.hA _ hA) h.size) (Nat.lt_irrefl _), .inl h.size⟩
    · rw [hold p e] at hk; rw [hhp p e] at hp
      obtain ⟨h1, h2⟩ := h.blocks p k hp hk
      exact ⟨by simp; omega, h2⟩
  · intro p q k l hp hq hk hl e
    by_cases ep : p = [t] <;> by_cases eq : q = [t]
    · rw [ep, eq]
    · subst ep
      rw [hnew] at hk; cases hk
      rw [hold q eq] at hl; rw [hhp q eq] at hq
      have := (h.blocks q l hq hl).1
      simp at e; omega
    · subst eq
      rw [hnew] at hl; cases hl
      rw [hold p ep] at hk; rw [hhp p ep] at hp
      have := (h.blocks p k hp hk).1
      simp at e; omega
    · rw [hold p ep] at hk; rw [hhp p ep] at hp; rw [hold q eq] at hl; rw [hhp q eq] at hq
      exact h.inj p q k l hp hq hk hl e

/-- An object's block turns: the object turns into one of its make. -/
theorem Sim.modify (h : Sim B β s tm w) {p : Name} {ob ob' : Ob} (hp : s.hp p = some ob) (hl : ob.like ob') {w' : World} (hio : wio w' = wio w) (hsz : w'.heap.size = w.heap.size)
    (hw : ∀ b, (∀ k, β p = some k → b ≠ k.b) → w'.heap[b]? = w.heap[b]?)
    (hO : (∀ v x, VR w.heap (s.own B.A β) s.used s.hp β v x → VR w'.heap ((s.set p (some ob')).own B.A β) s.used (s.set p (some ob')).hp β v x) →
      (∀ v d, Rep w.heap (s.own B.A β) v d → Rep w'.heap ((s.set p (some ob')).own B.A β) v d) →
      OR w'.heap ((s.set p (some ob')).own B.A β) s.used (s.set p (some ob')).hp β p ob') :
    Sim B β (s.set p (some ob')) tm w' ∧
      (∀ v x, VR w.heap (s.own B.A β) s.used s.hp β v x → VR w'.heap ((s.set p (some ob')).own B.A β) s.used (s.set p (some ob')).hp β v x) := by
  have hne : ∀ q, (s.set p (some ob')).hp q ≠ none ↔ s.hp q ≠ none := by
    intro q
    by_cases e : q = p
    · subst e; simp [St.set, updP, hp]
    · simp [St.set, updP, e]
  have hown : (s.set p (some ob')).own B.A β = s.own B.A β := by
    funext b
    refine propext (or_congr_right ⟨?_, ?_⟩)
    · rintro ⟨q, k, hq, hk, e⟩; exact ⟨q, k, (hne q).1 hq, hk, e⟩
    · rintro ⟨q, k, hq, hk, e⟩; exact ⟨q, k, (hne q).2 hq, hk, e⟩
  rw [hown] at hO ⊢
  have hmine : ∀ b, ¬ s.own B.A β b → w'.heap[b]? = w.heap[b]? := fun b hb => hw b fun k hk e => hb (.inr ⟨p, k, by rw [hp]; simp, hk, e.symm⟩)
  have hr : ∀ v d, Rep w.heap (s.own B.A β) v d → Rep w'.heap (s.own B.A β) v d := fun v d hd => hd.mono (fun b hb _ => hmine b hb) (fun _ _ h => h)
  have hst : ∀ q, nm s.used q → Stays s.hp (s.set p (some ob')).hp β β q := by
    intro q _ o' ho'
    by_cases e : q = p
    · subst e
      have : o' = ob' := by simpa [St.set, updP] using ho'.symm
      subst this
      exact ⟨ob, hp, hl, rfl⟩
    · exact ⟨o', by simpa [St.set, updP, e] using ho', Ob.like_refl _, rfl⟩
  have hv : ∀ v x, VR w.heap (s.own B.A β) s.used s.hp β v x → VR w'.heap (s.own B.A β) s.used (s.set p (some ob')).hp β v x := fun v x hx => hx.mono hr (fun _ h => h) hst
  refine ⟨{ tms := h.tms, io := hio.trans h.io, size := by rw [hsz]; exact h.size, frame := ?_, slots := ?_, objs := ?_, blocks := ?_, inj := ?_, us := h.us, stay := h.stay }, hv⟩
  · intro b hb hn
    rw [hw b ?_]
    · exact h.frame b hb hn
    · intro k hk e
      obtain ⟨_, _, h3⟩ := h.blocks p k (by rw [hp]; simp) hk
      rcases h3 with h3 | h3
      · omega
      · exact hn (e ▸ h3)
  · intro i
    rw [hown]
    exact hv _ _ (h.slots i)
  · intro q o' ho'
    rw [hown]
    by_cases e : q = p
    · subst e
      have : o' = ob' := by simpa [St.set, updP] using ho'.symm
      subst this
      exact ⟨(h.objs q ob hp).1, hO hv hr⟩
    · have ho : s.hp q = some o' := by simpa [St.set, updP, e] using ho'
      obtain ⟨h1, h2⟩ := h.objs q o' ho
      refine ⟨h1, h2.mono hr (fun _ h => h) hst rfl fun k hk => hw k.b fun l hl' e' => ?_⟩
      exact e (h.inj q p k l (by rw [ho]; simp) (by rw [hp]; simp) hk hl' e')
  · intro q k hq hk
    rw [hsz]
    exact h.blocks q k ((hne q).1 hq) hk
  · intro q q' k l hq hq' hk hl' e
    exact h.inj q q' k l ((hne q).1 hq) ((hne q').1 hq') hk hl' e

/-- An object is forgotten. -/
theorem Sim.drop (h : Sim B β s tm w) (p : Name) : Sim B β (s.set p none) tm w := by
  have hsub : ∀ q o, (s.set p none).hp q = some o → s.hp q = some o := by
    intro q o ho
    by_cases e : q = p
    · subst e; simp [St.set, updP] at ho
    · simpa [St.set, updP, e] using ho
  have hne : ∀ q, (s.set p none).hp q ≠ none → s.hp q ≠ none := by
    intro q hq e
    cases ho : (s.set p none).hp q with
    | none => exact hq ho
    | some o => rw [hsub q o ho] at e; cases e
  have hr : ∀ v d, Rep w.heap (s.own B.A β) v d → Rep w.heap ((s.set p none).own B.A β) v d := fun v d hd => hd.mono (fun _ _ _ => rfl) (by
    rintro b _ (hA | ⟨q, k, hq, hk, e⟩)
    · exact .inl hA
    · exact .inr ⟨q, k, hne q hq, hk, e⟩)
  have hst : ∀ q, nm s.used q → Stays s.hp (s.set p none).hp β β q := fun q _ o' ho' => ⟨o', hsub q o' ho', Ob.like_refl _, rfl⟩
  refine { tms := h.tms, io := h.io, size := h.size, frame := h.frame, slots := fun i => (h.slots i).mono hr (fun _ h => h) hst, objs := ?_, blocks := fun q k hq hk => h.blocks q k (hne q hq) hk,
           inj := fun q q' k l hq hq' hk hl e => h.inj q q' k l (hne q hq) (hne q' hq') hk hl e, us := h.us, stay := h.stay }
  intro q o ho
  obtain ⟨h1, h2⟩ := h.objs q o (hsub q o ho)
  exact ⟨h1, h2.mono hr (fun _ h => h) hst rfl fun _ _ => rfl⟩

/-- A lesser state stands, too: what is not known, and objects that are forgotten. -/
theorem Sim.un (h : Sim B β s tm w) (t : Nat) : Sim B β (s.put t .un) tm w := by
  refine { h with slots := fun i => ?_ }
  show VR w.heap (s.own B.A β) s.used s.hp β _ (updN s.fr t .un i)
  unfold updN
  split
  · exact .un _
  · exact h.slots i
end

end Go.Ab
