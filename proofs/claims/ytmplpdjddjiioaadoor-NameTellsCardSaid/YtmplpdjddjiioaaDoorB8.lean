/-
  The generic layer, part 17: the rule for calls.
-/
import Derived.Test.YtmplpdjddjiioaaDoorB7
namespace Go.Ab

/-- What is handed in: its objects lie in the caller's state under turned names. -/
def passL (σ : Name → Name) (u : List Nat) (s : St) : List (Name × Ob) → Prop
  | [] => True
  | q :: r => (s.hp (σ q.1) = some (q.2.ren σ) ∧ q.2.inU u = true ∧ nmb u q.1 = true) ∧ passL σ u s r
theorem passL_mem {σ : Name → Name} {u : List Nat} {s : St} : ∀ {l : List (Name × Ob)}, passL σ u s l → ∀ q ∈ l, s.hp (σ q.1) = some (q.2.ren σ) ∧ q.2.inU u = true ∧ nmb u q.1 = true
  | [], _, q, h => by simp at h
  | _ :: r, h, q, hq => by
    rcases List.mem_cons.1 hq with rfl | hq
    · exact h.1
    · exact passL_mem h.2 q hq

/-- Objects that stay are of the same make. -/
def likeM (chp : List (Name × Ob)) : List (Name × Ob) → Prop
  | [] => True
  | q :: r => (match lkA none (chp.map fun x => (x.1, some x.2)) q.1 with
      | some o => o.like q.2
      | none => True) ∧ likeM chp r
theorem likeM_mem {chp : List (Name × Ob)} : ∀ {l : List (Name × Ob)}, likeM chp l → ∀ q ∈ l, ∀ o, lkA none (chp.map fun x => (x.1, some x.2)) q.1 = some o → o.like q.2
  | [], _, q, h, _, _ => by simp at h
  | a :: r, h, q, hq, o, ho => by
    rcases List.mem_cons.1 hq with rfl | hq
    · have := h.1; rw [ho] at this; exact this
    · exact likeM_mem h.2 q hq o ho

theorem lkS {l : List (Name × Ob)} {p : Name} {o : Ob} (h : lkA none (l.map fun x => (x.1, some x.2)) p = some o) : (p, o) ∈ l := mk_hp_mem (fr := []) (u := []) h
theorem lkS_any {l : List (Name × Ob)} {p : Name} (h : l.any (fun q => q.1 == p) = true) : ∃ o, lkA none (l.map fun x => (x.1, some x.2)) p = some o := by
  induction l with
  | nil => simp at h
  | cons q r ih =>
    simp only [List.map_cons, lkA]
    by_cases e : p = q.1
    · exact ⟨q.2, by rw [if_pos e]⟩
    · rw [if_neg e]
      refine ih ?_
      simp only [List.any_cons, Bool.or_eq_true, beq_iff_eq] at h
      exact h.resolve_left fun h => e h.symm
theorem any_lkS {l : List (Name × Ob)} {p : Name} {o : Ob} (h : lkA none (l.map fun x => (x.1, some x.2)) p = some o) : l.any (fun q => q.1 == p) = true :=
  List.any_eq_true.2 ⟨_, lkS h, by simp⟩
/-- A lookup among turned names, under a turned name. -/
theorem lk_turn (f : Name → Name) (g : Ob → Ob) (z : Option Ob) (p : Name) : ∀ (l : List (Name × Ob)), (∀ q ∈ l, f q.1 = f p → q.1 = p) →
    lkA z (l.map fun x => (f x.1, some (g x.2))) (f p) = match lkA none (l.map fun x => (x.1, some x.2)) p with
      | some o => some (g o)
      | none => z
  | [], _ => rfl
  | q :: r, h => by
    simp only [List.map_cons, lkA]
    by_cases e : p = q.1
    · rw [if_pos (by rw [e]), if_pos e]
    · rw [if_neg (fun e' => e (h q List.mem_cons_self e'.symm).symm), if_neg e]
      exact lk_turn f g z p r fun x hx => h x (List.mem_cons_of_mem _ hx)
theorem lk_none (f : Name → Name) (z : Option Ob) (q : Name) : ∀ (l : List (Name × Ob)), lkA z (l.map fun x => (f x.1, (none : Option Ob))) q = if (l.any fun x => f x.1 == q) = true then none else z
  | [] => rfl
  | x :: r => by
    rw [List.map_cons, lkA_cons, List.any_cons, lk_none f z q r]
    by_cases e : q = f x.1
    · rw [if_pos e, if_pos]; subst e; simp
    · have h2 : (f x.1 == q) = false := by
        rw [beq_eq_false_iff_ne]; exact fun h => e h.symm
      rw [if_neg e, h2, Bool.false_or]
theorem lk_miss (f : Name → Name) (g : Ob → Ob) (z : Option Ob) (q : Name) : ∀ (l : List (Name × Ob)), (∀ x ∈ l, f x.1 ≠ q) → lkA z (l.map fun x => (f x.1, some (g x.2))) q = z
  | [], _ => rfl
  | x :: r, h => by
    simp only [List.map_cons, lkA]
    rw [if_neg (fun e => h x List.mem_cons_self e.symm)]
    exact lk_miss f g z q r fun y hy => h y (List.mem_cons_of_mem _ hy)

section
variable {P : Program} {cf : Cf}

set_option maxHeartbeats 1000000 in
/-- The state behind a call stands. -/
theorem aft_sim {B : Base} {β : Name → Option Blk} {s : St} {tm : Array Value} {w w' : World} (h : Sim B β s tm w) {σ : Name → Name} {d : Nat} (hd : d ∉ s.used) {chp hp' : List (Name × Ob)} {cu u' : List Nat}
    (hpass : passL σ cu s chp) (hinj : injL σ chp) {A' O0' : Nat → Prop} {G' : List (Nat × Obj)} {βc : Name → Option Blk} (hβc : ∀ p, chp.any (fun q => q.1 == p) = true → βc p = β (σ p))
    (hO : ∀ b, O0' b ↔ ∃ p k, chp.any (fun q => q.1 == p) = true ∧ β (σ p) = some k ∧ k.b = b) (hA : ∀ b, A' b ↔ s.own B.A β b ∧ ¬ O0' b) (hA' : ∀ b, A' b → b < w.heap.size) (hG' : ∀ q ∈ G', w.heap[q.1]? = some q.2 ∧ ¬ O0' q.1)
    {r : AV} {β' : Name → Option Blk} {v : Value} (hlike : likeM chp hp')
    (hs : Sim { n := 1, io := B.io, G := G', H0 := w.heap, O0 := O0', A := A', U0 := cu, β0 := βc, hA := hA', hG := hG' } β' (mk [(0, r)] hp' u') #[v] w') :
    ∃ β2, (Sim B β2 { aft s σ d chp hp' r with fr := s.fr } tm w' ∧ VR w'.heap ((aft s σ d chp hp' r).own B.A β2) (d :: s.used) (aft s σ d chp hp' r).hp β2 v (r.ren (aftN σ d chp))) := by
  obtain ⟨τ, hτ⟩ : ∃ τ, aftN σ d chp = τ := ⟨_, rfl⟩
  obtain ⟨s2, hs2⟩ : ∃ s2, aft s σ d chp hp' r = s2 := ⟨_, rfl⟩
  have hτp : ∀ p, chp.any (fun q => q.1 == p) = true → τ p = σ p := fun p hp => by rw [← hτ]; simp only [aftN]; rw [if_pos hp]
  have hτn : ∀ p, ¬ chp.any (fun q => q.1 == p) = true → τ p = d :: p := fun p hp => by rw [← hτ]; simp only [aftN]; rw [if_neg hp]
  have hlive : ∀ p, chp.any (fun q => q.1 == p) = true → ∃ o, (p, o) ∈ chp ∧ s.hp (σ p) = some (o.ren σ) ∧ nm s.used (σ p) ∧ nmb cu p = true := by
    intro p hp
    obtain ⟨o, ho⟩ := lkS_any hp
    obtain ⟨h1, h2, h3⟩ := passL_mem hpass _ (lkS ho)
    exact ⟨o, lkS ho, h1, (h.objs _ _ h1).1, h3⟩
  have hσd : ∀ p l, chp.any (fun q => q.1 == p) = true → σ p ≠ d :: l := by
    intro p l hp e
    obtain ⟨_, _, _, ⟨a, t, e2, ha⟩, _⟩ := hlive p hp
    rw [e] at e2; cases e2; exact hd ha
  have hτinj : ∀ p q, τ p = τ q → p = q := by
    intro p q e
    by_cases hp : chp.any (fun q => q.1 == p) = true <;> by_cases hq : chp.any (fun x => x.1 == q) = true
    · rw [hτp p hp, hτp q hq] at e
      obtain ⟨o, ho, _⟩ := hlive p hp
      obtain ⟨o', ho', _⟩ := hlive q hq
      exact injL_mem hinj _ ho _ ho' e
    · rw [hτp p hp, hτn q hq] at e; exact absurd e (hσd p q hp)
    · rw [hτn p hp, hτp q hq] at e; exact absurd e.symm (hσd q p hq)
    · rw [hτn p hp, hτn q hq] at e; exact (List.cons.inj e).2
  -- where the names lie now
  have hhp : ∀ p, s2.hp (τ p) = (lkA none (hp'.map fun x => (x.1, some x.2)) p).map (Ob.ren τ) := by
    intro p
    rw [← hs2]
    show lkA (lkA (s.hp (τ p)) (chp.map fun x => (σ x.1, none)) (τ p)) (hp'.map fun x => (aftN σ d chp x.1, some (x.2.ren (aftN σ d chp)))) (τ p) = _
    rw [hτ, lk_turn τ (Ob.ren τ) _ p hp' (fun q _ e => hτinj _ _ e), lk_none]
    cases lkA none (hp'.map fun x => (x.1, some x.2)) p with
    | some o => rfl
    | none =>
      simp only [Option.map_none]
      split
      · rfl
      · rename_i hno
        by_cases hp : chp.any (fun q => q.1 == p) = true
        · exfalso
          apply hno
          obtain ⟨o, ho, _⟩ := hlive p hp
          exact List.any_eq_true.2 ⟨_, ho, by simp [hτp p hp]⟩
        · rw [hτn p hp]
          cases hsd : s.hp (d :: p) with
          | none => rfl
          | some o =>
            obtain ⟨a, t, e, ha⟩ := (h.objs _ _ hsd).1
            cases e; exact absurd ha hd
  have hho : ∀ q, nm s.used q → (∀ p, chp.any (fun x => x.1 == p) = true → σ p ≠ q) → s2.hp q = s.hp q := by
    intro q hq hne
    rw [← hs2]
    show lkA (lkA (s.hp q) (chp.map fun x => (σ x.1, none)) q) (hp'.map fun x => (aftN σ d chp x.1, some (x.2.ren (aftN σ d chp)))) q = _
    rw [hτ, lk_miss τ (Ob.ren τ) _ q hp', lk_none, if_neg]
    · intro ha
      obtain ⟨x, hx, e⟩ := List.any_eq_true.1 ha
      exact hne x.1 (List.any_eq_true.2 ⟨x, hx, by simp⟩) (by simpa using e)
    · intro x _ e
      by_cases hp : chp.any (fun q => q.1 == x.1) = true
      · rw [hτp _ hp] at e; exact hne _ hp e
      · rw [hτn _ hp] at e
        obtain ⟨a, t, e2, ha⟩ := hq
        rw [← e] at e2; cases e2; exact hd ha
  have hlive2 : ∀ q o, s2.hp q = some o → (∃ p o', q = τ p ∧ lkA none (hp'.map fun x => (x.1, some x.2)) p = some o' ∧ o = o'.ren τ) ∨ (nm s.used q ∧ (∀ p, chp.any (fun x => x.1 == p) = true → σ p ≠ q) ∧ s.hp q = some o) := by
    intro q o ho
    by_cases hq : ∃ p, τ p = q
    · obtain ⟨p, rfl⟩ := hq
      rw [hhp] at ho
      obtain ⟨o', ho', rfl⟩ := Option.map_eq_some_iff.1 ho
      exact .inl ⟨p, o', rfl, ho', rfl⟩
    · have hne : ∀ p, chp.any (fun x => x.1 == p) = true → σ p ≠ q := fun p hp e => hq ⟨p, by rw [hτp p hp]; exact e⟩
      have hsq : s.hp q = some o := by
        rw [← hs2] at ho
        have ho : lkA (lkA (s.hp q) (chp.map fun x => (σ x.1, none)) q) (hp'.map fun x => (aftN σ d chp x.1, some (x.2.ren (aftN σ d chp)))) q = some o := ho
        rw [hτ, lk_miss τ (Ob.ren τ) _ q hp' (fun x _ e => hq ⟨_, e⟩), lk_none] at ho
        split at ho
        · cases ho
        · exact ho
      exact .inr ⟨(h.objs _ _ hsq).1, hne, hsq⟩
  -- the blocks
  obtain ⟨β2, hβn, hβo⟩ : ∃ β2 : Name → Option Blk, (∀ p, lkA none (hp'.map fun x => (x.1, some x.2)) p ≠ none → β2 (τ p) = β' p) ∧ ∀ q, nm s.used q → β2 q = β q := by
    refine ⟨fun q => match q with | a :: t => if a = d then β' t else β (a :: t) | [] => β [], fun p hp => ?_, fun q hq => ?_⟩
    · by_cases hc : chp.any (fun q => q.1 == p) = true
      · rw [hτp p hc]
        obtain ⟨o, ho, h1, ⟨a, t, e, ha⟩, h3⟩ := hlive p hc
        have hst := hs.stay p (nmb_nm h3)
        rw [e]
        have had : a ≠ d := fun e2 => hd (e2 ▸ ha)
        simp only [if_neg had]
        rw [← e, hst]
        exact (hβc p hc).symm
      · rw [hτn p hc]; simp
    · obtain ⟨a, t, rfl, ha⟩ := hq
      have had : a ≠ d := fun e2 => hd (e2 ▸ ha)
      simp [had]
  have hO0 : ∀ b, O0' b → b < w.heap.size ∧ ¬ B.A b ∧ (B.H0.size ≤ b ∨ B.O0 b) ∧ s.own B.A β b := by
    intro b hb
    obtain ⟨p, k, hp, hk, rfl⟩ := (hO b).1 hb
    obtain ⟨o, _, h1, _⟩ := hlive p hp
    obtain ⟨g1, g2, g3⟩ := h.blocks (σ p) k (by rw [h1]; simp) hk
    exact ⟨g1, g2, g3, .inr ⟨σ p, k, by rw [h1]; simp, hk, rfl⟩⟩
  have hmk : ∀ p o, lkA none (hp'.map fun x => (x.1, some x.2)) p = some o → (mk [(0, r)] hp' u').hp p = some o := fun p o h => h
  have hnewb : ∀ p o k, lkA none (hp'.map fun x => (x.1, some x.2)) p = some o → β' p = some k → k.b < w'.heap.size ∧ ¬ A' k.b ∧ (w.heap.size ≤ k.b ∨ O0' k.b) := fun p o k hp hk =>
    hs.blocks p k (by rw [hmk p o hp]; simp) hk
  have hotherb : ∀ q o k, s.hp q = some o → (∀ p, chp.any (fun x => x.1 == p) = true → σ p ≠ q) → β q = some k → k.b < w.heap.size ∧ ¬ O0' k.b ∧ A' k.b := by
    intro q o k hq hne hk
    obtain ⟨g1, g2, g3⟩ := h.blocks q k (by rw [hq]; simp) hk
    have hno : ¬ O0' k.b := by
      intro hb
      obtain ⟨p, l, hp, hl, e⟩ := (hO _).1 hb
      obtain ⟨o', _, h1, _⟩ := hlive p hp
      exact hne p hp (h.inj (σ p) q l k (by rw [h1]; simp) (by rw [hq]; simp) hl hk e)
    exact ⟨g1, hno, (hA _).2 ⟨.inr ⟨q, k, by rw [hq]; simp, hk, rfl⟩, hno⟩⟩
  have hframe : ∀ b, b < w.heap.size → ¬ O0' b → w'.heap[b]? = w.heap[b]? := fun b hb hn => hs.frame b hb hn
  have hsize : w.heap.size ≤ w'.heap.size := hs.size
  have hown2 : ∀ b, b < w.heap.size → s2.own B.A β2 b → s.own B.A β b := by
    rintro b hb (hB | ⟨q, k, hq, hk, rfl⟩)
    · exact .inl hB
    · cases ho : s2.hp q with
      | none => exact absurd ho hq
      | some o =>
        rcases hlive2 q o ho with ⟨p, o', rfl, hp, rfl⟩ | ⟨hn, hne, hsq⟩
        · rw [hβn p (by rw [hp]; simp)] at hk
          obtain ⟨_, _, g⟩ := hnewb p o' k hp hk
          rcases g with g | g
          · omega
          · exact (hO0 _ g).2.2.2
        · rw [hβo q hn] at hk
          exact .inr ⟨q, k, by rw [hsq]; simp, hk, rfl⟩
  have hownc : ∀ b, s2.own B.A β2 b → (mk [(0, r)] hp' u').own A' β' b := by
    rintro b hb
    rcases hb with hB | ⟨q, k, hq, hk, rfl⟩
    · exact .inl ((hA b).2 ⟨.inl hB, fun hb' => (hO0 b hb').2.1 hB⟩)
    · cases ho : s2.hp q with
      | none => exact absurd ho hq
      | some o =>
        rcases hlive2 q o ho with ⟨p, o', rfl, hp, rfl⟩ | ⟨hn, hne, hsq⟩
        · rw [hβn p (by rw [hp]; simp)] at hk
          exact .inr ⟨p, k, by rw [hmk p o' hp]; simp, hk, rfl⟩
        · rw [hβo q hn] at hk
          exact .inl (hotherb q o k hsq hne hk).2.2
  have hr1 : ∀ v d, Rep w.heap (s.own B.A β) v d → Rep w'.heap (s2.own B.A β2) v d := fun v d hd => hd.mono (fun b hb hlt => hframe b hlt fun hO => hb (hO0 b hO).2.2.2) hown2
  have hr2 : ∀ v d, Rep w'.heap ((mk [(0, r)] hp' u').own A' β') v d → Rep w'.heap (s2.own B.A β2) v d := fun v d hd => hd.mono (fun _ _ _ => rfl) (fun b _ => hownc b)
  have hus2 : s2.used = d :: s.used := by rw [← hs2]; rfl
  have hu1 : ∀ x ∈ s.used, x ∈ s2.used := fun x hx => by rw [hus2]; exact List.mem_cons_of_mem _ hx
  have hst : ∀ q, nm s.used q → Stays s.hp s2.hp β β2 q := by
    intro q hq o ho
    rcases hlive2 q o ho with ⟨p, o', rfl, hp, rfl⟩ | ⟨hn, hne, hsq⟩
    · by_cases hc : chp.any (fun x => x.1 == p) = true
      · obtain ⟨o1, ho1⟩ := lkS_any hc
        have hl := likeM_mem hlike _ (lkS hp) o1 ho1
        obtain ⟨g1, _, _⟩ := passL_mem hpass _ (lkS ho1)
        refine ⟨o1.ren σ, by rw [hτp p hc]; exact g1, ?_, hβo _ hq⟩
        cases o1 <;> cases o' <;> first | exact hl | exact hl.elim
      · rw [hτn p hc] at hq
        obtain ⟨a, t, e, ha⟩ := hq
        cases e; exact absurd ha hd
    · exact ⟨o, hsq, Ob.like_refl _, hβo q hn⟩
  have hum : ∀ p, nm u' p → nm s2.used (τ p) := by
    intro p _
    rw [hus2]
    by_cases hc : chp.any (fun x => x.1 == p) = true
    · rw [hτp p hc]
      obtain ⟨_, _, _, ⟨a, t, e, ha⟩, _⟩ := hlive p hc
      exact ⟨a, t, e, List.mem_cons_of_mem _ ha⟩
    · rw [hτn p hc]; exact ⟨d, p, rfl, List.mem_cons_self⟩
  have hob : ∀ p, nm u' p → ∀ o', s2.hp (τ p) = some o' → ∃ o, (mk [(0, r)] hp' u').hp p = some o ∧ o' = o.ren τ ∧ β2 (τ p) = β' p := by
    intro p _ o' ho
    rw [hhp] at ho
    obtain ⟨o, ho', rfl⟩ := Option.map_eq_some_iff.1 ho
    exact ⟨o, hmk p o ho', rfl, hβn p (by rw [ho']; simp)⟩
  refine ⟨β2, ?_⟩
  rw [hτ, hs2]
  refine ⟨{ tms := h.tms, io := hs.io, size := Nat.le_trans h.size hsize, frame := fun b hb hn => ?_, slots := fun i => (h.slots i).mono hr1 hu1 hst, objs := fun q o ho => ?_, blocks := fun q k hq hk => ?_, inj := fun q q' k l hq hq' hk hl e => ?_, us := fun x hx => hu1 x (h.us x hx), stay := fun p hp => ?_ }, ?_⟩
  · rw [hframe b (Nat.lt_of_lt_of_le hb h.size) fun hO => ?_]
    · exact h.frame b hb hn
    · rcases (hO0 b hO).2.2.1 with g | g
      · omega
      · exact hn g
  · have ho : s2.hp q = some o := ho
    rcases hlive2 q o ho with ⟨p, o', rfl, hp, rfl⟩ | ⟨hn, hne, hsq⟩
    · obtain ⟨g1, g2⟩ := hs.objs p o' (hmk p o' hp)
      exact ⟨hum p g1, g2.ren' hr2 hum hob (hβn p (by rw [hp]; simp))⟩
    · obtain ⟨g1, g2⟩ := h.objs q o hsq
      exact ⟨g1.mono hu1, g2.mono hr1 hu1 hst (hβo q hn) fun k hk => hframe k.b (hotherb q o k hsq hne hk).1 (hotherb q o k hsq hne hk).2.1⟩
  · have hq : s2.hp q ≠ none := hq
    cases ho : s2.hp q with
    | none => exact absurd ho hq
    | some o =>
      rcases hlive2 q o ho with ⟨p, o', rfl, hp, rfl⟩ | ⟨hn, hne, hsq⟩
      · rw [hβn p (by rw [hp]; simp)] at hk
        obtain ⟨g1, g2, g3⟩ := hnewb p o' k hp hk
        rcases g3 with g3 | g3
        · exact ⟨g1, fun hB => by have := Nat.lt_of_lt_of_le (B.hA _ hB) h.size; omega, .inl (Nat.le_trans h.size g3)⟩
        · obtain ⟨_, k2, k3, _⟩ := hO0 _ g3
          exact ⟨g1, k2, k3⟩
      · rw [hβo q hn] at hk
        obtain ⟨g1, g2, g3⟩ := h.blocks q k (by rw [hsq]; simp) hk
        exact ⟨Nat.lt_of_lt_of_le g1 hsize, g2, g3⟩
  · have hq : s2.hp q ≠ none := hq
    have hq' : s2.hp q' ≠ none := hq'
    cases ho : s2.hp q with
    | none => exact absurd ho hq
    | some o =>
      cases ho' : s2.hp q' with
      | none => exact absurd ho' hq'
      | some o2 =>
        rcases hlive2 q o ho with ⟨p, o', rfl, hp, rfl⟩ | ⟨hn, hne, hsq⟩ <;> rcases hlive2 q' o2 ho' with ⟨p2, o3, rfl, hp2, rfl⟩ | ⟨hn2, hne2, hsq2⟩
        · rw [hβn p (by rw [hp]; simp)] at hk; rw [hβn p2 (by rw [hp2]; simp)] at hl
          rw [hs.inj p p2 k l (by rw [hmk p o' hp]; simp) (by rw [hmk p2 o3 hp2]; simp) hk hl e]
        · rw [hβn p (by rw [hp]; simp)] at hk; rw [hβo _ hn2] at hl
          exact absurd (e ▸ (hotherb _ _ l hsq2 hne2 hl).2.2) (hnewb p o' k hp hk).2.1
        · rw [hβo _ hn] at hk; rw [hβn p2 (by rw [hp2]; simp)] at hl
          exact absurd (e ▸ (hotherb _ _ k hsq hne hk).2.2) (hnewb p2 o3 l hp2 hl).2.1
        · rw [hβo _ hn] at hk; rw [hβo _ hn2] at hl
          exact h.inj q q' k l (by rw [hsq]; simp) (by rw [hsq2]; simp) hk hl e
  · rw [hβo p (hp.mono h.us)]; exact h.stay p hp
  · have := hs.slots 0
    have := this.ren' hr2 hum hob
    rw [hus2] at this
    exact this
end
end Go.Ab
