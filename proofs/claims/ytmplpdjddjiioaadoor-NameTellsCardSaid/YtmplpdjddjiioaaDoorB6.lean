/-
  The generic layer, part 15: names turned; a lesser state; loops.
-/
import Derived.Test.YtmplpdjddjiioaaDoorB5
import Derived.Test.YtmplpdjddjiioaaDoorA5
import Derived.LoopNIn
namespace Go.Ab

mutual
def AV.ren (τ : Name → Name) : AV → AV
  | .un => .un
  | .d x => .d x
  | .vw p o l => .vw (τ p) o l
  | .at p c => .at (τ p) c
  | .el p i c => .el (τ p) i c
  | .mp p => .mp (τ p)
  | .it p => .it (τ p)
  | .agg cs => .agg (renL τ cs)
  | .tup cs => .tup (renL τ cs)
  | .clo f cs => .clo f (renL τ cs)
def renL (τ : Name → Name) : List AV → List AV
  | [] => []
  | x :: r => x.ren τ :: renL τ r
end
def Ob.ren (τ : Name → Name) : Ob → Ob
  | .arr w xs => .arr w xs
  | .box cs => .box (renL τ cs)
  | .map es => .map es
  | .siter s i => .siter s i
  | .miter m es => .miter (τ m) es
/-- Are all names that are held among those whose heads are listed? -/
def nmb (used : List Nat) : Name → Bool
  | [] => false
  | h :: _ => used.contains h
mutual
def AV.inU (u : List Nat) : AV → Bool
  | .un => true
  | .d _ => true
  | .vw p _ _ => nmb u p
  | .at p _ => nmb u p
  | .el p _ _ => nmb u p
  | .mp p => nmb u p
  | .it p => nmb u p
  | .agg cs => inUL u cs
  | .tup cs => inUL u cs
  | .clo _ cs => inUL u cs
def inUL (u : List Nat) : List AV → Bool
  | [] => true
  | x :: r => x.inU u && inUL u r
end
def Ob.inU (u : List Nat) : Ob → Bool
  | .box cs => inUL u cs
  | .miter m _ => nmb u m
  | _ => true

theorem nmb_nm {u : List Nat} {p : Name} (h : nmb u p = true) : nm u p := by
  cases p with
  | nil => cases h
  | cons a t => exact ⟨a, t, rfl, by simpa [nmb] using h⟩
theorem renL_length (τ : Name → Name) : ∀ l : List AV, (renL τ l).length = l.length
  | [] => rfl
  | _ :: r => by simp [renL, renL_length τ r]
theorem renL_get (τ : Name → Name) : ∀ (l : List AV) (i : Nat), (renL τ l)[i]? = (l[i]?).map (AV.ren τ)
  | [], i => by simp [renL]
  | x :: r, 0 => by simp [renL]
  | x :: r, i + 1 => by simp [renL, renL_get τ r i]
theorem inUL_get {u : List Nat} : ∀ {l : List AV}, inUL u l = true → ∀ (i : Nat) (x : AV), l[i]? = some x → x.inU u = true
  | [], _, i, x, h => by simp at h
  | y :: r, h, 0, x, hx => by simp [inUL] at h hx; subst hx; exact h.1
  | y :: r, h, i + 1, x, hx => by simp only [inUL, Bool.and_eq_true] at h; exact inUL_get h.2 i x (by simpa using hx)

section
variable {H : Array Obj} {own own' : Nat → Prop} {used used' : List Nat} {hp hp' : Name → Option Ob} {β β' : Name → Option Blk}

/-- What holds under the turned names holds under the old ones. -/
theorem VR.ren {τ : Name → Name} (hr : ∀ v d, Rep H own v d → Rep H own' v d) (hob : ∀ p o, hp' p = some o → hp (τ p) = some (o.ren τ) ∧ β' p = β (τ p)) :
    ∀ {v : Value} {y : AV}, VR H own used hp β v y → ∀ x : AV, y = x.ren τ → x.inU used' = true → VR H own' used' hp' β' v x := by
  intro v y h
  induction h with
  | un v => intro x e hu; cases x <;> simp [AV.ren] at e; exact .un v
  | d v z h => intro x e hu; cases x <;> simp [AV.ren] at e; subst e; exact .d v _ (hr v _ h)
  | vw v p off len hn h1 h =>
    intro x e hu; cases x <;> simp [AV.ren] at e
    obtain ⟨rfl, rfl, rfl⟩ := e
    refine .vw v _ _ _ (nmb_nm hu) h1 fun w xs hx => ?_
    obtain ⟨ho, hb⟩ := hob _ _ hx
    rw [hb]; exact h w xs ho
  | «at» v p c hn h1 h =>
    intro x e hu; cases x <;> simp [AV.ren] at e
    obtain ⟨rfl, rfl⟩ := e
    refine .at v _ _ (nmb_nm hu) h1 fun cs hx => ?_
    obtain ⟨ho, hb⟩ := hob _ _ hx
    rw [hb]; exact h _ ho
  | el v p i c hn h1 h =>
    intro x e hu; cases x <;> simp [AV.ren] at e
    obtain ⟨rfl, rfl, rfl⟩ := e
    refine .el v _ _ _ (nmb_nm hu) h1 fun w xs hx => ?_
    obtain ⟨ho, hb⟩ := hob _ _ hx
    rw [hb]; exact h w xs ho
  | mp v p hn h1 h =>
    intro x e hu; cases x <;> simp [AV.ren] at e
    subst e
    refine .mp v _ (nmb_nm hu) h1 fun es hx => ?_
    obtain ⟨ho, hb⟩ := hob _ _ hx
    rw [hb]; exact h _ ho
  | its v p hn h1 h h' =>
    intro x e hu; cases x <;> simp [AV.ren] at e
    subst e
    refine .its v _ (nmb_nm hu) h1 (fun s i hx => ?_) (fun s i hx => ?_)
    · obtain ⟨ho, hb⟩ := hob _ _ hx
      rw [hb]; exact h _ _ ho
    · obtain ⟨ho, hb⟩ := hob _ _ hx
      rw [hb]; exact h' _ _ ho
  | agg vs cs hs hc h0 ih =>
    intro x e hu; cases x <;> simp [AV.ren] at e
    subst e
    rename_i ds
    refine .agg vs ds (by rw [hs, renL_length]) hc fun i x hi => ih i _ (by rw [renL_get, hi]; rfl) x rfl (inUL_get hu i x hi)
  | tup vs cs hs h0 ih =>
    intro x e hu; cases x <;> simp [AV.ren] at e
    subst e
    rename_i ds
    refine .tup vs ds (by rw [hs, renL_length]) fun i x hi => ih i _ (by rw [renL_get, hi]; rfl) x rfl (inUL_get hu i x hi)
  | clo f vs cs hs h0 ih =>
    intro x e hu; cases x <;> simp [AV.ren] at e
    obtain ⟨rfl, rfl⟩ := e
    rename_i ds
    refine .clo _ vs ds (by rw [hs, renL_length]) fun i x hi => ih i _ (by rw [renL_get, hi]; rfl) x rfl (inUL_get hu i x hi)

theorem OR.ren {τ : Name → Name} (hr : ∀ v d, Rep H own v d → Rep H own' v d) (hob : ∀ p o, hp' p = some o → hp (τ p) = some (o.ren τ) ∧ β' p = β (τ p)) {p : Name} {o : Ob} (hb : β' p = β (τ p)) (hu : o.inU used' = true)
    (h : OR H own used hp β (τ p) (o.ren τ)) : OR H own' used' hp' β' p o := by
  cases o with
  | arr w xs =>
    rcases h with ⟨h1, h2⟩ | ⟨k, c, e, hk, hc, hz, hl, hw, h⟩
    · exact .inl ⟨hb.trans h1, h2⟩
    · exact .inr ⟨k, c, e, hb.trans hk, hc, hz, hl, hw, fun i x j d hi hj => hr _ _ (h i x j d hi hj)⟩
  | box cs =>
    obtain ⟨k, c, e, hk, ho, hc, hz, hl, h1, h⟩ := h
    refine ⟨k, c, e, hb.trans hk, ho, hc, hz, by rw [hl, renL_length], h1, fun j x hj => ?_⟩
    exact (h j (x.ren τ) (by rw [renL_get, hj]; rfl)).ren hr hob x rfl (inUL_get hu j x hj)
  | map es =>
    obtain ⟨k, ents, clock, hk, hc, hz, h⟩ := h
    refine ⟨k, ents, clock, hb.trans hk, hc, hz, fun i x hi => ?_⟩
    obtain ⟨en, h1, h2, h3⟩ := h i x hi
    exact ⟨en, h1, hr _ _ h2, hr _ _ h3⟩
  | siter s pos =>
    obtain ⟨k, hk, hc⟩ := h
    exact ⟨k, hb.trans hk, hc⟩
  | miter _ _ => exact h.elim
end

/-- A lesser state, under other names: what it says, the other one says. U: names that must stay. -/
structure Le (U : List Nat) (τ : Name → Name) (s s2 : St) : Prop where
  fr : ∀ t, s2.fr t = .un ∨ s.fr t = (s2.fr t).ren τ ∧ (s2.fr t).inU s2.used = true
  hp : ∀ p o, s2.hp p = some o → s.hp (τ p) = some (o.ren τ) ∧ o.inU s2.used = true ∧ nm s2.used p
  inj : ∀ p q, s2.hp p ≠ none → s2.hp q ≠ none → τ p = τ q → p = q
  us : ∀ x ∈ U, x ∈ s2.used
  stay : ∀ p, nm U p → s2.hp p ≠ none → τ p = p

theorem Sim.le {B : Base} {β : Name → Option Blk} {s s2 : St} {tm : Array Value} {w : World} {τ : Name → Name} (h : Sim B β s tm w) (hle : Le B.U0 τ s s2) : ∃ β2, Sim B β2 s2 tm w ∧ ∀ p, s2.hp p ≠ none → β2 p = β (τ p) := by
  have key : ∃ β2 : Name → Option Blk, (∀ p, s2.hp p ≠ none → β2 p = β (τ p)) ∧ ∀ p, s2.hp p = none → β2 p = β p := by
    refine ⟨fun p => if (s2.hp p).isSome then β (τ p) else β p, fun p hp => ?_, fun p hp => ?_⟩
    · cases h : s2.hp p with
      | none => exact absurd h hp
      | some o => simp [h]
    · simp [hp]
  obtain ⟨β2, hb, hb'⟩ := key
  have hob : ∀ p o, s2.hp p = some o → s.hp (τ p) = some (o.ren τ) ∧ β2 p = β (τ p) := fun p o hp => ⟨(hle.hp p o hp).1, hb p (by rw [hp]; simp)⟩
  have hown : ∀ b, s2.own B.A β2 b → s.own B.A β b := by
    rintro b (hA | ⟨p, k, hp, hk, rfl⟩)
    · exact .inl hA
    · cases ho : s2.hp p with
      | none => exact absurd ho hp
      | some o =>
        obtain ⟨h1, h2⟩ := hob p o ho
        exact .inr ⟨τ p, k, by rw [h1]; simp, by rw [← h2]; exact hk, rfl⟩
  have hr : ∀ v d, Rep w.heap (s.own B.A β) v d → Rep w.heap (s2.own B.A β2) v d := fun v d hd => hd.mono (fun _ _ _ => rfl) (fun b _ => hown b)
  refine ⟨β2, { tms := h.tms, io := h.io, size := h.size, frame := h.frame, slots := fun i => ?_, objs := fun p o hp => ?_, blocks := fun p k hp hk => ?_, inj := fun p q k l hp hq hk hl e => ?_, us := hle.us, stay := fun p hp => ?_ }, hb⟩
  · rcases hle.fr i with e | ⟨e, hu⟩
    · rw [e]; exact .un _
    · exact (h.slots i).ren hr hob _ e hu
  · obtain ⟨h1, h2, h3⟩ := hle.hp p o hp
    exact ⟨h3, OR.ren hr hob (hb p (by rw [hp]; simp)) h2 (h.objs _ _ h1).2⟩
  · rw [hb p hp] at hk
    cases ho : s2.hp p with
    | none => exact absurd ho hp
    | some o => exact h.blocks (τ p) k (by rw [(hle.hp p o ho).1]; simp) hk
  · rw [hb p hp] at hk; rw [hb q hq] at hl
    have live : ∀ p, s2.hp p ≠ none → s.hp (τ p) ≠ none := fun p hp => by
      cases ho : s2.hp p with
      | none => exact absurd ho hp
      | some o => rw [(hle.hp p o ho).1]; simp
    exact hle.inj p q hp hq (h.inj _ _ k l (live p hp) (live q hq) hk hl e)
  · cases ho : s2.hp p with
    | none => rw [hb' p ho]; exact h.stay p hp
    | some o =>
      have hpn : s2.hp p ≠ none := by rw [ho]; simp
      rw [hb p hpn, hle.stay p hp hpn]; exact h.stay p hp

/-! ### What is asked of a written state, as a list of facts -/
def tau (l : List (Name × Name)) (p : Name) : Name := lkA p l p
def frL (τ : Name → Name) (u : List Nat) (s : St) : List (Nat × AV) → Prop
  | [] => True
  | q :: r => (s.fr q.1 = q.2.ren τ ∧ q.2.inU u = true) ∧ frL τ u s r
def hpL (τ : Name → Name) (u : List Nat) (s : St) : List (Name × Ob) → Prop
  | [] => True
  | q :: r => (s.hp (τ q.1) = some (q.2.ren τ) ∧ q.2.inU u = true ∧ nmb u q.1 = true) ∧ hpL τ u s r
def injL (τ : Name → Name) : List (Name × Ob) → Prop
  | [] => True
  | q :: r => (∀ x ∈ r, τ q.1 ≠ τ x.1) ∧ injL τ r
def stayL (U : List Nat) (τ : Name → Name) : List (Name × Ob) → Prop
  | [] => True
  | q :: r => (nmb U q.1 = true → τ q.1 = q.1) ∧ stayL U τ r
def LeL (U : List Nat) (τ : Name → Name) (s : St) (fr : List (Nat × AV)) (hp : List (Name × Ob)) (u : List Nat) : Prop :=
  frL τ u s fr ∧ hpL τ u s hp ∧ injL τ hp ∧ (U.all fun x => u.contains x) = true ∧ stayL U τ hp

theorem lkA_mem {α β : Type} [DecidableEq α] {z : β} : ∀ {l : List (α × β)} {i : α}, lkA z l i = z ∨ (i, lkA z l i) ∈ l
  | [], i => .inl rfl
  | q :: r, i => by
    simp only [lkA]
    split
    · rename_i e; subst e; exact .inr List.mem_cons_self
    · rcases lkA_mem (z := z) (l := r) (i := i) with h | h
      · exact .inl h
      · exact .inr (List.mem_cons_of_mem _ h)
theorem frL_mem {τ : Name → Name} {u : List Nat} {s : St} : ∀ {l : List (Nat × AV)}, frL τ u s l → ∀ q ∈ l, s.fr q.1 = q.2.ren τ ∧ q.2.inU u = true
  | [], _, q, h => by simp at h
  | _ :: r, h, q, hq => by
    rcases List.mem_cons.1 hq with rfl | hq
    · exact h.1
    · exact frL_mem h.2 q hq
theorem hpL_mem {τ : Name → Name} {u : List Nat} {s : St} : ∀ {l : List (Name × Ob)}, hpL τ u s l → ∀ q ∈ l, s.hp (τ q.1) = some (q.2.ren τ) ∧ q.2.inU u = true ∧ nmb u q.1 = true
  | [], _, q, h => by simp at h
  | _ :: r, h, q, hq => by
    rcases List.mem_cons.1 hq with rfl | hq
    · exact h.1
    · exact hpL_mem h.2 q hq
theorem injL_mem {τ : Name → Name} : ∀ {l : List (Name × Ob)}, injL τ l → ∀ q ∈ l, ∀ r ∈ l, τ q.1 = τ r.1 → q.1 = r.1
  | [], _, q, h, _, _, _ => by simp at h
  | a :: l, h, q, hq, r, hr, e => by
    rcases List.mem_cons.1 hq with h1 | h1 <;> rcases List.mem_cons.1 hr with h2 | h2
    · rw [h1, h2]
    · rw [h1] at e; exact absurd e (h.1 r h2)
    · rw [h2] at e; exact absurd e.symm (h.1 q h1)
    · exact injL_mem h.2 q h1 r h2 e
theorem stayL_mem {U : List Nat} {τ : Name → Name} : ∀ {l : List (Name × Ob)}, stayL U τ l → ∀ q ∈ l, nmb U q.1 = true → τ q.1 = q.1
  | [], _, q, h, _ => by simp at h
  | _ :: r, h, q, hq, hn => by
    rcases List.mem_cons.1 hq with rfl | hq
    · exact h.1 hn
    · exact stayL_mem h.2 q hq hn
theorem mk_hp_mem {fr : List (Nat × AV)} {hp : List (Name × Ob)} {u : List Nat} {p : Name} {o : Ob} (h : (mk fr hp u).hp p = some o) : (p, o) ∈ hp := by
  have := lkA_mem (z := (none : Option Ob)) (l := hp.map fun q => (q.1, some q.2)) (i := p)
  have e : lkA none (hp.map fun q => (q.1, some q.2)) p = some o := h
  rw [e] at this
  rcases this with h | h
  · cases h
  · obtain ⟨q, hq, e⟩ := List.mem_map.1 h
    cases e; exact hq
theorem LeL.le {U : List Nat} {τ : Name → Name} {s : St} {fr : List (Nat × AV)} {hp : List (Name × Ob)} {u : List Nat} (h : LeL U τ s fr hp u) : Le U τ s (mk fr hp u) := by
  obtain ⟨h1, h2, h3, h4, h5⟩ := h
  have live : ∀ p, (mk fr hp u).hp p ≠ none → ∃ o, (p, o) ∈ hp := fun p hp' => by
    cases ho : (mk fr hp u).hp p with
    | none => exact absurd ho hp'
    | some o => exact ⟨o, mk_hp_mem ho⟩
  refine ⟨fun t => ?_, fun p o hp' => ?_, fun p q hp' hq' e => ?_, fun x hx => ?_, fun p hp' hl => ?_⟩
  · rcases lkA_mem (z := AV.un) (l := fr) (i := t) with e | hm
    · exact .inl e
    · exact .inr (frL_mem h1 _ hm)
  · obtain ⟨a, b, c⟩ := hpL_mem h2 _ (mk_hp_mem hp')
    exact ⟨a, b, nmb_nm c⟩
  · obtain ⟨o, ho⟩ := live p hp'
    obtain ⟨o', ho'⟩ := live q hq'
    exact injL_mem h3 _ ho _ ho' e
  · have := List.all_eq_true.1 h4 x hx
    show x ∈ u
    simpa using this
  · obtain ⟨o, ho⟩ := live p hl
    refine stayL_mem h5 _ ho ?_
    obtain ⟨a, t, rfl, ha⟩ := hp'
    simpa [nmb] using ha

/-! ### Loops -/
section
variable {P : Program} {cf : Cf}

/-- How a round may be left. -/
def lq (P : Program) (cf : Cf) (next : St → Prop) (k : List It) (Q : Exit → St → Prop) (e : Exit) (s : St) : Prop :=
  match e with
  | .normal => next s
  | .exit i => goK P cf (exitK i k) i Q s
  | .ret => Q .ret s
  | _ => False
theorem lq_normal (next : St → Prop) (k : List It) (Q : Exit → St → Prop) (s : St) : lq P cf next k Q .normal s = next s := rfl
theorem lq_exit (next : St → Prop) (k : List It) (Q : Exit → St → Prop) (s : St) (i : Nat) : lq P cf next k Q (.exit i) s = goK P cf (exitK i k) i Q s := rfl
theorem lq_ret (next : St → Prop) (k : List It) (Q : Exit → St → Prop) (s : St) : lq P cf next k Q .ret s = Q .ret s := rfl

/-- A loop: at each round's head stands I x for some x; each round lowers μ. -/
theorem loop_ok {X : Type} (I : X → St) (μ : X → Nat) {c : Code} {s : St} {k : List It} {Q : Exit → St → Prop}
    (h0 : ∃ x τ, Le cf.U τ s (I x))
    (hr : ∀ x, run P cf [.code c] (lq P cf (fun s' => ∃ y, μ y < μ x ∧ ∃ τ, Le cf.U τ s' (I y)) k Q) (I x)) : ACk P cf (.loop c) s k Q := by
  have key : ∀ N x, μ x < N → ∀ (B : Base), cf.fits B → ∀ ds β a w, a.defers = ds → Sim B β (I x) a.tmps w → Code.roundsIn (Fw cf.ro) 0 P c (hold P cf (lift B ds Q) k) N a w := by
    intro N
    induction N with
    | zero => intro x hx; omega
    | succ N ih =>
      intro x hx B hB ds β a w hds h
      rw [roundsIn_succ]
      refine wpIn_mono (run_ok (hr x) B hB ds β a w hds h) fun e a' w' hq => ?_
      obtain ⟨hd', s', β', hq, hs⟩ := hq
      cases e with
      | normal =>
        obtain ⟨y, hy, τ, hle⟩ := hq
        obtain ⟨β2, hs2, _⟩ := hs.le (τ := τ) (by rw [hB.2.1]; exact hle)
        exact ih y (by omega) B hB ds β2 a' w' hd' hs2
      | exit i =>
        unfold lq goK at hq
        show hold P cf (lift B ds Q) k (.exit i) a' w'
        simp only at hq
        split at hq
        · rename_i k' hk'
          exact hold_exit_some _ i k k' a' w' hk' (run_ok hq B hB ds β' a' w' hd' hs)
        · rename_i hk'
          exact hold_exit_none _ i k a' w' hk' ⟨hd', s', β', hq, hs⟩
      | ret => exact hold_ret _ k a' w' ⟨hd', s', β', hq, hs⟩
      | goto l => exact hq.elim
      | panic c => exact hq.elim
      | outgrown => exact hq.elim
  obtain ⟨x, τ, hle⟩ := h0
  intro B hB ds β a w hds h
  obtain ⟨β2, hs2, _⟩ := h.le (τ := τ) (by rw [hB.2.1]; exact hle)
  exact wpIn_loop_rounds (μ x + 1) (key _ x (Nat.lt_succ_self _) B hB ds β2 a w hds hs2)

/-- A lesser state may stand for the state anywhere. -/
theorem AOk.le {o : Oper} {s s2 : St} {k : List It} {Q : Exit → St → Prop} {τ : Name → Name} (hle : Le cf.U τ s s2) (h : AOk P cf o s2 k Q) : AOk P cf o s k Q :=
  fun B hB ds β a w hds hs Q' => let ⟨β2, hs2, _⟩ := hs.le (τ := τ) (by rw [hB.2.1]; exact hle); h B hB ds β2 a w hds hs2 Q'
theorem ACk.le {c : Code} {s s2 : St} {k : List It} {Q : Exit → St → Prop} {τ : Name → Name} (hle : Le cf.U τ s s2) (h : ACk P cf c s2 k Q) : ACk P cf c s k Q :=
  fun B hB ds β a w hds hs => let ⟨β2, hs2, _⟩ := hs.le (τ := τ) (by rw [hB.2.1]; exact hle); h B hB ds β2 a w hds hs2
end
end Go.Ab
