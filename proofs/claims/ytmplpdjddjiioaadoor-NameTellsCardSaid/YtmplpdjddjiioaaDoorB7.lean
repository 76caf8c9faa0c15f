/-
  The generic layer, part 16: functions and calls.
-/
import Derived.Test.YtmplpdjddjiioaaDoorB6
namespace Go.Ab

def argsFr : Nat → List AV → List (Nat × AV)
  | _, [] => []
  | i, x :: r => (i, x) :: argsFr (i + 1) r

/-- A function's contract, by values: called with such arguments, where such objects lie, it hands back r and leaves the objects hp' with Q r hp'. u: the heads of the objects' names. -/
def HCall (P : Program) (G : List (Nat × Obj)) (f : FuncId) (args : List AV) (hp : List (Name × Ob)) (u : List Nat) (Q : AV → List (Name × Ob) → Prop) : Prop :=
  (∀ vs w, (callFunc f vs).run P w = .ok (.enter f vs) w) ∧
  ∀ (B : Base) (β : Name → Option Blk) (vs : Array Value) (w : World), B.n = args.length → B.H0 = w.heap → B.U0 = u → B.G = G → Sim B β (mk (argsFr 0 args) hp u) vs w →
    CallsIn Fence.wide 0 P f vs w fun e w' => ∃ v r hp' u' β', e = .returned v ∧ Q r hp' ∧ Sim { B with n := 1 } β' (mk [(0, r)] hp' u') #[v] w'

theorem HCall.mono {P : Program} {G : List (Nat × Obj)} {f : FuncId} {args : List AV} {hp : List (Name × Ob)} {u : List Nat} {Q Q' : AV → List (Name × Ob) → Prop} (h : HCall P G f args hp u Q) (hq : ∀ r hp', Q r hp' → Q' r hp') : HCall P G f args hp u Q' :=
  ⟨h.1, fun B β vs w h1 h2 h3 h4 h5 => (h.2 B β vs w h1 h2 h3 h4 h5).mono fun _ _ ⟨v, r, hp', u', β', he, hQ, hs⟩ => ⟨v, r, hp', u', β', he, hq _ _ hQ, hs⟩⟩

theorem argsFr_get : ∀ (l : List AV) (i t : Nat), lkA AV.un (argsFr i l) t = if i ≤ t then (l[t - i]?).getD .un else .un
  | [], i, t => by simp [argsFr, lkA]
  | x :: r, i, t => by
    simp only [argsFr, lkA, argsFr_get r (i + 1) t]
    by_cases h1 : t = i
    · subst h1; simp
    · rw [if_neg h1]
      by_cases h2 : i + 1 ≤ t
      · rw [if_pos h2, if_pos (by omega), show t - i = (t - (i + 1)) + 1 by omega, List.getElem?_cons_succ]
      · rw [if_neg h2, if_neg (by omega)]

/-! ### A function's body -/
def resR (P : Program) (s : St) : List ResultVar → R (List AV)
  | [] => .ok []
  | .tmp t :: r => (resR P s r).bind fun l => .ok (s.fr t :: l)
  | .cell p ty :: r => (loadR (P.ti ty) s.hp (s.fr p)).bind fun x => (resR P s r).bind fun l => .ok (x :: l)
def retV : List AV → AV
  | [x] => x
  | l => .tup l
def RX {α : Type} : R α → (α → Prop) → Prop
  | .ok a, φ => φ a
  | .need p r, φ => p ∧ RX r φ
  | .no, _ => False
/-- The state in which only a result is held. -/
def retS (s : St) (x : AV) : St := { s with fr := fun t => if t = 0 then x else .un }
/-- What is asked where the body is left. -/
def fq (P : Program) (rs : List ResultVar) (u : List Nat) (Q : AV → List (Name × Ob) → Prop) (e : Exit) (s : St) : Prop :=
  match e with
  | .ret => RX (resR P s rs) fun l => ∃ r hp' u' τ, Q r hp' ∧ LeL u τ (retS s (retV l)) [(0, r)] hp' u'
  | .normal => RX (resR P s rs) fun l => ∃ r hp' u' τ, Q r hp' ∧ LeL u τ (retS s (retV l)) [(0, r)] hp' u'
  | _ => False

section
variable {P : Program}

/-- One result, as the machine takes it. -/
def oneRes (tm : Array Value) : ResultVar → Sem Value
  | .tmp t => pure (tm.getD t undef)
  | .cell a t => do loadVar t (← asAddr (tm.getD a undef))
theorem RX.RV {α : Type} {φ ψ : α → Prop} : ∀ {r : R α}, RX r φ → RV r ψ → ∃ a, φ a ∧ ψ a
  | .ok a, h, g => ⟨a, h, g⟩
  | .need _ _, h, g => RX.RV h.2 (g h.1)
  | .no, h, _ => h.elim

theorem resR_sound {B : Base} {β : Name → Option Blk} {s : St} {tm : Array Value} {w : World} (h : Sim B β s tm w) : ∀ (rs : List ResultVar),
    RV (resR P s rs) fun l => ∃ vs : List Value, (rs.mapM (oneRes tm)).run P w = .ok vs w ∧ vs.length = l.length ∧
      ∀ (i : Nat) x, l[i]? = some x → VR w.heap (s.own B.A β) s.used s.hp β (vs.getD i undef) x
  | [] => ⟨[], by simp, rfl, by simp⟩
  | .tmp t :: r => RV.bind (fun l ⟨vs, h1, h2, h3⟩ => ⟨tm.getD t undef :: vs, by simp [List.mapM_cons, oneRes, h1], by simp [h2], fun i x hi => by
      cases i with
      | zero => simp at hi; subst hi; exact h.slots t
      | succ i => simpa using h3 i x (by simpa using hi)⟩) (resR_sound h r)
  | .cell p ty :: r => RV.bind (fun y ⟨v, hv, hy⟩ => RV.bind (fun l ⟨vs, h1, h2, h3⟩ => ⟨v :: vs, by
      have : (oneRes tm (.cell p ty)).run P w = .ok v w := by
        show (do loadVar ty (← asAddr (tm.getD p undef)) : Sem Value).run P w = .ok v w
        cases hp : tm.getD p undef with
        | pointer a =>
          cases a with
          | none => rw [hp] at hv; simp [Instr.loadAt, Instr.sureAddr] at hv
          | some a => rw [hp] at hv; simpa only [Instr.loadAt, Instr.sureAddr, asAddr, Sem.run_bind, Sem.run_pure, Result.andThen_ok] using hv
        | _ => rw [hp] at hv; simp [Instr.loadAt, Instr.sureAddr] at hv
      simp [List.mapM_cons, this, h1], by simp [h2], fun i x hi => by
      cases i with
      | zero => simp at hi; subst hi; exact hy
      | succ i => simpa using h3 i x (by simpa using hi)⟩) (resR_sound h r)) (load_sound (P := P) (t := ty) h (h.slots p))

theorem run_results {B : Base} {β : Name → Option Blk} {s : St} {tm : Array Value} {w : World} (h : Sim B β s tm w) (fn : Func) {φ : List AV → Prop} (hr : RX (resR P s fn.results.toList) φ) :
    ∃ l v, φ l ∧ (results fn tm).run P w = .ok v w ∧ VR w.heap (s.own B.A β) s.used s.hp β v (retV l) := by
  obtain ⟨l, hφ, vs, h1, h2, h3⟩ := RX.RV hr (resR_sound (P := P) h fn.results.toList)
  refine ⟨l, (if vs.length = 1 then vs.getD 0 undef else .tuple vs.toArray), hφ, ?_, ?_⟩
  · have hm : (fn.results.mapM (oneRes tm)).run P w = .ok vs.toArray w := by
      rw [Array.mapM_eq_mapM_toList]
      simp only [Sem.run_map, h1, Result.andThen_ok]
    have e : results fn tm = (do let vs ← fn.results.mapM (oneRes tm); pure (if h : vs.size = 1 then vs[0] else .tuple vs)) := by
      unfold results
      have : (fun x : ResultVar => match x with | .tmp t => (pure (tm.getD t undef) : Sem Value) | .cell a t => do loadVar t (← asAddr (tm.getD a undef))) = oneRes tm := by
        funext x; cases x <;> rfl
      rw [← this]; rfl
    rw [e, Sem.run_bind, hm]
    simp only [Result.andThen_ok, Sem.run_pure, List.size_toArray]
    by_cases hl : vs.length = 1
    · match vs, hl with
      | [v], _ => simp
    · rw [if_neg hl]; simp [hl]
  · match l, h2, h3 with
    | [x], h2, h3 =>
      simp only [List.length_cons, List.length_nil] at h2
      rw [if_pos h2]
      exact h3 0 x rfl
    | [], h2, h3 =>
      rw [if_neg (by rw [h2]; simp)]
      exact .tup _ _ (by simpa using h2) (fun i x hi => by simp at hi)
    | x :: y :: r, h2, h3 =>
      rw [if_neg (by rw [h2]; simp)]
      refine .tup _ _ (by simpa using h2) (fun i z hi => ?_)
      have := h3 i z hi
      simpa [Array.getD_eq_getD_getElem?, List.getD_eq_getElem?_getD] using this

theorem Fw_none : Fw none = Fence.wide := rfl

/-- A function's contract out of its body's run. -/
theorem fun_ok {G : List (Nat × Obj)} {f : FuncId} {fn : Func} {c : Code} {args : List AV} {hp : List (Name × Ob)} {u : List Nat} {Q : AV → List (Name × Ob) → Prop} (hf : P.funcs[f]? = some fn) (hb : fn.body = some c)
    (he : ∀ vs w, (callFunc f vs).run P w = .ok (.enter f vs) w) (hn : args.length ≤ fn.ntmps)
    {Q0 : Exit → St → Prop} (hQ0 : ∀ e s, Q0 e s → fq P fn.results.toList u Q e s)
    (h : run P ⟨fn.ntmps, none, G, u⟩ [.code c] Q0 (mk (argsFr 0 args) hp u)) : HCall P G f args hp u Q := by
  refine ⟨he, fun B β vs w h1 h2 h3 h4 hs => ?_⟩
  have hsz : vs.size = args.length := hs.tms.trans h1
  have hs' : Sim { B with n := fn.ntmps } β (mk (argsFr 0 args) hp u) (vs ++ Array.replicate (fn.ntmps - vs.size) undef) w := by
    refine { hs with tms := by simp; omega, slots := fun t => ?_ }
    have := hs.slots t
    by_cases ht : t < vs.size
    · have e : (vs ++ Array.replicate (fn.ntmps - vs.size) undef).getD t undef = vs.getD t undef := by
        simp [Array.getD_eq_getD_getElem?, Array.getElem?_append, ht]
      rw [e]; exact this
    · have e : (mk (argsFr 0 args) hp u).fr t = .un := by
        rw [mk_fr, argsFr_get, if_pos (Nat.zero_le _), List.getElem?_eq_none (by omega)]; rfl
      rw [e]; exact .un _
  have hrun := run_ok h { B with n := fn.ntmps } ⟨rfl, h3, h4⟩ [] β { tmps := vs ++ Array.replicate (fn.ntmps - vs.size) undef, defers := [] } w rfl hs'
  refine callsIn_of_wp hf hb trivial (wpIn_mono (F := Fence.wide) hrun fun e a' w' hq => ?_)
  obtain ⟨hd, s', β', hq, hsim⟩ := hq
  have hq := hQ0 _ _ hq
  have fin : RX (resR P s' fn.results.toList) (fun l => ∃ r hp' u' τ, Q r hp' ∧ LeL u τ (retS s' (retV l)) [(0, r)] hp' u') →
      a'.defers = [] ∧ ∃ v, (results fn a'.tmps).run P w' = .ok v w' ∧ ∃ v' r hp' u' β', Ending.returned v = .returned v' ∧ Q r hp' ∧ Sim { B with n := 1 } β' (mk [(0, r)] hp' u') #[v'] w' := by
    intro hx
    obtain ⟨l, v, ⟨r, hp', u', τ, hQ, hle⟩, hr, hv⟩ := run_results hsim fn hx
    have hret : Sim { B with n := 1 } β' (retS s' (retV l)) #[v] w' := by
      refine { tms := rfl, io := hsim.io, size := hsim.size, frame := hsim.frame, slots := fun t => ?_, objs := hsim.objs, blocks := hsim.blocks, inj := hsim.inj, us := hsim.us, stay := hsim.stay }
      show VR w'.heap (s'.own B.A β') s'.used s'.hp β' _ (if t = 0 then retV l else .un)
      by_cases ht : t = 0
      · subst ht; rw [if_pos rfl]; exact hv
      · rw [if_neg ht]; exact .un _
    obtain ⟨β2, hs2, _⟩ := hret.le (τ := τ) (by show Le B.U0 τ _ _; rw [h3]; exact hle.le)
    exact ⟨hd, v, hr, v, r, hp', u', β2, rfl, hQ, hs2⟩
  cases e with
  | normal => exact fin hq
  | ret => exact fin hq
  | exit i => exact hq.elim
  | goto l => exact hq.elim
  | panic c => exact hq.elim
  | outgrown => exact hq.elim

/-! ### Calls -/
/-- Lookups through turned names. -/
theorem lkA_map {α β γ : Type} [DecidableEq α] [DecidableEq β] (σ : α → β) (g : γ → Option Ob) {l : List (α × γ)} (hσ : ∀ p q, σ p = σ q → p = q) (z : Option Ob) (p : α) (h : ∀ q ∈ l, q.1 ≠ p) : lkA z (l.map fun q => (σ q.1, g q.2)) (σ p) = z := by
  induction l with
  | nil => rfl
  | cons q r ih =>
    simp only [List.map_cons, lkA]
    rw [if_neg (fun e => h q List.mem_cons_self (hσ _ _ e).symm)]
    exact ih fun x hx => h x (List.mem_cons_of_mem _ hx)

/-- The state behind a call: the objects that were handed in are as hp' says; what is new bears the temporary's name ahead. -/
def aftN (σ : Name → Name) (d : Nat) (chp : List (Name × Ob)) (p : Name) : Name := if chp.any (fun q => q.1 == p) then σ p else d :: p
def aft (s : St) (σ : Name → Name) (d : Nat) (chp hp' : List (Name × Ob)) (r : AV) : St :=
  { fr := updN s.fr d (r.ren (aftN σ d chp)), used := d :: s.used,
    hp := fun q => lkA (lkA (s.hp q) (chp.map fun x => (σ x.1, none)) q) (hp'.map fun x => (aftN σ d chp x.1, some (x.2.ren (aftN σ d chp)))) q }

def likeL (chp hp' : List (Name × Ob)) : Prop := ∀ p o o', (mk [] chp []).hp p = some o → (mk [] hp' []).hp p = some o' → o.like o'

theorem VR.ren' {H : Array Obj} {own own' : Nat → Prop} {used used' : List Nat} {hp hp' : Name → Option Ob} {β β' : Name → Option Blk} {σ : Name → Name} (hr : ∀ v d, Rep H own v d → Rep H own' v d)
    (hu : ∀ p, nm used p → nm used' (σ p)) (hob : ∀ p, nm used p → ∀ o', hp' (σ p) = some o' → ∃ o, hp p = some o ∧ o' = o.ren σ ∧ β' (σ p) = β p) :
    ∀ {v : Value} {x : AV}, VR H own used hp β v x → VR H own' used' hp' β' v (x.ren σ) := by
  intro v x h
  induction h with
  | un v => exact .un v
  | d v z h => exact .d v _ (hr v _ h)
  | vw v p off len hn h1 h =>
    refine .vw v _ _ _ (hu p hn) h1 fun w xs hx => ?_
    obtain ⟨o, ho, e, hb⟩ := hob p hn _ hx
    cases o <;> simp [Ob.ren] at e
    obtain ⟨rfl, rfl⟩ := e
    rw [hb]; exact h _ _ ho
  | «at» v p c hn h1 h =>
    refine .at v _ _ (hu p hn) h1 fun cs hx => ?_
    obtain ⟨o, ho, e, hb⟩ := hob p hn _ hx
    cases o <;> simp [Ob.ren] at e
    rw [hb]; exact h _ ho
  | el v p i c hn h1 h =>
    refine .el v _ _ _ (hu p hn) h1 fun w xs hx => ?_
    obtain ⟨o, ho, e, hb⟩ := hob p hn _ hx
    cases o <;> simp [Ob.ren] at e
    obtain ⟨rfl, rfl⟩ := e
    rw [hb]; exact h _ _ ho
  | mp v p hn h1 h =>
    refine .mp v _ (hu p hn) h1 fun es hx => ?_
    obtain ⟨o, ho, e, hb⟩ := hob p hn _ hx
    cases o <;> simp [Ob.ren] at e
    rw [hb]; exact h _ ho
  | its v p hn h1 h h' =>
    refine .its v _ (hu p hn) h1 (fun s i hx => ?_) (fun s i hx => ?_)
    · obtain ⟨o, ho, e, hb⟩ := hob p hn _ hx
      cases o <;> simp [Ob.ren] at e
      rw [hb]; exact h _ _ ho
    · obtain ⟨o, ho, e, hb⟩ := hob p hn _ hx
      cases o <;> simp [Ob.ren] at e
      rw [hb]; exact h' _ _ ho
  | agg vs cs hs hc h0 ih => 
    refine .agg vs _ (by rw [hs, renL_length]) hc fun i x hi => ?_
    rw [renL_get, Option.map_eq_some_iff] at hi
    obtain ⟨y, hy, rfl⟩ := hi
    exact ih i y hy
  | tup vs cs hs h0 ih => 
    refine .tup vs _ (by rw [hs, renL_length]) fun i x hi => ?_
    rw [renL_get, Option.map_eq_some_iff] at hi
    obtain ⟨y, hy, rfl⟩ := hi
    exact ih i y hy
  | clo f vs cs hs h0 ih => 
    refine .clo f vs _ (by rw [hs, renL_length]) fun i x hi => ?_
    rw [renL_get, Option.map_eq_some_iff] at hi
    obtain ⟨y, hy, rfl⟩ := hi
    exact ih i y hy

theorem OR.ren' {H : Array Obj} {own own' : Nat → Prop} {used used' : List Nat} {hp hp' : Name → Option Ob} {β β' : Name → Option Blk} {σ : Name → Name} (hr : ∀ v d, Rep H own v d → Rep H own' v d)
    (hu : ∀ p, nm used p → nm used' (σ p)) (hob : ∀ p, nm used p → ∀ o', hp' (σ p) = some o' → ∃ o, hp p = some o ∧ o' = o.ren σ ∧ β' (σ p) = β p) {p : Name} {o : Ob} (hb : β' (σ p) = β p) (h : OR H own used hp β p o) :
    OR H own' used' hp' β' (σ p) (o.ren σ) := by
  cases o with
  | arr w xs =>
    rcases h with ⟨h1, h2⟩ | ⟨k, c, e, hk, hc, hz, hl, hw, h⟩
    · exact .inl ⟨hb.trans h1, h2⟩
    · exact .inr ⟨k, c, e, hb.trans hk, hc, hz, hl, hw, fun i x j d hi hj => hr _ _ (h i x j d hi hj)⟩
  | box cs =>
    obtain ⟨k, c, e, hk, ho, hc, hz, hl, h1, h⟩ := h
    refine ⟨k, c, e, hb.trans hk, ho, hc, hz, by rw [hl, renL_length], h1, fun j x hj => ?_⟩
    rw [renL_get, Option.map_eq_some_iff] at hj
    obtain ⟨y, hy, rfl⟩ := hj
    exact (h j y hy).ren' hr hu hob
  | map es =>
    obtain ⟨k, ents, clock, hk, hc, hz, h⟩ := h
    refine ⟨k, ents, clock, hb.trans hk, hc, hz, fun i x hi => ?_⟩
    obtain ⟨en, h1, h2, h3⟩ := h i x hi
    exact ⟨en, h1, hr _ _ h2, hr _ _ h3⟩
  | siter s pos =>
    obtain ⟨k, hk, hc⟩ := h
    exact ⟨k, hb.trans hk, hc⟩
  | miter _ _ => exact h.elim
end
end Go.Ab
