/-
  The generic layer, part 19: calls that answer by values alone; functions that do.
-/
import Derived.Test.YtmplpdjddjiioaaDoorC1
namespace Go.Ab

theorem inUL_all {u : List Nat} : ∀ {l : List AV}, (∀ (i : Nat) (x : AV), l[i]? = some x → x.inU u = true) → inUL u l = true
  | [], _ => rfl
  | y :: r, h => by
    simp only [inUL, Bool.and_eq_true]
    exact ⟨h 0 y rfl, inUL_all fun i x hi => h (i + 1) x (by simpa using hi)⟩
theorem nm_nmb {u : List Nat} {p : Name} (h : nm u p) : nmb u p = true := by
  obtain ⟨a, t, rfl, ha⟩ := h
  simpa [nmb] using ha
theorem VR.inU {H : Array Obj} {own : Nat → Prop} {used : List Nat} {hp : Name → Option Ob} {β : Name → Option Blk} {v : Value} {x : AV} (h : VR H own used hp β v x) : x.inU used = true := by
  induction h with
  | un v => rfl
  | d v z h => rfl
  | vw v p off len hn h1 h => exact nm_nmb hn
  | «at» v p c hn h1 h => exact nm_nmb hn
  | el v p i c hn h1 h => exact nm_nmb hn
  | mp v p hn h1 h => exact nm_nmb hn
  | its v p hn h1 h h' => exact nm_nmb hn
  | agg vs cs hs hc h0 ih => exact inUL_all ih
  | tup vs cs hs h0 ih => exact inUL_all ih
  | clo f vs cs hs h0 ih => exact inUL_all ih

mutual
theorem AV.ren_id (τ : Name → Name) (h : ∀ p, τ p = p) : ∀ x : AV, x.ren τ = x
  | .un => rfl
  | .d _ => rfl
  | .vw p _ _ => by simp only [AV.ren, h]
  | .at p _ => by simp only [AV.ren, h]
  | .el p _ _ => by simp only [AV.ren, h]
  | .mp p => by simp only [AV.ren, h]
  | .it p => by simp only [AV.ren, h]
  | .agg cs => by simp only [AV.ren, renL_id τ h cs]
  | .tup cs => by simp only [AV.ren, renL_id τ h cs]
  | .clo _ cs => by simp only [AV.ren, renL_id τ h cs]
theorem renL_id (τ : Name → Name) (h : ∀ p, τ p = p) : ∀ l : List AV, renL τ l = l
  | [] => rfl
  | x :: r => by simp only [renL, AV.ren_id τ h x, renL_id τ h r]
end
theorem Ob.ren_id (τ : Name → Name) (h : ∀ p, τ p = p) (o : Ob) : o.ren τ = o := by
  cases o <;> simp only [Ob.ren, renL_id τ h, h]

theorem OR.inU {H : Array Obj} {own : Nat → Prop} {used : List Nat} {hp : Name → Option Ob} {β : Name → Option Blk} {p : Name} {o : Ob} (h : OR H own used hp β p o) : o.inU used = true := by
  cases o with
  | box cs =>
    obtain ⟨k, c, e, hk, ho, hc, hz, hl, h1, h⟩ := h
    exact inUL_all fun i x hi => (h i x hi).inU
  | miter _ _ => exact h.elim
  | _ => rfl

/-- What is no more used is taken off the list. -/
theorem Sim.unuse {B : Base} {β β' : Name → Option Blk} {s s' : St} {tm tm' : Array Value} {w w' : World} (h0 : Sim B β s tm w) (h : Sim B β' s' tm' w') (hhp : s'.hp = s.hp) {t0 : Nat} {x0 : AV} (hfr : ∀ t, t = t0 ∨ s'.fr t = s.fr t) (hx : s'.fr t0 = x0) (hx0 : x0.inU s.used = true) :
    ∃ β2, Sim B β2 { s' with used := s.used } tm' w' := by
  have hi : ∀ t, (s'.fr t).inU s.used = true := fun t => by
    rcases hfr t with rfl | e
    · rw [hx]; exact hx0
    · rw [e]; exact (h0.slots t).inU
  obtain ⟨β2, h2, _⟩ := h.le (s2 := { s' with used := s.used }) (τ := fun p => p)
    { fr := fun t => .inr ⟨(AV.ren_id _ (fun _ => rfl) _).symm, hi t⟩
      hp := fun p o ho => by
        have ho : s'.hp p = some o := ho
        rw [hhp] at ho
        obtain ⟨g1, g2⟩ := h0.objs p o ho
        exact ⟨by rw [Ob.ren_id _ (fun _ => rfl), hhp]; exact ho, g2.inU, g1⟩
      inj := fun p q _ _ e => e
      us := fun x hx => h0.us x hx
      stay := fun _ _ _ => rfl }
  exact ⟨β2, h2⟩

section
variable {P : Program} {cf : Cf}

/-- A function that answers by values alone. -/
def HP (P : Program) (G : List (Nat × Obj)) (f : FuncId) (args : List D) (Q : AV → Prop) : Prop := HCall P G f (args.map .d) [] [] fun r hp' => Q r ∧ r.inU [] = true ∧ hp' = []

theorem inUL_d (u : List Nat) : ∀ l : List D, inUL u (l.map .d) = true
  | [] => rfl
  | _ :: r => by simp only [List.map_cons, inUL, AV.inU, inUL_d u r, Bool.and_self]
theorem renL_d (σ : Name → Name) : ∀ l : List D, renL σ (l.map .d) = l.map .d
  | [] => rfl
  | _ :: r => by simp only [List.map_cons, renL, AV.ren, renL_d σ r]
mutual
theorem AV.inU_none (u : List Nat) : ∀ x : AV, x.inU [] = true → x.inU u = true
  | .un, _ => rfl
  | .d _, _ => rfl
  | .vw p _ _, h => by cases p <;> simp [AV.inU, nmb] at h
  | .at p _, h => by cases p <;> simp [AV.inU, nmb] at h
  | .el p _ _, h => by cases p <;> simp [AV.inU, nmb] at h
  | .mp p, h => by cases p <;> simp [AV.inU, nmb] at h
  | .it p, h => by cases p <;> simp [AV.inU, nmb] at h
  | .agg cs, h => inUL_none u cs h
  | .tup cs, h => inUL_none u cs h
  | .clo _ cs, h => inUL_none u cs h
theorem inUL_none (u : List Nat) : ∀ l : List AV, inUL [] l = true → inUL u l = true
  | [], _ => rfl
  | x :: r, h => by
    simp only [inUL, Bool.and_eq_true] at h ⊢
    exact ⟨AV.inU_none u x h.1, inUL_none u r h.2⟩
end
mutual
theorem AV.ren_none (τ : Name → Name) : ∀ x : AV, x.inU [] = true → x.ren τ = x
  | .un, _ => rfl
  | .d _, _ => rfl
  | .vw p _ _, h => by cases p <;> simp [AV.inU, nmb] at h
  | .at p _, h => by cases p <;> simp [AV.inU, nmb] at h
  | .el p _ _, h => by cases p <;> simp [AV.inU, nmb] at h
  | .mp p, h => by cases p <;> simp [AV.inU, nmb] at h
  | .it p, h => by cases p <;> simp [AV.inU, nmb] at h
  | .agg cs, h => by simp only [AV.ren, renL_none τ cs h]
  | .tup cs, h => by simp only [AV.ren, renL_none τ cs h]
  | .clo _ cs, h => by simp only [AV.ren, renL_none τ cs h]
theorem renL_none (τ : Name → Name) : ∀ l : List AV, inUL [] l = true → renL τ l = l
  | [], _ => rfl
  | x :: r, h => by
    simp only [inUL, Bool.and_eq_true] at h
    simp only [renL, AV.ren_none τ x h.1, renL_none τ r h.2]
end

/-- A number that is no head of a name. -/
theorem fresh_nat (l : List Nat) : ∃ d, d ∉ l := by
  have : ∀ (l : List Nat), ∃ m, ∀ x ∈ l, x < m := by
    intro l
    induction l with
    | nil => exact ⟨0, by simp⟩
    | cons a r ih =>
      obtain ⟨m, hm⟩ := ih
      refine ⟨a + m + 1, fun x hx => ?_⟩
      rcases List.mem_cons.1 hx with rfl | hx
      · omega
      · have := hm x hx; omega
  obtain ⟨m, hm⟩ := this l
  exact ⟨m, fun h => by have := hm m h; omega⟩

/-- What a call's result leaves. -/
def St.putO (s : St) (d : Option Nat) (x : AV) : St :=
  match d with
  | some t => s.put t x
  | none => s

/-- The rule for a call that answers by values alone. -/
theorem callP_ok {s : St} {k : List It} {Q : Exit → St → Prop} {dst : Option Nat} {fv : Operand} {args : Array Operand} {at' : Array TypeId} {ty : TypeId} {pos : String} {af : Array Edge} {g : Option (Nat × Bool)}
    {f : FuncId} {caps : List AV} {ds : List D} {Q0 : AV → Prop} (hc : HP P cf.G f ds Q0)
    (hev : ev s fv = .clo f caps) (hargs : args.toList.map (ev s) ++ caps = ds.map .d) (hdst : ∀ t ∈ dst, t < cf.n) (hk : ∀ r, Q0 r → run P cf k Q (s.putO dst r)) :
    AOk P cf { dst := dst, op := .call { callee := .value fv, args := args, argTypes := at' }, type := ty, pos := pos, after := af, guard := g } s k Q := by
  intro B hB ds' β a w hds h Q'
  refine ⟨fun _ _ => trivial, ?_⟩
  obtain ⟨d, hd⟩ := fresh_nat s.used
  have hf := h.ev fv
  rw [hev] at hf
  generalize hfv : a.eval fv = fval at hf
  cases hf with
  | clo _ cvs _ hcs hcv =>
  have hrun : ∀ vs, vs = (args.toList.map a.eval).toArray ++ cvs → (execOp a.eval { dst := dst, op := .call { callee := .value fv, args := args, argTypes := at' }, type := ty, pos := pos, after := af, guard := g }).run P w = .ok (.enter f vs) w := by
    intro vs hvs
    have e : (execOp a.eval { dst := dst, op := .call { callee := .value fv, args := args, argTypes := at' }, type := ty, pos := pos, after := af, guard := g } : Sem Next) = callFunc f (#[] ++ args.map a.eval ++ cvs) := by
      show (do let d ← (Deferred.ofValue (a.eval fv) (args.map a.eval)); invoke d.target d.args : Sem Next) = _
      rw [hfv]; rfl
    rw [e, ← hc.1 vs w, hvs]
    congr 2
    apply Array.ext'
    simp
  rw [Oper.semAt_eq _ _ _ (by simp), hrun _ rfl, Oper.uponIn_enter]
  refine ⟨fun hdep => by simp [Fw_depth] at hdep, ?_⟩
  have hlen : (ds.map AV.d).length = args.size + caps.length := by
    have := congrArg List.length hargs
    simpa using this.symm
  have hvs : ((args.toList.map a.eval).toArray ++ cvs).size = (ds.map AV.d).length := by simp [hcs] at hlen ⊢; omega
  have hv : ∀ (i : Nat) x, (ds.map AV.d)[i]? = some x → VR w.heap (s.own B.A β) s.used s.hp β (((args.toList.map a.eval).toArray ++ cvs).getD i undef) (x.ren id) := by
    intro i x hi
    rw [AV.ren_id id (fun _ => rfl)]
    have hx := hi
    rw [← hargs] at hx
    by_cases hlt : i < args.size
    · have hx' : (args.toList.map (ev s))[i]? = some x := by rw [← hx, List.getElem?_append_left (by simpa using hlt)]
      have := calls_list h args.toList i _ hx'
      rw [show ((args.toList.map a.eval).toArray ++ cvs).getD i undef = (args.toList.map a.eval).toArray.getD i undef by simp [Array.getD_eq_getD_getElem?, Array.getElem?_append, hlt]]
      exact this
    · have hx' : caps[i - args.size]? = some x := by rw [← hx, List.getElem?_append_right (by simpa using Nat.le_of_not_lt hlt)]; simp
      have := hcv _ _ hx'
      rw [show ((args.toList.map a.eval).toArray ++ cvs).getD i undef = cvs.getD (i - args.size) undef by simp [Array.getD_eq_getD_getElem?, Array.getElem?_append, hlt]]
      exact this
  have hcall := enter_ok (P := P) h (σ := id) (d := d) hd (chp := []) (cu := []) trivial trivial (inUL_d _ _) hvs hv (by rw [hB.2.2]; exact hc)
  have hcall' : CallsIn (Fw cf.ro) (0 - 1) P f ((args.toList.map a.eval).toArray ++ cvs) w _ := hcall
  refine hcall'.mono ?_
  rintro e w' ⟨v, rfl, r, hp', ⟨hQ, hru, rfl⟩, hl⟩
  obtain ⟨β2, hs2, hv2⟩ := hl trivial
  rw [AV.ren_none _ r hru] at hv2
  have hru' := AV.inU_none s.used r hru
  refine ⟨by cases dst <;> exact hds, s.putO dst r, ?_⟩
  cases dst with
  | none =>
    obtain ⟨β3, h3⟩ := h.unuse hs2 rfl (t0 := 0) (x0 := s.fr 0) (fun _ => .inr rfl) rfl (h.slots 0).inU
    exact ⟨β3, run_ok (hk r hQ), h3⟩
  | some t =>
    have h2 := hs2.put (t := t) (by rw [hB.1]; exact hdst t rfl) hv2
    obtain ⟨β3, h3⟩ := h.unuse h2 rfl (t0 := t) (x0 := r) (fun u => by
      by_cases e : u = t
      · exact .inl e
      · exact .inr (by show updN _ _ _ _ = _; simp [updN, e])) (by show updN _ _ _ _ = _; simp [updN]) hru'
    exact ⟨β3, run_ok (hk r hQ), h3⟩

/-! ### Functions -/
theorem enter_run {f : FuncId} {fn : Func} {c : Code} (hf : P.funcs[f]? = some fn) (hb : fn.body = some c) (hn : (fn.name == "runtime.NumGoroutine") = false) (vs : Array Value) (w : World) : (callFunc f vs).run P w = .ok (.enter f vs) w := by
  unfold callFunc
  simp only [Sem.run_bind, run_program, Result.andThen_ok, hf, hn, Bool.false_eq_true, if_false, hb, Option.isNone_some, Sem.run_pure]

theorem RX.intro {α : Type} {φ : α → Prop} {r : R α} {a : α} (h : r = .ok a) (hφ : φ a) : RX r φ := by rw [h]; exact hφ

theorem fq_val {rs : List ResultVar} {u : List Nat} {Q : AV → List (Name × Ob) → Prop} {s : St} {l : List AV} (h : resR P s rs = .ok l) (hu : (retV l).inU [] = true) (hQ : Q (retV l) []) :
    RX (resR P s rs) fun l => ∃ r hp' u' τ, Q r hp' ∧ LeL u τ (retS s (retV l)) [(0, r)] hp' u' :=
  RX.intro h ⟨retV l, [], u, id, hQ, ⟨⟨by show retV l = _; rw [AV.ren_id id (fun _ => rfl)], AV.inU_none u _ hu⟩, trivial⟩, trivial, trivial, by simp, trivial⟩

/-- What is asked of the results of such a function. -/
def okV (Q : AV → Prop) : R (List AV) → Prop
  | .ok l => (retV l).inU [] = true ∧ Q (retV l)
  | .need p r => p ∧ okV Q r
  | .no => False
/-- What is asked where its body is left. -/
def pq (P : Program) (rs : List ResultVar) (Q : AV → Prop) (e : Exit) (s : St) : Prop :=
  match e with
  | .ret => okV Q (resR P s rs)
  | .normal => okV Q (resR P s rs)
  | _ => False
theorem pq_ret (rs : List ResultVar) (Q : AV → Prop) (s : St) : pq P rs Q .ret s = okV Q (resR P s rs) := rfl
theorem pq_normal (rs : List ResultVar) (Q : AV → Prop) (s : St) : pq P rs Q .normal s = okV Q (resR P s rs) := rfl
theorem okV_ok (Q : AV → Prop) (l : List AV) : okV Q (.ok l) = ((retV l).inU [] = true ∧ Q (retV l)) := rfl
theorem okV_need (Q : AV → Prop) (p : Prop) (r : R (List AV)) : okV Q (.need p r) = (p ∧ okV Q r) := rfl
theorem retV_one (x : AV) : retV [x] = x := rfl
theorem retV_two (x y : AV) (r : List AV) : retV (x :: y :: r) = .tup (x :: y :: r) := rfl
theorem retV_nil : retV [] = .tup [] := rfl
theorem okV_RX {Q : AV → Prop} : ∀ {r : R (List AV)}, okV Q r → RX r fun l => ∃ x hp' u' τ, (Q x ∧ x.inU [] = true ∧ hp' = []) ∧ ∀ s : St, LeL [] τ (retS s (retV l)) [(0, x)] hp' u'
  | .ok l, h => ⟨retV l, [], [], id, ⟨h.2, h.1, rfl⟩, fun s => ⟨⟨⟨by show retV l = _; rw [AV.ren_id id (fun _ => rfl)], h.1⟩, trivial⟩, trivial, trivial, rfl, trivial⟩⟩
  | .need _ r, h => ⟨h.1, okV_RX h.2⟩
  | .no, h => h.elim
theorem RX.mono {α : Type} {φ ψ : α → Prop} (h : ∀ x, φ x → ψ x) : ∀ {r : R α}, RX r φ → RX r ψ
  | .ok _, g => h _ g
  | .need _ _, g => ⟨g.1, RX.mono h g.2⟩
  | .no, g => g
/-- A function that answers by values alone, out of its body's run. -/
theorem funP_ok {G : List (Nat × Obj)} {f : FuncId} {fn : Func} {c : Code} {args : List D} {Q : AV → Prop} (hf : P.funcs[f]? = some fn) (hb : fn.body = some c) (hnm : (fn.name == "runtime.NumGoroutine") = false) (hn : args.length ≤ fn.ntmps)
    (h : run P ⟨fn.ntmps, none, G, []⟩ [.code c] (pq P fn.results.toList Q) (mk (argsFr 0 (args.map .d)) [] [])) : HP P G f args Q := by
  refine fun_ok hf hb (enter_run hf hb hnm) (by simpa using hn) (fun e s hq => ?_) h
  cases e with
  | ret => exact (okV_RX hq).mono fun l ⟨x, hp', u', τ, h1, h2⟩ => ⟨x, hp', u', τ, h1, h2 s⟩
  | normal => exact (okV_RX hq).mono fun l ⟨x, hp', u', τ, h1, h2⟩ => ⟨x, hp', u', τ, h1, h2 s⟩
  | exit i => exact hq.elim
  | goto l => exact hq.elim
  | panic c => exact hq.elim
  | outgrown => exact hq.elim
end
end Go.Ab
