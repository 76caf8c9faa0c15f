/-
  The generic layer, part 18: the rule for calls, closed. (with the parts that follow it)
-/
import Derived.Test.YtjoneaifakonjaaDoorB8
import Derived.Lib.AppendIntMem
set_option linter.all false
/-! ### The generic layer, part 18: the rule for calls, closed. -/
namespace Go.Ab
section
variable {P : Program} {cf : Cf}

/-- The state behind a call whose result is taken, or is not. -/
def aftD (s : St) (σ : Name → Name) (d : Nat) (dst : Option Nat) (chp hp' : List (Name × Ob)) (r : AV) : St :=
  match dst with
  | some _ => aft s σ d chp hp' r
  | none => { aft s σ d chp hp' r with fr := s.fr }

theorem list_own {fr : List (Nat × AV)} {chp : List (Name × Ob)} {u : List Nat} {A : Nat → Prop} {β : Name → Option Blk} {b : Nat} (h : (mk fr chp u).own A β b) : A b ∨ ∃ p k o, lkA none (chp.map fun x => (x.1, some x.2)) p = some o ∧ β p = some k ∧ k.b = b := by
  rcases h with h | ⟨p, k, hp, hk, e⟩
  · exact .inl h
  · cases ho : (mk fr chp u).hp p with
    | none => exact absurd ho hp
    | some o => exact .inr ⟨p, k, o, ho, hk, e⟩

/-- A function that has a contract is called. -/
theorem enter_ok {B : Base} {β : Name → Option Blk} {s : St} {tm : Array Value} {w : World} (h : Sim B β s tm w) {f : FuncId} {cargs : List AV} {chp : List (Name × Ob)} {cu : List Nat} {Q0 : AV → List (Name × Ob) → Prop} {σ : Name → Name} {d : Nat} (hd : d ∉ s.used)
    (hpass : passL σ cu s chp) (hinj : injL σ chp) (hcu : inUL cu cargs = true) {vs : Array Value} (hvs : vs.size = cargs.length) (hv : ∀ (i : Nat) x, cargs[i]? = some x → VR w.heap (s.own B.A β) s.used s.hp β (vs.getD i undef) (x.ren σ)) (hc : HCall P B.G f cargs chp cu Q0) :
    CallsIn Fence.wide 0 P f vs w fun e w' => ∃ v, e = .returned v ∧ ∃ r hp', Q0 r hp' ∧ (likeM chp hp' → ∃ β2, Sim B β2 { aft s σ d chp hp' r with fr := s.fr } tm w' ∧
      VR w'.heap ((aft s σ d chp hp' r).own B.A β2) (d :: s.used) (aft s σ d chp hp' r).hp β2 v (r.ren (aftN σ d chp))) := by
  obtain ⟨O0', hO⟩ : ∃ O0' : Nat → Prop, ∀ b, O0' b ↔ ∃ p k, chp.any (fun q => q.1 == p) = true ∧ β (σ p) = some k ∧ k.b = b := ⟨_, fun _ => Iff.rfl⟩
  obtain ⟨A', hA⟩ : ∃ A' : Nat → Prop, ∀ b, A' b ↔ s.own B.A β b ∧ ¬ O0' b := ⟨_, fun _ => Iff.rfl⟩
  have hA' : ∀ b, A' b → b < w.heap.size := fun b hb => h.own_lt ((hA b).1 hb).1
  have hG' : ∀ q ∈ B.G, w.heap[q.1]? = some q.2 ∧ ¬ O0' q.1 := fun q hq => by
    obtain ⟨g1, g2⟩ := B.hG q hq
    have hlt := lt_of_some g1
    refine ⟨(h.frame _ hlt g2).trans g1, fun hb => ?_⟩
    obtain ⟨p, k, hp, hk, e⟩ := (hO _).1 hb
    obtain ⟨o, ho⟩ := lkS_any hp
    obtain ⟨h1, _, _⟩ := passL_mem hpass _ (lkS ho)
    obtain ⟨_, _, g3⟩ := h.blocks (σ p) k (by rw [h1]; simp) hk
    rcases g3 with g3 | g3
    · omega
    · exact g2 (e ▸ g3)
  have hβc : ∀ p, chp.any (fun q => q.1 == p) = true → (fun p => β (σ p)) p = β (σ p) := fun _ _ => rfl
  have live : ∀ p o, lkA none (chp.map fun x => (x.1, some x.2)) p = some o → s.hp (σ p) = some (o.ren σ) ∧ o.inU cu = true ∧ nm cu p := fun p o ho => by
    obtain ⟨h1, h2, h3⟩ := passL_mem hpass _ (lkS ho)
    exact ⟨h1, h2, nmb_nm h3⟩
  have hown : ∀ b, (mk (argsFr 0 cargs) chp cu).own A' (fun p => β (σ p)) b → s.own B.A β b := by
    intro b hb
    rcases list_own hb with hb | ⟨p, k, o, ho, hk, rfl⟩
    · exact ((hA b).1 hb).1
    · exact .inr ⟨σ p, k, by rw [(live p o ho).1]; simp, hk, rfl⟩
  have hr : ∀ v d, Rep w.heap (s.own B.A β) v d → Rep w.heap ((mk (argsFr 0 cargs) chp cu).own A' (fun p => β (σ p))) v d := fun v d hd => hd.mono (fun _ _ _ => rfl) (fun b _ => hown b)
  have hob : ∀ p o, (mk (argsFr 0 cargs) chp cu).hp p = some o → s.hp (σ p) = some (o.ren σ) ∧ (fun p => β (σ p)) p = β (σ p) := fun p o ho => ⟨(live p o ho).1, rfl⟩
  have hsim : Sim { n := cargs.length, io := B.io, G := B.G, H0 := w.heap, O0 := O0', A := A', U0 := cu, β0 := fun p => β (σ p), hA := hA', hG := hG' } (fun p => β (σ p)) (mk (argsFr 0 cargs) chp cu) vs w := by
    refine { tms := hvs, io := h.io, size := Nat.le_refl _, frame := fun _ _ _ => rfl, slots := fun t => ?_, objs := fun p o ho => ⟨(live p o ho).2.2, OR.ren hr hob rfl (live p o ho).2.1 (h.objs _ _ (live p o ho).1).2⟩, blocks := fun p k hp hk => ?_, inj := fun p q k l hp hq hk hl e => ?_, us := fun _ hx => hx, stay := fun _ _ => rfl }
    · rw [mk_fr, argsFr_get, if_pos (Nat.zero_le _), Nat.sub_zero]
      cases ht : cargs[t]? with
      | none => exact .un _
      | some x => exact (hv t x ht).ren hr hob x rfl (inUL_get hcu t x ht)
    · cases ho : (mk (argsFr 0 cargs) chp cu).hp p with
      | none => exact absurd ho hp
      | some o =>
        have hin : O0' k.b := (hO _).2 ⟨p, k, List.any_eq_true.2 ⟨_, lkS ho, by simp⟩, hk, rfl⟩
        obtain ⟨g1, _, _⟩ := h.blocks (σ p) k (by rw [(live p o ho).1]; simp) hk
        exact ⟨g1, fun ha => ((hA _).1 ha).2 hin, .inr hin⟩
    · cases ho : (mk (argsFr 0 cargs) chp cu).hp p with
      | none => exact absurd ho hp
      | some o =>
        cases ho' : (mk (argsFr 0 cargs) chp cu).hp q with
        | none => exact absurd ho' hq
        | some o' =>
          have e2 := h.inj (σ p) (σ q) k l (by rw [(live p o ho).1]; simp) (by rw [(live q o' ho').1]; simp) hk hl e
          exact injL_mem hinj _ (lkS ho) _ (lkS ho') e2
  have hgo := fun h1 h2 h3 h4 => hc.2 _ _ vs w h1 h2 h3 h4 hsim
  refine (hgo rfl rfl rfl rfl).mono ?_
  rintro e w' ⟨v, r, hp', u', β', rfl, hQ, hs⟩
  exact ⟨v, rfl, r, hp', hQ, fun hl => aft_sim h hd hpass hinj hβc hO hA hA' hG' hl hs⟩

theorem calls_list {s : St} {B : Base} {β : Name → Option Blk} {a : Act} {w : World} (h : Sim B β s a.tmps w) (as : List Operand) (i : Nat) (x : AV) (hx : (as.map (ev s))[i]? = some x) : VR w.heap (s.own B.A β) s.used s.hp β ((as.map a.eval).toArray.getD i undef) x := by
  rw [List.getElem?_map, Option.map_eq_some_iff] at hx
  obtain ⟨y, hy, rfl⟩ := hx
  have e : (as.map a.eval).toArray.getD i undef = a.eval y := by simp [Array.getD_eq_getD_getElem?, hy]
  rw [e]; exact h.ev y

/-- The rule for a call of a function's value. -/
theorem call_ok {s : St} {k : List It} {Q : Exit → St → Prop} {dst : Option Nat} {fv : Operand} {args : Array Operand} {at' : Array TypeId} {ty : TypeId} {pos : String} {af : Array Edge} {g : Option (Nat × Bool)}
    (d : Nat) (σ : Name → Name) (cargs : List AV) (chp : List (Name × Ob)) (cu : List Nat) (Q0 : AV → List (Name × Ob) → Prop) {f : FuncId} {caps : List AV}
    (hev : ev s fv = .clo f caps) (hargs : args.toList.map (ev s) ++ caps = renL σ cargs) (hcu : inUL cu cargs = true) (hd : d ∉ s.used) (hdst : ∀ t ∈ dst, t < cf.n ∧ t = d)
    (hpass : passL σ cu s chp) (hinj : injL σ chp) (hc : HCall P cf.G f cargs chp cu Q0) (hk : ∀ r hp', Q0 r hp' → likeM chp hp' ∧ run P cf k Q (aftD s σ d dst chp hp' r)) :
    AOk P cf { dst := dst, op := .call { callee := .value fv, args := args, argTypes := at' }, type := ty, pos := pos, after := af, guard := g } s k Q := by
  intro B hB ds β a w hds h Q'
  refine ⟨fun _ _ => trivial, ?_⟩
  have hf := h.ev fv
  rw [hev] at hf
  generalize hfv : a.eval fv = fval at hf
  cases hf with
  | clo _ cvs _ hcs hcv =>
  have hrun : ∀ vs, vs = (args.toList.map a.eval).toArray ++ cvs → (execOp a.eval { dst := dst, op := .call { callee := .value fv, args := args, argTypes := at' }, type := ty, pos := pos, after := af, guard := g }).run P w = .ok (.enter f vs) w := by
    intro vs hvs
    have e : (execOp a.eval { dst := dst, op := .call { callee := .value fv, args := args, argTypes := at' }, type := ty, pos := pos, after := af, guard := g } : Sem Next) = callFunc f (#[] ++ args.map a.eval ++ cvs) := by
      show (do let d ← (Deferred.ofValue (a.eval fv) (args.map a.eval)); invoke d.target d.args : Sem Next) = _
      rw [hfv]; rfl
    rw [e, ← hc.1 vs w, hvs]
    congr 2
    apply Array.ext'
    simp
  rw [Oper.semAt_eq _ _ _ (by simp), hrun _ rfl, Oper.uponIn_enter]
  refine ⟨fun hdep => by simp [Fw_depth] at hdep, ?_⟩
  have hlen : cargs.length = args.size + caps.length := by
    have := congrArg List.length hargs
    rw [renL_length] at this
    simpa using this.symm
  have hvs : ((args.toList.map a.eval).toArray ++ cvs).size = cargs.length := by simp [hcs, hlen]
  have hv : ∀ (i : Nat) x, cargs[i]? = some x → VR w.heap (s.own B.A β) s.used s.hp β (((args.toList.map a.eval).toArray ++ cvs).getD i undef) (x.ren σ) := by
    intro i x hi
    have hx : (renL σ cargs)[i]? = some (x.ren σ) := by rw [renL_get, hi]; rfl
    rw [← hargs] at hx
    by_cases hlt : i < args.size
    · have hx' : (args.toList.map (ev s))[i]? = some (x.ren σ) := by rw [← hx, List.getElem?_append_left (by simpa using hlt)]
      have := calls_list h args.toList i _ hx'
      rw [show ((args.toList.map a.eval).toArray ++ cvs).getD i undef = (args.toList.map a.eval).toArray.getD i undef by simp [Array.getD_eq_getD_getElem?, Array.getElem?_append, hlt]]
      exact this
    · have hx' : caps[i - args.size]? = some (x.ren σ) := by rw [← hx, List.getElem?_append_right (by simpa using Nat.le_of_not_lt hlt)]; simp
      have := hcv _ _ hx'
      rw [show ((args.toList.map a.eval).toArray ++ cvs).getD i undef = cvs.getD (i - args.size) undef by simp [Array.getD_eq_getD_getElem?, Array.getElem?_append, hlt]]
      exact this
  have hcall := enter_ok (P := P) h (σ := σ) hd hpass hinj hcu hvs hv (by rw [hB.2.2]; exact hc)
  have hcall' : CallsIn (Fw cf.ro) (0 - 1) P f ((args.toList.map a.eval).toArray ++ cvs) w _ := hcall
  refine hcall'.mono ?_
  rintro e w' ⟨v, rfl, r, hp', hQ, hl⟩
  obtain ⟨hlk, hrun'⟩ := hk r hp' hQ
  obtain ⟨β2, hs2, hv2⟩ := hl hlk
  refine ⟨by cases dst <;> exact hds, aftD s σ d dst chp hp' r, β2, run_ok hrun', ?_⟩
  cases dst with
  | none => exact hs2
  | some t =>
    obtain ⟨ht, rfl⟩ := hdst t rfl
    exact hs2.put (by rw [hB.1]; exact ht) hv2
end
end Go.Ab
/-! ### The generic layer, part 19: calls that answer by values alone; functions that do. -/
namespace Go.Ab

theorem inUL_all {u : List Nat} : ∀ {l : List AV}, (∀ (i : Nat) (x : AV), l[i]? = some x → x.inU u = true) → inUL u l = true
  | [], _ => rfl
  | y :: r, h => by
    simp only [inUL, Bool.and_eq_true]
    exact ⟨h 0 y rfl, inUL_all fun i x hi => h (i + 1) x (by simpa using hi)⟩
theorem nm_nmb {u : List Nat} {p : Name} (h : nm u p) : nmb u p = true := by
  obtain ⟨a, t, rfl, ha⟩ := h
  simpa [nmb] using ha
theorem VR.inU {H : Array Obj} {own : Nat → Prop} {used : List Nat} {hp : Name → Option Ob} {β : Name → Option Blk} {v : Value} {x : AV} (h : VR H own used hp β v x) : x.inU used = true := by
  induction h with
  | un v => rfl
  | d v z h => rfl
  | vw v p off len hn h1 h => exact nm_nmb hn
  | bx v p c hn h1 h => exact nm_nmb hn
  | el v p i c hn h1 h => exact nm_nmb hn
  | mp v p hn h1 h => exact nm_nmb hn
  | its v p hn h1 h h' => exact nm_nmb hn
  | agg vs cs hs hc h0 ih => exact inUL_all ih
  | tup vs cs hs h0 ih => exact inUL_all ih
  | clo f vs cs hs h0 ih => exact inUL_all ih

mutual
theorem AV.ren_id (τ : Name → Name) (h : ∀ p, τ p = p) : ∀ x : AV, x.ren τ = x
  | .un => rfl
  | .d _ => rfl
  | .vw p _ _ => by simp only [AV.ren, h]
  | .bx p _ => by simp only [AV.ren, h]
  | .el p _ _ => by simp only [AV.ren, h]
  | .mp p => by simp only [AV.ren, h]
  | .it p => by simp only [AV.ren, h]
  | .agg cs => by simp only [AV.ren, renL_id τ h cs]
  | .tup cs => by simp only [AV.ren, renL_id τ h cs]
  | .clo _ cs => by simp only [AV.ren, renL_id τ h cs]
theorem renL_id (τ : Name → Name) (h : ∀ p, τ p = p) : ∀ l : List AV, renL τ l = l
  | [] => rfl
  | x :: r => by simp only [renL, AV.ren_id τ h x, renL_id τ h r]
end
theorem Ob.ren_id (τ : Name → Name) (h : ∀ p, τ p = p) (o : Ob) : o.ren τ = o := by
  cases o <;> simp only [Ob.ren, renL_id τ h, h]

theorem OR.inU {H : Array Obj} {own : Nat → Prop} {used : List Nat} {hp : Name → Option Ob} {β : Name → Option Blk} {p : Name} {o : Ob} (h : OR H own used hp β p o) : o.inU used = true := by
  cases o with
  | box cs =>
    obtain ⟨k, c, e, hk, ho, hc, hz, hl, h1, h⟩ := h
    exact inUL_all fun i x hi => (h i x hi).inU
  | _ => rfl

/-- What is no more used is taken off the list. -/
theorem Sim.unuse {B : Base} {β β' : Name → Option Blk} {s s' : St} {tm tm' : Array Value} {w w' : World} (h0 : Sim B β s tm w) (h : Sim B β' s' tm' w') (hhp : s'.hp = s.hp) {t0 : Nat} {x0 : AV} (hfr : ∀ t, t = t0 ∨ s'.fr t = s.fr t) (hx : s'.fr t0 = x0) (hx0 : x0.inU s.used = true) :
    ∃ β2, Sim B β2 { s' with used := s.used } tm' w' := by
  have hi : ∀ t, (s'.fr t).inU s.used = true := fun t => by
    rcases hfr t with rfl | e
    · rw [hx]; exact hx0
    · rw [e]; exact (h0.slots t).inU
  obtain ⟨β2, h2, _⟩ := h.le (s2 := { s' with used := s.used }) (τ := fun p => p)
    { fr := fun t => .inr ⟨(AV.ren_id _ (fun _ => rfl) _).symm, hi t⟩
      hp := fun p o ho => by
        have ho : s'.hp p = some o := ho
        rw [hhp] at ho
        obtain ⟨g1, g2⟩ := h0.objs p o ho
        exact ⟨by rw [Ob.ren_id _ (fun _ => rfl), hhp]; exact ho, g2.inU, g1⟩
      inj := fun p q _ _ e => e
      us := fun x hx => h0.us x hx
      stay := fun _ _ _ => rfl }
  exact ⟨β2, h2⟩

section
variable {P : Program} {cf : Cf}

/-- A function that answers by values alone. -/
def HP (P : Program) (G : List (Nat × Obj)) (f : FuncId) (args : List D) (Q : AV → Prop) : Prop := HCall P G f (args.map .d) [] [] fun r hp' => Q r ∧ r.inU [] = true ∧ hp' = []

theorem inUL_d (u : List Nat) : ∀ l : List D, inUL u (l.map .d) = true
  | [] => rfl
  | _ :: r => by simp only [List.map_cons, inUL, AV.inU, inUL_d u r, Bool.and_self]
theorem renL_d (σ : Name → Name) : ∀ l : List D, renL σ (l.map .d) = l.map .d
  | [] => rfl
  | _ :: r => by simp only [List.map_cons, renL, AV.ren, renL_d σ r]
mutual
theorem AV.inU_none (u : List Nat) : ∀ x : AV, x.inU [] = true → x.inU u = true
  | .un, _ => rfl
  | .d _, _ => rfl
  | .vw p _ _, h => by cases p <;> simp [AV.inU, nmb] at h
  | .bx p _, h => by cases p <;> simp [AV.inU, nmb] at h
  | .el p _ _, h => by cases p <;> simp [AV.inU, nmb] at h
  | .mp p, h => by cases p <;> simp [AV.inU, nmb] at h
  | .it p, h => by cases p <;> simp [AV.inU, nmb] at h
  | .agg cs, h => inUL_none u cs h
  | .tup cs, h => inUL_none u cs h
  | .clo _ cs, h => inUL_none u cs h
theorem inUL_none (u : List Nat) : ∀ l : List AV, inUL [] l = true → inUL u l = true
  | [], _ => rfl
  | x :: r, h => by
    simp only [inUL, Bool.and_eq_true] at h ⊢
    exact ⟨AV.inU_none u x h.1, inUL_none u r h.2⟩
end
mutual
theorem AV.ren_none (τ : Name → Name) : ∀ x : AV, x.inU [] = true → x.ren τ = x
  | .un, _ => rfl
  | .d _, _ => rfl
  | .vw p _ _, h => by cases p <;> simp [AV.inU, nmb] at h
  | .bx p _, h => by cases p <;> simp [AV.inU, nmb] at h
  | .el p _ _, h => by cases p <;> simp [AV.inU, nmb] at h
  | .mp p, h => by cases p <;> simp [AV.inU, nmb] at h
  | .it p, h => by cases p <;> simp [AV.inU, nmb] at h
  | .agg cs, h => by simp only [AV.ren, renL_none τ cs h]
  | .tup cs, h => by simp only [AV.ren, renL_none τ cs h]
  | .clo _ cs, h => by simp only [AV.ren, renL_none τ cs h]
theorem renL_none (τ : Name → Name) : ∀ l : List AV, inUL [] l = true → renL τ l = l
  | [], _ => rfl
  | x :: r, h => by
    simp only [inUL, Bool.and_eq_true] at h
    simp only [renL, AV.ren_none τ x h.1, renL_none τ r h.2]
end

/-- A number that is no head of a name. -/
theorem fresh_nat (l : List Nat) : ∃ d, d ∉ l := by
  have : ∀ (l : List Nat), ∃ m, ∀ x ∈ l, x < m := by
    intro l
    induction l with
    | nil => exact ⟨0, by simp⟩
    | cons a r ih =>
      obtain ⟨m, hm⟩ := ih
      refine ⟨a + m + 1, fun x hx => ?_⟩
      rcases List.mem_cons.1 hx with rfl | hx
      · omega
      · have := hm x hx; omega
  obtain ⟨m, hm⟩ := this l
  exact ⟨m, fun h => by have := hm m h; omega⟩

/-- What a call's result leaves. -/
def St.putO (s : St) (d : Option Nat) (x : AV) : St :=
  match d with
  | some t => s.put t x
  | none => s

/-- The rule for a call that answers by values alone. -/
theorem callP_ok {s : St} {k : List It} {Q : Exit → St → Prop} {dst : Option Nat} {fv : Operand} {args : Array Operand} {at' : Array TypeId} {ty : TypeId} {pos : String} {af : Array Edge} {g : Option (Nat × Bool)}
    {f : FuncId} {caps : List AV} {ds : List D} {Q0 : AV → Prop} (hc : HP P cf.G f ds Q0)
    (hev : ev s fv = .clo f caps) (hargs : args.toList.map (ev s) ++ caps = ds.map .d) (hdst : ∀ t ∈ dst, t < cf.n) (hk : ∀ r, Q0 r → run P cf k Q (s.putO dst r)) :
    AOk P cf { dst := dst, op := .call { callee := .value fv, args := args, argTypes := at' }, type := ty, pos := pos, after := af, guard := g } s k Q := by
  intro B hB ds' β a w hds h Q'
  refine ⟨fun _ _ => trivial, ?_⟩
  obtain ⟨d, hd⟩ := fresh_nat s.used
  have hf := h.ev fv
  rw [hev] at hf
  generalize hfv : a.eval fv = fval at hf
  cases hf with
  | clo _ cvs _ hcs hcv =>
  have hrun : ∀ vs, vs = (args.toList.map a.eval).toArray ++ cvs → (execOp a.eval { dst := dst, op := .call { callee := .value fv, args := args, argTypes := at' }, type := ty, pos := pos, after := af, guard := g }).run P w = .ok (.enter f vs) w := by
    intro vs hvs
    have e : (execOp a.eval { dst := dst, op := .call { callee := .value fv, args := args, argTypes := at' }, type := ty, pos := pos, after := af, guard := g } : Sem Next) = callFunc f (#[] ++ args.map a.eval ++ cvs) := by
      show (do let d ← (Deferred.ofValue (a.eval fv) (args.map a.eval)); invoke d.target d.args : Sem Next) = _
      rw [hfv]; rfl
    rw [e, ← hc.1 vs w, hvs]
    congr 2
    apply Array.ext'
    simp
  rw [Oper.semAt_eq _ _ _ (by simp), hrun _ rfl, Oper.uponIn_enter]
  refine ⟨fun hdep => by simp [Fw_depth] at hdep, ?_⟩
  have hlen : (ds.map AV.d).length = args.size + caps.length := by
    have := congrArg List.length hargs
    simpa using this.symm
  have hvs : ((args.toList.map a.eval).toArray ++ cvs).size = (ds.map AV.d).length := by simp [hcs] at hlen ⊢; omega
  have hv : ∀ (i : Nat) x, (ds.map AV.d)[i]? = some x → VR w.heap (s.own B.A β) s.used s.hp β (((args.toList.map a.eval).toArray ++ cvs).getD i undef) (x.ren id) := by
    intro i x hi
    rw [AV.ren_id id (fun _ => rfl)]
    have hx := hi
    rw [← hargs] at hx
    by_cases hlt : i < args.size
    · have hx' : (args.toList.map (ev s))[i]? = some x := by rw [← hx, List.getElem?_append_left (by simpa using hlt)]
      have := calls_list h args.toList i _ hx'
      rw [show ((args.toList.map a.eval).toArray ++ cvs).getD i undef = (args.toList.map a.eval).toArray.getD i undef by simp [Array.getD_eq_getD_getElem?, Array.getElem?_append, hlt]]
      exact this
    · have hx' : caps[i - args.size]? = some x := by rw [← hx, List.getElem?_append_right (by simpa using Nat.le_of_not_lt hlt)]; simp
      have := hcv _ _ hx'
      rw [show ((args.toList.map a.eval).toArray ++ cvs).getD i undef = cvs.getD (i - args.size) undef by simp [Array.getD_eq_getD_getElem?, Array.getElem?_append, hlt]]
      exact this
  have hcall := enter_ok (P := P) h (σ := id) (d := d) hd (chp := []) (cu := []) trivial trivial (inUL_d _ _) hvs hv (by rw [hB.2.2]; exact hc)
  have hcall' : CallsIn (Fw cf.ro) (0 - 1) P f ((args.toList.map a.eval).toArray ++ cvs) w _ := hcall
  refine hcall'.mono ?_
  rintro e w' ⟨v, rfl, r, hp', ⟨hQ, hru, rfl⟩, hl⟩
  obtain ⟨β2, hs2, hv2⟩ := hl trivial
  rw [AV.ren_none _ r hru] at hv2
  have hru' := AV.inU_none s.used r hru
  refine ⟨by cases dst <;> exact hds, s.putO dst r, ?_⟩
  cases dst with
  | none =>
    obtain ⟨β3, h3⟩ := h.unuse hs2 rfl (t0 := 0) (x0 := s.fr 0) (fun _ => .inr rfl) rfl (h.slots 0).inU
    exact ⟨β3, run_ok (hk r hQ), h3⟩
  | some t =>
    have h2 := hs2.put (t := t) (by rw [hB.1]; exact hdst t rfl) hv2
    obtain ⟨β3, h3⟩ := h.unuse h2 rfl (t0 := t) (x0 := r) (fun u => by
      by_cases e : u = t
      · exact .inl e
      · exact .inr (by show updN _ _ _ _ = _; simp [updN, e])) (by show updN _ _ _ _ = _; simp [updN]) hru'
    exact ⟨β3, run_ok (hk r hQ), h3⟩

/-! ### Functions -/
theorem enter_run {f : FuncId} {fn : Func} {c : Code} (hf : P.funcs[f]? = some fn) (hb : fn.body = some c) (hn : (fn.name == "runtime.NumGoroutine") = false) (vs : Array Value) (w : World) : (callFunc f vs).run P w = .ok (.enter f vs) w := by
  unfold callFunc
  simp only [Sem.run_bind, run_program, Result.andThen_ok, hf, hn, Bool.false_eq_true, if_false, hb, Option.isNone_some, Sem.run_pure]

theorem RX.intro {α : Type} {φ : α → Prop} {r : R α} {a : α} (h : r = .ok a) (hφ : φ a) : RX r φ := by rw [h]; exact hφ

theorem fq_val {rs : List ResultVar} {u : List Nat} {Q : AV → List (Name × Ob) → Prop} {s : St} {l : List AV} (h : resR P s rs = .ok l) (hu : (retV l).inU [] = true) (hQ : Q (retV l) []) :
    RX (resR P s rs) fun l => ∃ r hp' u' τ, Q r hp' ∧ LeL u τ (retS s (retV l)) [(0, r)] hp' u' :=
  RX.intro h ⟨retV l, [], u, id, hQ, ⟨⟨by show retV l = _; rw [AV.ren_id id (fun _ => rfl)], AV.inU_none u _ hu⟩, trivial⟩, trivial, trivial, by simp, trivial⟩

/-- What is asked of the results of such a function. -/
def okV (Q : AV → Prop) : R (List AV) → Prop
  | .ok l => (retV l).inU [] = true ∧ Q (retV l)
  | .need p r => p ∧ okV Q r
  | .no => False
/-- What is asked where its body is left. -/
def pq (P : Program) (rs : List ResultVar) (Q : AV → Prop) (e : Exit) (s : St) : Prop :=
  match e with
  | .ret => okV Q (resR P s rs)
  | .normal => okV Q (resR P s rs)
  | _ => False
theorem pq_ret (rs : List ResultVar) (Q : AV → Prop) (s : St) : pq P rs Q .ret s = okV Q (resR P s rs) := rfl
theorem pq_normal (rs : List ResultVar) (Q : AV → Prop) (s : St) : pq P rs Q .normal s = okV Q (resR P s rs) := rfl
theorem okV_ok (Q : AV → Prop) (l : List AV) : okV Q (.ok l) = ((retV l).inU [] = true ∧ Q (retV l)) := rfl
theorem okV_need (Q : AV → Prop) (p : Prop) (r : R (List AV)) : okV Q (.need p r) = (p ∧ okV Q r) := rfl
theorem retV_one (x : AV) : retV [x] = x := rfl
theorem retV_two (x y : AV) (r : List AV) : retV (x :: y :: r) = .tup (x :: y :: r) := rfl
theorem retV_nil : retV [] = .tup [] := rfl
theorem okV_RX {Q : AV → Prop} : ∀ {r : R (List AV)}, okV Q r → RX r fun l => ∃ x hp' u' τ, (Q x ∧ x.inU [] = true ∧ hp' = []) ∧ ∀ s : St, LeL [] τ (retS s (retV l)) [(0, x)] hp' u'
  | .ok l, h => ⟨retV l, [], [], id, ⟨h.2, h.1, rfl⟩, fun s => ⟨⟨⟨by show retV l = _; rw [AV.ren_id id (fun _ => rfl)], h.1⟩, trivial⟩, trivial, trivial, rfl, trivial⟩⟩
  | .need _ r, h => ⟨h.1, okV_RX h.2⟩
  | .no, h => h.elim
theorem RX.mono {α : Type} {φ ψ : α → Prop} (h : ∀ x, φ x → ψ x) : ∀ {r : R α}, RX r φ → RX r ψ
  | .ok _, g => h _ g
  | .need _ _, g => ⟨g.1, RX.mono h g.2⟩
  | .no, g => g
/-- A function that answers by values alone, out of its body's run. -/
theorem funP_ok {G : List (Nat × Obj)} {f : FuncId} {fn : Func} {c : Code} {args : List D} {Q : AV → Prop} (hf : P.funcs[f]? = some fn) (hb : fn.body = some c) (hnm : (fn.name == "runtime.NumGoroutine") = false) (hn : args.length ≤ fn.ntmps)
    (h : run P ⟨fn.ntmps, none, G, []⟩ [.code c] (pq P fn.results.toList Q) (mk (argsFr 0 (args.map .d)) [] [])) : HP P G f args Q := by
  refine fun_ok hf hb (enter_run hf hb hnm) (by simpa using hn) (fun e s hq => ?_) h
  cases e with
  | ret => exact (okV_RX hq).mono fun l ⟨x, hp', u', τ, h1, h2⟩ => ⟨x, hp', u', τ, h1, h2 s⟩
  | normal => exact (okV_RX hq).mono fun l ⟨x, hp', u', τ, h1, h2⟩ => ⟨x, hp', u', τ, h1, h2 s⟩
  | exit i => exact hq.elim
  | goto l => exact hq.elim
  | panic c => exact hq.elim
  | outgrown => exact hq.elim
end
end Go.Ab
/-! ### The generic layer, part 20: contracts of the machine (the shelf's) as contracts by values. -/
namespace Go.Ab

/-- Memory has grown; what was there is as it was. -/
structure Ext (w w' : World) : Prop where
  io : wio w' = wio w
  size : w.heap.size ≤ w'.heap.size
  old : ∀ b, b < w.heap.size → w'.heap[b]? = w.heap[b]?
theorem Ext.refl (w : World) : Ext w w := ⟨rfl, Nat.le_refl _, fun _ _ => rfl⟩
theorem Ext.grow (w : World) (k : Nat) (os : Array Obj) : Ext w (Sort.grow (w.drewN k) os) := by
  have h := Lib.below_grow w.heap.size w (Nat.le_refl _) k os
  exact ⟨by show (_, _) = (_, _); rw [h.os, h.output], h.size, h.block⟩

/-- A plain datum's value. -/
def D.val : D → Option Value
  | .int k n => some (.int k n)
  | .bool b => some (.bool b)
  | .str s => some (.string ⟨s.toArray⟩)
  | .nilp => some (.pointer none)
  | .nils => some (.slice none 0 0)
  | .nilm => some (.map none)
  | .nilf => some .nilFunc
  | .nili => some .nilIface
  | _ => none
theorem Rep.val {H : Array Obj} {own : Nat → Prop} {v u : Value} {d : D} (h : Rep H own v d) (hd : d.val = some u) : v = u := by
  cases h <;> simp [D.val] at hd <;> first | exact hd | exact hd.symm
theorem D.val_rep {H : Array Obj} {own : Nat → Prop} {v : Value} {d : D} (h : d.val = some v) : Rep H own v d := by
  cases d <;> simp [D.val] at h <;> subst h <;> constructor
def vals : List D → Option (List Value)
  | [] => some []
  | d :: r => match d.val, vals r with
    | some v, some vs => some (v :: vs)
    | _, _ => none
theorem vals_get : ∀ {l : List D} {vs : List Value}, vals l = some vs → vs.length = l.length ∧ ∀ (i : Nat) d, l[i]? = some d → d.val = vs[i]?
  | [], vs, h => by simp only [vals, Option.some.injEq] at h; subst h; exact ⟨rfl, by simp⟩
  | d :: r, vs, h => by
    simp only [vals] at h
    split at h
    · rename_i v vs' h1 h2
      simp only [Option.some.injEq] at h
      subst h
      obtain ⟨g1, g2⟩ := vals_get h2
      refine ⟨by simp [g1], fun i e hi => ?_⟩
      cases i with
      | zero => simp at hi; subst hi; simpa using h1
      | succ i => simpa using g2 i e (by simpa using hi)
    · cases h

section
variable {P : Program}

/-- A contract of the machine at plain arguments. -/
theorem HP_of_calls {G : List (Nat × Obj)} {f : FuncId} {args : List D} {vs : List Value} {Q : AV → Prop} (he : ∀ vs w, (callFunc f vs).run P w = .ok (.enter f vs) w) (hv : vals args = some vs)
    (h : ∀ w : World, (∀ q ∈ G, w.heap[q.1]? = some q.2) → Calls P f vs.toArray w fun e w' => ∃ v d, e = .returned v ∧ Q (.d d) ∧ d.val = some v ∧ Ext w w') : HP P G f args Q := by
  refine ⟨he, fun B β tm w h1 h2 h3 h4 hs => ?_⟩
  obtain ⟨g1, g2⟩ := vals_get hv
  have htm : tm = vs.toArray := by
    have hsz : tm.size = args.length := by rw [hs.tms, h1]; simp
    apply Array.ext
    · rw [hsz]; simp [g1]
    · intro i hi hi'
      have hlt : i < args.length := by omega
      have := hs.slots i
      rw [mk_fr, argsFr_get, if_pos (Nat.zero_le _), Nat.sub_zero, List.getElem?_map, List.getElem?_eq_getElem hlt] at this
      have hr := this.toD.val (g2 i _ (List.getElem?_eq_getElem hlt) ▸ List.getElem?_eq_getElem (by omega : i < vs.length))
      simpa [Array.getD_eq_getD_getElem?, hi] using hr
  subst htm
  have hcl := (callsIn_wide (n := 0)).2 (h w fun q hq => by
    obtain ⟨k1, k2⟩ := B.hG q (h4 ▸ hq)
    rw [← h2]; exact k1)
  refine hcl.mono ?_
  rintro e w' ⟨v, d, rfl, hQ, hrep, hext⟩
  refine ⟨v, .d d, [], [], β, rfl, ⟨hQ, rfl, rfl⟩, ?_⟩
  have hno : ∀ p, ¬ nm B.U0 p := fun p hp => by
    obtain ⟨a, t, _, ha⟩ := hp
    rw [show B.U0 = [] from h3] at ha; cases ha
  have hnone : ∀ p, (mk [(0, AV.d d)] [] []).hp p = none := fun _ => rfl
  refine { tms := rfl, io := hext.io.trans hs.io, size := Nat.le_trans hs.size hext.size, frame := fun b hb hn => ?_, slots := fun t => ?_, objs := fun p o ho => (by cases ho), blocks := fun p k hp => (by exact absurd rfl hp), inj := fun p q k l hp => (by exact absurd rfl hp), us := fun x hx => (by rw [show B.U0 = [] from h3] at hx; cases hx), stay := fun p hp => (hno p hp).elim }
  · rw [hext.old b (Nat.lt_of_lt_of_le hb hs.size)]; exact hs.frame b hb hn
  · rw [mk_fr, lkA_cons, lkA_nil]
    by_cases ht : t = 0
    · subst ht
      rw [if_pos rfl]
      exact .d _ _ (D.val_rep hrep)
    · rw [if_neg ht]; exact .un _
end
end Go.Ab
