/-
  The generic layer, part 18: the rule for calls, closed.
-/
import Derived.Test.YtmplpdjddjiioaaDoorB8
namespace Go.Ab
section
variable {P : Program} {cf : Cf}

/-- The state behind a call whose result is taken, or is not. -/
def aftD (s : St) (σ : Name → Name) (d : Nat) (dst : Option Nat) (chp hp' : List (Name × Ob)) (r : AV) : St :=
  match dst with
  | some _ => aft s σ d chp hp' r
  | none => { aft s σ d chp hp' r with fr := s.fr }

theorem list_own {fr : List (Nat × AV)} {chp : List (Name × Ob)} {u : List Nat} {A : Nat → Prop} {β : Name → Option Blk} {b : Nat} (h : (mk fr chp u).own A β b) : A b ∨ ∃ p k o, lkA none (chp.map fun x => (x.1, some x.2)) p = some o ∧ β p = some k ∧ k.b = b := by
  rcases h with h | ⟨p, k, hp, hk, e⟩
  · exact .inl h
  · cases ho : (mk fr chp u).hp p with
    | none => exact absurd ho hp
    | some o => exact .inr ⟨p, k, o, ho, hk, e⟩

/-- A function that has a contract is called. -/
theorem enter_ok {B : Base} {β : Name → Option Blk} {s : St} {tm : Array Value} {w : World} (h : Sim B β s tm w) {f : FuncId} {cargs : List AV} {chp : List (Name × Ob)} {cu : List Nat} {Q0 : AV → List (Name × Ob) → Prop} {σ : Name → Name} {d : Nat} (hd : d ∉ s.used)
    (hpass : passL σ cu s chp) (hinj : injL σ chp) (hcu : inUL cu cargs = true) {vs : Array Value} (hvs : vs.size = cargs.length) (hv : ∀ (i : Nat) x, cargs[i]? = some x → VR w.heap (s.own B.A β) s.used s.hp β (vs.getD i undef) (x.ren σ)) (hc : HCall P B.G f cargs chp cu Q0) :
    CallsIn Fence.wide 0 P f vs w fun e w' => ∃ v, e = .returned v ∧ ∃ r hp', Q0 r hp' ∧ (likeM chp hp' → ∃ β2, Sim B β2 { aft s σ d chp hp' r with fr := s.fr } tm w' ∧
      VR w'.heap ((aft s σ d chp hp' r).own B.A β2) (d :: s.used) (aft s σ d chp hp' r).hp β2 v (r.ren (aftN σ d chp))) := by
  obtain ⟨O0', hO⟩ : ∃ O0' : Nat → Prop, ∀ b, O0' b ↔ ∃ p k, chp.any (fun q => q.1 == p) = true ∧ β (σ p) = some k ∧ k.b = b := ⟨_, fun _ => Iff.rfl⟩
  obtain ⟨A', hA⟩ : ∃ A' : Nat → Prop, ∀ b, A' b ↔ s.own B.A β b ∧ ¬ O0' b := ⟨_, fun _ => Iff.rfl⟩
  have hA' : ∀ b, A' b → b < w.heap.size := fun b hb => h.own_lt ((hA b).1 hb).1
  have hG' : ∀ q ∈ B.G, w.heap[q.1]? = some q.2 ∧ ¬ O0' q.1 := fun q hq => by
    obtain ⟨g1, g2⟩ := B.hG q hq
    have hlt := lt_of_some g1
    refine ⟨(h.frame _ hlt g2).trans g1, fun hb => ?_⟩
    obtain ⟨p, k, hp, hk, e⟩ := (hO _).1 hb
    obtain ⟨o, ho⟩ := lkS_any hp
    obtain ⟨h1, _, _⟩ := passL_mem hpass _ (lkS ho)
    obtain ⟨_, _, g3⟩ := h.blocks (σ p) k (by rw [h1]; simp) hk
    rcases g3 with g3 | g3
    · omega
    · exact g2 (e ▸ g3)
  have hβc : ∀ p, chp.any (fun q => q.1 == p) = true → (fun p => β (σ p)) p = β (σ p) := fun _ _ => rfl
  have live : ∀ p o, lkA none (chp.map fun x => (x.1, some x.2)) p = some o → s.hp (σ p) = some (o.ren σ) ∧ o.inU cu = true ∧ nm cu p := fun p o ho => by
    obtain ⟨h1, h2, h3⟩ := passL_mem hpass _ (lkS ho)
    exact ⟨h1, h2, nmb_nm h3⟩
  have hown : ∀ b, (mk (argsFr 0 cargs) chp cu).own A' (fun p => β (σ p)) b → s.own B.A β b := by
    intro b hb
    rcases list_own hb with hb | ⟨p, k, o, ho, hk, rfl⟩
    · exact ((hA b).1 hb).1
    · exact .inr ⟨σ p, k, by rw [(live p o ho).1]; simp, hk, rfl⟩
  have hr : ∀ v d, Rep w.heap (s.own B.A β) v d → Rep w.heap ((mk (argsFr 0 cargs) chp cu).own A' (fun p => β (σ p))) v d := fun v d hd => hd.mono (fun _ _ _ => rfl) (fun b _ => hown b)
  have hob : ∀ p o, (mk (argsFr 0 cargs) chp cu).hp p = some o → s.hp (σ p) = some (o.ren σ) ∧ (fun p => β (σ p)) p = β (σ p) := fun p o ho => ⟨(live p o ho).1, rfl⟩
  have hsim : Sim { n := cargs.length, io := B.io, G := B.G, H0 := w.heap, O0 := O0', A := A', U0 := cu, β0 := fun p => β (σ p), hA := hA', hG := hG' } (fun p => β (σ p)) (mk (argsFr 0 cargs) chp cu) vs w := by
    refine { tms := hvs, io := h.io, size := Nat.le_refl _, frame := fun _ _ _ => rfl, slots := fun t => ?_, objs := fun p o ho => ⟨(live p o ho).2.2, OR.ren hr hob rfl (live p o ho).2.1 (h.objs _ _ (live p o ho).1).2⟩, blocks := fun p k hp hk => ?_, inj := fun p q k l hp hq hk hl e => ?_, us := fun _ hx => hx, stay := fun _ _ => rfl }
    · rw [mk_fr, argsFr_get, if_pos (Nat.zero_le _), Nat.sub_zero]
      cases ht : cargs[t]? with
      | none => exact .un _
      | some x => exact (hv t x ht).ren hr hob x rfl (inUL_get hcu t x ht)
    · cases ho : (mk (argsFr 0 cargs) chp cu).hp p with
      | none => exact absurd ho hp
      | some o =>
        have hin : O0' k.b := (hO _).2 ⟨p, k, List.any_eq_true.2 ⟨_, lkS ho, by simp⟩, hk, rfl⟩
        obtain ⟨g1, _, _⟩ := h.blocks (σ p) k (by rw [(live p o ho).1]; simp) hk
        exact ⟨g1, fun ha => ((hA _).1 ha).2 hin, .inr hin⟩
    · cases ho : (mk (argsFr 0 cargs) chp cu).hp p with
      | none => exact absurd ho hp
      | some o =>
        cases ho' : (mk (argsFr 0 cargs) chp cu).hp q with
        | none => exact absurd ho' hq
        | some o' =>
          have e2 := h.inj (σ p) (σ q) k l (by rw [(live p o ho).1]; simp) (by rw [(live q o' ho').1]; simp) hk hl e
          exact injL_mem hinj _ (lkS ho) _ (lkS ho') e2
  have hgo := fun h1 h2 h3 h4 => hc.2 _ _ vs w h1 h2 h3 h4 hsim
  refine (hgo rfl rfl rfl rfl).mono ?_
  rintro e w' ⟨v, r, hp', u', β', rfl, hQ, hs⟩
  exact ⟨v, rfl, r, hp', hQ, fun hl => aft_sim h hd hpass hinj hβc hO hA hA' hG' hl hs⟩

theorem calls_list {s : St} {B : Base} {β : Name → Option Blk} {a : Act} {w : World} (h : Sim B β s a.tmps w) (as : List Operand) (i : Nat) (x : AV) (hx : (as.map (ev s))[i]? = some x) : VR w.heap (s.own B.A β) s.used s.hp β ((as.map a.eval).toArray.getD i undef) x := by
  rw [List.getElem?_map, Option.map_eq_some_iff] at hx
  obtain ⟨y, hy, rfl⟩ := hx
  have e : (as.map a.eval).toArray.getD i undef = a.eval y := by simp [Array.getD_eq_getD_getElem?, hy]
  rw [e]; exact h.ev y

/-- The rule for a call of a function's value. -/
theorem call_ok {s : St} {k : List It} {Q : Exit → St → Prop} {dst : Option Nat} {fv : Operand} {args : Array Operand} {at' : Array TypeId} {ty : TypeId} {pos : String} {af : Array Edge} {g : Option (Nat × Bool)}
    (d : Nat) (σ : Name → Name) (cargs : List AV) (chp : List (Name × Ob)) (cu : List Nat) (Q0 : AV → List (Name × Ob) → Prop) {f : FuncId} {caps : List AV}
    (hev : ev s fv = .clo f caps) (hargs : args.toList.map (ev s) ++ caps = renL σ cargs) (hcu : inUL cu cargs = true) (hd : d ∉ s.used) (hdst : ∀ t ∈ dst, t < cf.n ∧ t = d)
    (hpass : passL σ cu s chp) (hinj : injL σ chp) (hc : HCall P cf.G f cargs chp cu Q0) (hk : ∀ r hp', Q0 r hp' → likeM chp hp' ∧ run P cf k Q (aftD s σ d dst chp hp' r)) :
    AOk P cf { dst := dst, op := .call { callee := .value fv, args := args, argTypes := at' }, type := ty, pos := pos, after := af, guard := g } s k Q := by
  intro B hB ds β a w hds h Q'
  refine ⟨fun _ _ => trivial, ?_⟩
  have hf := h.ev fv
  rw [hev] at hf
  generalize hfv : a.eval fv = fval at hf
  cases hf with
  | clo _ cvs _ hcs hcv =>
  have hrun : ∀ vs, vs = (args.toList.map a.eval).toArray ++ cvs → (execOp a.eval { dst := dst, op := .call { callee := .value fv, args := args, argTypes := at' }, type := ty, pos := pos, after := af, guard := g }).run P w = .ok (.enter f vs) w := by
    intro vs hvs
    have e : (execOp a.eval { dst := dst, op := .call { callee := .value fv, args := args, argTypes := at' }, type := ty, pos := pos, after := af, guard := g } : Sem Next) = callFunc f (#[] ++ args.map a.eval ++ cvs) := by
      show (do let d ← (Deferred.ofValue (a.eval fv) (args.map a.eval)); invoke d.target d.args : Sem Next) = _
      rw [hfv]; rfl
    rw [e, ← hc.1 vs w, hvs]
    congr 2
    apply Array.ext'
    simp
  rw [Oper.semAt_eq _ _ _ (by simp), hrun _ rfl, Oper.uponIn_enter]
  refine ⟨fun hdep => by simp [Fw_depth] at hdep, ?_⟩
  have hlen : cargs.length = args.size + caps.length := by
    have := congrArg List.length hargs
    rw [renL_length] at this
    simpa using this.symm
  have hvs : ((args.toList.map a.eval).toArray ++ cvs).size = cargs.length := by simp [hcs, hlen]
  have hv : ∀ (i : Nat) x, cargs[i]? = some x → VR w.heap (s.own B.A β) s.used s.hp β (((args.toList.map a.eval).toArray ++ cvs).getD i undef) (x.ren σ) := by
    intro i x hi
    have hx : (renL σ cargs)[i]? = some (x.ren σ) := by rw [renL_get, hi]; rfl
    rw [← hargs] at hx
    by_cases hlt : i < args.size
    · have hx' : (args.toList.map (ev s))[i]? = some (x.ren σ) := by rw [← hx, List.getElem?_append_left (by simpa using hlt)]
      have := calls_list h args.toList i _ hx'
      rw [show ((args.toList.map a.eval).toArray ++ cvs).getD i undef = (args.toList.map a.eval).toArray.getD i undef by simp [Array.getD_eq_getD_getElem?, Array.getElem?_append, hlt]]
      exact this
    · have hx' : caps[i - args.size]? = some (x.ren σ) := by rw [← hx, List.getElem?_append_right (by simpa using Nat.le_of_not_lt hlt)]; simp
      have := hcv _ _ hx'
      rw [show ((args.toList.map a.eval).toArray ++ cvs).getD i undef = cvs.getD (i - args.size) undef by simp [Array.getD_eq_getD_getElem?, Array.getElem?_append, hlt]]
      exact this
  have hcall := enter_ok (P := P) h (σ := σ) hd hpass hinj hcu hvs hv (by rw [hB.2.2]; exact hc)
  have hcall' : CallsIn (Fw cf.ro) (0 - 1) P f ((args.toList.map a.eval).toArray ++ cvs) w _ := hcall
  refine hcall'.mono ?_
  rintro e w' ⟨v, rfl, r, hp', hQ, hl⟩
  obtain ⟨hlk, hrun'⟩ := hk r hp' hQ
  obtain ⟨β2, hs2, hv2⟩ := hl hlk
  refine ⟨by cases dst <;> exact hds, aftD s σ d dst chp hp' r, β2, run_ok hrun', ?_⟩
  cases dst with
  | none => exact hs2
  | some t =>
    obtain ⟨ht, rfl⟩ := hdst t rfl
    exact hs2.put (by rw [hB.1]; exact ht) hv2
end
end Go.Ab
