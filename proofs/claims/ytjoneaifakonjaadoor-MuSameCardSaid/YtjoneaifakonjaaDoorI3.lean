/-
  The generic layer, part 44: calls that look at arrays that the caller goes on owning: they are handed in as plain data, where what is handed back names none of them. (with the parts that follow it)
-/
import Derived.Test.YtjoneaifakonjaaDoorH9
import Derived.Maps.RangeRun
set_option linter.all false
/-! ### The generic layer, part 44: calls that look at arrays that the caller goes on owning: they are handed in as plain data, where what is handed back names none of them. -/
namespace Go.Ab
mutual
/-- Data that lies in no memory. -/
def D.flat : D → Bool
  | .int _ _ => true
  | .bool _ => true
  | .str _ => true
  | .nilp => true
  | .nils => true
  | .nilm => true
  | .nilf => true
  | .nili => true
  | .sl _ xs => xs.isEmpty
  | .agg cs => flatL cs
  | .ptr _ => false
  | .clo _ cs => flatL cs
  | .ifc _ d => d.flat
  | .mpd _ _ _ _ => false
  | .yl _ => true
def flatL : List D → Bool
  | [] => true
  | d :: r => d.flat && flatL r
end
mutual
def AV.flat : AV → Bool
  | .un => true
  | .d x => x.flat
  | .vw _ _ _ => true
  | .bx _ _ => true
  | .el _ _ _ => true
  | .mp _ => true
  | .it _ => true
  | .agg cs => flatAL cs
  | .tup cs => flatAL cs
  | .clo _ cs => flatAL cs
def flatAL : List AV → Bool
  | [] => true
  | x :: r => x.flat && flatAL r
end
def flatE : List (D × D) → Bool
  | [] => true
  | x :: r => x.1.flat && x.2.flat && flatE r
def Ob.flat : Ob → Bool
  | .arr _ xs => flatL xs
  | .box cs => flatAL cs
  | .map es => flatE es
  | .siter _ _ => true
  | .miter _ _ _ => false
def flatH : List (Name × Ob) → Bool
  | [] => true
  | x :: r => x.2.flat && flatH r
theorem flatL_get : ∀ {l : List D}, flatL l = true → ∀ (i : Nat) d, l[i]? = some d → d.flat = true
  | [], _, i, d, h => by simp at h
  | x :: r, hf, i, d, h => by
    simp only [flatL, Bool.and_eq_true] at hf
    cases i with
    | zero => cases h; exact hf.1
    | succ i => exact flatL_get hf.2 i d (by simpa using h)
theorem flatAL_get : ∀ {l : List AV}, flatAL l = true → ∀ (i : Nat) x, l[i]? = some x → x.flat = true
  | [], _, i, d, h => by simp at h
  | x :: r, hf, i, d, h => by
    simp only [flatAL, Bool.and_eq_true] at hf
    cases i with
    | zero => cases h; exact hf.1
    | succ i => exact flatAL_get hf.2 i d (by simpa using h)
theorem flatE_get : ∀ {l : List (D × D)}, flatE l = true → ∀ (i : Nat) x, l[i]? = some x → x.1.flat = true ∧ x.2.flat = true
  | [], _, i, d, h => by simp at h
  | x :: r, hf, i, d, h => by
    simp only [flatE, Bool.and_eq_true] at hf
    cases i with
    | zero => cases h; exact hf.1
    | succ i => exact flatE_get hf.2 i d (by simpa using h)
theorem flatH_mem : ∀ {l : List (Name × Ob)}, flatH l = true → ∀ q ∈ l, q.2.flat = true
  | [], _, q, h => by simp at h
  | x :: r, hf, q, h => by
    simp only [flatH, Bool.and_eq_true] at hf
    rcases List.mem_cons.1 h with rfl | h
    · exact hf.1
    · exact flatH_mem hf.2 q h
theorem Rep.reown {H H' : Array Obj} {own own' : Nat → Prop} {v : Value} {d : D} (h : Rep H own v d) : d.flat = true → Rep H' own' v d := by
  induction h with
  | int k n => exact fun _ => .int k n
  | bool b => exact fun _ => .bool b
  | str l => exact fun _ => .str l
  | nilp => exact fun _ => .nilp
  | nils => exact fun _ => .nils
  | nilm => exact fun _ => .nilm
  | nilf => exact fun _ => .nilf
  | nili => exact fun _ => .nili
  | yl l => exact fun _ => .yl l
  | agg vs cs hs hc _ ih => exact fun hf => .agg vs cs hs hc fun i d hi => ih i d hi (flatL_get hf i d hi)
  | sl0 a cap w => exact fun _ => .sl0 a cap w
  | sl b o cap c e fz w xs hb hn hcap hz hw _ ih =>
    intro hf
    have : xs = [] := by simpa [D.flat] using hf
    subst this
    exact .sl0 _ _ _
  | ptr b o c e fz d hb hn hz hsc _ ih => intro hf; cases hf
  | clo f vs cs hs _ ih => exact fun hf => .clo f vs cs hs fun i d hi => ih i d hi (flatL_get hf i d hi)
  | ifc t v d _ ih => exact fun hf => .ifc t v d (ih hf)
  | mpd b clk ents bs ks vs hb hn hs hbs _ _ ih1 ih2 => intro hf; cases hf
section
variable {H : Array Obj} {own own' : Nat → Prop} {used : List Nat} {hp : Name → Option Ob} {β : Name → Option Blk}
theorem VR.reown {v : Value} {x : AV} (h : VR H own used hp β v x) : x.flat = true → VR H own' used hp β v x := by
  induction h with
  | un v => exact fun _ => .un v
  | d v x h => exact fun hf => .d v x (h.reown hf)
  | vw v p off len hu h1 h => exact fun _ => .vw v p off len hu h1 h
  | bx v p c hu h1 h => exact fun _ => .bx v p c hu h1 h
  | el v p i c hu h1 h => exact fun _ => .el v p i c hu h1 h
  | mp v p hu h1 h => exact fun _ => .mp v p hu h1 h
  | its v p hu h1 h h' => exact fun _ => .its v p hu h1 h h'
  | agg vs cs hs hc _ ih => exact fun hf => .agg vs cs hs hc fun i x hi => ih i x hi (flatAL_get hf i x hi)
  | tup vs cs hs _ ih => exact fun hf => .tup vs cs hs fun i x hi => ih i x hi (flatAL_get hf i x hi)
  | clo f vs cs hs _ ih => exact fun hf => .clo f vs cs hs fun i x hi => ih i x hi (flatAL_get hf i x hi)
theorem cells_flat {d : D} (h : d.flat = true) : flatL d.cells = true := by
  cases d <;> first | exact h | (simp only [D.cells, flatL, Bool.and_true]; exact h)
theorem OR.reown {p : Name} {o : Ob} (h : OR H own used hp β p o) (hf : o.flat = true) : OR H own' used hp β p o := by
  cases o with
  | arr w xs =>
    rcases h with h | ⟨k, c, e, hk, hc, hz, hl, hw, h⟩
    · exact .inl h
    · exact .inr ⟨k, c, e, hk, hc, hz, hl, hw, fun i x j d hi hj => (h i x j d hi hj).reown (flatL_get (cells_flat (flatL_get hf i x hi)) j d hj)⟩
  | box cs =>
    obtain ⟨k, c, e, hk, ho, hc, hz, hl, h1, h⟩ := h
    exact ⟨k, c, e, hk, ho, hc, hz, hl, h1, fun j x hj => (h j x hj).reown (flatAL_get hf j x hj)⟩
  | map es =>
    obtain ⟨k, ents, clock, hk, hc, hz, h⟩ := h
    refine ⟨k, ents, clock, hk, hc, hz, fun i x hi => ?_⟩
    obtain ⟨en, h1, h2, h3⟩ := h i x hi
    obtain ⟨g1, g2⟩ := flatE_get hf i x hi
    exact ⟨en, h1, h2.reown g1, h3.reown g2⟩
  | siter s pos => exact h
  | miter _ _ _ => cases hf
end
/-- More blocks may be foreign, where nothing that is known lies in memory. -/
theorem Sim.reown {n : Nat} {io : Os × Array (Nat × ByteArray)} {G : List (Nat × Obj)} {H0 : Array Obj} {O0 A A2 : Nat → Prop} {U0 : List Nat} {β0 : Name → Option Blk} {hA : ∀ b, A b → b < H0.size} {hA2 : ∀ b, A2 b → b < H0.size} {hG : ∀ q ∈ G, H0[q.1]? = some q.2 ∧ ¬ O0 q.1}
    {β : Name → Option Blk} {fr : List (Nat × AV)} {hp : List (Name × Ob)} {u : List Nat} {tm : Array Value} {w : World}
    (h : Sim ⟨n, io, G, H0, O0, A, U0, β0, hA, hG⟩ β (Go.Ab.mk fr hp u) tm w) (hO : ∀ b, A2 b → ¬ O0 b) (hf : ∀ t, (lkA AV.un fr t).flat = true) (hh : flatH hp = true) : Sim ⟨n, io, G, H0, O0, A2, U0, β0, hA2, hG⟩ β (Go.Ab.mk fr hp u) tm w := by
  refine { tms := h.tms, io := h.io, size := h.size, frame := h.frame, slots := fun t => (h.slots t).reown (hf t), objs := fun p o ho => ?_, blocks := fun p k hp hk => ?_, inj := h.inj, us := h.us, stay := h.stay }
  · obtain ⟨h1, h2⟩ := h.objs p o ho
    exact ⟨h1, h2.reown (flatH_mem hh _ (mk_hp_mem ho))⟩
  · obtain ⟨h1, _, h3⟩ := h.blocks p k hp hk
    refine ⟨h1, fun ha => ?_, h3⟩
    rcases h3 with h3 | h3
    · exact absurd (hA2 _ ha) (Nat.not_lt.2 h3)
    · exact hO _ ha h3
/-- The state in which some arrays are data. -/
def St.frzL (s : St) (L : List (Name × W × List D)) : St := L.foldl (fun s q => s.frz q.1 q.2.1 q.2.2) s
theorem frzL_nil (s : St) : s.frzL [] = s := rfl
theorem frzL_cons (s : St) (q : Name × W × List D) (L) : s.frzL (q :: L) = (s.frz q.1 q.2.1 q.2.2).frzL L := rfl
theorem frzL_fr : ∀ (L : List (Name × W × List D)) (s : St) (t : Nat), (s.frzL L).fr t = frzs L (s.fr t)
  | [], _, _ => rfl
  | q :: L, s, t => by rw [frzL_cons, frzL_fr L]; rfl
theorem frzL_used : ∀ (L : List (Name × W × List D)) (s : St), (s.frzL L).used = s.used
  | [], _ => rfl
  | q :: L, s => by rw [frzL_cons, frzL_used L]; rfl
theorem frzL_hp : ∀ (L : List (Name × W × List D)) (s : St) (p : Name) (o : Ob), (s.frzL L).hp p = some o → s.hp p = some o
  | [], _, _, _, h => h
  | q :: L, s, p, o, h => by
    have := frzL_hp L _ p o h
    have h2 : updP s.hp q.1 none p = some o := this
    unfold updP at h2
    split at h2
    · cases h2
    · exact h2
theorem frzL_sim {B : Base} {β : Name → Option Blk} {tm : Array Value} {w : World} : ∀ (L : List (Name × W × List D)) (s : St), Sim B β s tm w → Lok s L → Sim B β (s.frzL L) tm w
  | [], _, h, _ => h
  | _ :: L, _, h, hl => frzL_sim L _ (h.frz hl.1) hl.2
/-- A call is entered: arrays are handed in as data; what is handed back is theirs not. -/
theorem enterB_ok {P : Program} {B : Base} {β : Name → Option Blk} {s s' : St} {tm tm' : Array Value} {w : World} (h : Sim B β s tm w) (h' : Sim B β s' tm' w) (hsub : ∀ p o, s'.hp p = some o → s.hp p = some o) {f : FuncId} {cargs : List AV} {chp : List (Name × Ob)} {cu : List Nat} {Q0 : AV → List (Name × Ob) → Prop} {σ : Name → Name} {d : Nat} (hd : d ∉ s.used)
    (hpass : passL σ cu s' chp) (hinj : injL σ chp) (hcu : inUL cu cargs = true) {vs : Array Value} (hvs : vs.size = cargs.length) (hv : ∀ (i : Nat) x, cargs[i]? = some x → VR w.heap (s'.own B.A β) s'.used s'.hp β (vs.getD i undef) (x.ren σ)) (hc : HCall P B.G f cargs chp cu Q0)
    (hflat : ∀ r hp', Q0 r hp' → r.flat = true ∧ flatH hp' = true) :
    CallsIn Fence.wide 0 P f vs w fun e w' => ∃ v, e = .returned v ∧ ∃ r hp', Q0 r hp' ∧ (likeM chp hp' → ∃ β2, Sim B β2 { aft s σ d chp hp' r with fr := s.fr } tm w' ∧
      VR w'.heap ((aft s σ d chp hp' r).own B.A β2) (d :: s.used) (aft s σ d chp hp' r).hp β2 v (r.ren (aftN σ d chp))) := by
  obtain ⟨O0', hO⟩ : ∃ O0' : Nat → Prop, ∀ b, O0' b ↔ ∃ p k, chp.any (fun q => q.1 == p) = true ∧ β (σ p) = some k ∧ k.b = b := ⟨_, fun _ => Iff.rfl⟩
  obtain ⟨A', hA⟩ : ∃ A' : Nat → Prop, ∀ b, A' b ↔ s'.own B.A β b ∧ ¬ O0' b := ⟨_, fun _ => Iff.rfl⟩
  obtain ⟨A2, hA2⟩ : ∃ A2 : Nat → Prop, ∀ b, A2 b ↔ s.own B.A β b ∧ ¬ O0' b := ⟨_, fun _ => Iff.rfl⟩
  have hA' : ∀ b, A' b → b < w.heap.size := fun b hb => h'.own_lt ((hA b).1 hb).1
  have hA2' : ∀ b, A2 b → b < w.heap.size := fun b hb => h.own_lt ((hA2 b).1 hb).1
  have hpass0 : passL σ cu s chp := by
    clear hinj hO hcu hv hc
    induction chp with
    | nil => trivial
    | cons q r ih => exact ⟨⟨hsub _ _ hpass.1.1, hpass.1.2⟩, ih hpass.2⟩
  have hG' : ∀ q ∈ B.G, w.heap[q.1]? = some q.2 ∧ ¬ O0' q.1 := fun q hq => by
    obtain ⟨g1, g2⟩ := B.hG q hq
    have hlt := lt_of_some g1
    refine ⟨(h.frame _ hlt g2).trans g1, fun hb => ?_⟩
    obtain ⟨p, k, hp, hk, e⟩ := (hO _).1 hb
    obtain ⟨o, ho⟩ := lkS_any hp
    obtain ⟨h1, _, _⟩ := passL_mem hpass0 _ (lkS ho)
    obtain ⟨_, _, g3⟩ := h.blocks (σ p) k (by rw [h1]; simp) hk
    rcases g3 with g3 | g3
    · omega
    · exact g2 (e ▸ g3)
  have hβc : ∀ p, chp.any (fun q => q.1 == p) = true → (fun p => β (σ p)) p = β (σ p) := fun _ _ => rfl
  have live : ∀ p o, lkA none (chp.map fun x => (x.1, some x.2)) p = some o → s'.hp (σ p) = some (o.ren σ) ∧ o.inU cu = true ∧ nm cu p := fun p o ho => by
    obtain ⟨h1, h2, h3⟩ := passL_mem hpass _ (lkS ho)
    exact ⟨h1, h2, nmb_nm h3⟩
  have hown : ∀ b, (mk (argsFr 0 cargs) chp cu).own A' (fun p => β (σ p)) b → s'.own B.A β b := by
    intro b hb
    rcases list_own hb with hb | ⟨p, k, o, ho, hk, rfl⟩
    · exact ((hA b).1 hb).1
    · exact .inr ⟨σ p, k, by rw [(live p o ho).1]; simp, hk, rfl⟩
  have hr : ∀ v d, Rep w.heap (s'.own B.A β) v d → Rep w.heap ((mk (argsFr 0 cargs) chp cu).own A' (fun p => β (σ p))) v d := fun v d hd => hd.mono (fun _ _ _ => rfl) (fun b _ => hown b)
  have hob : ∀ p o, (mk (argsFr 0 cargs) chp cu).hp p = some o → s'.hp (σ p) = some (o.ren σ) ∧ (fun p => β (σ p)) p = β (σ p) := fun p o ho => ⟨(live p o ho).1, rfl⟩
  have hsim : Sim { n := cargs.length, io := B.io, G := B.G, H0 := w.heap, O0 := O0', A := A', U0 := cu, β0 := fun p => β (σ p), hA := hA', hG := hG' } (fun p => β (σ p)) (mk (argsFr 0 cargs) chp cu) vs w := by
    refine { tms := hvs, io := h.io, size := Nat.le_refl _, frame := fun _ _ _ => rfl, slots := fun t => ?_, objs := fun p o ho => ⟨(live p o ho).2.2, OR.ren hr hob rfl (live p o ho).2.1 (h'.objs _ _ (live p o ho).1).2⟩, blocks := fun p k hp hk => ?_, inj := fun p q k l hp hq hk hl e => ?_, us := fun _ hx => hx, stay := fun _ _ => rfl }
    · rw [mk_fr, argsFr_get, if_pos (Nat.zero_le _), Nat.sub_zero]
      cases ht : cargs[t]? with
      | none => exact .un _
      | some x => exact (hv t x ht).ren hr hob x rfl (inUL_get hcu t x ht)
    · cases ho : (mk (argsFr 0 cargs) chp cu).hp p with
      | none => exact absurd ho hp
      | some o =>
        have hin : O0' k.b := (hO _).2 ⟨p, k, List.any_eq_true.2 ⟨_, lkS ho, by simp⟩, hk, rfl⟩
        obtain ⟨g1, _, _⟩ := h'.blocks (σ p) k (by rw [(live p o ho).1]; simp) hk
        exact ⟨g1, fun ha => ((hA _).1 ha).2 hin, .inr hin⟩
    · cases ho : (mk (argsFr 0 cargs) chp cu).hp p with
      | none => exact absurd ho hp
      | some o =>
        cases ho' : (mk (argsFr 0 cargs) chp cu).hp q with
        | none => exact absurd ho' hq
        | some o' =>
          have e2 := h'.inj (σ p) (σ q) k l (by rw [(live p o ho).1]; simp) (by rw [(live q o' ho').1]; simp) hk hl e
          exact injL_mem hinj _ (lkS ho) _ (lkS ho') e2
  have hgo := fun h1 h2 h3 h4 => hc.2 _ _ vs w h1 h2 h3 h4 hsim
  refine (hgo rfl rfl rfl rfl).mono ?_
  rintro e w' ⟨v, r, hp', u', β', rfl, hQ, hs⟩
  obtain ⟨f1, f2⟩ := hflat r hp' hQ
  have hs2 := hs.reown (A2 := A2) (hA2 := hA2') (fun b hb => ((hA2 b).1 hb).2) (fun t => by
    simp only [lkA]
    split
    · exact f1
    · rfl) f2
  exact ⟨v, rfl, r, hp', hQ, fun hl => aft_sim h hd hpass0 hinj hβc hO hA2 hA2' hG' hl hs2⟩
section
variable {P : Program} {cf : Cf}
theorem callB_ok {s : St} {k : List It} {Q : Exit → St → Prop} {dst : Option Nat} {fv : Operand} {args : Array Operand} {at' : Array TypeId} {ty : TypeId} {pos : String} {af : Array Edge} {g : Option (Nat × Bool)}
    (L : List (Name × W × List D)) (hL : Lok s L) (d : Nat) (σ : Name → Name) (cargs : List AV) (chp : List (Name × Ob)) (cu : List Nat) (Q0 : AV → List (Name × Ob) → Prop) {f : FuncId} {caps : List AV}
    (hev : ev (s.frzL L) fv = .clo f caps) (hargs : args.toList.map (ev (s.frzL L)) ++ caps = renL σ cargs) (hcu : inUL cu cargs = true) (hd : d ∉ s.used) (hdst : ∀ t ∈ dst, t < cf.n ∧ t = d)
    (hpass : passL σ cu (s.frzL L) chp) (hinj : injL σ chp) (hc : HCall P cf.G f cargs chp cu Q0) (hflat : ∀ r hp', Q0 r hp' → r.flat = true ∧ flatH hp' = true)
    (hk : ∀ r hp', Q0 r hp' → likeM chp hp' ∧ run P cf k Q (aftD s σ d dst chp hp' r)) :
    AOk P cf { dst := dst, op := .call { callee := .value fv, args := args, argTypes := at' }, type := ty, pos := pos, after := af, guard := g } s k Q := by
  intro B hB ds β a w hds h Q'
  refine ⟨fun _ _ => trivial, ?_⟩
  have h' := frzL_sim L s h hL
  have hf := h'.ev fv
  rw [hev] at hf
  generalize hfv : a.eval fv = fval at hf
  cases hf with
  | clo _ cvs _ hcs hcv =>
  have hrun : ∀ vs, vs = (args.toList.map a.eval).toArray ++ cvs → (execOp a.eval { dst := dst, op := .call { callee := .value fv, args := args, argTypes := at' }, type := ty, pos := pos, after := af, guard := g }).run P w = .ok (.enter f vs) w := by
    intro vs hvs
    have e : (execOp a.eval { dst := dst, op := .call { callee := .value fv, args := args, argTypes := at' }, type := ty, pos := pos, after := af, guard := g } : Sem Next) = callFunc f (#[] ++ args.map a.eval ++ cvs) := by
      show (do let d ← (Deferred.ofValue (a.eval fv) (args.map a.eval)); invoke d.target d.args : Sem Next) = _
      rw [hfv]; rfl
    rw [e, ← hc.1 vs w, hvs]
    congr 2
    apply Array.ext'
    simp
  rw [Oper.semAt_eq _ _ _ (by simp), hrun _ rfl, Oper.uponIn_enter]
  refine ⟨fun hdep => by simp [Fw_depth] at hdep, ?_⟩
  have hlen : cargs.length = args.size + caps.length := by
    have := congrArg List.length hargs
    rw [renL_length] at this
    simpa using this.symm
  have hvs : ((args.toList.map a.eval).toArray ++ cvs).size = cargs.length := by simp [hcs, hlen]
  have hv : ∀ (i : Nat) x, cargs[i]? = some x → VR w.heap ((s.frzL L).own B.A β) (s.frzL L).used (s.frzL L).hp β (((args.toList.map a.eval).toArray ++ cvs).getD i undef) (x.ren σ) := by
    intro i x hi
    have hx : (renL σ cargs)[i]? = some (x.ren σ) := by rw [renL_get, hi]; rfl
    rw [← hargs] at hx
    by_cases hlt : i < args.size
    · have hx' : (args.toList.map (ev (s.frzL L)))[i]? = some (x.ren σ) := by rw [← hx, List.getElem?_append_left (by simpa using hlt)]
      have := calls_list h' args.toList i _ hx'
      rw [show ((args.toList.map a.eval).toArray ++ cvs).getD i undef = (args.toList.map a.eval).toArray.getD i undef by simp [Array.getD_eq_getD_getElem?, Array.getElem?_append, hlt]]
      exact this
    · have hx' : caps[i - args.size]? = some (x.ren σ) := by rw [← hx, List.getElem?_append_right (by simpa using Nat.le_of_not_lt hlt)]; simp
      have := hcv _ _ hx'
      rw [show ((args.toList.map a.eval).toArray ++ cvs).getD i undef = cvs.getD (i - args.size) undef by simp [Array.getD_eq_getD_getElem?, Array.getElem?_append, hlt]]
      exact this
  have hcall := enterB_ok (P := P) h h' (fun p o ho => frzL_hp L s p o ho) (σ := σ) hd hpass hinj hcu hvs hv (by rw [hB.2.2]; exact hc) hflat
  have hcall' : CallsIn (Fw cf.ro) (0 - 1) P f ((args.toList.map a.eval).toArray ++ cvs) w _ := hcall
  refine hcall'.mono ?_
  rintro e w' ⟨v, rfl, r, hp', hQ, hl⟩
  obtain ⟨hlk, hrun'⟩ := hk r hp' hQ
  obtain ⟨β2, hs2, hv2⟩ := hl hlk
  refine ⟨by cases dst <;> exact hds, aftD s σ d dst chp hp' r, β2, run_ok hrun', ?_⟩
  cases dst with
  | none => exact hs2
  | some t =>
    obtain ⟨ht, rfl⟩ := hdst t rfl
    exact hs2.put (by rw [hB.1]; exact ht) hv2
theorem renL_id' (l : List AV) : renL id l = l := by
  induction l with
  | nil => rfl
  | cons x r ih => rw [renL, ih, AV.ren_id id (fun _ => rfl)]
section
variable {Q : Exit → St → Prop} {s : St} {k : List It}
/-- A call that is handed objects, under their own names, and looks at others. -/
theorem e_callBO (E : Eng P cf Q) {d : Nat} {fv : Operand} {args : Array Operand} {at' : Array TypeId} {ty : TypeId} {pos : String} {af : Array Edge}
    {f : FuncId} {caps : List AV} (L : List (Name × W × List D)) (cargs : List AV) (chp : List (Name × Ob)) (cu : List Nat) {Q0 : AV → List (Name × Ob) → Prop} (hc : HCall P cf.G f cargs chp cu Q0) (hflat : ∀ r hp', Q0 r hp' → r.flat = true ∧ flatH hp' = true)
    (hL : Lok s L) (hev : ev (s.frzL L) fv = .clo f caps) (hargs : args.toList.map (ev (s.frzL L)) ++ caps = cargs) (hd : d < cf.n ∧ d ∉ s.used) (hcu : inUL cu cargs = true) (hpass : passL id cu (s.frzL L) chp) (hinj : injL id chp)
    (hk : ∀ r hp', Q0 r hp' → likeM chp hp' ∧ E.run k (aft s id d chp hp' r)) :
    E.stp { dst := some d, op := .call { callee := .value fv, args := args, argTypes := at' }, type := ty, pos := pos, after := af, guard := none } s k .no := by
  rw [e_stp_no]
  refine callB_ok L hL d id cargs chp cu Q0 hev ?_ hcu hd.2 (fun t ht => ?_) hpass hinj hc hflat fun r hp' hr => ?_
  · rw [hargs, renL_id']
  · obtain rfl := Option.some.inj ht
    exact ⟨hd.1, rfl⟩
  · obtain ⟨h1, h2⟩ := hk r hp' hr
    exact ⟨h1, by rw [← E.run_eq]; exact h2⟩
theorem aft_none {s : St} {d : Nat} {r : AV} (hr : r.inU [] = true) : { aft s id d [] [] r with used := s.used } = s.put d r := by
  have : r.ren (aftN id d []) = r := AV.ren_none _ r hr
  simp only [aft, this]
  rfl
/-- A call that answers by values alone, and looks at arrays that are owned. -/
theorem callBP_ok {dst : Option Nat} {fv : Operand} {args : Array Operand} {at' : Array TypeId} {ty : TypeId} {pos : String} {af : Array Edge} {g : Option (Nat × Bool)}
    (L : List (Name × W × List D)) (hL : Lok s L) {f : FuncId} {caps : List AV} {ds : List D} {Q0 : AV → Prop} (hc : HP P cf.G f ds Q0) (hflat : ∀ r, Q0 r → r.flat = true)
    (hev : ev (s.frzL L) fv = .clo f caps) (hargs : args.toList.map (ev (s.frzL L)) ++ caps = ds.map .d) (hdst : ∀ t ∈ dst, t < cf.n) (hk : ∀ r, Q0 r → run P cf k Q (s.putO dst r)) :
    AOk P cf { dst := dst, op := .call { callee := .value fv, args := args, argTypes := at' }, type := ty, pos := pos, after := af, guard := g } s k Q := by
  intro B hB ds' β a w hds h Q'
  obtain ⟨d, hd⟩ := fresh_nat s.used
  refine ⟨fun _ _ => trivial, ?_⟩
  have h' := frzL_sim L s h hL
  have hf := h'.ev fv
  rw [hev] at hf
  generalize hfv : a.eval fv = fval at hf
  cases hf with
  | clo _ cvs _ hcs hcv =>
  have hrun : ∀ vs, vs = (args.toList.map a.eval).toArray ++ cvs → (execOp a.eval { dst := dst, op := .call { callee := .value fv, args := args, argTypes := at' }, type := ty, pos := pos, after := af, guard := g }).run P w = .ok (.enter f vs) w := by
    intro vs hvs
    have e : (execOp a.eval { dst := dst, op := .call { callee := .value fv, args := args, argTypes := at' }, type := ty, pos := pos, after := af, guard := g } : Sem Next) = callFunc f (#[] ++ args.map a.eval ++ cvs) := by
      show (do let d ← (Deferred.ofValue (a.eval fv) (args.map a.eval)); invoke d.target d.args : Sem Next) = _
      rw [hfv]; rfl
    rw [e, ← hc.1 vs w, hvs]
    congr 2
    apply Array.ext'
    simp
  rw [Oper.semAt_eq _ _ _ (by simp), hrun _ rfl, Oper.uponIn_enter]
  refine ⟨fun hdep => by simp [Fw_depth] at hdep, ?_⟩
  have hlen : (ds.map AV.d).length = args.size + caps.length := by
    have := congrArg List.length hargs
    simpa using this.symm
  have hvs : ((args.toList.map a.eval).toArray ++ cvs).size = (ds.map AV.d).length := by simp [hcs] at hlen ⊢; omega
  have hv : ∀ (i : Nat) x, (ds.map AV.d)[i]? = some x → VR w.heap ((s.frzL L).own B.A β) (s.frzL L).used (s.frzL L).hp β (((args.toList.map a.eval).toArray ++ cvs).getD i undef) (x.ren id) := by
    intro i x hi
    rw [AV.ren_id id (fun _ => rfl)]
    have hx := hi
    rw [← hargs] at hx
    by_cases hlt : i < args.size
    · have hx' : (args.toList.map (ev (s.frzL L)))[i]? = some x := by rw [← hx, List.getElem?_append_left (by simpa using hlt)]
      have := calls_list h' args.toList i _ hx'
      rw [show ((args.toList.map a.eval).toArray ++ cvs).getD i undef = (args.toList.map a.eval).toArray.getD i undef by simp [Array.getD_eq_getD_getElem?, Array.getElem?_append, hlt]]
      exact this
    · have hx' : caps[i - args.size]? = some x := by rw [← hx, List.getElem?_append_right (by simpa using Nat.le_of_not_lt hlt)]; simp
      have := hcv _ _ hx'
      rw [show ((args.toList.map a.eval).toArray ++ cvs).getD i undef = cvs.getD (i - args.size) undef by simp [Array.getD_eq_getD_getElem?, Array.getElem?_append, hlt]]
      exact this
  have hcall := enterB_ok (P := P) h h' (fun p o ho => frzL_hp L s p o ho) (Q0 := fun r hp' => Q0 r ∧ r.inU [] = true ∧ hp' = []) (σ := id) (d := d) hd (chp := []) (cu := []) trivial trivial (inUL_d _ _) hvs hv (by rw [hB.2.2]; exact hc) (fun r hp' hq => ⟨hflat r hq.1, by rw [hq.2.2]; rfl⟩)
  have hcall' : CallsIn (Fw cf.ro) (0 - 1) P f ((args.toList.map a.eval).toArray ++ cvs) w _ := hcall
  refine hcall'.mono ?_
  rintro e w' ⟨v, rfl, r, hp', ⟨hQ, hru, rfl⟩, hl⟩
  obtain ⟨β2, hs2, hv2⟩ := hl trivial
  rw [AV.ren_none _ r hru] at hv2
  have hru' := AV.inU_none s.used r hru
  refine ⟨by cases dst <;> exact hds, s.putO dst r, ?_⟩
  cases dst with
  | none =>
    obtain ⟨β3, h3⟩ := h.unuse hs2 rfl (t0 := 0) (x0 := s.fr 0) (fun _ => .inr rfl) rfl (h.slots 0).inU
    exact ⟨β3, run_ok (hk r hQ), h3⟩
  | some t =>
    have h2 := hs2.put (t := t) (by rw [hB.1]; exact hdst t rfl) hv2
    obtain ⟨β3, h3⟩ := h.unuse h2 rfl (t0 := t) (x0 := r) (fun u => by
      by_cases e : u = t
      · exact .inl e
      · exact .inr (by show updN _ _ _ _ = _; simp [updN, e])) (by show updN _ _ _ _ = _; simp [updN]) hru'
    exact ⟨β3, run_ok (hk r hQ), h3⟩
theorem e_callB (E : Eng P cf Q) {dst : Option Nat} {fv : Operand} {args : Array Operand} {at' : Array TypeId} {ty : TypeId} {pos : String} {af : Array Edge}
    (L : List (Name × W × List D)) {f : FuncId} {caps : List AV} {ds : List D} {Q0 : AV → Prop} (hc : HP P cf.G f ds Q0) (hflat : ∀ r, Q0 r → r.flat = true) (hL : Lok s L)
    (hev : ev (s.frzL L) fv = .clo f caps) (hargs : args.toList.map (ev (s.frzL L)) ++ caps = ds.map .d) (hdst : ∀ t ∈ dst, t < cf.n) (hk : ∀ r, Q0 r → E.run k (s.putO dst r)) :
    E.stp { dst := dst, op := .call { callee := .value fv, args := args, argTypes := at' }, type := ty, pos := pos, after := af, guard := none } s k .no := by
  rw [e_stp_no]
  exact callBP_ok L hL hc hflat hev hargs hdst fun r hr => by rw [← E.run_eq]; exact hk r hr
section
variable {ops : Array Oper} {K : St → Ns → Prop} {r : List Oper} {ns : Ns}
theorem frzL_ev {s s' : St} {x : Operand} (L : List (Name × W × List D)) (h : ev s' x = ev s x) : ev (s'.frzL L) x = ev (s.frzL L) x := by
  cases x with
  | tmp t =>
    have h : s'.fr t = s.fr t := h
    show (s'.frzL L).fr t = (s.frzL L).fr t
    rw [frzL_fr, frzL_fr, h]
  | _ => rfl
theorem Lok_cg : ∀ (L : List (Name × W × List D)) (s s' : St), (∀ p ∈ L.map (·.1), s'.hp p = s.hp p) → Lok s L → Lok s' L
  | [], _, _, _, _ => trivial
  | q :: L, s, s', h, hl => by
    refine ⟨(h _ (by simp)).trans hl.1, Lok_cg L _ _ (fun p hp => ?_) hl.2⟩
    show updP s'.hp q.1 none p = updP s.hp q.1 none p
    unfold updP
    split
    · rfl
    · exact h p (by rw [List.map_cons]; exact List.mem_cons_of_mem _ hp)
/-- Such a call in a region that draws its order. -/
theorem x_callB (E : XEng P cf ops K) {dst : Option Nat} {fv : Operand} {args : Array Operand} {at' : Array TypeId} {ty : TypeId} {pos : String} {af : Array Edge} {g : Option (Nat × Bool)}
    (L : List (Name × W × List D)) {f : FuncId} {caps : List AV} {ds : List D} {x : AV} (hc : HP P cf.G f ds (fun r => r = x)) (hflat : x.flat = true) (hL : Lok s L)
    (hev : ev (s.frzL L) fv = .clo f caps) (hargs : args.toList.map (ev (s.frzL L)) ++ caps = ds.map .d) (hdst : ∀ t ∈ dst, t < cf.n) (hk : E.run r (s.putO dst x) (ns ++ [(L.map (·.1), [], [])])) :
    E.stp { dst := dst, op := .call { callee := .value fv, args := args, argTypes := at' }, type := ty, pos := pos, after := af, guard := g } r s ns .no := by
  refine x_leaf E (L.map (·.1)) hdst (fun s' hh he => ?_) hk
  have hm : ∀ y, y = fv ∨ y ∈ args → ev s' y = ev s y := fun y hy => he y (by
    simp only [Op.operands, Call.operands]
    rcases hy with rfl | hy <;> simp_all)
  refine callBP_ok (k := []) (Q := fun _ s2 => s2 = s'.putO dst x) L (Lok_cg L s s' hh hL) hc (fun r hr => by subst hr; exact hflat) ((frzL_ev L (hm fv (.inl rfl))).trans hev) ?_ hdst (fun r hr => by subst hr; rw [run_nil])
  rw [← hargs]
  congr 1
  exact List.map_congr_left fun y hy => frzL_ev L (hm y (.inr (by simpa using hy)))
end
end
attribute [go_sem] frzL_nil frzL_cons D.flat flatL AV.flat flatAL flatH flatE Ob.flat List.isEmpty_nil
end
end Go.Ab
/-! ### The generic layer, part 45: an array that turns into data turns so in the variables, too. -/
namespace Go.Ab
def Ob.frz (p : Name) (w : W) (xs : List D) : Ob → Ob
  | .box cs => .box (Go.Ab.frzL p w xs cs)
  | o => o
theorem Ob.frz_like (p : Name) (w : W) (xs : List D) (o : Ob) : o.like (o.frz p w xs) := by
  cases o <;> simp [Ob.frz, Ob.like]
def St.frzA (s : St) (p : Name) (w : W) (xs : List D) : St := { fr := fun t => (s.fr t).frz p w xs, hp := fun q => (updP s.hp p none q).map (Ob.frz p w xs), used := s.used }
theorem Sim.frzA {B : Base} {β : Name → Option Blk} {s : St} {tm : Array Value} {w : World} (h : Sim B β s tm w) {p : Name} {wf : W} {xs : List D} (hp : s.hp p = some (.arr wf xs)) : Sim B β (s.frzA p wf xs) tm w := by
  have hsub : ∀ q o', (s.frzA p wf xs).hp q = some o' → q ≠ p ∧ ∃ o, s.hp q = some o ∧ o' = o.frz p wf xs := by
    intro q o' ho
    by_cases e : q = p
    · subst e; simp [St.frzA, updP] at ho
    · simp only [St.frzA, updP, if_neg e, Option.map_eq_some_iff] at ho
      obtain ⟨o, h1, h2⟩ := ho
      exact ⟨e, o, h1, h2.symm⟩
  have hne : ∀ q, (s.frzA p wf xs).hp q ≠ none → s.hp q ≠ none ∧ q ≠ p := by
    intro q hq
    cases ho : (s.frzA p wf xs).hp q with
    | none => exact absurd ho hq
    | some o' =>
      obtain ⟨e, o, h1, _⟩ := hsub q o' ho
      exact ⟨by rw [h1]; simp, e⟩
  have hr : ∀ v d', Rep w.heap (s.own B.A β) v d' → Rep w.heap ((s.frzA p wf xs).own B.A β) v d' := fun v d' hd => hd.mono (fun _ _ _ => rfl) (by
    rintro b _ (hA | ⟨q, k, hq, hk, e⟩)
    · exact .inl hA
    · exact .inr ⟨q, k, (hne q hq).1, hk, e⟩)
  have hst : ∀ q, nm s.used q → Stays s.hp (s.frzA p wf xs).hp β β q := fun q _ o' ho' => by
    obtain ⟨_, o, h1, rfl⟩ := hsub q o' ho'
    exact ⟨o, h1, Ob.frz_like p wf xs o, rfl⟩
  have hno : ∀ k, β p = some k → ¬ (s.frzA p wf xs).own B.A β k.b := by
    rintro k hk (hA | ⟨q, k', hq, hk', e⟩)
    · exact (h.blocks p k (by rw [hp]; simp) hk).2.1 hA
    · exact (hne q hq).2 (h.inj q p k' k (hne q hq).1 (by rw [hp]; simp) hk' hk e)
  have hvr : ∀ {v : Value} {x : AV}, VR w.heap (s.own B.A β) s.used s.hp β v x → VR w.heap ((s.frzA p wf xs).own B.A β) s.used (s.frzA p wf xs).hp β v (x.frz p wf xs) := fun hv => hv.frz hr hst hp (h.objs p _ hp).2 hno
  refine { tms := h.tms, io := h.io, size := h.size, frame := h.frame, slots := fun i => hvr (h.slots i), objs := fun q o' ho' => ?_, blocks := fun q k hq hk => h.blocks q k (hne q hq).1 hk, inj := fun q q' k k' hq hq' => h.inj q q' k k' (hne q hq).1 (hne q' hq').1, us := h.us, stay := h.stay }
  obtain ⟨_, o, h1, rfl⟩ := hsub q o' ho'
  obtain ⟨g1, g2⟩ := h.objs q o h1
  refine ⟨g1, ?_⟩
  cases o with
  | box cs =>
    obtain ⟨k, c, e, a1, a2, a3, a4, a5, a6, a7⟩ := g2
    refine ⟨k, c, e, a1, a2, a3, a4, by rw [a5, frzL_length], a6, fun j x hj => ?_⟩
    rw [frzL_get, Option.map_eq_some_iff] at hj
    obtain ⟨y, hy, rfl⟩ := hj
    exact hvr (a7 j y hy)
  | _ => exact g2.mono hr (fun _ h => h) hst rfl fun _ _ => rfl
theorem lkA_frzo (p : Name) (w : W) (xs : List D) (q : Name) : ∀ l : List (Name × Ob), (lkA none (l.map fun x => (x.1, some x.2)) q).map (Ob.frz p w xs) = lkA none ((l.map fun x => (x.1, x.2.frz p w xs)).map fun x => (x.1, some x.2)) q
  | [] => rfl
  | x :: r => by
    simp only [lkA, List.map_cons]
    split
    · rfl
    · exact lkA_frzo p w xs q r
theorem mk_frzA (fr : List (Nat × AV)) (hp : List (Name × Ob)) (u : List Nat) (p : Name) (w : W) (xs : List D) : (mk fr hp u).frzA p w xs = mk (fr.map fun q => (q.1, q.2.frz p w xs)) ((delA hp p).map fun q => (q.1, q.2.frz p w xs)) u := by
  unfold St.frzA mk
  congr 1
  · funext t
    exact lkA_frz p w xs t fr
  · funext q
    rw [← lkA_frzo, map_del, lkA_del]
    rfl
attribute [go_sem] mk_frzA Ob.frz
section
variable {P : Program} {cf : Cf} {Q : Exit → St → Prop} {s : St} {k : List It}
/-- An array turns into data, in variables too. -/
theorem e_frzA (E : Eng P cf Q) {d : Option Nat} {op : Op} {ty : TypeId} {ps : String} {af : Array Edge} (p : Name) (w : W) (xs : List D) (hp : s.hp p = some (.arr w xs)) {s' : St} (he : s.frzA p w xs = s') (h : E.stp { dst := d, op := op, type := ty, pos := ps, after := af, guard := none } s' k (opR P.ti cf.n op d s')) :
    E.stp { dst := d, op := op, type := ty, pos := ps, after := af, guard := none } s k .no := by
  subst he
  rw [e_stp_no]
  rw [E.stp_eq] at h
  have h1 := aok_of_stp (o := { dst := d, op := op, type := ty, pos := ps, after := af, guard := none }) rfl h
  intro B hB ds β a w' hds hs Q'
  exact h1 B hB ds β a w' hds (hs.frzA hp) Q'
theorem c_frzA (E : Eng P cf Q) {c : Code} (p : Name) (w : W) (xs : List D) (hp : s.hp p = some (.arr w xs)) (h : CodeE E c (s.frzA p w xs) k) : CodeE E c s k := by
  intro B hB ds β a w' hds hs
  exact h B hB ds β a w' hds (hs.frzA hp)
section
variable {ops : Array Oper} {K : St → Ns → Prop} {r : List Oper} {ns : Ns}
/-- Two structs compared, in a region that draws its order. -/
theorem x_eqS' (E : XEng P cf ops K) {t : TypeId} {x y : Operand} {yt : TypeId} {dst : Nat} {ty : TypeId} {ps : String} {af : Array Edge} {g : Option (Nat × Bool)} (neg : Bool) {as bs : List D} {b : Bool} {fs : List (Nat × Nat)} (hst : P.structOk t = true) (hk : (P.ti t).k = .struct fs) (hd : dst < cf.n)
    (hx : ev s x = .d (.agg as)) (hy : ev s y = .d (.agg bs)) (h : eqS P.ti fs as bs = some b) (hr : E.run r (s.put dst (.d (.bool (if neg then !b else b)))) (ns ++ [([], [], [])])) :
    E.stp { dst := some dst, op := .binOp (if neg then .neq else .eql) t x y yt, type := ty, pos := ps, after := af, guard := g } r s ns .no := by
  refine x_leaf E (x := .d (.bool (if neg then !b else b))) [] (fun t ht => by rw [Option.mem_def, Option.some.injEq] at ht; rw [← ht]; exact hd) (fun s' _ he => ?_) hr
  exact aok_eqS neg hst hk hd ((he x (by simp [Op.operands])).trans hx) ((he y (by simp [Op.operands])).trans hy) h (by rw [run_nil]; rfl)
theorem x_neS (E : XEng P cf ops K) {t : TypeId} {x y : Operand} {yt : TypeId} {dst : Nat} {ty : TypeId} {ps : String} {af : Array Edge} {g : Option (Nat × Bool)} {as bs : List D} {b : Bool} {fs : List (Nat × Nat)} (hst : P.structOk t = true) (hk : (P.ti t).k = .struct fs) (hd : dst < cf.n)
    (hx : ev s x = .d (.agg as)) (hy : ev s y = .d (.agg bs)) (h : eqS P.ti fs as bs = some b) (hr : E.run r (s.put dst (.d (.bool (!b)))) (ns ++ [([], [], [])])) :
    E.stp { dst := some dst, op := .binOp .neq t x y yt, type := ty, pos := ps, after := af, guard := g } r s ns .no := x_eqS' E true hst hk hd hx hy h hr
theorem x_eqS (E : XEng P cf ops K) {t : TypeId} {x y : Operand} {yt : TypeId} {dst : Nat} {ty : TypeId} {ps : String} {af : Array Edge} {g : Option (Nat × Bool)} {as bs : List D} {b : Bool} {fs : List (Nat × Nat)} (hst : P.structOk t = true) (hk : (P.ti t).k = .struct fs) (hd : dst < cf.n)
    (hx : ev s x = .d (.agg as)) (hy : ev s y = .d (.agg bs)) (h : eqS P.ti fs as bs = some b) (hr : E.run r (s.put dst (.d (.bool b))) (ns ++ [([], [], [])])) :
    E.stp { dst := some dst, op := .binOp .eql t x y yt, type := ty, pos := ps, after := af, guard := g } r s ns .no := x_eqS' E false hst hk hd hx hy h hr
end
end
end Go.Ab
/-! ### The generic layer, part 46: a map that nobody writes any more turns into plain data; ranges over such a map, in whatever order. -/
namespace Go.Ab
open Go.ChangeMaps (setBlock)
mutual
def AV.frM (p : Name) (d : D) : AV → AV
  | .un => .un
  | .d x => .d x
  | .vw q o l => .vw q o l
  | .bx q c => .bx q c
  | .el q i c => .el q i c
  | .mp q => if q = p then .d d else .mp q
  | .it q => .it q
  | .agg cs => mkAgg (frML p d cs)
  | .tup cs => .tup (frML p d cs)
  | .clo f cs => mkClo f (frML p d cs)
def frML (p : Name) (d : D) : List AV → List AV
  | [] => []
  | x :: r => x.frM p d :: frML p d r
end
theorem frML_length (p : Name) (d : D) : ∀ l : List AV, (frML p d l).length = l.length
  | [] => rfl
  | _ :: r => by simp [frML, frML_length p d r]
theorem frML_get (p : Name) (d : D) : ∀ (l : List AV) (i : Nat), (frML p d l)[i]? = (l[i]?).map (AV.frM p d)
  | [], i => by simp [frML]
  | x :: r, i => by
    cases i with
    | zero => simp [frML]
    | succ i => simpa [frML] using frML_get p d r i
section
variable {H : Array Obj} {own own' : Nat → Prop} {used : List Nat} {hp hp' : Name → Option Ob} {β : Name → Option Blk}
theorem VR.frM {p : Name} {d : D} {es : List (D × D)} (hr : ∀ v d, Rep H own v d → Rep H own' v d) (hst : ∀ q, nm used q → Stays hp hp' β β q) (hp0 : hp p = some (.map es)) (hd : ∀ k, β p = some k → Rep H own' (.map (some k.b)) d)
    {v : Value} {x : AV} (h : VR H own used hp β v x) : VR H own' used hp' β v (x.frM p d) := by
  induction h with
  | un v => exact .un v
  | d v x h => exact .d v x (hr v x h)
  | vw v q off len hn h1 h => exact VR.mono hr (fun _ h => h) hst (.vw v q off len hn h1 h)
  | bx v q c hn h1 h => exact VR.mono hr (fun _ h => h) hst (.bx v q c hn h1 h)
  | el v q i c hn h1 h => exact VR.mono hr (fun _ h => h) hst (.el v q i c hn h1 h)
  | mp v q hn h1 h =>
    unfold AV.frM
    split
    · rename_i e
      subst e
      obtain ⟨k, hk, rfl⟩ := h _ hp0
      exact .d _ _ (hd k hk)
    · exact VR.mono hr (fun _ h => h) hst (.mp v q hn h1 h)
  | its v q hn h1 h h' => exact VR.mono hr (fun _ h => h) hst (.its v q hn h1 h h')
  | agg vs cs hs hc _ ih =>
    have := mkAgg_rep (H := H) (own := own') (used := used) (hp := hp') (β := β) (vs := vs.toList) (cs := frML p d cs) (by rw [frML_length]; simpa using hs) (by simpa using hc) (fun i v x hv hx => by
      rw [frML_get, Option.map_eq_some_iff] at hx
      obtain ⟨y, hy, rfl⟩ := hx
      have := ih i y hy
      have e : vs.getD i undef = v := by
        simp only [Array.getElem?_toList] at hv
        simp [Array.getD_eq_getD_getElem?, hv]
      rw [e] at this
      exact this)
    simpa [AV.frM] using this
  | tup vs cs hs _ ih =>
    refine .tup vs _ (by rw [frML_length]; exact hs) (fun i x hi => ?_)
    rw [frML_get, Option.map_eq_some_iff] at hi
    obtain ⟨y, hy, rfl⟩ := hi
    exact ih i y hy
  | clo f vs cs hs _ ih =>
    refine mkClo_rep (by rw [frML_length]; exact hs) (fun i x hi => ?_)
    rw [frML_get, Option.map_eq_some_iff] at hi
    obtain ⟨y, hy, rfl⟩ := hi
    exact ih i y hy
end
def Ob.frM (p : Name) (d : D) : Ob → Ob
  | .box cs => .box (frML p d cs)
  | o => o
theorem Ob.frM_like (p : Name) (d : D) (o : Ob) : o.like (o.frM p d) := by
  cases o <;> simp [Ob.frM, Ob.like]
def St.frM (s : St) (p : Name) (d : D) : St := { fr := fun t => (s.fr t).frM p d, hp := fun q => (updP s.hp p none q).map (Ob.frM p d), used := s.used }
/-- A map as data. -/
def mpD (clk : Nat) (bs : List Nat) (es : List (D × D)) : D := .mpd clk bs (es.map (·.1)) (es.map (·.2))
/-- Stamps that may be. -/
def Stamps (clk : Nat) (bs : List Nat) (es : List (D × D)) : Prop := bs.length = es.length ∧ bs.Nodup ∧ ∀ b ∈ bs, b < clk
theorem Sim.frM {B : Base} {β : Name → Option Blk} {s : St} {tm : Array Value} {w : World} (h : Sim B β s tm w) {p : Name} {es : List (D × D)} (hp : s.hp p = some (.map es)) : ∃ clk bs, Stamps clk bs es ∧ Sim B β (s.frM p (mpD clk bs es)) tm w := by
  obtain ⟨k0, ents, clk, hk0, hc0, ⟨hsz, hb1, hb2⟩, hent⟩ := (h.objs p _ hp).2
  refine ⟨clk, ents.toList.map (·.born), ⟨by simp [hsz], hb1, fun b hb => ?_⟩, ?_⟩
  · obtain ⟨e, he, rfl⟩ := List.mem_map.1 hb
    exact hb2 e he
  obtain ⟨d, hd0⟩ : ∃ d, d = mpD clk (ents.toList.map (·.born)) es := ⟨_, rfl⟩
  rw [← hd0]
  have hsub : ∀ q o', (s.frM p d).hp q = some o' → q ≠ p ∧ ∃ o, s.hp q = some o ∧ o' = o.frM p d := by
    intro q o' ho
    by_cases e : q = p
    · subst e; simp [St.frM, updP] at ho
    · simp only [St.frM, updP, if_neg e, Option.map_eq_some_iff] at ho
      obtain ⟨o, h1, h2⟩ := ho
      exact ⟨e, o, h1, h2.symm⟩
  have hne : ∀ q, (s.frM p d).hp q ≠ none → s.hp q ≠ none ∧ q ≠ p := by
    intro q hq
    cases ho : (s.frM p d).hp q with
    | none => exact absurd ho hq
    | some o' =>
      obtain ⟨e, o, h1, _⟩ := hsub q o' ho
      exact ⟨by rw [h1]; simp, e⟩
  have hr : ∀ v d', Rep w.heap (s.own B.A β) v d' → Rep w.heap ((s.frM p d).own B.A β) v d' := fun v d' hd => hd.mono (fun _ _ _ => rfl) (by
    rintro b _ (hA | ⟨q, k, hq, hk, e⟩)
    · exact .inl hA
    · exact .inr ⟨q, k, (hne q hq).1, hk, e⟩)
  have hst : ∀ q, nm s.used q → Stays s.hp (s.frM p d).hp β β q := fun q _ o' ho' => by
    obtain ⟨_, o, h1, rfl⟩ := hsub q o' ho'
    exact ⟨o, h1, Ob.frM_like p d o, rfl⟩
  have hno : ∀ k, β p = some k → ¬ (s.frM p d).own B.A β k.b := by
    rintro k hk (hA | ⟨q, k', hq, hk', e⟩)
    · exact (h.blocks p k (by rw [hp]; simp) hk).2.1 hA
    · exact (hne q hq).2 (h.inj q p k' k (hne q hq).1 (by rw [hp]; simp) hk' hk e)
  have hgd : ∀ (i : Nat) (en : MapEntry), ents[i]? = some en → ents.getD i default = en := fun i en h => by simp [Array.getD_eq_getD_getElem?, h]
  have hdr : ∀ k, β p = some k → Rep w.heap ((s.frM p d).own B.A β) (.map (some k.b)) d := by
    intro k hk
    obtain rfl := Option.some.inj (hk.symm.trans hk0)
    rw [hd0]
    refine .mpd k.b clk ents _ _ _ hc0 (by rw [← hd0]; exact hno k hk) ⟨by simp [hsz], by simp⟩ rfl (fun i x hi => ?_) (fun i x hi => ?_)
    · rw [List.getElem?_map, Option.map_eq_some_iff] at hi
      obtain ⟨y, hy, rfl⟩ := hi
      obtain ⟨en, h1, h2, _⟩ := hent i y hy
      rw [hgd i en h1, ← hd0]
      exact hr _ _ h2
    · rw [List.getElem?_map, Option.map_eq_some_iff] at hi
      obtain ⟨y, hy, rfl⟩ := hi
      obtain ⟨en, h1, _, h2⟩ := hent i y hy
      rw [hgd i en h1, ← hd0]
      exact hr _ _ h2
  have hvr : ∀ {v : Value} {x : AV}, VR w.heap (s.own B.A β) s.used s.hp β v x → VR w.heap ((s.frM p d).own B.A β) s.used (s.frM p d).hp β v (x.frM p d) := fun hv => hv.frM hr hst hp hdr
  refine { tms := h.tms, io := h.io, size := h.size, frame := h.frame, slots := fun i => hvr (h.slots i), objs := fun q o' ho' => ?_, blocks := fun q k hq hk => h.blocks q k (hne q hq).1 hk, inj := fun q q' k k' hq hq' => h.inj q q' k k' (hne q hq).1 (hne q' hq').1, us := h.us, stay := h.stay }
  obtain ⟨_, o, h1, rfl⟩ := hsub q o' ho'
  obtain ⟨g1, g2⟩ := h.objs q o h1
  refine ⟨g1, ?_⟩
  cases o with
  | box cs =>
    obtain ⟨k, c, e, a1, a2, a3, a4, a5, a6, a7⟩ := g2
    refine ⟨k, c, e, a1, a2, a3, a4, by rw [a5, frML_length], a6, fun j x hj => ?_⟩
    rw [frML_get, Option.map_eq_some_iff] at hj
    obtain ⟨y, hy, rfl⟩ := hj
    exact hvr (a7 j y hy)
  | _ => exact g2.mono hr (fun _ h => h) hst rfl fun _ _ => rfl
theorem lkA_frM (p : Name) (d : D) (t : Nat) : ∀ l : List (Nat × AV), (lkA .un l t).frM p d = lkA .un (l.map fun q => (q.1, q.2.frM p d)) t
  | [] => rfl
  | q :: r => by
    simp only [lkA, List.map_cons]
    split
    · rfl
    · exact lkA_frM p d t r
theorem lkA_frMo (p : Name) (d : D) (q : Name) : ∀ l : List (Name × Ob), (lkA none (l.map fun x => (x.1, some x.2)) q).map (Ob.frM p d) = lkA none ((l.map fun x => (x.1, x.2.frM p d)).map fun x => (x.1, some x.2)) q
  | [] => rfl
  | x :: r => by
    simp only [lkA, List.map_cons]
    split
    · rfl
    · exact lkA_frMo p d q r
theorem mk_frM (fr : List (Nat × AV)) (hp : List (Name × Ob)) (u : List Nat) (p : Name) (d : D) : (mk fr hp u).frM p d = mk (fr.map fun q => (q.1, q.2.frM p d)) ((delA hp p).map fun q => (q.1, q.2.frM p d)) u := by
  unfold St.frM mk
  congr 1
  · funext t
    exact lkA_frM p d t fr
  · funext q
    rw [← lkA_frMo, map_del, lkA_del]
    rfl
attribute [go_sem] mk_frM AV.frM frML Ob.frM
theorem filter_push {Z : List (Nat × (D × D))} (hn : (Z.map (·.1)).Nodup) (seen : Array Nat) {q : Nat × (D × D)} (hq : q ∈ Z) (hs : seen.contains q.1 = false) :
    ∃ l1 l2, Z.filter (fun q => !seen.contains q.1) = l1 ++ q :: l2 ∧ Z.filter (fun r => !(seen.push q.1).contains r.1) = l1 ++ l2 := by
  have hqf : q ∈ Z.filter (fun q => !seen.contains q.1) := List.mem_filter.2 ⟨hq, by rw [hs]; rfl⟩
  obtain ⟨l1, l2, e⟩ := List.append_of_mem hqf
  refine ⟨l1, l2, e, ?_⟩
  have hsub : ((Z.filter (fun q => !seen.contains q.1)).map (·.1)).Nodup := hn.sublist (List.filter_sublist.map _)
  rw [e, List.map_append, List.map_cons] at hsub
  have h0 : Z.filter (fun r => !(seen.push q.1).contains r.1) = (Z.filter (fun q => !seen.contains q.1)).filter (fun r => !(r.1 == q.1)) := by
    rw [List.filter_filter]
    refine List.filter_congr fun r _ => ?_
    simp only [Array.contains_push, Bool.not_or]
    rw [Bool.and_comm]
  rw [h0, e, List.filter_append, List.filter_cons]
  have hself : (!(q.1 == q.1)) = false := by simp
  rw [hself]
  simp only [Bool.false_eq_true, if_false]
  rw [List.nodup_append] at hsub
  obtain ⟨_, h2, h3⟩ := hsub
  have h2 := (List.nodup_cons.1 h2).1
  congr 1
  · refine List.filter_eq_self.2 fun r hr => ?_
    have := h3 r.1 (List.mem_map_of_mem hr) q.1 List.mem_cons_self
    simpa using this
  · refine List.filter_eq_self.2 fun r hr => ?_
    have : r.1 ≠ q.1 := fun e => h2 (e ▸ List.mem_map_of_mem hr)
    simpa using this
section
variable {P : Program} {cf : Cf} {Q : Exit → St → Prop} {s : St} {k : List It}
theorem e_frM (E : Eng P cf Q) {d : Option Nat} {op : Op} {ty : TypeId} {ps : String} {af : Array Edge} (p : Name) (es : List (D × D)) (hp : s.hp p = some (.map es))
    (h : ∀ clk bs, Stamps clk bs es → ∃ s', s.frM p (mpD clk bs es) = s' ∧ E.stp { dst := d, op := op, type := ty, pos := ps, after := af, guard := none } s' k (opR P.ti cf.n op d s')) :
    E.stp { dst := d, op := op, type := ty, pos := ps, after := af, guard := none } s k .no := by
  rw [e_stp_no]
  intro B hB ds β a w' hds hs Q'
  obtain ⟨clk, bs, hst, hs'⟩ := hs.frM hp
  obtain ⟨_, rfl, h1⟩ := h clk bs hst
  rw [E.stp_eq] at h1
  exact aok_of_stp (o := { dst := d, op := op, type := ty, pos := ps, after := af, guard := none }) rfl h1 B hB ds β a w' hds hs' Q'
theorem MIt_init {clk : Nat} {bs : List Nat} {es : List (D × D)} (h : Stamps clk bs es) : MIt (mpD clk bs es) clk #[] clk none es := by
  obtain ⟨h1, h2, h3⟩ := h
  refine ⟨clk, bs, _, _, rfl, by simpa using h1, by simp, h2, h3, ⟨Nat.le_refl _, Nat.le_refl _⟩, ?_, fun x hx => by cases hx⟩
  have e : (es.map (·.1)).zip (es.map (·.2)) = es := by
    rw [List.zip_map']
    simp
  rw [e]
  have : ((bs.zip es).filter fun q => !(#[] : Array Nat).contains q.1) = bs.zip es := List.filter_eq_self.2 fun x _ => by simp
  rw [this]
  exact (List.map_snd_zip (by omega)).symm
theorem e_rangeM (E : Eng P cf Q) {xt a b : Nat} {x : Operand} {t : Nat} {ty : TypeId} {pos : String} {af : Array Edge} {clk : Nat} {bs : List Nat} {es : List (D × D)} (hst : Stamps clk bs es) (hs : (P.ti xt).k = .map a b) (hx : ev s x = .d (mpD clk bs es)) (ht : t < cf.n) (hu : t ∉ s.used)
    (hk : E.run k ((s.add t (.miter (mpD clk bs es) none es)).put t (.it [t]))) :
    E.stp { dst := some t, op := .range xt x, type := ty, pos := pos, after := af, guard := none } s k .no := by
  rw [e_stp_no]
  rw [E.run_eq] at hk
  intro B hB ds β ac w hds h Q'
  have hv := h.ev x
  rw [hx] at hv
  have hv := hv.toD
  generalize hval : ac.eval x = v at hv
  have hv0 := hv
  unfold mpD at hv
  cases hv with
  | mpd bb _ ents _ _ _ hb hn hsz hbs hkk hvv =>
  have hrun : (execOp ac.eval { dst := some t, op := .range xt x, type := ty, pos := pos, after := af, guard := none }).run P w = .ok (.value (.pointer (some ⟨w.heap.size, 0, none⟩))) (w.alloc (.mapIter (some bb) clk #[] clk)) := by
    show (do pure (Next.value (← Instr.range xt (ac.eval x))) : Sem Next).run P w = _
    rw [hval, Sem.run_bind, run_range_map w xt a b bb ents clk (ti_map hs) hb]
    rfl
  obtain ⟨hsim, _⟩ := h.alloc hu (.mapIter (some bb) clk #[] clk) (.miter (mpD clk bs es) none es) 0 (fun β' hβ hvr => by
    have h2 := (hvr _ _ (.d _ _ hv0)).toD
    exact ⟨_, bb, clk, #[], clk, hβ, by show (w.heap.push _)[w.heap.size]? = _; rw [Array.getElem?_push_size], h2, MIt_init hst⟩)
  refine wpIn_of_run (by simp) hrun (.inl rfl) ⟨hds, _, _, run_ok hk, hsim.put (by rw [hB.1]; exact ht) ?_⟩
  exact .its _ _ ⟨t, [], rfl, List.mem_cons_self⟩ rfl (fun l' i hi => ⟨⟨w.heap.size, 0, 0⟩, by simp [updP], rfl⟩) (fun l' c i hi => ⟨⟨w.heap.size, 0, 0⟩, by simp [updP], rfl⟩)
/-- 'next' of a range over a map: whichever entry is left, or none. -/
theorem e_nextM (E : Eng P cf Q) {x : Operand} {t : Nat} {ty : TypeId} {ps : String} {af : Array Edge} (p : Name) (m : D) (cur : Option (D × D)) (todo : List (D × D)) (hx : ev s x = .it p) (hp : s.hp p = some (.miter m cur todo)) (ht : t < cf.n)
    (h1 : ∀ l1 y l2, todo = l1 ++ y :: l2 → E.run k ((s.set p (some (.miter m (some y) (l1 ++ l2)))).put t (.tup [.d (.bool true), .d y.1, .d y.2])))
    (h2 : todo = [] → E.run k (s.put t (.tup [.d (.bool false)]))) :
    E.stp { dst := some t, op := .next x false, type := ty, pos := ps, after := af, guard := none } s k .no := by
  rw [e_stp_no]
  intro B hB ds β ac w hds h Q'
  have hv := h.ev x
  rw [hx] at hv
  generalize hval : ac.eval x = v at hv
  cases hv with
  | its _ _ hn ho g g' =>
  obtain ⟨kk, hk, rfl⟩ := g' m cur todo hp
  obtain ⟨k2, bb, since, seen, last, hk2, hh, hm, hit⟩ := (h.objs p _ hp).2
  obtain rfl := Option.some.inj (hk.symm.trans hk2)
  have hlt := lt_of_some hh
  obtain ⟨clk, bs, ks, vs, rfl, hl1, hl2, hnd, hlo, ⟨hsl, hsc⟩, htodo, hcur⟩ := hit
  have hm0 := hm
  cases hm with
  | mpd _ _ ents _ _ _ hb hno hsz hbs hkk hvv =>
  have hget : ∀ (i : Nat) (en : MapEntry), ents[i]? = some en → ents.getD i default = en := fun i en h => by simp [Array.getD_eq_getD_getElem?, h]
  have hold : ∀ e ∈ ents.toList, e.born < since := fun e he => hlo _ (by rw [← hbs]; exact List.mem_map_of_mem he)
  have hZ : (bs.zip (ks.zip vs)).map (·.1) = bs := List.map_fst_zip (by rw [List.length_zip]; omega)
  have hat : ∀ i, i < ents.size → ∃ en kd vd, ents[i]? = some en ∧ ks[i]? = some kd ∧ vs[i]? = some vd ∧ (bs.zip (ks.zip vs))[i]? = some (en.born, (kd, vd)) := by
    intro i hi
    have h1 : i < ks.length := by omega
    have h2 : i < vs.length := by omega
    refine ⟨ents[i], ks[i], vs[i], by simp, by simp, by simp, ?_⟩
    have h3 : bs[i]? = some ents[i].born := by rw [← hbs]; simp [hi]
    rw [List.getElem?_zip_eq_some]
    exact ⟨h3, by rw [List.getElem?_zip_eq_some]; exact ⟨by simp, by simp⟩⟩
  rcases run_next_at (P := P) w ty kk.b bb since last seen ents clk hh hb hold hsl with ⟨h0, hr⟩ | ⟨e, he, w1, hw1, hr⟩
  · have hrun : (execOp ac.eval { dst := some t, op := .next x false, type := ty, pos := ps, after := af, guard := none }).run P w = .ok (.value (.tuple #[.bool false])) w := by
      show (do pure (Next.value (← Instr.next (ac.eval x) false ty)) : Sem Next).run P w = _
      rw [hval, Sem.run_bind, hr]; rfl
    have hemp : todo = [] := by
      rw [htodo, List.map_eq_nil_iff, List.filter_eq_nil_iff]
      intro q hq
      obtain ⟨i, hi⟩ := List.getElem?_of_mem hq
      have hi' : i < ents.size := by
        have := (List.getElem?_eq_some_iff.1 hi).1
        rw [List.length_zip, List.length_zip] at this
        omega
      obtain ⟨en, kd, vd, g1, _, _, g4⟩ := hat i hi'
      rw [hi] at g4
      cases g4
      have hem : en ∈ ents.toList := by
        have := Array.mem_of_getElem? g1
        simpa using this
      have hne : en ∉ (leftOf ents seen).toList := by
        intro hc
        have : 0 < (leftOf ents seen).size := by
          have := List.length_pos_of_mem hc
          simpa using this
        omega
      intro hcs
      apply hne
      unfold leftOf
      simp only [Array.toList_filter, List.mem_filter]
      exact ⟨hem, hcs⟩
    refine wpIn_of_run (by simp) hrun (.inl rfl) ⟨hds, _, _, run_ok (by rw [← E.run_eq]; exact h2 hemp), h.put (by rw [hB.1]; exact ht) ?_⟩
    refine .tup _ _ rfl fun i y hi => ?_
    match i, hi with
    | 0, hi => obtain rfl := Option.some.inj hi; exact .d _ _ (.bool _)
  · have hrun : (execOp ac.eval { dst := some t, op := .next x false, type := ty, pos := ps, after := af, guard := none }).run P w = .ok (.value (.tuple #[.bool true, e.key, e.val])) (setBlock w1 kk.b (.mapIter (some bb) since (seen.push e.born) clk)) := by
      show (do pure (Next.value (← Instr.next (ac.eval x) false ty)) : Sem Next).run P w = _
      rw [hval, Sem.run_bind, hr]; rfl
    have he2 : e ∈ ents.toList ∧ seen.contains e.born = false := by
      unfold leftOf at he
      simp only [Array.toList_filter, List.mem_filter] at he
      exact ⟨he.1, by simpa using he.2⟩
    obtain ⟨i, hi⟩ := List.getElem?_of_mem he2.1
    have hi' : ents[i]? = some e := by simpa using hi
    have hil := lt_of_some hi'
    obtain ⟨en, kd, vd, g1, g2, g3, g4⟩ := hat i hil
    obtain rfl := Option.some.inj (hi'.symm.trans g1)
    obtain ⟨l1, l2, f1, f2⟩ := filter_push (Z := bs.zip (ks.zip vs)) (by rw [hZ]; exact hnd) seen (List.mem_of_getElem? g4) he2.2
    have hw : wio w1 = wio w ∧ w1.heap = w.heap := by rcases hw1 with rfl | rfl <;> exact ⟨rfl, rfl⟩
    have hkr : Rep w.heap (s.own B.A β) e.key kd := by have := hkk i kd g2; rwa [hget i e hi'] at this
    have hvr' : Rep w.heap (s.own B.A β) e.val vd := by have := hvv i vd g3; rwa [hget i e hi'] at this
    obtain ⟨hsim, hvr⟩ := h.modify (p := p) (ob' := .miter (.mpd clk bs ks vs) (some (kd, vd)) (l1.map (·.2) ++ l2.map (·.2))) hp trivial (w' := setBlock w1 kk.b (.mapIter (some bb) since (seen.push e.born) clk)) (by rw [← hw.1]; rfl) (by simp [setBlock, hw.2])
      (fun b hb' => by
        have := hb' kk hk
        simp [setBlock, hw.2, Ne.symm this]) (fun _ hrr => ⟨kk, bb, since, seen.push e.born, clk, hk, by simp [setBlock, hw.2, hlt], hrr _ _ hm0,
          clk, bs, ks, vs, rfl, hl1, hl2, hnd, hlo, ⟨hsc, hsc⟩, by rw [f2, List.map_append], fun x hx => ⟨rfl, e.born, by simp, by cases hx; exact List.mem_of_getElem? g4⟩⟩)
    refine wpIn_of_run (by simp) hrun (.inl rfl) ⟨hds, _, _, run_ok (by rw [← E.run_eq]; exact h1 (l1.map (·.2)) (kd, vd) (l2.map (·.2)) (by rw [htodo, f1, List.map_append]; rfl)), hsim.put (by rw [hB.1]; exact ht) ?_⟩
    refine .tup _ _ rfl fun i y hi => ?_
    match i, hi with
    | 0, hi => obtain rfl := Option.some.inj hi; exact .d _ _ (.bool _)
    | 1, hi => obtain rfl := Option.some.inj hi; exact hvr _ _ (.d _ _ hkr)
    | 2, hi => obtain rfl := Option.some.inj hi; exact hvr _ _ (.d _ _ hvr')
/-- The entry at which the range is. -/
theorem e_entryM (E : Eng P cf Q) {x : Operand} {t : Nat} {ty : TypeId} {ps : String} {af : Array Edge} (p : Name) (m : D) (y : D × D) (todo : List (D × D)) (hx : ev s x = .it p) (hp : s.hp p = some (.miter m (some y) todo)) (ht : t < cf.n)
    (h1 : E.run k (s.put t (.tup [.d y.1, .d y.2]))) :
    E.stp { dst := some t, op := .entry x, type := ty, pos := ps, after := af, guard := none } s k .no := by
  rw [e_stp_no]
  intro B hB ds β ac w hds h Q'
  have hv := h.ev x
  rw [hx] at hv
  generalize hval : ac.eval x = v at hv
  cases hv with
  | its _ _ hn ho g g' =>
  obtain ⟨kk, hk, rfl⟩ := g' m (some y) todo hp
  obtain ⟨k2, bb, since, seen, last, hk2, hh, hm, hit⟩ := (h.objs p _ hp).2
  obtain rfl := Option.some.inj (hk.symm.trans hk2)
  obtain ⟨clk, bs, ks, vs, rfl, hl1, hl2, hnd, hlo, ⟨hsl, hsc⟩, htodo, hcur⟩ := hit
  obtain ⟨rfl, st, hst, hmem⟩ := hcur y rfl
  cases hm with
  | mpd _ _ ents _ _ _ hb hno hsz hbs hkk hvv =>
  obtain ⟨i, hi⟩ := List.getElem?_of_mem hmem
  rw [List.getElem?_zip_eq_some] at hi
  obtain ⟨i1, i2⟩ := hi
  obtain ⟨i4, i3⟩ := List.getElem?_zip_eq_some.1 i2
  clear i2
  rw [← hbs, List.getElem?_map, Option.map_eq_some_iff] at i1
  obtain ⟨e, he, rfl⟩ := i1
  have he' : ents[i]? = some e := by simpa using he
  have hget : ents.getD i default = e := by simp [Array.getD_eq_getD_getElem?, he']
  have hseen : seen = seen.pop.push e.born := by
    refine Array.ext' ?_
    have h1 : seen.toList.getLast? = some e.born := by rw [← hst, Array.getLast?_toList]
    have h2 : seen.toList ≠ [] := fun h => by rw [h] at h1; simp at h1
    rw [Array.toList_push, Array.toList_pop]
    have h3 : seen.toList.getLast h2 = e.born := by
      rw [List.getLast?_eq_some_getLast h2] at h1
      exact Option.some.inj h1
    rw [← h3, List.dropLast_concat_getLast]
  rw [hseen] at hh
  have hr := run_entry_at (P := P) w kk.b bb since seen.pop ents last e hh hb (List.mem_of_getElem? he) (by rw [hbs]; exact hnd)
  have hrun : (execOp ac.eval { dst := some t, op := .entry x, type := ty, pos := ps, after := af, guard := none }).run P w = .ok (.value (.tuple #[e.key, e.val])) w := by
    show (do pure (Next.value (← Instr.entry (ac.eval x))) : Sem Next).run P w = _
    rw [hval, Sem.run_bind, hr]; rfl
  refine wpIn_of_run (by simp) hrun (.inl rfl) ⟨hds, _, _, run_ok (by rw [← E.run_eq]; exact h1), h.put (by rw [hB.1]; exact ht) ?_⟩
  have hkr : Rep w.heap (s.own B.A β) e.key y.1 := by have := hkk i _ i4; rwa [hget] at this
  have hvr' : Rep w.heap (s.own B.A β) e.val y.2 := by have := hvv i _ i3; rwa [hget] at this
  refine .tup _ _ rfl fun i z hi => ?_
  match i, hi with
  | 0, hi => obtain rfl := Option.some.inj hi; exact .d _ _ hkr
  | 1, hi => obtain rfl := Option.some.inj hi; exact .d _ _ hvr'
end
end Go.Ab
