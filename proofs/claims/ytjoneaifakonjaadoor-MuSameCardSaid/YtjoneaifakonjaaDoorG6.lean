/-
  The generic layer, part 30: loops, the way out behind the veil as well. (with the parts that follow it)
-/
import Derived.Test.YtjoneaifakonjaaDoorG3
set_option linter.all false
/-! ### The generic layer, part 30: loops, the way out behind the veil as well. -/
namespace Go.Ab
section
variable {P : Program} {cf : Cf} {Q : Exit → St → Prop} {s : St} {k : List It} {c : Code}
/-- How a round may be left. -/
def lqE (E : Eng P cf Q) (next : St → Prop) (k : List It) (e : Exit) (s : St) : Prop :=
  match e with
  | .normal => next s
  | .exit i => E.xk i k s
  | .ret => Q .ret s
  | _ => False
theorem lqE_eq (E : Eng P cf Q) (next : St → Prop) (k : List It) : lqE E next k = lq P cf next k Q := by
  funext e s
  cases e with
  | exit i => show E.xk i k s = xk P cf i k Q s; rw [E.xk_eq']
  | _ => rfl
theorem lqE_normal (E : Eng P cf Q) (next : St → Prop) : lqE E next k .normal s = next s := rfl
theorem lqE_exit (E : Eng P cf Q) (next : St → Prop) (i : Nat) : lqE E next k (.exit i) s = E.xk i k s := rfl
theorem lqE_ret (E : Eng P cf Q) (next : St → Prop) : lqE E next k .ret s = Q .ret s := rfl
attribute [go_sem] lqE_normal lqE_exit lqE_ret
/-- A loop whose rounds carry plain values alone. -/
theorem loopP_e (E : Eng P cf Q) {X : Type} (I : X → List (Nat × AV)) (μ : X → Nat) (hU : cf.U = []) (x0 : X) (h0 : frE s (I x0))
    (hr : ∀ x, ∀ E' : Eng P cf (lqE E (fun s' => ∃ y, μ y < μ x ∧ frE s' (I y)) k), E'.run [.code c] (mk (I x) [] [])) : CodeE E (.loop c) s k :=
  loopP_ok I μ hU x0 h0 fun x => by rw [← lqE_eq E]; exact veil (hr x)
/-- A loop whose rounds carry values and objects under their own names. -/
theorem loopO_e (E : Eng P cf Q) {X : Type} (I : X → List (Nat × AV)) (O : X → List (Name × Ob)) (u : List Nat) (μ : X → Nat) (x0 : X) (h0 : LeL cf.U id s (I x0) (O x0) u)
    (hr : ∀ x, ∀ E' : Eng P cf (lqE E (fun s' => ∃ y, μ y < μ x ∧ LeL cf.U id s' (I y) (O y) u) k), E'.run [.code c] (mk (I x) (O x) u)) : CodeE E (.loop c) s k :=
  loopO_ok I O u μ x0 h0 fun x => by rw [← lqE_eq E]; exact veil (hr x)
end
end Go.Ab
/-! ### The generic layer, part 31: ranges over strings behind the veil; lesser states by evaluation. -/
namespace Go.Ab
section
variable {P : Program} {cf : Cf} {Q : Exit → St → Prop} (E : Eng P cf Q) {s : St} {k : List It}
theorem e_ranges {xt : Nat} {x : Operand} {t : Nat} {ty : TypeId} {pos : String} {af : Array Edge} (l : List UInt8) (hs : (P.ti xt).k = .str) (hx : ev s x = .d (.str l)) (ht : t < cf.n) (hu : t ∉ s.used)
    (hk : E.run k ((s.add t (.siter l 0)).put t (.it [t]))) :
    E.stp { dst := some t, op := .range xt x, type := ty, pos := pos, after := af, guard := none } s k .no := by
  rw [e_stp_no]
  exact range_str hs hx ht hu (by rw [← E.run_eq]; exact hk)
theorem e_nexts {x : Operand} {t : Nat} {ty : TypeId} {ps : String} {af : Array Edge} (p : Name) (l : List UInt8) (pos : Nat) (hx : ev s x = .it p) (hp : s.hp p = some (.siter l pos)) (ht : t < cf.n)
    (h1 : pos < l.length → E.run k ((s.set p (some (.siter l (pos + (Utf8.decode ⟨l.toArray⟩ pos).2)))).put t (.tup [.d (.bool true), .d (.int .i64 pos), .d (.int .i32 (Utf8.decode ⟨l.toArray⟩ pos).1)])))
    (h2 : ¬ pos < l.length → E.run k (s.put t (.tup [.d (.bool false)]))) :
    E.stp { dst := some t, op := .next x true, type := ty, pos := ps, after := af, guard := none } s k .no := by
  rw [e_stp_no]
  exact next_str hx hp ht (fun h => by rw [← E.run_eq]; exact h1 h) (fun h => by rw [← E.run_eq]; exact h2 h)
theorem e_convb {src dst' e : Nat} {x : Operand} {t : Nat} {ty : TypeId} {pos : String} {af : Array Edge} (bs : List UInt8) (hs : (P.ti src).k = .slice e) (he : (P.ti e).k = .int .u8) (hd : (P.ti dst').k = .str)
    (hl : listOf none s.hp (ev s x) = some (bs.map fun b => .int .u8 b.toNat)) (ht : t < cf.n) (hk : E.run k (s.put t (.d (.str bs)))) :
    E.stp { dst := some t, op := .convert src dst' x, type := ty, pos := pos, after := af, guard := none } s k .no := by
  rw [e_stp_no]
  exact conv_bytes bs hs he hd hl ht (by rw [← E.run_eq]; exact hk)
end
theorem nmb_cons (u : List Nat) (h : Nat) (t : Name) : nmb u (h :: t) = u.contains h := rfl
attribute [go_sem] LeL frL hpL injL stayL AV.ren Ob.ren renL Ob.inU nmb_cons id_eq List.contains_cons List.contains_nil Bool.or_true Bool.true_or Bool.or_false Bool.false_or
end Go.Ab
/-! ### The generic layer, part 32: an array that nobody writes any more turns into plain data. -/
namespace Go.Ab
mutual
def AV.frz (p : Name) (w : W) (xs : List D) : AV → AV
  | .un => .un
  | .d x => .d x
  | .vw q o l => if q = p then .d (.sl w ((xs.drop o).take l)) else .vw q o l
  | .bx q c => .bx q c
  | .el q i c => .el q i c
  | .mp q => .mp q
  | .it q => .it q
  | .agg cs => mkAgg (frzL p w xs cs)
  | .tup cs => .tup (frzL p w xs cs)
  | .clo f cs => .clo f (frzL p w xs cs)
def frzL (p : Name) (w : W) (xs : List D) : List AV → List AV
  | [] => []
  | x :: r => x.frz p w xs :: frzL p w xs r
end
theorem frzL_length (p : Name) (w : W) (xs : List D) : ∀ l : List AV, (frzL p w xs l).length = l.length
  | [] => rfl
  | _ :: r => by simp [frzL, frzL_length p w xs r]
theorem frzL_get (p : Name) (w : W) (xs : List D) : ∀ (l : List AV) (i : Nat), (frzL p w xs l)[i]? = (l[i]?).map (AV.frz p w xs)
  | [], i => by simp [frzL]
  | x :: r, 0 => by simp [frzL]
  | x :: r, i + 1 => by simp [frzL, frzL_get p w xs r i]

section
variable {H : Array Obj} {own own' : Nat → Prop} {used : List Nat} {hp hp' : Name → Option Ob} {β : Name → Option Blk}
theorem VR.frz {p : Name} {w : W} {xs : List D} (hr : ∀ v d, Rep H own v d → Rep H own' v d) (hst : ∀ q, nm used q → Stays hp hp' β β q) (hp0 : hp p = some (.arr w xs)) (ho : OR H own used hp β p (.arr w xs))
    (hno : ∀ k, β p = some k → ¬ own' k.b) {v : Value} {x : AV} (h : VR H own used hp β v x) : VR H own' used hp' β v (x.frz p w xs) := by
  induction h with
  | un v => exact .un v
  | d v x h => exact .d v x (hr v x h)
  | vw v q off len hn h1 h =>
    unfold AV.frz
    split
    · rename_i e
      subst e
      obtain ⟨hle, a, cap, rfl, h2⟩ := h w xs hp0
      refine .d _ _ ?_
      have hlen : ((xs.drop off).take len).length = len := by simp; omega
      by_cases h0 : len = 0
      · subst h0
        rw [List.take_zero]
        exact .sl0 a cap w
      · rcases h2 with ⟨h3, _⟩ | ⟨k, hk, rfl, hcap, hz⟩
        · exact absurd h3 h0
        · rcases ho with ⟨h4, rfl⟩ | ⟨k', c, e, hk', hc, hcz, hl, hw, hrep⟩
          · rw [hk] at h4; cases h4
          · rw [hk] at hk'
            cases hk'
            have : Rep H own' (.slice (some ⟨k.b, k.o + off * wd w, none⟩) ((xs.drop off).take len).length cap) (.sl w ((xs.drop off).take len)) := by
              refine .sl k.b (k.o + off * wd w) cap c e (0, 0) w _ hc (hno k hk) (by omega) ?_ (fun x hx => hw x (List.mem_of_mem_drop (List.mem_of_mem_take hx))) (fun i x j d hi hj => ?_)
              · rw [hlen, hcz]
                have e1 : (off + cap) * wd w = off * wd w + cap * wd w := Nat.add_mul _ _ _
                have e2 : len * wd w ≤ cap * wd w := Nat.mul_le_mul_right _ hcap
                omega
              · have hi' : xs[off + i]? = some x := by
                  rw [List.getElem?_take] at hi
                  split at hi
                  · rw [List.getElem?_drop] at hi; exact hi
                  · cases hi
                have := hrep (off + i) x j d hi' hj
                rw [show k.o + off * wd w + i * wd w + j = k.o + (off + i) * wd w + j by rw [Nat.add_mul]; omega]
                exact hr _ _ this
            rw [hlen] at this
            exact this
    · exact VR.mono hr (fun _ h => h) hst (.vw v q off len hn h1 h)
  | bx v q c hn h1 h => exact VR.mono hr (fun _ h => h) hst (.bx v q c hn h1 h)
  | el v q i c hn h1 h => exact VR.mono hr (fun _ h => h) hst (.el v q i c hn h1 h)
  | mp v q hn h1 h => exact VR.mono hr (fun _ h => h) hst (.mp v q hn h1 h)
  | its v q hn h1 h h' => exact VR.mono hr (fun _ h => h) hst (.its v q hn h1 h h')
  | agg vs cs hs hc _ ih =>
    have := mkAgg_rep (H := H) (own := own') (used := used) (hp := hp') (β := β) (vs := vs.toList) (cs := frzL p w xs cs) (by rw [frzL_length]; simpa using hs) (by simpa using hc) (fun i v x hv hx => by
      rw [frzL_get, Option.map_eq_some_iff] at hx
      obtain ⟨y, hy, rfl⟩ := hx
      have := ih i y hy
      have e : vs.getD i undef = v := by
        simp only [Array.getElem?_toList] at hv
        simp [Array.getD_eq_getD_getElem?, hv]
      rw [e] at this
      exact this)
    simpa [AV.frz] using this
  | tup vs cs hs _ ih =>
    refine .tup vs _ (by rw [frzL_length]; exact hs) (fun i x hi => ?_)
    rw [frzL_get, Option.map_eq_some_iff] at hi
    obtain ⟨y, hy, rfl⟩ := hi
    exact ih i y hy
  | clo f vs cs hs _ ih =>
    refine .clo f vs _ (by rw [frzL_length]; exact hs) (fun i x hi => ?_)
    rw [frzL_get, Option.map_eq_some_iff] at hi
    obtain ⟨y, hy, rfl⟩ := hi
    exact ih i y hy
end

/-- The state in which an array has turned into data. -/
def St.frz (s : St) (p : Name) (w : W) (xs : List D) : St := { fr := fun t => (s.fr t).frz p w xs, hp := updP s.hp p none, used := s.used }
theorem Sim.frz {B : Base} {β : Name → Option Blk} {s : St} {tm : Array Value} {w : World} (h : Sim B β s tm w) {p : Name} {wf : W} {xs : List D} (hp : s.hp p = some (.arr wf xs)) : Sim B β (s.frz p wf xs) tm w := by
  have h0 := h.drop p
  have hsub : ∀ q o, (s.set p none).hp q = some o → s.hp q = some o := by
    intro q o ho
    by_cases e : q = p
    · subst e; simp [St.set, updP] at ho
    · simpa [St.set, updP, e] using ho
  have hne : ∀ q, (s.set p none).hp q ≠ none → s.hp q ≠ none ∧ q ≠ p := by
    intro q hq
    cases ho : (s.set p none).hp q with
    | none => exact absurd ho hq
    | some o =>
      refine ⟨by rw [hsub q o ho]; simp, fun e => ?_⟩
      subst e; simp [St.set, updP] at ho
  have hr : ∀ v d, Rep w.heap (s.own B.A β) v d → Rep w.heap ((s.set p none).own B.A β) v d := fun v d hd => hd.mono (fun _ _ _ => rfl) (by
    rintro b _ (hA | ⟨q, k, hq, hk, e⟩)
    · exact .inl hA
    · exact .inr ⟨q, k, (hne q hq).1, hk, e⟩)
  have hst : ∀ q, nm s.used q → Stays s.hp (s.set p none).hp β β q := fun q _ o' ho' => ⟨o', hsub q o' ho', Ob.like_refl _, rfl⟩
  refine { tms := h.tms, io := h.io, size := h.size, frame := h.frame, slots := fun i => ?_, objs := h0.objs, blocks := h0.blocks, inj := h0.inj, us := h.us, stay := h.stay }
  refine (h.slots i).frz hr hst hp (h.objs p _ hp).2 fun k hk hown => ?_
  rcases hown with hA | ⟨q, k', hq, hk', e⟩
  · exact (h.blocks p k (by rw [hp]; simp) hk).2.1 hA
  · exact (hne q hq).2 (h.inj q p k' k (hne q hq).1 (by rw [hp]; simp) hk' hk e)

section
variable {P : Program} {cf : Cf} {Q : Exit → St → Prop} {s : St} {k : List It}
theorem aok_of_stp {o : Oper} {o' : Oper} (ho' : o' = { o with guard := none }) (h : stp P cf (opR P.ti cf.n o.op o.dst s) o' s k Q) : AOk P cf o' s k Q := by
  intro B hB ds β a w hds hs Q'
  unfold stp at h
  have h' : (opR P.ti B.n o'.op o'.dst s).run (fun s' => run P cf k Q s') (AOk P cf o' s k Q) := by subst ho'; rw [hB.1]; exact h
  rcases opR_sound hs h' with hz | ⟨nx, v, w', s', β', hrun, hnx, hf, hsim⟩
  · exact hz B hB ds β a w hds hs Q'
  · have hnd : ∀ c, o'.op ≠ .defer c := by
      intro c hc
      have : ∃ d w2, (execOp a.eval o').run P w = .ok (.defer d) w2 ∨ ∃ h w2, (execOp a.eval o').run P w = .halt h w2 := by
        simp only [execOp, hc, Sem.run_bind]
        cases (resolve a.eval c o'.type).run P w with
        | ok d w2 => exact ⟨d, w2, .inl rfl⟩
        | halt hh w2 => exact ⟨default, w2, .inr ⟨hh, w2, rfl⟩⟩
      obtain ⟨d, w2, h1 | ⟨hh, w3, h1⟩⟩ := this
      · rw [hrun] at h1; cases h1; rcases hnx with h2 | ⟨h2, _⟩ <;> cases h2
      · rw [hrun] at h1; cases h1
    exact wpIn_of_run hnd hrun hnx ⟨by cases o'.dst <;> exact hds, s', β', run_ok hf, hsim⟩
/-- Where an operation stands still, an array may turn into data first. -/
theorem e_frz (E : Eng P cf Q) {d : Option Nat} {op : Op} {ty : TypeId} {ps : String} {af : Array Edge} (p : Name) (w : W) (xs : List D) (hp : s.hp p = some (.arr w xs)) (h : E.stp { dst := d, op := op, type := ty, pos := ps, after := af, guard := none } (s.frz p w xs) k (opR P.ti cf.n op d (s.frz p w xs))) :
    E.stp { dst := d, op := op, type := ty, pos := ps, after := af, guard := none } s k .no := by
  rw [e_stp_no]
  rw [E.stp_eq] at h
  have h1 := aok_of_stp (o := { dst := d, op := op, type := ty, pos := ps, after := af, guard := none }) rfl h
  intro B hB ds β a w' hds hs Q'
  exact h1 B hB ds β a w' hds (hs.frz hp) Q'
/-- So at code that is left to a rule of its own. -/
theorem c_frz (E : Eng P cf Q) {c : Code} (p : Name) (w : W) (xs : List D) (hp : s.hp p = some (.arr w xs)) (h : CodeE E c (s.frz p w xs) k) : CodeE E c s k := by
  intro B hB ds β a w' hds hs
  exact h B hB ds β a w' hds (hs.frz hp)
theorem lkA_frz (p : Name) (w : W) (xs : List D) (t : Nat) : ∀ l : List (Nat × AV), (lkA .un l t).frz p w xs = lkA .un (l.map fun q => (q.1, q.2.frz p w xs)) t
  | [] => rfl
  | q :: r => by
    simp only [lkA, List.map_cons]
    split
    · rfl
    · exact lkA_frz p w xs t r
theorem mk_frz (fr : List (Nat × AV)) (hp : List (Name × Ob)) (u : List Nat) (p : Name) (w : W) (xs : List D) : (mk fr hp u).frz p w xs = mk (fr.map fun q => (q.1, q.2.frz p w xs)) (delA hp p) u := by
  unfold St.frz mk
  congr 1
  · funext t
    exact lkA_frz p w xs t fr
  · funext q
    rw [map_del, lkA_del]
    rfl
attribute [go_sem] mk_frz AV.frz frzL
/-! ### Results that are arrays -/
def frzs (L : List (Name × W × List D)) (x : AV) : AV := L.foldl (fun x q => x.frz q.1 q.2.1 q.2.2) x
/-- The arrays that lie there, each once. -/
def Lok (s : St) : List (Name × W × List D) → Prop
  | [] => True
  | q :: r => s.hp q.1 = some (.arr q.2.1 q.2.2) ∧ Lok (s.frz q.1 q.2.1 q.2.2) r
def pz (P : Program) (rs : List ResultVar) (Q : AV → Prop) (e : Exit) (s : St) : Prop :=
  match e with
  | .ret => RX (resR P s rs) fun l => ∃ L, Lok s L ∧ (frzs L (retV l)).inU [] = true ∧ Q (frzs L (retV l))
  | .normal => RX (resR P s rs) fun l => ∃ L, Lok s L ∧ (frzs L (retV l)).inU [] = true ∧ Q (frzs L (retV l))
  | _ => False
theorem pz_ret (rs : List ResultVar) (Q : AV → Prop) (s : St) : pz P rs Q .ret s = RX (resR P s rs) fun l => ∃ L, Lok s L ∧ (frzs L (retV l)).inU [] = true ∧ Q (frzs L (retV l)) := rfl
theorem pz_normal (rs : List ResultVar) (Q : AV → Prop) (s : St) : pz P rs Q .normal s = RX (resR P s rs) fun l => ∃ L, Lok s L ∧ (frzs L (retV l)).inU [] = true ∧ Q (frzs L (retV l)) := rfl
theorem RX_ok {α : Type} (a : α) (φ : α → Prop) : RX (.ok a) φ = φ a := rfl
theorem RX_need {α : Type} (p : Prop) (r : R α) (φ : α → Prop) : RX (.need p r) φ = (p ∧ RX r φ) := rfl
attribute [go_sem] pz_ret pz_normal RX_ok RX_need
theorem frzs_cons (q : Name × W × List D) (L : List (Name × W × List D)) (x : AV) : frzs (q :: L) x = frzs L (x.frz q.1 q.2.1 q.2.2) := rfl
theorem frzs_nil (x : AV) : frzs [] x = x := rfl
attribute [go_sem] frzs_cons frzs_nil Lok
theorem frz_slot {B : Base} {β : Name → Option Blk} {tm : Array Value} {w : World} : ∀ (L : List (Name × W × List D)) (s : St), Sim B β s tm w → Lok s L → ∃ s', Sim B β s' tm w ∧ ∀ t, s'.fr t = frzs L (s.fr t)
  | [], s, h, _ => ⟨s, h, fun _ => rfl⟩
  | q :: L, s, h, hl => by
    obtain ⟨s', h1, h2⟩ := frz_slot L (s.frz q.1 q.2.1 q.2.2) (h.frz hl.1) hl.2
    exact ⟨s', h1, fun t => by rw [h2 t]; rfl⟩
theorem Lok_ret (x : AV) : ∀ (L : List (Name × W × List D)) (s s2 : St), s.hp = s2.hp → Lok s L → Lok s2 L
  | [], _, _, _, _ => trivial
  | q :: L, s, s2, e, h => ⟨by rw [← e]; exact h.1, Lok_ret x L _ _ (by show updP s.hp _ _ = updP s2.hp _ _; rw [e]) h.2⟩

/-- A function that answers by values, out of its body's run; arrays that it made turn into data. -/
theorem funZ_ok {G : List (Nat × Obj)} {f : FuncId} {fn : Func} {c : Code} {args : List D} {Q : AV → Prop} (hf : P.funcs[f]? = some fn) (hb : fn.body = some c) (hnm : (fn.name == "runtime.NumGoroutine") = false) (hn : args.length ≤ fn.ntmps)
    (h : run P ⟨fn.ntmps, none, G, []⟩ [.code c] (pz P fn.results.toList Q) (mk (argsFr 0 (args.map .d)) [] [])) : HP P G f args Q := by
  refine ⟨enter_run hf hb hnm, fun B β vs w h1 h2 h3 h4 hs => ?_⟩
  have hsz : vs.size = args.length := by rw [hs.tms, h1]; simp
  have hs' : Sim { B with n := fn.ntmps } β (mk (argsFr 0 (args.map .d)) [] []) (vs ++ Array.replicate (fn.ntmps - vs.size) undef) w := by
    refine { hs with tms := by simp; omega, slots := fun t => ?_ }
    have := hs.slots t
    by_cases ht : t < vs.size
    · have e : (vs ++ Array.replicate (fn.ntmps - vs.size) undef).getD t undef = vs.getD t undef := by
        simp [Array.getD_eq_getD_getElem?, Array.getElem?_append, ht]
      rw [e]; exact this
    · have e : (mk (argsFr 0 (args.map .d)) [] []).fr t = .un := by
        rw [mk_fr, argsFr_get, if_pos (Nat.zero_le _), List.getElem?_eq_none (by simp; omega)]; rfl
      rw [e]; exact .un _
  have hrun := run_ok h { B with n := fn.ntmps } ⟨rfl, h3, h4⟩ [] β { tmps := vs ++ Array.replicate (fn.ntmps - vs.size) undef, defers := [] } w rfl hs'
  refine callsIn_of_wp hf hb trivial (wpIn_mono (F := Fence.wide) hrun fun e a' w' hq => ?_)
  obtain ⟨hd, s', β', hq, hsim⟩ := hq
  have fin : RX (resR P s' fn.results.toList) (fun l => ∃ L, Lok s' L ∧ (frzs L (retV l)).inU [] = true ∧ Q (frzs L (retV l))) →
      a'.defers = [] ∧ ∃ v, (results fn a'.tmps).run P w' = .ok v w' ∧ ∃ v' r hp' u' β', Ending.returned v = .returned v' ∧ (Q r ∧ r.inU [] = true ∧ hp' = []) ∧ Sim { B with n := 1 } β' (mk [(0, r)] hp' u') #[v'] w' := by
    intro hx
    obtain ⟨l, v, ⟨L, hL, hin, hQ⟩, hr, hv⟩ := run_results hsim fn hx
    have hret : Sim { B with n := 1 } β' (retS s' (retV l)) #[v] w' := by
      refine { tms := rfl, io := hsim.io, size := hsim.size, frame := hsim.frame, slots := fun t => ?_, objs := hsim.objs, blocks := hsim.blocks, inj := hsim.inj, us := hsim.us, stay := hsim.stay }
      show VR w'.heap (s'.own B.A β') s'.used s'.hp β' _ (if t = 0 then retV l else .un)
      by_cases ht : t = 0
      · subst ht; rw [if_pos rfl]; exact hv
      · rw [if_neg ht]; exact .un _
    obtain ⟨s2, hs2, hfr⟩ := frz_slot L _ hret (Lok_ret (retV l) L s' _ rfl hL)
    have hle : LeL ([] : List Nat) id s2 [(0, frzs L (retV l))] [] [] := by
      refine ⟨⟨⟨?_, hin⟩, trivial⟩, trivial, trivial, rfl, trivial⟩
      rw [AV.ren_id id (fun _ => rfl), hfr 0]
      rfl
    obtain ⟨β2, hs3, _⟩ := hs2.le (τ := id) (by show Le B.U0 id _ _; rw [h3]; exact hle.le)
    exact ⟨hd, v, hr, v, _, _, _, β2, rfl, ⟨hQ, hin, rfl⟩, hs3⟩
  cases e with
  | normal => exact fin hq
  | ret => exact fin hq
  | exit i => exact hq.elim
  | goto l => exact hq.elim
  | panic c => exact hq.elim
  | outgrown => exact hq.elim
end
end Go.Ab
