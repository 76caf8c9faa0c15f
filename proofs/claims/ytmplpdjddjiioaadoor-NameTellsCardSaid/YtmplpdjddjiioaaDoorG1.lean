/-
  The generic layer, part 27: regions that draw their order, whose operations turn no memory: one walk in the text's order serves every order.
-/
import Derived.Test.YtmplpdjddjiioaaDoorC9
namespace Go.Ab

/-- What an operation yields that turns no memory. -/
def opV (tf : Nat → TI) (o : Op) (s : St) : R AV :=
  match o with
  | .move x => .ok (ev s x)
  | .assign x => .ok (ev s x)
  | .pick c a b => pickR (ev s c) (ev s a) (ev s b)
  | .build t parts => buildR tf (tf t) (parts.toList.map fun q => (q.1, ev s q.2))
  | .load t x => loadR (tf t) s.hp (ev s x)
  | .fieldAddr t x f => fieldAddrR (tf t) tf s.hp (ev s x) f
  | .field t x f => fieldR (tf t) tf (ev s x) f
  | .indexAddr t x j => indexAddrR (tf t) tf s.hp (ev s x) (ev s j)
  | .index t x j => indexR (tf t) (ev s x) (ev s j)
  | .slice t x lo hi mx => match mx with
    | none => sliceR (tf t) tf s.hp (ev s x) (lo.map (ev s)) (hi.map (ev s))
    | some _ => .no
  | .binOp op t x y _ => binR (tf t).k op (ev s x) (ev s y)
  | .unOp op _ x => unR op (ev s x)
  | .convert a b x => convR (tf a) (tf b) (ev s x)
  | .extract x i => extractR (ev s x) i
  | .makeFunc fn first caps => makeFuncR fn first.toList (caps.toList.map (ev s))
  | .call c => match c.callee with
    | .builtin b => match b, c.args.toList, c.argTypes.toList with
      | .len, [x], [t] => lenR (tf t) s.hp (ev s x)
      | .max, [x, y], _ => maxR (ev s x) (ev s y)
      | .min, [x, y], _ => minR (ev s x) (ev s y)
      | _, _, _ => .no
    | _ => .no
  | _ => .no

theorem opV_opR (tf : Nat → TI) (n : Nat) (o : Op) (d : Option Nat) (s : St) : opV tf o s = .no ∨ opR tf n o d s = (opV tf o s).bind (putR n d s) := by
  cases o with
  | slice t x lo hi mx => cases mx <;> simp [opV, opR]
  | call c =>
    obtain ⟨callee, args, ats⟩ := c
    cases callee with
    | value _ => exact .inl rfl
    | invoke _ _ => exact .inl rfl
    | builtin b =>
      obtain ⟨args⟩ := args
      obtain ⟨ats⟩ := ats
      simp only [opV, opR]
      split
      · exact .inr rfl
      · exact .inr rfl
      · exact .inr rfl
      · exact .inl rfl
  | _ => first | exact .inr rfl | exact .inl rfl

theorem ev_cg {s s' : St} {x : Operand} (h : ∀ t, x = .tmp t → s'.fr t = s.fr t) : ev s' x = ev s x := by
  cases x <;> first | rfl | exact h _ rfl
theorem evs_cg {s s' : St} {l : List Operand} (h : ∀ x ∈ l, ev s' x = ev s x) : l.map (ev s') = l.map (ev s) := List.map_congr_left h
theorem opV_cg (tf : Nat → TI) (o : Op) (s s' : St) (hh : s'.hp = s.hp) (h : ∀ x ∈ o.operands, ev s' x = ev s x) : opV tf o s' = opV tf o s := by
  cases o with
  | slice t x lo hi mx =>
    cases mx with
    | some _ => rfl
    | none =>
      simp only [opV, hh]
      rw [h x (by simp [Op.operands])]
      have h1 : lo.map (ev s') = lo.map (ev s) := by
        cases lo with
        | none => rfl
        | some y => simp [h y (by simp [Op.operands])]
      have h2 : hi.map (ev s') = hi.map (ev s) := by
        cases hi with
        | none => rfl
        | some y => simp [h y (by simp [Op.operands])]
      rw [h1, h2]
  | build t parts =>
    simp only [opV]
    have : (parts.toList.map fun q => (q.1, ev s' q.2)) = parts.toList.map fun q => (q.1, ev s q.2) :=
      List.map_congr_left fun q hq => by rw [h q.2 (by simp only [Op.operands, List.mem_toArray, List.mem_map]; exact ⟨q, hq, rfl⟩)]
    rw [this]
  | makeFunc fn first caps =>
    simp only [opV]
    rw [evs_cg fun x hx => h x (by simp only [Op.operands, Array.mem_append]; exact .inr (by simpa using hx))]
  | call c =>
    obtain ⟨callee, args, ats⟩ := c
    cases callee with
    | value _ => rfl
    | invoke _ _ => rfl
    | builtin b =>
      obtain ⟨args⟩ := args
      obtain ⟨ats⟩ := ats
      have hm : ∀ x ∈ args, ev s' x = ev s x := fun x hx => h x (by simp [Op.operands, Call.operands, hx])
      simp only [opV]
      split
      · rename_i x _; rw [hh, hm x (by simp)]
      · rename_i x y; rw [hm x (by simp), hm y (by simp)]
      · rename_i x y; rw [hm x (by simp), hm y (by simp)]
      · rfl
  | _ => first
    | rfl
    | (simp only [opV, hh]; simp only [Op.operands, List.mem_toArray, List.mem_cons, List.not_mem_nil, or_false, forall_eq_or_imp, forall_eq] at h; simp only [h])

/-- It yields this. -/
def yl : R AV → AV → Prop
  | .ok y, x => y = x
  | .need p r, x => p ∧ yl r x
  | .no, _ => False
def qv : R AV → (AV → Prop) → Prop → Prop
  | .ok x, f, _ => f x
  | .need p r, f, z => p ∧ qv r f z
  | .no, _, z => z
theorem qv_yl {f : AV → Prop} {z : Prop} : ∀ {r : R AV}, qv r f z → (r = .no ∨ ∃ x, yl r x ∧ f x) ∨ z
  | .ok x, h => .inl (.inr ⟨x, rfl, h⟩)
  | .no, h => .inr h
  | .need p r, h => by
    rcases qv_yl (r := r) h.2 with (e | ⟨x, h1, h2⟩) | hz
    · subst e; exact .inr h.2
    · exact .inl (.inr ⟨x, ⟨h.1, h1⟩, h2⟩)
    · exact .inr hz
theorem yl_run {x : AV} {g : AV → R St} {f : St → Prop} {z : Prop} : ∀ {r : R AV}, yl r x → (g x).run f z → (r.bind g).run f z
  | .ok y, h, hg => by have h : y = x := h; subst h; exact hg
  | .need p r, h, hg => ⟨h.1, yl_run h.2 hg⟩
  | .no, h, _ => h.elim

def dOk (n : Nat) : Option Nat → Prop
  | some t => t < n
  | none => True
section
variable (P : Program) (cf : Cf) (ops : Array Oper)
/-- States that agree on what an operation looks at. -/
def agr (l : List Nat) (s s' : St) : Prop := s'.hp = s.hp ∧ s'.used = s.used ∧ ∀ t ∈ l, s'.fr t = s.fr t
/-- An operation that yields x at such a state, and at all that agree with it, and turns nothing that is known. -/
def QY (o : Oper) (s : St) (x : AV) : Prop := ∀ s', s'.hp = s.hp → s'.used = s.used → (∀ y ∈ o.op.operands, ev s' y = ev s y) →
  ∀ B, cf.fits B → ∀ ds β a w, a.defers = ds → Sim B β s' a.tmps w → ∀ Q', o.wpIn (Fw cf.ro) 0 P a w (fun a' w' => a'.defers = ds ∧ ∃ β', Sim B β' (s'.putd o.dst x) a'.tmps w') Q'

def qrun (K : St → Prop) : List Oper → St → Prop
  | [], s => K s
  | o :: r, s =>
    match o.guard with
    | none => qv (opV P.ti o.op s) (fun x => dOk cf.n o.dst ∧ qrun K r (s.putd o.dst x)) (∃ x, QY P cf o s x ∧ dOk cf.n o.dst ∧ qrun K r (s.putd o.dst x))
    | some (j, want) =>
      match guardV ops j s with
      | some (t, .d (.bool b)) =>
        (b = want → qv (opV P.ti o.op (s.put t (.d (.bool want)))) (fun x => dOk cf.n o.dst ∧ qrun K r ((s.put t (.d (.bool want))).putd o.dst x)) (∃ x, QY P cf o (s.put t (.d (.bool want))) x ∧ dOk cf.n o.dst ∧ qrun K r ((s.put t (.d (.bool want))).putd o.dst x))) ∧
        (b = !want → dOk cf.n o.dst ∧ qrun K r ((s.put t (.d (.bool (!want)))).putd o.dst (.tup [])))
      | some (_, .tup []) => dOk cf.n o.dst ∧ qrun K r (s.putd o.dst (.tup []))
      | _ => False

/-- What is shown of one operation: at each state that agrees it leaves x. -/
def Fact (i : Nat) (o : Oper) (s : St) (x : AV) : Prop := ∀ s', agr (o.looksAt ops) s s' → ∀ B, cf.fits B → ∀ ds β a w, a.defers = ds → Sim B β s' a.tmps w → ∀ Q',
  wpOpIn (Fw cf.ro) 0 P ops Q' i (fun a' w' => a'.defers = ds ∧ ∃ β', Sim B β' (s'.putd o.dst x) a'.tmps w') a w
variable {P cf ops}

theorem looks_ev {o : Oper} {s s' : St} (h : agr (o.looksAt ops) s s') : ∀ y ∈ o.op.operands, ev s' y = ev s y := fun y hy =>
  ev_cg fun t ht => h.2.2 t (by subst ht; exact List.mem_append_left _ (List.mem_filterMap.2 ⟨.tmp t, by simpa using hy, rfl⟩))

theorem QY_of_op {o : Oper} {s : St} {x : AV} (h : yl (opV P.ti o.op s) x) (hd : dOk cf.n o.dst) : QY P cf o s x := by
  intro s' hh hu he B hB ds β a w hds hs Q'
  have hop : opR P.ti B.n o.op o.dst s' = (opV P.ti o.op s').bind (putR B.n o.dst s') := by
    rcases opV_opR P.ti B.n o.op o.dst s' with e | e
    · rw [opV_cg P.ti o.op s s' hh he] at e; rw [e] at h; exact h.elim
    · exact e
  rw [opV_cg P.ti o.op s s' hh he] at hop
  have hr : (opR P.ti B.n o.op o.dst s').run (fun s2 => s2 = s'.putd o.dst x) False := by
    rw [hop]
    refine yl_run h ?_
    cases hdst : o.dst with
    | none => exact rfl
    | some t =>
      rw [hdst] at hd
      have : t < B.n := by rw [hB.1]; exact hd
      simp [putR, this, R.run, St.putd]
  rcases opR_sound hs hr with hz | ⟨nx, v, w', s2, β', hrun, hnx, rfl, hsim⟩
  · exact hz.elim
  · have hnd : ∀ c, o.op ≠ .defer c := by
      intro c hc
      rw [hc] at h
      exact h.elim
    exact wpIn_of_run hnd hrun hnx ⟨by cases o.dst <;> exact hds, β', hsim⟩

theorem put_same {s : St} {t : Nat} {x : AV} (h : s.fr t = x) : s.put t x = s := by
  unfold St.put
  congr 1
  funext i
  unfold updN
  split
  · rename_i e; rw [e, h]
  · rfl

theorem guardV_spec {j : Nat} {s : St} {t : Nat} {v : AV} (h : guardV ops j s = some (t, v)) : ∃ oj, ops[j]? = some oj ∧ oj.dst = some t ∧ s.fr t = v := by
  unfold guardV at h
  split at h
  · rename_i oj hj
    simp only [Option.map_eq_some_iff, Prod.mk.injEq] at h
    obtain ⟨t', ht', rfl, hv⟩ := h
    exact ⟨oj, hj, ht', hv⟩
  · cases h
theorem guard_looks {o oj : Oper} {j t : Nat} {want : Bool} (hg : o.guard = some (j, want)) (hj : ops[j]? = some oj) (hd : oj.dst = some t) : t ∈ o.looksAt ops := by
  refine List.mem_append_right _ ?_
  simp [hg, hj, hd]
theorem yielded_bool {B : Base} {β : Name → Option Blk} {s : St} {tm : Array Value} {w : World} (h : Sim B β s tm w) {j t : Nat} {oj : Oper} {b : Bool} (hj : ops[j]? = some oj) (hjd : oj.dst = some t) (hjt : s.fr t = .d (.bool b)) : yielded ops tm j = some b := by
  have hv := h.slots t
  rw [hjt] at hv
  have hb := hv.bool
  have hlt : t < tm.size := by
    rcases Nat.lt_or_ge t tm.size with hlt | hge
    · exact hlt
    · simp [Array.getD_eq_getD_getElem?, Array.getElem?_eq_none hge] at hb; cases hb
  simp [yielded, hj, hjd, Array.getElem?_eq_getElem hlt]
  simp [Array.getD_eq_getD_getElem?, hlt] at hb
  rw [hb]
theorem yielded_none {B : Base} {β : Name → Option Blk} {s : St} {tm : Array Value} {w : World} (h : Sim B β s tm w) {j t : Nat} {oj : Oper} (hj : ops[j]? = some oj) (hjd : oj.dst = some t) (hjt : s.fr t = .tup []) : yielded ops tm j = none := by
  have hv := h.slots t
  rw [hjt] at hv
  rcases Nat.lt_or_ge t tm.size with hlt | hge
  · have hb : tm.getD t undef = .tuple #[] := by
      generalize tm.getD t undef = v at hv
      cases hv with
      | tup vs _ hs _ =>
        have : vs = #[] := Array.eq_empty_of_size_eq_zero hs
        rw [this]
    simp [Array.getD_eq_getD_getElem?, hlt] at hb
    simp [yielded, hj, hjd, Array.getElem?_eq_getElem hlt, hb]
  · simp [yielded, hj, hjd, Array.getElem?_eq_none hge]

theorem fact_skip {i : Nat} {o : Oper} {s : St} (hi : ops[i]? = some o) (hd : dOk cf.n o.dst) (hw : ∀ (B : Base) (β : Name → Option Blk) s' tm w, agr (o.looksAt ops) s s' → Sim B β s' tm w → Region.wanted o (yielded ops tm) = false) : Fact P cf ops i o s (.tup []) := by
  intro s' hag B hB ds β a w hds hs Q'
  unfold wpOpIn
  simp only [hi, hw B β s' a.tmps w hag hs, Bool.false_eq_true, if_false]
  refine ⟨fun _ _ => trivial, by cases o.dst <;> exact hds, β, hs.putd (fun t ht => ?_) (.tup #[] [] rfl (by simp))⟩
  rw [ht] at hd
  rw [hB.1]; exact hd
theorem fact_do {i : Nat} {o : Oper} {s : St} {x : AV} (hi : ops[i]? = some o) (hw : ∀ (B : Base) (β : Name → Option Blk) s' tm w, agr (o.looksAt ops) s s' → Sim B β s' tm w → Region.wanted o (yielded ops tm) = true) (h : QY P cf o s x) : Fact P cf ops i o s x := by
  intro s' hag B hB ds β a w hds hs Q'
  unfold wpOpIn
  simp only [hi, hw B β s' a.tmps w hag hs, if_true]
  exact h s' hag.1 hag.2.1 (looks_ev hag) B hB ds β a w hds hs Q'

/-- One operation's fact out of the walk. -/
theorem qrun_one {K : St → Prop} {i : Nat} {o : Oper} {r : List Oper} {s : St} (hi : ops[i]? = some o) (h : qrun P cf ops K (o :: r) s) : ∃ x, Fact P cf ops i o s x ∧ qrun P cf ops K r (s.putd o.dst x) := by
  unfold qrun at h
  have go : ∀ {z : Prop} s1, s1 = s → (∀ (B : Base) (β : Name → Option Blk) s' tm w, agr (o.looksAt ops) s s' → Sim B β s' tm w → Region.wanted o (yielded ops tm) = true) →
      qv (opV P.ti o.op s1) (fun x => dOk cf.n o.dst ∧ qrun P cf ops K r (s1.putd o.dst x)) (∃ x, QY P cf o s1 x ∧ dOk cf.n o.dst ∧ qrun P cf ops K r (s1.putd o.dst x)) → ∃ x, Fact P cf ops i o s x ∧ qrun P cf ops K r (s.putd o.dst x) := by
    rintro z s1 rfl hw h
    rcases qv_yl h with (e | ⟨x, h1, hd, h2⟩) | ⟨x, h1, _, h2⟩
    · rw [e] at h
      obtain ⟨x, h1, _, h2⟩ := h
      exact ⟨x, fact_do hi hw h1, h2⟩
    · exact ⟨x, fact_do hi hw (QY_of_op h1 hd), h2⟩
    · exact ⟨x, fact_do hi hw h1, h2⟩
  cases hg : o.guard with
  | none =>
    rw [hg] at h
    exact go (z := True) s rfl (fun _ _ _ _ _ _ _ => by simp [Region.wanted, hg]) h
  | some q =>
    obtain ⟨j, want⟩ := q
    rw [hg] at h
    simp only at h
    split at h
    · rename_i t b hgv
      obtain ⟨oj, hj, hjd, hjt⟩ := guardV_spec hgv
      have hl := guard_looks hg hj hjd
      by_cases hb : b = want
      · have e : s.put t (.d (.bool want)) = s := put_same (by rw [hjt, hb])
        have h1 := h.1 hb
        rw [e] at h1
        refine go (z := True) s rfl (fun B β s' tm w hag hs => ?_) h1
        have := yielded_bool hs hj hjd ((hag.2.2 t hl).trans hjt)
        simp [Region.wanted, hg, this, hb]
      · have hbn : b = !want := by cases b <;> cases want <;> simp_all
        have e : s.put t (.d (.bool (!want))) = s := put_same (by rw [hjt, hbn])
        obtain ⟨hd, h2⟩ := h.2 hbn
        rw [e] at h2
        refine ⟨_, fact_skip hi hd (fun B β s' tm w hag hs => ?_), h2⟩
        have := yielded_bool hs hj hjd ((hag.2.2 t hl).trans hjt)
        simp [Region.wanted, hg, this, hb]
    · rename_i t hgv
      obtain ⟨oj, hj, hjd, hjt⟩ := guardV_spec hgv
      have hl := guard_looks hg hj hjd
      refine ⟨_, fact_skip hi h.1 (fun B β s' tm w hag hs => ?_), h.2⟩
      have := yielded_none hs hj hjd ((hag.2.2 t hl).trans hjt)
      simp [Region.wanted, hg, this]
    · exact h.elim
end
end Go.Ab
