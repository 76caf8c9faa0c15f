/-
  The generic layer, part 27: regions that draw their order, whose operations turn no memory: one walk in the text's order serves every order. (with the parts that follow it)
-/
import Derived.Test.YtjoneaifakonjaaDoorC9
set_option linter.all false
/-! ### The generic layer, part 27: regions that draw their order, whose operations turn no memory: one walk in the text's order serves every order. -/
namespace Go.Ab

/-- What an operation yields that turns no memory. -/
def opV (tf : Nat → TI) (o : Op) (s : St) : R AV :=
  match o with
  | .move x => .ok (ev s x)
  | .assign x => .ok (ev s x)
  | .pick c a b => pickR (ev s c) (ev s a) (ev s b)
  | .build t parts => buildR tf (tf t) (parts.toList.map fun q => (q.1, ev s q.2))
  | .load t x => loadR (tf t) s.hp (ev s x)
  | .fieldAddr t x f => fieldAddrR (tf t) tf s.hp (ev s x) f
  | .field t x f => fieldR (tf t) tf (ev s x) f
  | .indexAddr t x j => indexAddrR (tf t) tf s.hp (ev s x) (ev s j)
  | .index t x j => indexR (tf t) (ev s x) (ev s j)
  | .slice t x lo hi mx => match mx with
    | none => sliceR (tf t) tf s.hp (ev s x) (lo.map (ev s)) (hi.map (ev s))
    | some _ => .no
  | .binOp op t x y _ => binR (tf t).k op (ev s x) (ev s y)
  | .unOp op _ x => unR op (ev s x)
  | .convert a b x => convR (tf a) (tf b) (ev s x)
  | .extract x i => extractR (ev s x) i
  | .makeFunc fn first caps => makeFuncR fn first.toList (caps.toList.map (ev s))
  | .call c => match c.callee with
    | .builtin b => match b, c.args.toList, c.argTypes.toList with
      | .len, [x], [t] => lenR (tf t) s.hp (ev s x)
      | .max, [x, y], _ => maxR (ev s x) (ev s y)
      | .min, [x, y], _ => minR (ev s x) (ev s y)
      | _, _, _ => .no
    | _ => .no
  | _ => .no

theorem opV_opR (tf : Nat → TI) (n : Nat) (o : Op) (d : Option Nat) (s : St) : opV tf o s = .no ∨ opR tf n o d s = (opV tf o s).bind (putR n d s) := by
  cases o with
  | slice t x lo hi mx => cases mx <;> simp [opV, opR]
  | call c =>
    obtain ⟨callee, args, ats⟩ := c
    cases callee with
    | value _ => exact .inl rfl
    | invoke _ _ => exact .inl rfl
    | builtin b =>
      obtain ⟨args⟩ := args
      obtain ⟨ats⟩ := ats
      simp only [opV, opR]
      split
      · exact .inr rfl
      · exact .inr rfl
      · exact .inr rfl
      · exact .inl rfl
  | _ => first | exact .inr rfl | exact .inl rfl

theorem ev_cg {s s' : St} {x : Operand} (h : ∀ t, x = .tmp t → s'.fr t = s.fr t) : ev s' x = ev s x := by
  cases x <;> first | rfl | exact h _ rfl
theorem evs_cg {s s' : St} {l : List Operand} (h : ∀ x ∈ l, ev s' x = ev s x) : l.map (ev s') = l.map (ev s) := List.map_congr_left h
theorem opV_cg (tf : Nat → TI) (o : Op) (s s' : St) (hh : s'.hp = s.hp) (h : ∀ x ∈ o.operands, ev s' x = ev s x) : opV tf o s' = opV tf o s := by
  cases o with
  | slice t x lo hi mx =>
    cases mx with
    | some _ => rfl
    | none =>
      simp only [opV, hh]
      rw [h x (by simp [Op.operands])]
      have h1 : lo.map (ev s') = lo.map (ev s) := by
        cases lo with
        | none => rfl
        | some y => simp [h y (by simp [Op.operands])]
      have h2 : hi.map (ev s') = hi.map (ev s) := by
        cases hi with
        | none => rfl
        | some y => simp [h y (by simp [Op.operands])]
      rw [h1, h2]
  | build t parts =>
    simp only [opV]
    have : (parts.toList.map fun q => (q.1, ev s' q.2)) = parts.toList.map fun q => (q.1, ev s q.2) :=
      List.map_congr_left fun q hq => by rw [h q.2 (by simp only [Op.operands, List.mem_toArray, List.mem_map]; exact ⟨q, hq, rfl⟩)]
    rw [this]
  | makeFunc fn first caps =>
    simp only [opV]
    rw [evs_cg fun x hx => h x (by simp only [Op.operands, Array.mem_append]; exact .inr (by simpa using hx))]
  | call c =>
    obtain ⟨callee, args, ats⟩ := c
    cases callee with
    | value _ => rfl
    | invoke _ _ => rfl
    | builtin b =>
      obtain ⟨args⟩ := args
      obtain ⟨ats⟩ := ats
      have hm : ∀ x ∈ args, ev s' x = ev s x := fun x hx => h x (by simp [Op.operands, Call.operands, hx])
      simp only [opV]
      split
      · rename_i x _; rw [hh, hm x (by simp)]
      · rename_i x y; rw [hm x (by simp), hm y (by simp)]
      · rename_i x y; rw [hm x (by simp), hm y (by simp)]
      · rfl
  | _ => first
    | rfl
    | (simp only [opV, hh]; simp only [Op.operands, List.mem_toArray, List.mem_cons, List.not_mem_nil, or_false, forall_eq_or_imp, forall_eq] at h; simp only [h])

/-- It yields this. -/
def yl : R AV → AV → Prop
  | .ok y, x => y = x
  | .need p r, x => p ∧ yl r x
  | .no, _ => False
def qv : R AV → (AV → Prop) → Prop → Prop
  | .ok x, f, _ => f x
  | .need p r, f, z => p ∧ qv r f z
  | .no, _, z => z
theorem qv_yl {f : AV → Prop} {z : Prop} : ∀ {r : R AV}, qv r f z → (r = .no ∨ ∃ x, yl r x ∧ f x) ∨ z
  | .ok x, h => .inl (.inr ⟨x, rfl, h⟩)
  | .no, h => .inr h
  | .need p r, h => by
    rcases qv_yl (r := r) h.2 with (e | ⟨x, h1, h2⟩) | hz
    · subst e; exact .inr h.2
    · exact .inl (.inr ⟨x, ⟨h.1, h1⟩, h2⟩)
    · exact .inr hz
theorem yl_run {x : AV} {g : AV → R St} {f : St → Prop} {z : Prop} : ∀ {r : R AV}, yl r x → (g x).run f z → (r.bind g).run f z
  | .ok y, h, hg => by have h : y = x := h; subst h; exact hg
  | .need p r, h, hg => ⟨h.1, yl_run h.2 hg⟩
  | .no, h, _ => h.elim

def dOk (n : Nat) : Option Nat → Prop
  | some t => t < n
  | none => True
section
variable (P : Program) (cf : Cf) (ops : Array Oper)
/-- States that agree on what an operation looks at. -/
def agr (l : List Nat) (s s' : St) : Prop := s'.hp = s.hp ∧ s'.used = s.used ∧ ∀ t ∈ l, s'.fr t = s.fr t
/-- An operation that yields x at such a state, and at all that agree with it, and turns nothing that is known. -/
def QY (o : Oper) (s : St) (x : AV) : Prop := ∀ s', s'.hp = s.hp → s'.used = s.used → (∀ y ∈ o.op.operands, ev s' y = ev s y) →
  ∀ B, cf.fits B → ∀ ds β a w, a.defers = ds → Sim B β s' a.tmps w → ∀ Q', o.wpIn (Fw cf.ro) 0 P a w (fun a' w' => a'.defers = ds ∧ ∃ β', Sim B β' (s'.putd o.dst x) a'.tmps w') Q'

def qrun (K : St → Prop) : List Oper → St → Prop
  | [], s => K s
  | o :: r, s =>
    match o.guard with
    | none => qv (opV P.ti o.op s) (fun x => dOk cf.n o.dst ∧ qrun K r (s.putd o.dst x)) (∃ x, QY P cf o s x ∧ dOk cf.n o.dst ∧ qrun K r (s.putd o.dst x))
    | some (j, want) =>
      match guardV ops j s with
      | some (t, .d (.bool b)) =>
        (b = want → qv (opV P.ti o.op (s.put t (.d (.bool want)))) (fun x => dOk cf.n o.dst ∧ qrun K r ((s.put t (.d (.bool want))).putd o.dst x)) (∃ x, QY P cf o (s.put t (.d (.bool want))) x ∧ dOk cf.n o.dst ∧ qrun K r ((s.put t (.d (.bool want))).putd o.dst x))) ∧
        (b = !want → dOk cf.n o.dst ∧ qrun K r ((s.put t (.d (.bool (!want)))).putd o.dst (.tup [])))
      | some (_, .tup []) => dOk cf.n o.dst ∧ qrun K r (s.putd o.dst (.tup []))
      | _ => False

/-- What is shown of one operation: at each state that agrees it leaves x. -/
def Fact (i : Nat) (o : Oper) (s : St) (x : AV) : Prop := ∀ s', agr (o.looksAt ops) s s' → ∀ B, cf.fits B → ∀ ds β a w, a.defers = ds → Sim B β s' a.tmps w → ∀ Q',
  wpOpIn (Fw cf.ro) 0 P ops Q' i (fun a' w' => a'.defers = ds ∧ ∃ β', Sim B β' (s'.putd o.dst x) a'.tmps w') a w
variable {P cf ops}

theorem looks_ev {o : Oper} {s s' : St} (h : agr (o.looksAt ops) s s') : ∀ y ∈ o.op.operands, ev s' y = ev s y := fun y hy =>
  ev_cg fun t ht => h.2.2 t (by subst ht; exact List.mem_append_left _ (List.mem_filterMap.2 ⟨.tmp t, by simpa using hy, rfl⟩))

theorem QY_of_op {o : Oper} {s : St} {x : AV} (h : yl (opV P.ti o.op s) x) (hd : dOk cf.n o.dst) : QY P cf o s x := by
  intro s' hh hu he B hB ds β a w hds hs Q'
  have hop : opR P.ti B.n o.op o.dst s' = (opV P.ti o.op s').bind (putR B.n o.dst s') := by
    rcases opV_opR P.ti B.n o.op o.dst s' with e | e
    · rw [opV_cg P.ti o.op s s' hh he] at e; rw [e] at h; exact h.elim
    · exact e
  rw [opV_cg P.ti o.op s s' hh he] at hop
  have hr : (opR P.ti B.n o.op o.dst s').run (fun s2 => s2 = s'.putd o.dst x) False := by
    rw [hop]
    refine yl_run h ?_
    cases hdst : o.dst with
    | none => exact rfl
    | some t =>
      rw [hdst] at hd
      have : t < B.n := by rw [hB.1]; exact hd
      simp [putR, this, R.run, St.putd]
  rcases opR_sound hs hr with hz | ⟨nx, v, w', s2, β', hrun, hnx, rfl, hsim⟩
  · exact hz.elim
  · have hnd : ∀ c, o.op ≠ .defer c := by
      intro c hc
      rw [hc] at h
      exact h.elim
    exact wpIn_of_run hnd hrun hnx ⟨by cases o.dst <;> exact hds, β', hsim⟩

theorem put_same {s : St} {t : Nat} {x : AV} (h : s.fr t = x) : s.put t x = s := by
  unfold St.put
  congr 1
  funext i
  unfold updN
  split
  · rename_i e; rw [e, h]
  · rfl

theorem guardV_spec {j : Nat} {s : St} {t : Nat} {v : AV} (h : guardV ops j s = some (t, v)) : ∃ oj, ops[j]? = some oj ∧ oj.dst = some t ∧ s.fr t = v := by
  unfold guardV at h
  split at h
  · rename_i oj hj
    simp only [Option.map_eq_some_iff, Prod.mk.injEq] at h
    obtain ⟨t', ht', rfl, hv⟩ := h
    exact ⟨oj, hj, ht', hv⟩
  · cases h
theorem guard_looks {o oj : Oper} {j t : Nat} {want : Bool} (hg : o.guard = some (j, want)) (hj : ops[j]? = some oj) (hd : oj.dst = some t) : t ∈ o.looksAt ops := by
  refine List.mem_append_right _ ?_
  simp [hg, hj, hd]
theorem yielded_bool {B : Base} {β : Name → Option Blk} {s : St} {tm : Array Value} {w : World} (h : Sim B β s tm w) {j t : Nat} {oj : Oper} {b : Bool} (hj : ops[j]? = some oj) (hjd : oj.dst = some t) (hjt : s.fr t = .d (.bool b)) : yielded ops tm j = some b := by
  have hv := h.slots t
  rw [hjt] at hv
  have hb := hv.bool
  have hlt : t < tm.size := by
    rcases Nat.lt_or_ge t tm.size with hlt | hge
    · exact hlt
    · simp [Array.getD_eq_getD_getElem?, Array.getElem?_eq_none hge] at hb; cases hb
  simp [yielded, hj, hjd, Array.getElem?_eq_getElem hlt]
  simp [Array.getD_eq_getD_getElem?, hlt] at hb
  rw [hb]
theorem yielded_none {B : Base} {β : Name → Option Blk} {s : St} {tm : Array Value} {w : World} (h : Sim B β s tm w) {j t : Nat} {oj : Oper} (hj : ops[j]? = some oj) (hjd : oj.dst = some t) (hjt : s.fr t = .tup []) : yielded ops tm j = none := by
  have hv := h.slots t
  rw [hjt] at hv
  rcases Nat.lt_or_ge t tm.size with hlt | hge
  · have hb : tm.getD t undef = .tuple #[] := by
      generalize tm.getD t undef = v at hv
      cases hv with
      | tup vs _ hs _ =>
        have : vs = #[] := Array.eq_empty_of_size_eq_zero hs
        rw [this]
    simp [Array.getD_eq_getD_getElem?, hlt] at hb
    simp [yielded, hj, hjd, Array.getElem?_eq_getElem hlt, hb]
  · simp [yielded, hj, hjd, Array.getElem?_eq_none hge]

theorem fact_skip {i : Nat} {o : Oper} {s : St} (hi : ops[i]? = some o) (hd : dOk cf.n o.dst) (hw : ∀ (B : Base) (β : Name → Option Blk) s' tm w, agr (o.looksAt ops) s s' → Sim B β s' tm w → Region.wanted o (yielded ops tm) = false) : Fact P cf ops i o s (.tup []) := by
  intro s' hag B hB ds β a w hds hs Q'
  unfold wpOpIn
  simp only [hi, hw B β s' a.tmps w hag hs, Bool.false_eq_true, if_false]
  refine ⟨fun _ _ => trivial, by cases o.dst <;> exact hds, β, hs.putd (fun t ht => ?_) (.tup #[] [] rfl (by simp))⟩
  rw [ht] at hd
  rw [hB.1]; exact hd
theorem fact_do {i : Nat} {o : Oper} {s : St} {x : AV} (hi : ops[i]? = some o) (hw : ∀ (B : Base) (β : Name → Option Blk) s' tm w, agr (o.looksAt ops) s s' → Sim B β s' tm w → Region.wanted o (yielded ops tm) = true) (h : QY P cf o s x) : Fact P cf ops i o s x := by
  intro s' hag B hB ds β a w hds hs Q'
  unfold wpOpIn
  simp only [hi, hw B β s' a.tmps w hag hs, if_true]
  exact h s' hag.1 hag.2.1 (looks_ev hag) B hB ds β a w hds hs Q'

/-- One operation's fact out of the walk. -/
theorem qrun_one {K : St → Prop} {i : Nat} {o : Oper} {r : List Oper} {s : St} (hi : ops[i]? = some o) (h : qrun P cf ops K (o :: r) s) : ∃ x, Fact P cf ops i o s x ∧ qrun P cf ops K r (s.putd o.dst x) := by
  unfold qrun at h
  have go : ∀ {z : Prop} s1, s1 = s → (∀ (B : Base) (β : Name → Option Blk) s' tm w, agr (o.looksAt ops) s s' → Sim B β s' tm w → Region.wanted o (yielded ops tm) = true) →
      qv (opV P.ti o.op s1) (fun x => dOk cf.n o.dst ∧ qrun P cf ops K r (s1.putd o.dst x)) (∃ x, QY P cf o s1 x ∧ dOk cf.n o.dst ∧ qrun P cf ops K r (s1.putd o.dst x)) → ∃ x, Fact P cf ops i o s x ∧ qrun P cf ops K r (s.putd o.dst x) := by
    rintro z s1 rfl hw h
    rcases qv_yl h with (e | ⟨x, h1, hd, h2⟩) | ⟨x, h1, _, h2⟩
    · rw [e] at h
      obtain ⟨x, h1, _, h2⟩ := h
      exact ⟨x, fact_do hi hw h1, h2⟩
    · exact ⟨x, fact_do hi hw (QY_of_op h1 hd), h2⟩
    · exact ⟨x, fact_do hi hw h1, h2⟩
  cases hg : o.guard with
  | none =>
    rw [hg] at h
    exact go (z := True) s rfl (fun _ _ _ _ _ _ _ => by simp [Region.wanted, hg]) h
  | some q =>
    obtain ⟨j, want⟩ := q
    rw [hg] at h
    simp only at h
    split at h
    · rename_i t b hgv
      obtain ⟨oj, hj, hjd, hjt⟩ := guardV_spec hgv
      have hl := guard_looks hg hj hjd
      by_cases hb : b = want
      · have e : s.put t (.d (.bool want)) = s := put_same (by rw [hjt, hb])
        have h1 := h.1 hb
        rw [e] at h1
        refine go (z := True) s rfl (fun B β s' tm w hag hs => ?_) h1
        have := yielded_bool hs hj hjd ((hag.2.2 t hl).trans hjt)
        simp [Region.wanted, hg, this, hb]
      · have hbn : b = !want := by cases b <;> cases want <;> simp_all
        have e : s.put t (.d (.bool (!want))) = s := put_same (by rw [hjt, hbn])
        obtain ⟨hd, h2⟩ := h.2 hbn
        rw [e] at h2
        refine ⟨_, fact_skip hi hd (fun B β s' tm w hag hs => ?_), h2⟩
        have := yielded_bool hs hj hjd ((hag.2.2 t hl).trans hjt)
        simp [Region.wanted, hg, this, hb]
    · rename_i t hgv
      obtain ⟨oj, hj, hjd, hjt⟩ := guardV_spec hgv
      have hl := guard_looks hg hj hjd
      refine ⟨_, fact_skip hi h.1 (fun B β s' tm w hag hs => ?_), h.2⟩
      have := yielded_none hs hj hjd ((hag.2.2 t hl).trans hjt)
      simp [Region.wanted, hg, this]
    · exact h.elim
end
end Go.Ab
/-! ### The generic layer, part 28: regions that draw their order: every order ends as the text's order does. -/
namespace Go.Ab
section
variable {P : Program} {cf : Cf} {ops : Array Oper}
def dstOf (ops : Array Oper) (i : Nat) : Option Nat := (ops[i]?).bind (·.dst)
/-- The state behind some operations. -/
def lay (ops : Array Oper) (xs : Nat → AV) : List Nat → St → St
  | [], s => s
  | i :: l, s => lay ops xs l (s.putd (dstOf ops i) (xs i))
theorem putd_hp (s : St) (d : Option Nat) (x : AV) : (s.putd d x).hp = s.hp := by cases d <;> rfl
theorem putd_used (s : St) (d : Option Nat) (x : AV) : (s.putd d x).used = s.used := by cases d <;> rfl
theorem lay_hp (xs : Nat → AV) : ∀ (l : List Nat) (s : St), (lay ops xs l s).hp = s.hp
  | [], _ => rfl
  | i :: l, s => by rw [lay, lay_hp xs l, putd_hp]
theorem lay_used (xs : Nat → AV) : ∀ (l : List Nat) (s : St), (lay ops xs l s).used = s.used
  | [], _ => rfl
  | i :: l, s => by rw [lay, lay_used xs l, putd_used]
theorem lay_snoc (xs : Nat → AV) (i : Nat) : ∀ (l : List Nat) (s : St), lay ops xs (l ++ [i]) s = (lay ops xs l s).putd (dstOf ops i) (xs i)
  | [], _ => rfl
  | j :: l, s => by rw [List.cons_append, lay, lay_snoc xs i l, lay]
/-- No slot is written by two. -/
def dst1 (ops : Array Oper) : Prop := ∀ i j t, dstOf ops i = some t → dstOf ops j = some t → i = j
theorem lay_out (xs : Nat → AV) (t : Nat) : ∀ (l : List Nat) (s : St), (∀ k ∈ l, dstOf ops k ≠ some t) → (lay ops xs l s).fr t = s.fr t
  | [], _, _ => rfl
  | k :: l, s, h => by
    rw [lay, lay_out xs t l _ fun j hj => h j (List.mem_cons_of_mem _ hj)]
    have hk := h k List.mem_cons_self
    cases hd : dstOf ops k with
    | none => rfl
    | some u =>
      rw [hd] at hk
      show updN _ _ _ _ = _
      unfold updN
      rw [if_neg (fun e => hk (by rw [e]))]
theorem lay_in (h1 : dst1 ops) (xs : Nat → AV) {k t : Nat} (hk : dstOf ops k = some t) : ∀ (l : List Nat) (s : St), k ∈ l → (lay ops xs l s).fr t = xs k
  | [], _, h => by cases h
  | j :: l, s, h => by
    rw [lay]
    by_cases hkl : k ∈ l
    · exact lay_in h1 xs hk l _ hkl
    · rcases List.mem_cons.1 h with rfl | h
      · rw [lay_out xs t l _ fun i hi e => hkl (by rw [h1 k i t hk e]; exact hi), hk]
        show updN _ _ _ _ = _
        simp [updN]
      · exact absurd h hkl

/-- Who looks at what another one writes stands behind it, or ahead. -/
def waits (ops : Array Oper) (i j : Nat) : Bool := match ops[i]? with
  | some o => o.after.any fun e => Region.binds .any e && e.on == j
  | none => false
def looksO (ops : Array Oper) (i : Nat) : List Nat := match ops[i]? with
  | some o => o.looksAt ops
  | none => []
/-- Each pair is in order, or apart; no slot is written twice; each waits for some ahead of it alone. -/
def qB (ops : Array Oper) : Bool :=
  (List.range ops.size).all fun i =>
    (match ops[i]? with
     | some o => o.after.toList.all fun e => !Region.binds .any e || decide (e.on < i)
     | none => true) &&
    (List.range ops.size).all fun k => match dstOf ops k with
      | none => true
      | some t => (decide (i = k) || dstOf ops i != some t) && (!(looksO ops i).contains t || (decide (k < i) && waits ops i k) || (decide (i < k) && waits ops k i))
theorem dstOf_lt {i t : Nat} (h : dstOf ops i = some t) : i < ops.size := by
  unfold dstOf at h
  rcases Nat.lt_or_ge i ops.size with hlt | hge
  · exact hlt
  · rw [Array.getElem?_eq_none hge] at h; cases h
theorem qB_dst (h : qB ops = true) : dst1 ops := by
  intro i j t hi hj
  have h2 := List.all_eq_true.1 h i (List.mem_range.2 (dstOf_lt hi))
  simp only [Bool.and_eq_true] at h2
  have h3 := List.all_eq_true.1 h2.2 j (List.mem_range.2 (dstOf_lt hj))
  rw [hj] at h3
  simp only [Bool.and_eq_true, Bool.or_eq_true, decide_eq_true_eq, hi, bne_self_eq_false, Bool.false_eq_true, or_false] at h3
  exact h3.1
theorem qB_look (h : qB ops = true) {i k t : Nat} (hi : i < ops.size) (hk : dstOf ops k = some t) (ht : t ∈ looksO ops i) : (k < i ∧ waits ops i k = true) ∨ (i < k ∧ waits ops k i = true) := by
  have h2 := List.all_eq_true.1 h i (List.mem_range.2 hi)
  simp only [Bool.and_eq_true] at h2
  have h3 := List.all_eq_true.1 h2.2 k (List.mem_range.2 (dstOf_lt hk))
  rw [hk] at h3
  simp only [Bool.and_eq_true, Bool.or_eq_true, Bool.not_eq_true', List.contains_eq_mem, decide_eq_false_iff_not, decide_eq_true_eq] at h3
  rcases h3.2 with (h4 | h4) | h4
  · exact absurd ht h4
  · exact .inl h4
  · exact .inr h4
theorem qB_after (h : qB ops = true) {i : Nat} {o : Oper} (ho : ops[i]? = some o) : ∀ e ∈ o.after, Region.binds .any e = true → e.on < i := by
  intro e he hb
  have hi : i < ops.size := by
    rcases Nat.lt_or_ge i ops.size with hlt | hge
    · exact hlt
    · rw [Array.getElem?_eq_none hge] at ho; cases ho
  have h2 := List.all_eq_true.1 h i (List.mem_range.2 hi)
  simp only [ho, Bool.and_eq_true] at h2
  have h3 := List.all_eq_true.1 h2.1 e (Array.mem_toList_iff.2 he)
  simpa [hb] using h3

/-- The facts of all operations out of the walk. -/
theorem qrun_facts {K : St → Prop} : ∀ (r : List Oper) (i : Nat) (s : St), (∀ j, (r[j]? = ops[i + j]?)) → qrun P cf ops K r s →
    ∃ xs : Nat → AV, K (lay ops xs (List.range' i r.length) s) ∧ ∀ j o, i ≤ j → ops[j]? = some o → Fact P cf ops j o (lay ops xs (List.range' i (j - i)) s) (xs j)
  | [], i, s, hr, h => ⟨fun _ => .un, h, fun j o hij ho => by
      have := hr (j - i)
      rw [show i + (j - i) = j by omega, ho] at this
      simp at this⟩
  | o :: r, i, s, hr, h => by
    have hi : ops[i]? = some o := by simpa using (hr 0).symm
    obtain ⟨x, hf, h2⟩ := qrun_one hi h
    obtain ⟨xs, hK, hall⟩ := qrun_facts r (i + 1) (s.putd o.dst x) (fun j => by have := hr (j + 1); rw [List.getElem?_cons_succ] at this; rw [this, show i + (j + 1) = i + 1 + j by omega]) h2
    obtain ⟨ys, hys⟩ : ∃ ys : Nat → AV, ys = fun j => if j = i then x else xs j := ⟨_, rfl⟩
    have hd : dstOf ops i = o.dst := by simp [dstOf, hi]
    have e1 : ∀ (n k : Nat) (s : St), i < k → lay ops ys (List.range' k n) s = lay ops xs (List.range' k n) s := by
      intro n
      induction n with
      | zero => intros; rfl
      | succ n ih =>
        intro k s hk
        rw [List.range'_succ, lay, lay, ih (k + 1) _ (by omega), hys]
        simp only [if_neg (show ¬ k = i by omega)]
    have hyi : ys i = x := by rw [hys]; simp
    refine ⟨ys, ?_, fun j o' hij ho' => ?_⟩
    · rw [List.length_cons, List.range'_succ, lay, hd, hyi, e1 _ _ _ (by omega)]; exact hK
    · rcases Nat.lt_or_ge i j with hlt | hge
      · have := hall j o' (by omega) ho'
        rw [show j - i = (j - (i + 1)) + 1 by omega, List.range'_succ, lay, hd, hyi, e1 _ _ _ (by omega)]
        rw [show ys j = xs j by rw [hys]; simp only [if_neg (show ¬ j = i by omega)]]
        exact this
      · have : j = i := by omega
        subst this
        rw [hi] at ho'
        cases ho'
        rw [Nat.sub_self, hyi]
        exact hf

/-- What has come up: L, each behind what it waits for. -/
structure Up (ops : Array Oper) (listed : Array Bool) (L : List Nat) : Prop where
  size : listed.size = ops.size
  mem : ∀ j, j < ops.size → (listed[j]? = some true ↔ j ∈ L)
  lt : ∀ j ∈ L, j < ops.size
  closed : ∀ j ∈ L, ∀ o, ops[j]? = some o → ∀ e ∈ o.after, Region.binds .any e = true → e.on ∈ L

theorem waits_mem {i j : Nat} (h : waits ops i j = true) : ∃ o, ops[i]? = some o ∧ ∃ e ∈ o.after, Region.binds .any e = true ∧ e.on = j := by
  unfold waits at h
  split at h
  · rename_i o ho
    rw [Array.any_eq_true] at h
    obtain ⟨k, hk, hb⟩ := h
    simp only [Bool.and_eq_true, beq_iff_eq] at hb
    exact ⟨o, ho, _, Array.getElem_mem hk, hb⟩
  · cases h

theorem up_agr (hq : qB ops = true) {listed : Array Bool} {L : List Nat} (hu : Up ops listed L) (xs : Nat → AV) (s : St) {i : Nat} {o : Oper} (ho : ops[i]? = some o) (hi : i ∉ L)
    (hw : ∀ e ∈ o.after, Region.binds .any e = true → e.on ∈ L) : agr (o.looksAt ops) (lay ops xs (List.range' 0 (i - 0)) s) (lay ops xs L s) := by
  refine ⟨by rw [lay_hp, lay_hp], by rw [lay_used, lay_used], fun t ht => ?_⟩
  have hlt : i < ops.size := by
    rcases Nat.lt_or_ge i ops.size with hlt | hge
    · exact hlt
    · rw [Array.getElem?_eq_none hge] at ho; cases ho
  have ht' : t ∈ looksO ops i := by unfold looksO; rw [ho]; exact ht
  have h1 := qB_dst hq
  by_cases hk : ∃ k, dstOf ops k = some t
  · obtain ⟨k, hk⟩ := hk
    rcases qB_look hq hlt hk ht' with ⟨h2, h3⟩ | ⟨h2, h3⟩
    · obtain ⟨o', ho', e, he, hb, rfl⟩ := waits_mem h3
      rw [ho] at ho'; cases ho'
      rw [lay_in h1 xs hk _ _ (hw e he hb), lay_in h1 xs hk _ _ (by rw [List.mem_range'_1]; omega)]
    · obtain ⟨o', ho', e, he, hb, e1⟩ := waits_mem h3
      have hkL : k ∉ L := fun hkL => hi (by rw [← e1]; exact hu.closed k hkL o' ho' e he hb)
      rw [lay_out xs t _ _ fun j hj e => hkL (by rw [h1 k j t hk e]; exact hj), lay_out xs t _ _ fun j hj e => by
        have := h1 k j t hk e
        subst this
        rw [List.mem_range'_1] at hj
        omega]
  · rw [lay_out xs t _ _ fun j _ e => hk ⟨j, e⟩, lay_out xs t _ _ fun j _ e => hk ⟨j, e⟩]

theorem nodup_len : ∀ (n : Nat) (L : List Nat), L.Nodup → (∀ x ∈ L, x < n) → L.length ≤ n
  | 0, L, _, h => by
    cases L with
    | nil => simp
    | cons a r => exact absurd (h a List.mem_cons_self) (Nat.not_lt_zero _)
  | n + 1, L, hn, h => by
    have h1 := nodup_len n (L.erase n) (hn.erase n) fun x hx => by
      have := (hn.mem_erase_iff).1 hx
      have h2 := h x this.2
      omega
    by_cases hm : n ∈ L
    · rw [List.length_erase_of_mem hm] at h1; omega
    · rw [List.erase_of_not_mem hm] at h1; omega
theorem st_ext {s s' : St} (h1 : s.hp = s'.hp) (h2 : s.used = s'.used) (h3 : ∀ t, s.fr t = s'.fr t) : s = s' := by
  obtain ⟨f, h, u⟩ := s
  obtain ⟨f', h', u'⟩ := s'
  simp only at h1 h2 h3
  subst h1; subst h2
  rw [show f = f' from funext h3]

theorem anyQ {B : Base} (hB : cf.fits B) {ds : List Deferred} {Q : Exit → Act → World → Prop} (hq : qB ops = true) (xs : Nat → AV) (s : St)
    (hall : ∀ j o, ops[j]? = some o → Fact P cf ops j o (lay ops xs (List.range' 0 (j - 0)) s) (xs j))
    (hK : ∀ β a w, a.defers = ds → Sim B β (lay ops xs (List.range' 0 ops.size) s) a.tmps w → Q .normal a w) :
    ∀ (fuel : Nat) (listed : Array Bool) (L : List Nat) (β : Name → Option Blk) (a : Act) (w : World), Up ops listed L → L.Nodup → ops.size ≤ fuel + L.length → a.defers = ds → Sim B β (lay ops xs L s) a.tmps w →
      wpAnyIn (Fw cf.ro) 0 P .any ops Q fuel listed a w := by
  have fin : ∀ (listed : Array Bool) (L : List Nat) (β : Name → Option Blk) (a : Act) (w : World), Up ops listed L → a.defers = ds → Sim B β (lay ops xs L s) a.tmps w → Region.ready .any ops listed = [] → Q .normal a w := by
    intro listed L β a w hu hds hs hr
    have hfull : ∀ n j, j ≤ n → j < ops.size → j ∈ L := by
      intro n
      induction n with
      | zero =>
        intro j hj hlt
        have hj0 : j = 0 := by omega
        subst hj0
        apply Decidable.byContradiction
        intro hn
        obtain ⟨o, ho⟩ : ∃ o, ops[0]? = some o := ⟨ops[0], by simp⟩
        have : 0 ∈ Region.ready .any ops listed := by
          rw [mem_ready]
          refine ⟨?_, o, ho, fun e he hb => ?_⟩
          · have := hu.mem 0 hlt
            have hl : 0 < listed.size := by rw [hu.size]; exact hlt
            cases hv : listed[0] with
            | true => exact absurd (this.1 (by simp [hl, hv])) hn
            | false => simp [hl, hv]
          · have := qB_after hq ho e he hb; omega
        rw [hr] at this; cases this
      | succ n ih =>
        intro j hj hlt
        rcases Nat.lt_or_ge j (n + 1) with h | h
        · exact ih j (by omega) hlt
        · apply Decidable.byContradiction
          intro hn
          obtain ⟨o, ho⟩ : ∃ o, ops[j]? = some o := ⟨ops[j], by simp⟩
          have : j ∈ Region.ready .any ops listed := by
            rw [mem_ready]
            refine ⟨?_, o, ho, fun e he hb => ?_⟩
            · have := hu.mem j hlt
              have hl : j < listed.size := by rw [hu.size]; exact hlt
              cases hv : listed[j] with
              | true => exact absurd (this.1 (by simp [hl, hv])) hn
              | false => simp [hl, hv]
            · have h2 := qB_after hq ho e he hb
              have h3 := (hu.mem e.on (by omega)).2 (ih e.on (by omega) (by omega))
              simp [h3]
          rw [hr] at this; cases this
    have h1 := qB_dst hq
    have e : lay ops xs L s = lay ops xs (List.range' 0 ops.size) s := by
      refine st_ext (by rw [lay_hp, lay_hp]) (by rw [lay_used, lay_used]) fun t => ?_
      by_cases hk : ∃ k, dstOf ops k = some t
      · obtain ⟨k, hk⟩ := hk
        have hlt := dstOf_lt hk
        rw [lay_in h1 xs hk _ _ (hfull k k (Nat.le_refl _) hlt), lay_in h1 xs hk _ _ (by rw [List.mem_range'_1]; omega)]
      · rw [lay_out xs t _ _ fun j _ e => hk ⟨j, e⟩, lay_out xs t _ _ fun j _ e => hk ⟨j, e⟩]
    rw [e] at hs
    exact hK β a w hds hs
  intro fuel
  induction fuel with
  | zero =>
    intro listed L β a w hu hnd hn hds hs
    have hr : Region.ready .any ops listed = [] := by
      apply List.eq_nil_iff_forall_not_mem.2
      intro j hj
      obtain ⟨h0, o, ho, _⟩ := mem_ready.1 hj
      have hlt : j < ops.size := by
        rcases Nat.lt_or_ge j ops.size with hlt | hge
        · exact hlt
        · rw [Array.getElem?_eq_none hge] at ho; cases ho
      have hjL : j ∈ L := by
        apply Decidable.byContradiction
        intro hn'
        have hsub : (j :: L).length ≤ ops.size := by
          refine nodup_len ops.size (j :: L) (List.nodup_cons.2 ⟨hn', hnd⟩) fun x hx => ?_
          rcases List.mem_cons.1 hx with rfl | hx
          · exact hlt
          · exact hu.lt x hx
        simp only [List.length_cons] at hsub
        omega
      have h3 := (hu.mem j hlt).2 hjL
      simp [h3] at h0
    exact ⟨hr, fin listed L β a w hu hds hs hr⟩
  | succ fuel ih =>
    intro listed L β a w hu hnd hn hds hs
    refine ⟨fun hr => fin listed L β a w hu hds hs hr, fun i hi => ?_⟩
    obtain ⟨h0, o, ho, hw⟩ := mem_ready.1 hi
    have hlt : i < ops.size := by
      rcases Nat.lt_or_ge i ops.size with hlt | hge
      · exact hlt
      · rw [Array.getElem?_eq_none hge] at ho; cases ho
    have hiL : i ∉ L := fun h => by
      have h3 := (hu.mem i hlt).2 h
      simp [h3] at h0
    have hwL : ∀ e ∈ o.after, Region.binds .any e = true → e.on ∈ L := fun e he hb => by
      have h1 := hw e he hb
      have h2 := qB_after hq ho e he hb
      refine (hu.mem e.on (by omega)).1 ?_
      have hl : e.on < listed.size := by rw [hu.size]; omega
      simp [hl] at h1
      simp [hl, h1]
    refine wpOpIn_mono (fun a' w' ⟨hd', β', hs'⟩ => ih (listed.setIfInBounds i true) (L ++ [i]) β' a' w' ?_ ?_ ?_ hd' ?_) (hall i o ho _ (up_agr hq hu xs s ho hiL hwL) B hB ds β a w hds hs Q)
    · refine ⟨by simpa using hu.size, fun j hj => ?_, fun j hj => ?_, fun j hj o' ho' e he hb => ?_⟩
      · have hl : j < listed.size := by rw [hu.size]; exact hj
        by_cases hij : i = j
        · subst hij; simp [hl]
        · rw [Array.getElem?_setIfInBounds_ne hij, hu.mem j hj]
          simp [Ne.symm hij]
      · rcases List.mem_append.1 hj with hj | hj
        · exact hu.lt j hj
        · rw [List.mem_singleton.1 hj]; exact hlt
      · rcases List.mem_append.1 hj with hj | hj
        · exact List.mem_append_left _ (hu.closed j hj o' ho' e he hb)
        · rw [List.mem_singleton.1 hj, ho] at ho'
          cases ho'
          exact List.mem_append_left _ (hwL e he hb)
    · rw [List.nodup_append]
      exact ⟨hnd, by simp, fun x hx y hy => by rw [List.mem_singleton.1 hy]; rintro rfl; exact hiL hx⟩
    · simp only [List.length_append, List.length_singleton]; omega
    · rw [lay_snoc, show dstOf ops i = o.dst by simp [dstOf, ho]]; exact hs'

/-- A region that draws its order, by one walk. -/
theorem region_q {id : Nat} {l : List Oper} {s : St} {k : List It} {Q : Exit → St → Prop} (hm : P.follows .mixedOrders = true) (hq : qB l.toArray = true) (h : qrun P cf l.toArray (fun s' => run P cf k Q s') l s) :
    ACk P cf (.region id l.toArray true) s k Q := by
  obtain ⟨xs, hK, hall⟩ := qrun_facts (ops := l.toArray) l 0 s (fun j => by simp) h
  intro B hB ds β a w hds hs
  refine wpIn_region_any hm ?_
  refine anyQ hB (ds := ds) hq xs s (fun j o ho => hall j o (Nat.zero_le _) ho) (fun β a w hds hs => run_ok hK B hB ds β a w hds (by simpa using hs)) _ _ [] β a _ ?_ List.nodup_nil (by simp) hds (hs.heap_eq rfl rfl)
  refine ⟨by simp, fun j hj => ?_, by simp, by simp⟩
  have hj : j < l.length := by simpa using hj
  simp [hj]
end
end Go.Ab
/-! ### The generic layer, part 29: the walk of a region that draws, behind a veil; calls in it. -/
namespace Go.Ab
section
variable (P : Program) (cf : Cf) (ops : Array Oper) (K : St → Prop)
def qst (x : R AV) (o : Oper) (r : List Oper) (s : St) : Prop := qv x (fun y => dOk cf.n o.dst ∧ qrun P cf ops K r (s.putd o.dst y)) (∃ y, QY P cf o s y ∧ dOk cf.n o.dst ∧ qrun P cf ops K r (s.putd o.dst y))
def qgd (v : Option (Nat × AV)) (want : Bool) (o : Oper) (r : List Oper) (s : St) : Prop :=
  match v with
  | some (t, .d (.bool b)) =>
    (b = want → qst P cf ops K (opV P.ti o.op (s.put t (.d (.bool want)))) o r (s.put t (.d (.bool want)))) ∧
    (b = !want → dOk cf.n o.dst ∧ qrun P cf ops K r ((s.put t (.d (.bool (!want)))).putd o.dst (.tup [])))
  | some (_, .tup []) => dOk cf.n o.dst ∧ qrun P cf ops K r (s.putd o.dst (.tup []))
  | _ => False
abbrev ToQ (_ : List Oper) : Type := St
abbrev ToQs (_ : Oper) (_ : List Oper) (_ : St) : Type 1 := R AV
abbrev ToQg (_ : Bool) (_ : Oper) (_ : List Oper) (_ : St) : Type := Option (Nat × AV)
abbrev ToQp (_ : Option Nat) (_ : AV) (_ : List Oper) : Type := St
structure QEng where
  run : (r : List Oper) → ToQ r → Prop
  stp : (o : Oper) → (r : List Oper) → (s : St) → ToQs o r s → Prop
  gd : (w : Bool) → (o : Oper) → (r : List Oper) → (s : St) → ToQg w o r s → Prop
  pt : (d : Option Nat) → (x : AV) → (r : List Oper) → ToQp d x r → Prop
  run_eq : ∀ r (s : St), run r s = qrun P cf ops K r s
  stp_eq : ∀ (x : R AV) o r s, stp o r s x = qst P cf ops K x o r s
  gd_eq : ∀ (v : Option (Nat × AV)) w o r s, gd w o r s v = qgd P cf ops K v w o r s
  pt_eq : ∀ d x r (s : St), pt d x r s = (dOk cf.n d ∧ qrun P cf ops K r (s.putd d x))
theorem qeng_ex : Nonempty (QEng P cf ops K) :=
  ⟨⟨qrun P cf ops K, fun o r s x => qst P cf ops K x o r s, fun w o r s v => qgd P cf ops K v w o r s, fun d x r s => dOk cf.n d ∧ qrun P cf ops K r (s.putd d x), fun _ _ => rfl, fun _ _ _ _ => rfl, fun _ _ _ _ _ => rfl, fun _ _ _ _ => rfl⟩⟩
end
section
variable {P : Program} {cf : Cf} {ops : Array Oper} {K : St → Prop} (E : QEng P cf ops K) (s : St) (o : Oper) (r : List Oper)
theorem q_nil : E.run [] s = K s := by rw [E.run_eq]; rfl
theorem q_ops (d : Option Nat) (op : Op) (ty : Nat) (p : String) (e : Array Edge) :
    E.run ({ dst := d, op := op, type := ty, pos := p, after := e, guard := none } :: r) s = E.stp { dst := d, op := op, type := ty, pos := p, after := e, guard := none } r s (opV P.ti op s) := by rw [E.run_eq, E.stp_eq]; rfl
theorem q_ops_g (d : Option Nat) (op : Op) (ty : Nat) (p : String) (e : Array Edge) (j : Nat) (want : Bool) :
    E.run ({ dst := d, op := op, type := ty, pos := p, after := e, guard := some (j, want) } :: r) s = E.gd want { dst := d, op := op, type := ty, pos := p, after := e, guard := some (j, want) } r s (guardV ops j s) := by rw [E.run_eq, E.gd_eq]; rfl
theorem q_stp_ok (x : AV) : E.stp o r s (.ok x) = E.pt o.dst x r s := by rw [E.stp_eq, E.pt_eq]; rfl
theorem q_stp_need (p : Prop) (x : R AV) : E.stp o r s (.need p x) = (p ∧ E.stp o r s x) := by rw [E.stp_eq, E.stp_eq]; rfl
theorem q_pt_some (t : Nat) (x : AV) (h : t < cf.n) : E.pt (some t) x r s = E.run r (s.put t x) := by rw [E.pt_eq, E.run_eq]; simp [dOk, h, St.putd]
theorem q_pt_none (x : AV) : E.pt none x r s = E.run r s := by rw [E.pt_eq, E.run_eq]; simp [dOk, St.putd]
theorem q_gd_tt (t : Nat) : E.gd true o r s (some (t, .d (.bool true))) = E.stp o r (s.put t (.d (.bool true))) (opV P.ti o.op (s.put t (.d (.bool true)))) := by rw [E.gd_eq, E.stp_eq]; simp [qgd]
theorem q_gd_ff (t : Nat) : E.gd false o r s (some (t, .d (.bool false))) = E.stp o r (s.put t (.d (.bool false))) (opV P.ti o.op (s.put t (.d (.bool false)))) := by rw [E.gd_eq, E.stp_eq]; simp [qgd]
theorem q_gd_tf (t : Nat) : E.gd false o r s (some (t, .d (.bool true))) = E.pt o.dst (.tup []) r (s.put t (.d (.bool true))) := by rw [E.gd_eq, E.pt_eq]; simp [qgd]
theorem q_gd_ft (t : Nat) : E.gd true o r s (some (t, .d (.bool false))) = E.pt o.dst (.tup []) r (s.put t (.d (.bool false))) := by rw [E.gd_eq, E.pt_eq]; simp [qgd]
theorem q_gd_un (t : Nat) (want : Bool) : E.gd want o r s (some (t, .tup [])) = E.pt o.dst (.tup []) r s := by rw [E.gd_eq, E.pt_eq]; rfl
variable {s o r}
attribute [go_sem] q_nil q_ops q_ops_g q_stp_ok q_stp_need q_pt_some q_pt_none q_gd_tt q_gd_ff q_gd_tf q_gd_ft q_gd_un opV
theorem put_put (s : St) (t : Nat) (x y : AV) : (s.put t x).put t y = s.put t y := by
  unfold St.put; congr 1; funext i; simp only [updN]; split <;> rfl
/-- A guard that hangs on what is not known. -/
theorem q_gif {c : Bool} {t : Nat} {want : Bool} (h1 : c = true → E.gd want o r (s.put t (.d (.bool true))) (some (t, .d (.bool true)))) (h2 : c = false → E.gd want o r (s.put t (.d (.bool false))) (some (t, .d (.bool false)))) : E.gd want o r s (some (t, .d (.bool c))) := by
  cases c
  · have := h2 rfl
    cases want
    · rw [q_gd_ff, put_put] at this; rw [q_gd_ff]; exact this
    · rw [q_gd_ft, put_put] at this; rw [q_gd_ft]; exact this
  · have := h1 rfl
    cases want
    · rw [q_gd_tf, put_put] at this; rw [q_gd_tf]; exact this
    · rw [q_gd_tt, put_put] at this; rw [q_gd_tt]; exact this
theorem q_gifd {p : Prop} [Decidable p] {t : Nat} {want : Bool} (h1 : p → E.gd want o r (s.put t (.d (.bool true))) (some (t, .d (.bool true)))) (h2 : ¬ p → E.gd want o r (s.put t (.d (.bool false))) (some (t, .d (.bool false)))) : E.gd want o r s (some (t, .d (.bool (decide p)))) :=
  q_gif E (fun h => h1 (of_decide_eq_true h)) (fun h => h2 (of_decide_eq_false h))

theorem putd_putO (s : St) (d : Option Nat) (x : AV) : s.putd d x = s.putO d x := by cases d <;> rfl
/-- A call in such a region. -/
theorem q_call {dst : Option Nat} {fv : Operand} {args : Array Operand} {at' : Array TypeId} {ty : TypeId} {pos : String} {af : Array Edge} {g : Option (Nat × Bool)}
    {f : FuncId} {caps : List AV} {ds : List D} {x : AV} (hc : HP P cf.G f ds (fun r => r = x))
    (hev : ev s fv = .clo f caps) (hargs : args.toList.map (ev s) ++ caps = ds.map .d) (hdst : ∀ t ∈ dst, t < cf.n) (hk : E.run r (s.putO dst x)) :
    E.stp { dst := dst, op := .call { callee := .value fv, args := args, argTypes := at' }, type := ty, pos := pos, after := af, guard := g } r s .no := by
  rw [E.stp_eq]
  refine ⟨x, fun s' hh hu he B hB ds' β a w hds hs Q' => ?_, ?_, ?_⟩
  · have hm : ∀ y, y = fv ∨ y ∈ args → ev s' y = ev s y := fun y hy => he y (by
      simp only [Op.operands, Call.operands]
      rcases hy with rfl | hy <;> simp_all)
    have hok := callP_ok (cf := cf) (k := []) (Q := fun _ s2 => s2 = s'.putO dst x) (s := s') (dst := dst) (fv := fv) (args := args) (at' := at') (ty := ty) (pos := pos) (af := af) (g := g) hc ((hm fv (.inl rfl)).trans hev)
      (by rw [evs_cg (s := s) (s' := s') fun y hy => hm y (.inr (by simpa using hy))]; exact hargs) hdst (fun r hr => by subst hr; rw [run_nil])
    refine Oper.wpIn_mono ?_ (hok B hB ds' β a w hds hs Q')
    rintro a' w' ⟨hd', s2, β', hrun, hs2⟩
    obtain ⟨_, s3, β3, rfl, hs3⟩ := hrun B hB ds' β' a' w' hd' hs2
    exact ⟨hd', β3, by rw [putd_putO]; exact hs3⟩
  · cases dst with
    | none => trivial
    | some t => exact hdst t rfl
  · rw [← E.run_eq, putd_putO]; exact hk
theorem region_qv {id : Nat} {l : List Oper} {s : St} {k : List It} {Q : Exit → St → Prop} (hm : P.follows .mixedOrders = true) (hq : qB l.toArray = true) (E0 : Eng P cf Q) (h : ∀ E : QEng P cf l.toArray (fun s' => E0.run k s'), E.run l s) :
    CodeE E0 (.region id l.toArray true) s k := by
  refine region_q hm hq ?_
  have e : (fun s' => E0.run k s') = fun s' => run P cf k Q s' := by funext s'; rw [E0.run_eq]
  obtain ⟨E⟩ := qeng_ex P cf l.toArray (fun s' => E0.run k s')
  have := h E
  rw [E.run_eq, e] at this
  exact this
end
end Go.Ab
