/-
  The generic layer, part 38: a variable that nobody writes any more turns into plain data; calls of closures; structs compared; slices compared with nil; structs as keys. (with the parts that follow it)
-/
import Derived.Test.YtjoneaifakonjaaDoorH3
import Derived.Laws.StructEq
set_option linter.all false
/-! ### The generic layer, part 38: a variable that nobody writes any more turns into plain data; calls of closures; structs compared; slices compared with nil; structs as keys. -/
namespace Go.Ab
def mkClo (f : Nat) (cs : List AV) : AV :=
  match allD cs with
  | some ds => .d (.clo f ds)
  | none => .clo f cs
mutual
def AV.frB (p : Name) (d : D) : AV → AV
  | .un => .un
  | .d x => .d x
  | .vw q o l => .vw q o l
  | .bx q c => if q = p ∧ c = 0 then .d (.ptr d) else .bx q c
  | .el q i c => .el q i c
  | .mp q => .mp q
  | .it q => .it q
  | .agg cs => mkAgg (frBL p d cs)
  | .tup cs => .tup (frBL p d cs)
  | .clo f cs => mkClo f (frBL p d cs)
def frBL (p : Name) (d : D) : List AV → List AV
  | [] => []
  | x :: r => x.frB p d :: frBL p d r
end
theorem frBL_length (p : Name) (d : D) : ∀ l : List AV, (frBL p d l).length = l.length
  | [] => rfl
  | _ :: r => by simp [frBL, frBL_length p d r]
theorem frBL_get (p : Name) (d : D) : ∀ (l : List AV) (i : Nat), (frBL p d l)[i]? = (l[i]?).map (AV.frB p d)
  | [], i => by simp [frBL]
  | x :: r, 0 => by simp [frBL]
  | x :: r, i + 1 => by simp [frBL, frBL_get p d r i]
section
variable {H : Array Obj} {own own' : Nat → Prop} {used : List Nat} {hp hp' : Name → Option Ob} {β : Name → Option Blk}
theorem mkClo_rep {f : Nat} {vs : Array Value} {cs : List AV} (hs : vs.size = cs.length) (h : ∀ i x, cs[i]? = some x → VR H own used hp β (vs.getD i undef) x) : VR H own used hp β (.func (.func f) #[] vs) (mkClo f cs) := by
  unfold mkClo
  split
  · rename_i ds hd
    have e := allD_some hd
    subst e
    exact .d _ _ (.clo f vs ds (by simpa using hs) fun i d hi => (h i (.d d) (by simp [hi])).toD)
  · exact .clo f vs cs hs h
theorem VR.frB {p : Name} {d : D} (hr : ∀ v d, Rep H own v d → Rep H own' v d) (hst : ∀ q, nm used q → Stays hp hp' β β q) (hp0 : hp p = some (.box (d.cells.map .d))) (hsc : ∀ x ∈ d.cells, x.scal = true) (ho : OR H own used hp β p (.box (d.cells.map .d)))
    (hno : ∀ k, β p = some k → ¬ own' k.b) {v : Value} {x : AV} (h : VR H own used hp β v x) : VR H own' used hp' β v (x.frB p d) := by
  induction h with
  | un v => exact .un v
  | d v x h => exact .d v x (hr v x h)
  | vw v q off len hn h1 h => exact VR.mono hr (fun _ h => h) hst (.vw v q off len hn h1 h)
  | bx v q c hn h1 h =>
    unfold AV.frB
    split
    · rename_i e
      obtain ⟨rfl, rfl⟩ := e
      obtain ⟨k, hk, hk0, rfl⟩ := h _ hp0
      obtain ⟨k', cc, e, hk', _, hc, _, hl, _, hrep⟩ := ho
      rw [hk] at hk'
      cases hk'
      refine .d _ _ (.ptr k.b 0 cc e (0, 0) d hc (hno k hk) (by simp at hl; omega) hsc fun j x hj => ?_)
      have := (hrep j (.d x) (by simp [hj])).toD
      rw [Nat.zero_add]
      exact hr _ _ this
    · exact VR.mono hr (fun _ h => h) hst (.bx v q c hn h1 h)
  | el v q i c hn h1 h => exact VR.mono hr (fun _ h => h) hst (.el v q i c hn h1 h)
  | mp v q hn h1 h => exact VR.mono hr (fun _ h => h) hst (.mp v q hn h1 h)
  | its v q hn h1 h h' => exact VR.mono hr (fun _ h => h) hst (.its v q hn h1 h h')
  | agg vs cs hs hc _ ih =>
    have := mkAgg_rep (H := H) (own := own') (used := used) (hp := hp') (β := β) (vs := vs.toList) (cs := frBL p d cs) (by rw [frBL_length]; simpa using hs) (by simpa using hc) (fun i v x hv hx => by
      rw [frBL_get, Option.map_eq_some_iff] at hx
      obtain ⟨y, hy, rfl⟩ := hx
      have := ih i y hy
      have e : vs.getD i undef = v := by
        simp only [Array.getElem?_toList] at hv
        simp [Array.getD_eq_getD_getElem?, hv]
      rw [e] at this
      exact this)
    simpa [AV.frB] using this
  | tup vs cs hs _ ih =>
    refine .tup vs _ (by rw [frBL_length]; exact hs) (fun i x hi => ?_)
    rw [frBL_get, Option.map_eq_some_iff] at hi
    obtain ⟨y, hy, rfl⟩ := hi
    exact ih i y hy
  | clo f vs cs hs _ ih =>
    refine mkClo_rep (by rw [frBL_length]; exact hs) (fun i x hi => ?_)
    rw [frBL_get, Option.map_eq_some_iff] at hi
    obtain ⟨y, hy, rfl⟩ := hi
    exact ih i y hy
end
def Ob.frB (p : Name) (d : D) : Ob → Ob
  | .box cs => .box (frBL p d cs)
  | o => o
theorem Ob.frB_like (p : Name) (d : D) (o : Ob) : o.like (o.frB p d) := by
  cases o <;> simp [Ob.frB, Ob.like]
def St.frB (s : St) (p : Name) (d : D) : St := { fr := fun t => (s.fr t).frB p d, hp := fun q => (updP s.hp p none q).map (Ob.frB p d), used := s.used }
theorem Sim.frB {B : Base} {β : Name → Option Blk} {s : St} {tm : Array Value} {w : World} (h : Sim B β s tm w) {p : Name} {d : D} (hp : s.hp p = some (.box (d.cells.map .d))) (hsc : ∀ x ∈ d.cells, x.scal = true) : Sim B β (s.frB p d) tm w := by
  have hsub : ∀ q o', (s.frB p d).hp q = some o' → q ≠ p ∧ ∃ o, s.hp q = some o ∧ o' = o.frB p d := by
    intro q o' ho
    by_cases e : q = p
    · subst e; simp [St.frB, updP] at ho
    · simp only [St.frB, updP, if_neg e, Option.map_eq_some_iff] at ho
      obtain ⟨o, h1, h2⟩ := ho
      exact ⟨e, o, h1, h2.symm⟩
  have hne : ∀ q, (s.frB p d).hp q ≠ none → s.hp q ≠ none ∧ q ≠ p := by
    intro q hq
    cases ho : (s.frB p d).hp q with
    | none => exact absurd ho hq
    | some o' =>
      obtain ⟨e, o, h1, _⟩ := hsub q o' ho
      exact ⟨by rw [h1]; simp, e⟩
  have hr : ∀ v d', Rep w.heap (s.own B.A β) v d' → Rep w.heap ((s.frB p d).own B.A β) v d' := fun v d' hd => hd.mono (fun _ _ _ => rfl) (by
    rintro b _ (hA | ⟨q, k, hq, hk, e⟩)
    · exact .inl hA
    · exact .inr ⟨q, k, (hne q hq).1, hk, e⟩)
  have hst : ∀ q, nm s.used q → Stays s.hp (s.frB p d).hp β β q := fun q _ o' ho' => by
    obtain ⟨_, o, h1, rfl⟩ := hsub q o' ho'
    exact ⟨o, h1, Ob.frB_like p d o, rfl⟩
  have hno : ∀ k, β p = some k → ¬ (s.frB p d).own B.A β k.b := by
    rintro k hk (hA | ⟨q, k', hq, hk', e⟩)
    · exact (h.blocks p k (by rw [hp]; simp) hk).2.1 hA
    · exact (hne q hq).2 (h.inj q p k' k (hne q hq).1 (by rw [hp]; simp) hk' hk e)
  have hvr : ∀ {v : Value} {x : AV}, VR w.heap (s.own B.A β) s.used s.hp β v x → VR w.heap ((s.frB p d).own B.A β) s.used (s.frB p d).hp β v (x.frB p d) := fun hv => hv.frB hr hst hp hsc (h.objs p _ hp).2 hno
  refine { tms := h.tms, io := h.io, size := h.size, frame := h.frame, slots := fun i => hvr (h.slots i), objs := fun q o' ho' => ?_, blocks := fun q k hq hk => h.blocks q k (hne q hq).1 hk, inj := fun q q' k k' hq hq' => h.inj q q' k k' (hne q hq).1 (hne q' hq').1, us := h.us, stay := h.stay }
  obtain ⟨_, o, h1, rfl⟩ := hsub q o' ho'
  obtain ⟨g1, g2⟩ := h.objs q o h1
  refine ⟨g1, ?_⟩
  cases o with
  | box cs =>
    obtain ⟨k, c, e, a1, a2, a3, a4, a5, a6, a7⟩ := g2
    refine ⟨k, c, e, a1, a2, a3, a4, by rw [a5, frBL_length], a6, fun j x hj => ?_⟩
    rw [frBL_get, Option.map_eq_some_iff] at hj
    obtain ⟨y, hy, rfl⟩ := hj
    exact hvr (a7 j y hy)
  | _ => exact g2.mono hr (fun _ h => h) hst rfl fun _ _ => rfl
section
variable {P : Program} {cf : Cf} {Q : Exit → St → Prop} {s : St} {k : List It}
/-- Where an operation stands still, a variable may turn into data first. -/
theorem e_frB (E : Eng P cf Q) {d : Option Nat} {op : Op} {ty : TypeId} {ps : String} {af : Array Edge} (p : Name) (x : D) (hp : s.hp p = some (.box (x.cells.map .d))) (hsc : (x.cells.all D.scal) = true) (h : E.stp { dst := d, op := op, type := ty, pos := ps, after := af, guard := none } (s.frB p x) k (opR P.ti cf.n op d (s.frB p x))) :
    E.stp { dst := d, op := op, type := ty, pos := ps, after := af, guard := none } s k .no := by
  rw [e_stp_no]
  rw [E.stp_eq] at h
  have h1 := aok_of_stp (o := { dst := d, op := op, type := ty, pos := ps, after := af, guard := none }) rfl h
  intro B hB ds β a w' hds hs Q'
  exact h1 B hB ds β a w' hds (hs.frB hp (List.all_eq_true.1 hsc)) Q'
theorem c_frB (E : Eng P cf Q) {c : Code} (p : Name) (x : D) (hp : s.hp p = some (.box (x.cells.map .d))) (hsc : (x.cells.all D.scal) = true) (h : CodeE E c (s.frB p x) k) : CodeE E c s k := by
  intro B hB ds β a w' hds hs
  exact h B hB ds β a w' hds (hs.frB hp (List.all_eq_true.1 hsc))
theorem lkA_frB (p : Name) (d : D) (t : Nat) : ∀ l : List (Nat × AV), (lkA .un l t).frB p d = lkA .un (l.map fun q => (q.1, q.2.frB p d)) t
  | [] => rfl
  | q :: r => by
    simp only [lkA, List.map_cons]
    split
    · rfl
    · exact lkA_frB p d t r
theorem lkA_frBo (p : Name) (d : D) (q : Name) : ∀ l : List (Name × Ob), (lkA none (l.map fun x => (x.1, some x.2)) q).map (Ob.frB p d) = lkA none ((l.map fun x => (x.1, x.2.frB p d)).map fun x => (x.1, some x.2)) q
  | [] => rfl
  | x :: r => by
    simp only [lkA, List.map_cons]
    split
    · rfl
    · exact lkA_frBo p d q r
theorem mk_frB (fr : List (Nat × AV)) (hp : List (Name × Ob)) (u : List Nat) (p : Name) (d : D) : (mk fr hp u).frB p d = mk (fr.map fun q => (q.1, q.2.frB p d)) ((delA hp p).map fun q => (q.1, q.2.frB p d)) u := by
  unfold St.frB mk
  congr 1
  · funext t
    exact lkA_frB p d t fr
  · funext q
    rw [← lkA_frBo, map_del, lkA_del]
    rfl
theorem take_map_len {α β : Type} (f : α → β) (l : List α) : (l.map f).take l.length = l.map f := List.take_of_length_le (by simp)
attribute [go_sem] mk_frB AV.frB frBL Ob.frB mkClo D.cells take_map_len List.take_succ_cons List.take_zero List.take_nil
/-- A closure of plain data is called. -/
theorem e_callD (E : Eng P cf Q) {dst : Option Nat} {u : Nat} {args : Array Operand} {at' : Array TypeId} {ty : TypeId} {pos : String} {af : Array Edge}
    {f : FuncId} {caps ds : List D} {Q0 : AV → Prop} (hc : HP P cf.G f ds Q0)
    (hev : s.fr u = .d (.clo f caps)) (hargs : args.toList.map (ev (s.put u (.clo f (caps.map .d)))) ++ caps.map .d = ds.map .d) (hdst : ∀ t ∈ dst, t < cf.n) (hk : ∀ r, Q0 r → E.run k ((s.put u (.clo f (caps.map .d))).putO dst r)) :
    E.stp { dst := dst, op := .call { callee := .value (.tmp u), args := args, argTypes := at' }, type := ty, pos := pos, after := af, guard := none } s k .no := by
  rw [e_stp_no]
  have h1 : AOk P cf { dst := dst, op := .call { callee := .value (.tmp u), args := args, argTypes := at' }, type := ty, pos := pos, after := af, guard := none } (s.put u (.clo f (caps.map .d))) k Q :=
    callP_ok hc (show updN _ _ _ _ = _ by simp [updN]) hargs hdst fun r hr => by rw [← E.run_eq]; exact hk r hr
  intro B hB ds' β a w' hds hs Q'
  refine h1 B hB ds' β a w' hds (hs.setv ?_) Q'
  have hv := hs.slots u
  rw [hev] at hv
  have hv := hv.toD
  generalize a.tmps.getD u undef = v at hv
  cases hv with
  | clo _ vs _ hsz hrep =>
    refine .clo f vs _ (by simpa using hsz) fun i x hi => ?_
    rw [List.getElem?_map, Option.map_eq_some_iff] at hi
    obtain ⟨y, hy, rfl⟩ := hi
    exact .d _ _ (hrep i y hy)

/-! ### Comparing -/
theorem run_bin_val {op : BinOp} {t : TypeId} {x y : Operand} {yt : TypeId} {a : Act} {w : World} {d : Option Nat} {ty : TypeId} {ps : String} {af : Array Edge} {v : Value} (hg : (eqGuard op t x y (a.eval x) (a.eval y)).run P w = .ok () w) (hb : (binOp op t (a.eval x) (a.eval y)).run P w = .ok v w) :
    (execOp a.eval { dst := d, op := .binOp op t x y yt, type := ty, pos := ps, after := af, guard := none }).run P w = .ok (.value v) w := by
  simp only [execOp, Sem.run_bind, hg, Result.andThen_ok, hb]
  rfl
theorem run_equalIn_nil {t e : TypeId} (w : World) (hu : P.underlying t = some (.slice e)) (d : Nat) (ad : Option Addr) (n cap : Nat) : (Op.equalIn (d + 1) t (.slice ad n cap) (.slice none 0 0)).run P w = .ok ad.isNone w := by
  cases ad <;> simp [Op.equalIn, run_underlying hu]
theorem run_eql_nil {t e : TypeId} (w : World) (hu : P.underlying t = some (.slice e)) (ad : Option Addr) (n cap : Nat) : (binOp .eql t (.slice ad n cap) (.slice none 0 0)).run P w = .ok (.bool ad.isNone) w := by
  have h : (binOp .eql t (.slice ad n cap) (.slice none 0 0)).run P w = ((Op.equalIn (9999 + 1) t (.slice ad n cap) (.slice none 0 0)).run P w).andThen fun b w' => .ok (.bool b) w' := by
    simp only [binOp]
    simp [Op.equal, Op.maxDepth]
  rw [h, run_equalIn_nil w hu]; rfl
theorem run_neq_nil {t e : TypeId} (w : World) (hu : P.underlying t = some (.slice e)) (ad : Option Addr) (n cap : Nat) : (binOp .neq t (.slice ad n cap) (.slice none 0 0)).run P w = .ok (.bool (!ad.isNone)) w := by
  have h : (binOp .neq t (.slice ad n cap) (.slice none 0 0)).run P w = ((Op.equalIn (9999 + 1) t (.slice ad n cap) (.slice none 0 0)).run P w).andThen fun b w' => .ok (.bool (!b)) w' := by
    simp only [binOp]
    simp [Op.equal, Op.maxDepth]
  rw [h, run_equalIn_nil w hu]; rfl
/-- A slice compared with nil: of one without elements nothing is known. -/
theorem e_nilcmp (E : Eng P cf Q) {t e : TypeId} {x : Operand} {yt : TypeId} {dst : Nat} {ty : TypeId} {ps : String} {af : Array Edge} (neg : Bool) (hk : (P.ti t).k = .slice e) (hd : dst < cf.n) {w0 : W} {xs : List D} (hx : ev s x = .d (.sl w0 xs))
    (h : ∀ b : Bool, (b = true → xs = []) → E.run k (s.put dst (.d (.bool (if neg then !b else b))))) :
    E.stp { dst := some dst, op := .binOp (if neg then .neq else .eql) t x (.const (.slice none 0 0)) yt, type := ty, pos := ps, after := af, guard := none } s k .no := by
  rw [e_stp_no]
  intro B hB ds β a w hds hs Q'
  have hv := hs.ev x
  rw [hx] at hv
  have hv := hv.toD
  have hu := ti_slice hk
  have hrun : ∃ b : Bool, (b = true → xs = []) ∧ (execOp a.eval { dst := some dst, op := .binOp (if neg then .neq else .eql) t x (.const (.slice none 0 0)) yt, type := ty, pos := ps, after := af, guard := none }).run P w = .ok (.value (.bool (if neg then !b else b))) w := by
    have key : ∀ ad n cap, a.eval x = .slice ad n cap → (execOp a.eval { dst := some dst, op := .binOp (if neg then .neq else .eql) t x (.const (.slice none 0 0)) yt, type := ty, pos := ps, after := af, guard := none }).run P w = .ok (.value (.bool (if neg then !ad.isNone else ad.isNone))) w := by
      intro ad n cap hv
      refine run_bin_val ?_ ?_
      · rw [hv]; cases neg <;> rfl
      · rw [hv]
        show (binOp _ t (.slice ad n cap) (.slice none 0 0)).run P w = _
        cases neg
        · exact run_eql_nil w hu ad n cap
        · exact run_neq_nil w hu ad n cap
    generalize hval : a.eval x = v at hv
    cases hv with
    | sl0 ad cap w => exact ⟨ad.isNone, fun _ => rfl, key _ _ _ hval⟩
    | sl b o cap c e fz w xs => exact ⟨false, fun h => (by cases h), key _ _ _ hval⟩
  obtain ⟨b, hb, hrun⟩ := hrun
  have h1 := h b hb
  rw [E.run_eq] at h1
  exact wpIn_of_run (by simp) hrun (.inl rfl) ⟨hds, _, β, run_ok h1, hs.put (by rw [hB.1]; exact hd) (.d _ _ (.bool _))⟩
end
end Go.Ab
/-! ### The generic layer, part 39: structs compared, and as keys of maps. -/
namespace Go.Ab
def eqP : D → D → Option Bool
  | .int i a, .int j b => if i = j then some (decide (a = b)) else none
  | .bool a, .bool b => some (a == b)
  | .str a, .str b => some (decide (a = b))
  | _, _ => none
def kOk : TK → D → Bool
  | .int _, .int _ _ => true
  | .bool, .bool _ => true
  | .str, .str _ => true
  | _, _ => false
/-- Are two structs the same, field by field? -/
def eqS (tf : Nat → TI) : List (Nat × Nat) → List D → List D → Option Bool
  | [], _, _ => some true
  | f :: r, as, bs => match as[f.1]?, bs[f.1]? with
    | some a, some b => if kOk (tf f.2).k a && kOk (tf f.2).k b then (eqP a b).bind fun x => (eqS tf r as bs).map fun y => x && y else none
    | _, _ => none
end Go.Ab
open Go.Ab in
def Go.Program.structOk (P : Program) (t : Nat) : Bool := match P.underlying t with
  | some (.struct fs) => (fs.toList.all fun f => f.name != "_") && !P.stoodInHeld t && !P.eqGuardType P.depth t
  | _ => false
namespace Go.Ab
section
variable {P : Program} {w : World} {H : Array Obj} {own : Nat → Prop}
theorem eqP_run {t : TypeId} {u v : Value} {a b : D} {r : Bool} (ha : Rep H own u a) (hb : Rep H own v b) (ka : kOk (P.ti t).k a = true) (he : eqP a b = some r) (d : Nat) : (Op.equalIn (d + 1) t u v).run P w = .ok r w := by
  cases a <;> cases b <;> simp [eqP] at he <;> cases ha <;> cases hb
  · rename_i i x j y
    obtain ⟨hij, rfl⟩ := he
    subst hij
    cases hk : (P.ti t).k <;> rw [hk] at ka <;> simp [kOk] at ka
    rw [run_equalIn_int w d t _ _ _ _ (ti_int hk)]
    rfl
  · subst he
    cases hk : (P.ti t).k <;> rw [hk] at ka <;> simp [kOk] at ka
    exact run_equalIn_bool' w d t _ _ (isBool_und (by rw [hk]; rfl))
  · subst he
    cases hk : (P.ti t).k <;> rw [hk] at ka <;> simp [kOk] at ka
    rw [run_equalIn_string w d t _ _ (ti_str hk)]
    congr 1
    rw [Bool.eq_iff_iff]
    simp
theorem kOk_good {i : TI} {a : D} (h : kOk i.k a = true) : i.k.isBad = false ∧ i.k.agg = false := by
  cases hk : i.k <;> cases a <;> simp_all [kOk, TK.isBad, TK.agg]
theorem eqFields_ok (d : Nat) {xs ys : Array Value} {as bs : List D} (hxs : ∀ (i : Nat) a, as[i]? = some a → i < xs.size ∧ Rep H own (xs.getD i undef) a) (hys : ∀ (i : Nat) a, bs[i]? = some a → i < ys.size ∧ Rep H own (ys.getD i undef) a) :
    ∀ (fs : List Field) (r : Bool), (fs.all fun f => f.name != "_") = true → eqS P.ti (fs.map fun f => (f.offset, f.type)) as bs = some r → (Op.eqFields (d + 1) xs ys fs).run P w = .ok r w
  | [], r, _, h => by
    simp [eqS] at h
    subst h
    rfl
  | f :: fs, r, hn, h => by
    simp only [List.all_cons, Bool.and_eq_true, bne_iff_ne, ne_eq] at hn
    simp only [List.map_cons, eqS] at h
    split at h
    · rename_i a b ha hb
      split at h
      · rename_i hk
        simp only [Bool.and_eq_true] at hk
        obtain ⟨x, hx, h⟩ := Option.bind_eq_some_iff.1 h
        obtain ⟨y, hy, rfl⟩ := Option.map_eq_some_iff.1 h
        obtain ⟨h1, h2⟩ := hxs _ _ ha
        obtain ⟨h3, h4⟩ := hys _ _ hb
        obtain ⟨g1, g2⟩ := kOk_good hk.1
        have ih := eqFields_ok d hxs hys fs y hn.2 hy
        have e1 := run_part_one (P := P) (w := w) g1 g2 xs f.offset _ (getD_of (z := undef) h1)
        have e2 := run_part_one (P := P) (w := w) g1 g2 ys f.offset _ (getD_of (z := undef) h3)
        have e3 := eqP_run (P := P) (w := w) h2 h4 hk.1 hx d
        simp only [Op.eqFields, Sem.run_ite, hn.1, ne_eq, not_false_eq_true, if_true, Sem.run_bind, e1, e2, e3, Result.andThen_ok]
        cases x
        · rfl
        · simp only [Bool.not_true, Bool.false_eq_true, if_false, Bool.true_and]
          exact ih
      · cases h
    · cases h
theorem struct_parts {t : TypeId} (h : P.structOk t = true) : ∃ fl : Array Field, P.underlying t = some (.struct fl) ∧ P.fieldsOf t = fl ∧ (fl.toList.all fun f => f.name != "_") = true ∧ P.stoodInHeld t = false ∧ P.eqGuardType P.depth t = false := by
  unfold Program.structOk at h
  split at h
  · rename_i fl hf
    simp only [Bool.and_eq_true, Bool.not_eq_true'] at h
    exact ⟨fl, hf, by simp [Program.fieldsOf, hf], h.1.1, h.1.2, h.2⟩
  · cases h
theorem agg_cells {v : Value} {as : List D} (h : Rep H own v (.agg as)) : ∃ xs, v = .agg xs ∧ ∀ (i : Nat) a, as[i]? = some a → i < xs.size ∧ Rep H own (xs.getD i undef) a := by
  cases h with
  | agg xs _ hs _ hr => exact ⟨xs, rfl, fun i a hi => ⟨by rw [hs]; exact (List.getElem?_eq_some_iff.1 hi).1, hr i a hi⟩⟩
/-- Two structs compared. -/
theorem equalIn_struct {t : TypeId} {u v : Value} {as bs : List D} {r : Bool} {fs : List (Nat × Nat)} (hst : P.structOk t = true) (hk : (P.ti t).k = .struct fs) (hu : Rep H own u (.agg as)) (hv : Rep H own v (.agg bs)) (h : eqS P.ti fs as bs = some r) (d : Nat) :
    (Op.equalIn (d + 2) t u v).run P w = .ok r w := by
  obtain ⟨fl, h1, h2, h3, h4, _⟩ := struct_parts hst
  obtain ⟨fl', h1', rfl⟩ := ti_struct hk
  rw [h1] at h1'
  cases h1'
  obtain ⟨xs, rfl, hx⟩ := agg_cells hu
  obtain ⟨ys, rfl, hy⟩ := agg_cells hv
  rw [run_equalIn_agg w (d + 1) t xs ys (by rw [h2]; exact h1) h4, h2]
  exact eqFields_ok d hx hy _ r h3 h
end
section
variable {P : Program} {cf : Cf} {Q : Exit → St → Prop} {s : St} {k : List It}
theorem aok_eqS {t : TypeId} {x y : Operand} {yt : TypeId} {dst : Nat} {ty : TypeId} {ps : String} {af : Array Edge} {g : Option (Nat × Bool)} (neg : Bool) {as bs : List D} {r : Bool} {fs : List (Nat × Nat)} (hst : P.structOk t = true) (hk : (P.ti t).k = .struct fs) (hd : dst < cf.n)
    (hx : ev s x = .d (.agg as)) (hy : ev s y = .d (.agg bs)) (h : eqS P.ti fs as bs = some r) (hr : run P cf k Q (s.put dst (.d (.bool (if neg then !r else r))))) :
    AOk P cf { dst := some dst, op := .binOp (if neg then .neq else .eql) t x y yt, type := ty, pos := ps, after := af, guard := g } s k Q := by
  intro B hB ds β a w hds hs Q'
  have hu := hs.ev x
  rw [hx] at hu
  have hv := hs.ev y
  rw [hy] at hv
  have he := equalIn_struct (w := w) hst hk hu.toD hv.toD h 9998
  obtain ⟨xs, hxs, _⟩ := agg_cells hu.toD
  obtain ⟨ys, hys, _⟩ := agg_cells hv.toD
  obtain ⟨_, _, _, _, _, hgt⟩ := struct_parts hst
  rw [hxs, hys] at he
  have hrun : (execOp a.eval { dst := some dst, op := .binOp (if neg then .neq else .eql) t x y yt, type := ty, pos := ps, after := af, guard := g }).run P w = .ok (.value (.bool (if neg then !r else r))) w := by
    have h1 : (eqGuard (if neg then BinOp.neq else BinOp.eql) t x y (a.eval x) (a.eval y)).run P w = .ok () w := by
      rw [hxs, hys]; exact run_eqGuard_agg w _ t x y xs ys hgt
    have h2 : (binOp (if neg then BinOp.neq else BinOp.eql) t (a.eval x) (a.eval y)).run P w = .ok (.bool (if neg then !r else r)) w := by
      rw [hxs, hys]
      have he' : (Op.equalIn 10000 t (.agg xs) (.agg ys)).run P w = .ok r w := he
      cases neg
      · rw [if_neg (by simp), run_eql_struct w t xs ys, he']; rfl
      · rw [if_pos rfl, run_neq_struct w t xs ys, he']; rfl
    simp only [execOp, Sem.run_bind, h1, Result.andThen_ok, h2]
    rfl
  exact wpIn_of_run (by simp) hrun (.inl rfl) ⟨hds, _, β, run_ok hr, hs.put (by rw [hB.1]; exact hd) (.d _ _ (.bool _))⟩
theorem e_eqS (E : Eng P cf Q) {t : TypeId} {x y : Operand} {yt : TypeId} {dst : Nat} {ty : TypeId} {ps : String} {af : Array Edge} {as bs : List D} {r : Bool} {fs : List (Nat × Nat)} (hst : P.structOk t = true) (hk : (P.ti t).k = .struct fs) (hd : dst < cf.n)
    (hx : ev s x = .d (.agg as)) (hy : ev s y = .d (.agg bs)) (h : eqS P.ti fs as bs = some r) (hr : E.run k (s.put dst (.d (.bool r)))) :
    E.stp { dst := some dst, op := .binOp .eql t x y yt, type := ty, pos := ps, after := af, guard := none } s k .no := by
  rw [e_stp_no]
  exact aok_eqS false hst hk hd hx hy h (by rw [← E.run_eq]; exact hr)
theorem e_neS (E : Eng P cf Q) {t : TypeId} {x y : Operand} {yt : TypeId} {dst : Nat} {ty : TypeId} {ps : String} {af : Array Edge} {as bs : List D} {r : Bool} {fs : List (Nat × Nat)} (hst : P.structOk t = true) (hk : (P.ti t).k = .struct fs) (hd : dst < cf.n)
    (hx : ev s x = .d (.agg as)) (hy : ev s y = .d (.agg bs)) (h : eqS P.ti fs as bs = some r) (hr : E.run k (s.put dst (.d (.bool (!r))))) :
    E.stp { dst := some dst, op := .binOp .neq t x y yt, type := ty, pos := ps, after := af, guard := none } s k .no := by
  rw [e_stp_no]
  exact aok_eqS true hst hk hd hx hy h (by rw [← E.run_eq]; exact hr)

/-! ### Pairs of numbers as keys -/
def keP (i j : IntKind) (q : Int × Int) : D := .agg [.int i q.1, .int j q.2]
def kvP (i j : IntKind) (q : Int × Int) : Value := .agg #[.int i q.1, .int j q.2]
theorem keP_rep (H : Array Obj) (own : Nat → Prop) (i j : IntKind) (q : Int × Int) : Rep H own (kvP i j q) (keP i j q) := by
  refine .agg _ _ rfl (by simp [D.scal]) fun n d hd => ?_
  match n, hd with
  | 0, hd => obtain rfl := Option.some.inj hd; exact .int _ _
  | 1, hd => obtain rfl := Option.some.inj hd; exact .int _ _
theorem keP_val {H : Array Obj} {own : Nat → Prop} {i j : IntKind} {v : Value} {q : Int × Int} (h : Rep H own v (keP i j q)) : v = kvP i j q := by
  cases h with
  | agg xs _ hs _ hr =>
    have h0 := hr 0 (.int i q.1) rfl
    have h1 := hr 1 (.int j q.2) rfl
    have hs : xs.size = 2 := hs
    obtain ⟨l⟩ := xs
    match l, hs with
    | [u, v], _ =>
      simp at h0 h1
      cases h0; cases h1
      rfl
theorem keyPair {kt : TypeId} {i j : IntKind} {f0 f1 : Field} (hu : P.underlying kt = some (.struct #[f0, f1])) (h0 : f0.offset = 0) (h1 : f1.offset = 1) (k0 : (P.ti f0.type).k = .int i) (k1 : (P.ti f1.type).k = .int j) (hst : P.structOk kt = true) (hk : (P.ti kt).k = .struct [(0, f0.type), (1, f1.type)]) :
    KeyE P kt (keP i j) (kvP i j) where
  val := keP_val
  rep := fun H own q => keP_rep H own i j q
  chk := fun b a w => by
    have e1 := run_part_one (P := P) (t := f0.type) (w := w) (by rw [k0]; rfl) (by rw [k0]; rfl) #[.int i a.1, .int j a.2] 0 (.int i a.1) rfl
    have e2 := run_part_one (P := P) (t := f1.type) (w := w) (by rw [k1]; rfl) (by rw [k1]; rfl) #[.int i a.1, .int j a.2] 1 (.int j a.2) rfl
    have e3 := MapKept.run_checkKey (P := P) (w := w) (kt := f0.type) (k := .int i a.1) (ti_int k0) (show i = i from rfl) b 9998
    have e4 := MapKept.run_checkKey (P := P) (w := w) (kt := f1.type) (k := .int j a.2) (ti_int k1) (show j = j from rfl) b 9998
    have : (Instr.checkKey b (9999 + 1) kt (kvP i j a)).run P w = .ok () w := by
      unfold Instr.checkKey kvP
      simp only [Sem.run_bind, run_underlying hu, Result.andThen_ok]
      rw [← Array.forIn_toList]
      simp only [List.forIn_cons, List.forIn_nil, h0, h1]
      by_cases n0 : f0.name = "_" <;> by_cases n1 : f1.name = "_" <;> simp [n0, n1, e1, e2, e3, e4]
    exact this
  same := fun a => by
    have : Instr.sameBits (9998 + 2) (kvP i j a) (kvP i j a) = true := by simp [Instr.sameBits, kvP]
    exact this
  find := fun a es ks w hks => by
    have heq : ∀ x : Int × Int, (Op.equal kt (kvP i j a) (kvP i j x)).run P w = .ok (decide (x = a)) w := fun x => by
      have := equalIn_struct (w := w) (H := #[]) (own := fun _ => False) (d := 9998) hst hk (keP_rep _ _ i j a) (keP_rep _ _ i j x) (r := decide (a.1 = x.1) && (decide (a.2 = x.2) && true)) (by simp [eqS, k0, k1, kOk, eqP])
      have e : decide (x = a) = (decide (a.1 = x.1) && (decide (a.2 = x.2) && true)) := by
        rw [Bool.eq_iff_iff]
        simp only [Bool.and_eq_true, decide_eq_true_eq, and_true]
        exact ⟨fun h => by rw [h]; exact ⟨rfl, rfl⟩, fun h => Prod.ext h.1.symm h.2.symm⟩
      rw [e]
      exact this
    have ask : ∀ (es : List MapEntry) (ks : List (Int × Int)) (n : Nat), es.map (·.key) = ks.map (kvP i j) → (Instr.findAsking kt (kvP i j a) es n).run P w = .ok ((midx ks a).bind fun m => (es[m]?).map fun e => (n + m, e.val)) w := by
      intro es
      induction es with
      | nil =>
        intro ks n h
        cases ks with
        | nil => rfl
        | cons k r => simp at h
      | cons e es ih =>
        intro ks n h
        cases ks with
        | nil => simp at h
        | cons k r =>
          simp only [List.map_cons, List.cons.injEq] at h
          simp only [Instr.findAsking, h.1, Sem.run_bind, heq, Result.andThen_ok, midx]
          by_cases hka : k = a
          · simp [hka]
          · simp only [hka, decide_false, Bool.false_eq_true, if_false, ih r (n + 1) h.2]
            cases midx r a with
            | none => rfl
            | some m => simp [Nat.add_assoc, Nat.add_comm 1 m]
    cases es with
    | nil =>
      cases ks with
      | nil => simp [Instr.findKey, run_underlying hu, Instr.findNow, midx]
      | cons k r => simp at hks
    | cons e es =>
      have := ask (e :: es) ks 0 hks
      simp only [Nat.zero_add] at this
      have hnow : Instr.findNow (.struct #[f0, f1]) (kvP i j a) (e :: es) 0 = none := by simp [Instr.findNow, Instr.sameNow]
      simp only [Instr.findKey, Sem.run_bind, run_underlying hu, Result.andThen_ok, hnow]
      exact this
end
end Go.Ab
/-! ### The generic layer, part 40: functions and calls whose objects are handed in and out, behind the veil; lookups in drawn regions. -/
namespace Go.Ab
section
variable {P : Program}
/-- A function's contract out of its body's run, with objects. -/
theorem funO_ok {G : List (Nat × Obj)} {f : FuncId} {fn : Func} {c : Code} {args : List AV} {hp : List (Name × Ob)} {u : List Nat} {Q : AV → List (Name × Ob) → Prop} (hf : P.funcs[f]? = some fn) (hb : fn.body = some c)
    (hnm : (fn.name == "runtime.NumGoroutine") = false) (hn : args.length ≤ fn.ntmps) (h : run P ⟨fn.ntmps, none, G, u⟩ [.code c] (fq P fn.results.toList u Q) (mk (argsFr 0 args) hp u)) : HCall P G f args hp u Q :=
  fun_ok hf hb (enter_run hf hb hnm) hn (fun _ _ h => h) h
theorem fq_ret (rs : List ResultVar) (u : List Nat) (Q : AV → List (Name × Ob) → Prop) (s : St) : fq P rs u Q .ret s = RX (resR P s rs) fun l => ∃ r hp' u' τ, Q r hp' ∧ LeL u τ (retS s (retV l)) [(0, r)] hp' u' := rfl
theorem fq_normal (rs : List ResultVar) (u : List Nat) (Q : AV → List (Name × Ob) → Prop) (s : St) : fq P rs u Q .normal s = RX (resR P s rs) fun l => ∃ r hp' u' τ, Q r hp' ∧ LeL u τ (retS s (retV l)) [(0, r)] hp' u' := rfl
theorem retS_mk (fr hp u) (x : AV) : retS (mk fr hp u) x = mk [(0, x)] hp u := by
  unfold retS mk
  congr 1
attribute [go_sem] fq_ret fq_normal retS_mk
def insL : List (Name × Ob) → List (Name × Ob) → List (Name × Ob)
  | [], hp => hp
  | q :: r, hp => insA (insL r hp) q.1 q.2
def delL : List Name → List (Name × Ob) → List (Name × Ob)
  | [], hp => hp
  | p :: r, hp => delA (delL r hp) p
theorem lkA_insL (q : Name) (hp : List (Name × Ob)) : ∀ l : List (Name × Ob), lkA none ((insL l hp).map fun x => (x.1, some x.2)) q = lkA (lkA none (hp.map fun x => (x.1, some x.2)) q) (l.map fun x => (x.1, some x.2)) q
  | [] => rfl
  | x :: r => by
    rw [insL, map_ins, lkA_ins, lkA_insL q hp r, List.map_cons, lkA_cons]
theorem lkA_delL (q : Name) (hp : List (Name × Ob)) : ∀ l : List Name, lkA none ((delL l hp).map fun x => (x.1, some x.2)) q = lkA (lkA none (hp.map fun x => (x.1, some x.2)) q) (l.map fun x => (x, (none : Option Ob))) q
  | [] => rfl
  | x :: r => by
    rw [delL, map_del, lkA_del, lkA_delL q hp r, List.map_cons, lkA_cons]
/-- The state behind a call, in written form. -/
theorem mk_aft (fr hp u) (σ : Name → Name) (d : Nat) (chp hp' : List (Name × Ob)) (r : AV) : aft (mk fr hp u) σ d chp hp' r = mk (insA fr d (r.ren (aftN σ d chp))) (insL (hp'.map fun x => (aftN σ d chp x.1, x.2.ren (aftN σ d chp))) (delL (chp.map fun x => σ x.1) hp)) (d :: u) := by
  unfold aft mk
  congr 1
  · funext j
    rw [lkA_ins]; rfl
  · funext q
    simp only
    rw [lkA_insL, lkA_delL]
    simp only [List.map_map]
    rfl
attribute [go_sem] mk_aft insL delL aftN passL likeM Ob.like List.any_cons List.any_nil
end
section
variable {P : Program} {cf : Cf} {Q : Exit → St → Prop} {s : St} {k : List It}
/-- A call that is handed objects, under their own names. -/
theorem e_callO (E : Eng P cf Q) {d : Nat} {fv : Operand} {args : Array Operand} {at' : Array TypeId} {ty : TypeId} {pos : String} {af : Array Edge}
    {f : FuncId} {caps : List AV} (cargs : List AV) (chp : List (Name × Ob)) (cu : List Nat) {Q0 : AV → List (Name × Ob) → Prop} (hc : HCall P cf.G f cargs chp cu Q0)
    (hev : ev s fv = .clo f caps) (hargs : args.toList.map (ev s) ++ caps = cargs) (hd : d < cf.n ∧ d ∉ s.used) (hcu : inUL cu cargs = true) (hpass : passL id cu s chp) (hinj : injL id chp)
    (hk : ∀ r hp', Q0 r hp' → likeM chp hp' ∧ E.run k (aft s id d chp hp' r)) :
    E.stp { dst := some d, op := .call { callee := .value fv, args := args, argTypes := at' }, type := ty, pos := pos, after := af, guard := none } s k .no := by
  rw [e_stp_no]
  refine call_ok d id cargs chp cu Q0 hev ?_ hcu hd.2 (fun t ht => ?_) hpass hinj hc fun r hp' hr => ?_
  · rw [hargs]
    have : ∀ l : List AV, renL id l = l := fun l => by
      induction l with
      | nil => rfl
      | cons x r ih => rw [renL, ih, AV.ren_id id (fun _ => rfl)]
    exact (this _).symm
  · obtain rfl := Option.some.inj ht
    exact ⟨hd.1, rfl⟩
  · obtain ⟨h1, h2⟩ := hk r hp' hr
    exact ⟨h1, by rw [← E.run_eq]; exact h2⟩
section
variable {κ : Type} [DecidableEq κ] {ke : κ → D} {kv : κ → Value} {ops : Array Oper} {K : St → Ns → Prop} {r : List Oper} {ns : Ns}
/-- A lookup in a region that draws and stores. -/
theorem x_lookup (E : XEng P cf ops K) {xt kt et : Nat} {x y : Operand} {co : Bool} {dst : Option Nat} {ty : TypeId} {pos : String} {af : Array Edge} {g : Option (Nat × Bool)} (p : Name) (ms : List (κ × D)) (key : κ) (z : D) (hm : (P.ti xt).k = .map kt et) (K : KeyE P kt ke kv) (hz : zeroD P et = some z)
    (hx : ev s x = .mp p) (hp : s.hp p = some (.map (menc ke ms))) (hy : ev s y = .d (ke key)) (hdst : ∀ t ∈ dst, t < cf.n) (hk : E.run r (s.putO dst (lookV z co (mlook ms key))) (ns ++ [([p], [], [])])) :
    E.stp { dst := dst, op := .lookup xt x y co, type := ty, pos := pos, after := af, guard := g } r s ns .no := by
  refine x_leaf E [p] hdst (fun s' hh he => ?_) hk
  have e1 : ev s' x = ev s x := he x (by simp [Op.operands])
  have e2 : ev s' y = ev s y := he y (by simp [Op.operands])
  exact lookup_ok p ms key z hm K hz (e1.trans hx) ((hh p (by simp)).trans hp) (e2.trans hy) hdst (by rw [run_nil])
end
end
end Go.Ab
