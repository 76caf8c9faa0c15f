/-
  The generic layer, part 33: maps.
-/
import Derived.Test.YtmplpdjddjiioaaDoorG6
import Derived.Laws.IdiomMaps
namespace Go.Ab
section
variable {κ : Type} [DecidableEq κ]
def mlook : List (κ × D) → κ → Option D
  | [], _ => none
  | q :: r, a => if q.1 = a then some q.2 else mlook r a
def mset : List (κ × D) → κ → D → List (κ × D)
  | [], a, d => [(a, d)]
  | q :: r, a, d => if q.1 = a then (a, d) :: r else q :: mset r a d
def midx : List κ → κ → Option Nat
  | [], _ => none
  | x :: r, a => if x = a then some 0 else (midx r a).map (· + 1)
theorem midx_none {a : κ} {d : D} : ∀ {ms : List (κ × D)}, midx (ms.map (·.1)) a = none → mlook ms a = none ∧ mset ms a d = ms ++ [(a, d)]
  | [], _ => ⟨rfl, rfl⟩
  | q :: r, h => by
    simp only [List.map_cons, midx] at h
    split at h
    · cases h
    · rename_i hq
      obtain ⟨h1, h2⟩ := midx_none (d := d) (Option.map_eq_none_iff.1 h)
      exact ⟨by simp [mlook, hq, h1], by simp [mset, hq, h2]⟩
theorem midx_some {a : κ} {d : D} : ∀ {ms : List (κ × D)} {i : Nat}, midx (ms.map (·.1)) a = some i → ∃ e, ms[i]? = some (a, e) ∧ mlook ms a = some e ∧ mset ms a d = ms.set i (a, d)
  | [], _, h => by cases h
  | q :: r, i, h => by
    simp only [List.map_cons, midx] at h
    split at h
    · rename_i hq
      cases h
      exact ⟨q.2, by simp [← hq], by simp [mlook, hq], by simp [mset, hq]⟩
    · rename_i hq
      obtain ⟨j, hj, rfl⟩ := Option.map_eq_some_iff.1 h
      obtain ⟨e, h1, h2, h3⟩ := midx_some (d := d) hj
      exact ⟨e, by simpa using h1, by simp [mlook, hq, h2], by simp [mset, hq, h3]⟩

/-- A kind of keys. -/
structure KeyE (P : Program) (kt : TypeId) (ke : κ → D) (kv : κ → Value) : Prop where
  val : ∀ {H : Array Obj} {own : Nat → Prop} {v : Value} {a : κ}, Rep H own v (ke a) → v = kv a
  rep : ∀ (H : Array Obj) (own : Nat → Prop) (a : κ), Rep H own (kv a) (ke a)
  chk : ∀ (b : Bool) (a : κ) (w : World), (Instr.checkKey b 10000 kt (kv a)).run P w = .ok () w
  same : ∀ a : κ, Instr.sameBits 10000 (kv a) (kv a) = true
  find : ∀ (a : κ) (es : List MapEntry) (ks : List κ) (w : World), es.map (·.key) = ks.map kv → (Instr.findKey kt (kv a) es).run P w = .ok ((midx ks a).bind fun i => (es[i]?).map fun e => (i, e.val)) w
end
section
variable {P : Program}
theorem findNow_ok {κ : Type} [DecidableEq κ] {kv : κ → Value} {kind : TypeDesc} {a : κ} (hs : ∀ x, Instr.sameNow kind (kv a) (kv x) = some (decide (x = a))) : ∀ (es : List MapEntry) (ks : List κ) (i : Nat), es.map (·.key) = ks.map kv →
    Instr.findNow kind (kv a) es i = some ((midx ks a).bind fun j => (es[j]?).map fun e => (i + j, e.val))
  | [], ks, i, h => by
    cases ks with
    | nil => rfl
    | cons k r => simp at h
  | e :: es, ks, i, h => by
    cases ks with
    | nil => simp at h
    | cons k r =>
      simp only [List.map_cons, List.cons.injEq] at h
      simp only [Instr.findNow, h.1, hs, midx]
      by_cases hk : k = a
      · simp [hk]
      · simp only [hk, decide_false, if_false, findNow_ok hs es r (i + 1) h.2]
        cases midx r a with
        | none => rfl
        | some j => simp [Nat.add_assoc, Nat.add_comm 1 j]
theorem find_ok {κ : Type} [DecidableEq κ] {kt : TypeId} {kv : κ → Value} {kind : TypeDesc} (hk : P.underlying kt = some kind) (a : κ) (hs : ∀ x, Instr.sameNow kind (kv a) (kv x) = some (decide (x = a))) (es : List MapEntry) (ks : List κ) (w : World) (h : es.map (·.key) = ks.map kv) :
    (Instr.findKey kt (kv a) es).run P w = .ok ((midx ks a).bind fun i => (es[i]?).map fun e => (i, e.val)) w := by
  have := findNow_ok hs es ks 0 h
  simp only [Nat.zero_add] at this
  simp only [Instr.findKey, Sem.run_bind, run_underlying hk, Result.andThen_ok, this]
  rfl
theorem same_dec {d : TypeDesc} {a b : Value} {p : Prop} [Decidable p] (ha : MapKept.IsKey d a) (hb : MapKept.IsKey d b) (h : p ↔ a = b) : Instr.sameNow d a b = some (decide p) := by
  obtain ⟨r, hr, hi⟩ := MapKept.sameNow_of_keys ha hb
  rw [hr]
  congr 1
  rw [Bool.eq_iff_iff, hi, decide_eq_true_eq, h]
theorem keyStr {kt : TypeId} (h : (P.ti kt).k = .str) : KeyE P kt (fun l : List UInt8 => D.str l) (fun l => .string ⟨l.toArray⟩) where
  val := fun h => by cases h; rfl
  rep := fun _ _ l => .str l
  chk := fun b a w => MapKept.run_checkKey (ti_str h) (by trivial) b 9999
  same := fun a => by
    have : Instr.sameBits (9999 + 1) (.string ⟨a.toArray⟩) (.string ⟨a.toArray⟩) = true := by simp [Instr.sameBits, MapKept.bytes_beq]
    exact this
  find := fun a es ks w hk => find_ok (ti_str h) a (fun x => same_dec (by trivial) (by trivial) ⟨fun e => by rw [e], fun e => by
    have e1 := congrArg (fun v => match v with | Value.string b => b.data.toList | _ => []) e
    simpa using e1.symm⟩) es ks w hk
theorem keyInt {kt : TypeId} {i : IntKind} (h : (P.ti kt).k = .int i) : KeyE P kt (fun n : Int => D.int i n) (fun n => .int i n) where
  val := fun h => by cases h; rfl
  rep := fun _ _ n => .int i n
  chk := fun b a w => MapKept.run_checkKey (k := .int i a) (ti_int h) (show i = i from rfl) b 9999
  same := fun a => by
    have : Instr.sameBits (9999 + 1) (.int i a) (.int i a) = true := by simp [Instr.sameBits]
    exact this
  find := fun a es ks w hk => find_ok (ti_int h) a (fun x => same_dec (d := .int i) (a := .int i a) (b := .int i x) (show i = i from rfl) (show i = i from rfl) ⟨fun e => by rw [e], fun e => by cases e; rfl⟩) es ks w hk
end
section
variable {P : Program} {cf : Cf} {Q : Exit → St → Prop} {s : St} {k : List It}
variable {κ : Type} [DecidableEq κ] {ke : κ → D} {kv : κ → Value}

theorem e_makeMap (E : Eng P cf Q) {t0 : Nat} {t : Nat} {ty : TypeId} {pos : String} {af : Array Edge} (ht : t < cf.n) (hu : t ∉ s.used) (hk : E.run k ((s.add t (.map [])).put t (.mp [t]))) :
    E.stp .no { dst := some t, op := .makeMap t0 none, type := ty, pos := pos, after := af, guard := none } s k := by
  rw [e_stp_no]
  rw [E.run_eq] at hk
  intro B hB ds β a w hds h Q'
  have hrun : (execOp a.eval { dst := some t, op := .makeMap t0 none, type := ty, pos := pos, after := af, guard := none }).run P w = .ok (.value (.map (some w.heap.size))) (w.alloc (.map #[] 0)) := by
    simp only [execOp, Instr.makeMap]
    rfl
  obtain ⟨hsim, _⟩ := h.alloc hu (.map #[] 0) (.map []) 0 (fun β' hβ _ => ⟨_, #[], 0, hβ, by show (w.heap.push _)[w.heap.size]? = _; rw [Array.getElem?_push_size], rfl, fun i x hi => by simp at hi⟩)
  refine wpIn_of_run (by simp) hrun (.inl rfl) ⟨hds, _, _, run_ok hk, hsim.put (by rw [hB.1]; exact ht) ?_⟩
  refine .mp _ _ ⟨t, [], rfl, List.mem_cons_self⟩ rfl (fun es _ => ⟨⟨w.heap.size, 0, 0⟩, by simp [updP], rfl⟩)

def menc (ke : κ → D) (ms : List (κ × D)) : List (D × D) := ms.map fun q => (ke q.1, q.2)
theorem menc_nil (ke : κ → D) : menc ke [] = [] := rfl
theorem map_keys {kt : TypeId} (K : KeyE P kt ke kv) {H : Array Obj} {own : Nat → Prop} {ms : List (κ × D)} {ents : Array MapEntry} (hsz : ents.size = (menc ke ms).length)
    (h : ∀ (i : Nat) (x : D × D), (menc ke ms)[i]? = some x → ∃ en : MapEntry, ents[i]? = some en ∧ Rep H own en.key x.1 ∧ Rep H own en.val x.2) : ents.toList.map (·.key) = (ms.map (·.1)).map kv := by
  have hl : ents.size = ms.length := by simpa [menc] using hsz
  apply List.ext_getElem (by simp [hl])
  intro i h1 h2
  have hi : i < ms.length := by simpa using h2
  obtain ⟨en, he, hk, _⟩ := h i (ke ms[i].1, ms[i].2) (by simp [menc, hi])
  have hie : i < ents.size := by omega
  simp [hie] at he
  simp [he, K.val hk]

/-- A type's zero, by values. -/
def zdA : Value → Option D
  | .agg cs => (cs.toList.mapM zd).map .agg
  | v => zd v
def zeroD (P : Program) (t : TypeId) : Option D := (P.info? t).bind fun i => i.zero.bind zdA
theorem zeroD_run {t : TypeId} {z : D} (h : zeroD P t = some z) : ∃ v, (∀ w, (zeroValue t).run P w = .ok v w) ∧ ∀ (H : Array Obj) (own : Nat → Prop), Rep H own v z := by
  obtain ⟨i, hi, h⟩ := Option.bind_eq_some_iff.1 h
  obtain ⟨v, hv, h⟩ := Option.bind_eq_some_iff.1 h
  refine ⟨v, fun w => ?_, fun H own => ?_⟩
  · simp [zeroValue, typeInfo, hi, hv]
  · cases v with
    | agg cs =>
      simp only [zdA, Option.map_eq_some_iff] at h
      obtain ⟨ds, hd, rfl⟩ := h
      obtain ⟨h1, h2, _, h4⟩ := mapM_zd (H := H) (own := own) hd
      refine .agg cs ds (by simpa using h1.symm) h2 (fun i d hi => ?_)
      obtain ⟨u, hu, hr⟩ := h4 i d hi
      have hu' : cs[i]? = some u := by simpa using hu
      have : cs.getD i undef = u := by simp [Array.getD_eq_getD_getElem?, hu']
      rw [this]; exact hr
    | _ => simp only [zdA] at h; exact (zd_rep (H := H) (own := own) h).1

/-- What a lookup hands back. -/
def lookV (z : D) (co : Bool) (r : Option D) : AV := if co then .tup [.d (r.getD z), .d (.bool r.isSome)] else .d (r.getD z)
theorem e_lookup (E : Eng P cf Q) {xt kt et : Nat} {x y : Operand} {co : Bool} {dst : Option Nat} {ty : TypeId} {pos : String} {af : Array Edge} (p : Name) (ms : List (κ × D)) (key : κ) (z : D) (hm : (P.ti xt).k = .map kt et) (K : KeyE P kt ke kv) (hz : zeroD P et = some z)
    (hx : ev s x = .mp p) (hp : s.hp p = some (.map (menc ke ms))) (hy : ev s y = .d (ke key)) (hdst : ∀ t ∈ dst, t < cf.n) (hk : E.run k (s.putO dst (lookV z co (mlook ms key)))) :
    E.stp .no { dst := dst, op := .lookup xt x y co, type := ty, pos := pos, after := af, guard := none } s k := by
  rw [e_stp_no]
  rw [E.run_eq] at hk
  intro B hB ds β a w hds h Q'
  have hv := h.ev x
  rw [hx] at hv
  have hkey := h.ev y
  rw [hy] at hkey
  have hkey := K.val hkey.toD
  generalize hval : a.eval x = v at hv
  cases hv with
  | mp _ _ hn ho g =>
  obtain ⟨b, hb, rfl⟩ := g _ hp
  obtain ⟨b2, ents, clock, hb2, hh, hsz, hent⟩ := (h.objs p _ hp).2
  obtain rfl := Option.some.inj (hb.symm.trans hb2)
  obtain ⟨zv, hzr, hzrep⟩ := zeroD_run hz
  have hzrep := hzrep w.heap (s.own B.A β)
  have hks := map_keys K hsz hent
  have hf := K.find key ents.toList _ w hks
  have key1 : ∃ r, VR w.heap (s.own B.A β) s.used s.hp β r (lookV z co (mlook ms key)) ∧ (execOp a.eval { dst := dst, op := .lookup xt x y co, type := ty, pos := pos, after := af, guard := none }).run P w = .ok (.value r) w := by
    cases hi : midx (ms.map (·.1)) key with
    | none =>
      obtain ⟨h1, _⟩ := midx_none (d := z) hi
      rw [hi] at hf
      refine ⟨if co then .tuple #[zv, .bool false] else zv, ?_, ?_⟩
      · rw [h1]
        cases co
        · exact .d _ _ hzrep
        · refine .tup _ _ rfl fun i y hi => ?_
          match i, hi with
          | 0, hi => obtain rfl := Option.some.inj hi; exact .d _ _ hzrep
          | 1, hi => obtain rfl := Option.some.inj hi; exact .d _ _ (.bool _)
      · simp only [execOp, hval, hkey, Instr.lookup, Sem.run_bind, run_underlying (ti_map hm), Result.andThen_ok, MapKept.run_getObj_map hh, K.chk, Sem.run_pure]
        rw [hf]
        simp [hzr]
    | some i =>
      obtain ⟨e, h0, h1, _⟩ := midx_some (d := z) hi
      rw [hi] at hf
      obtain ⟨en, he, _, hrep⟩ := hent i (ke key, e) (by simp [menc, h0])
      have he' : ents.toList[i]? = some en := by simpa using he
      refine ⟨if co then .tuple #[en.val, .bool true] else en.val, ?_, ?_⟩
      · rw [h1]
        cases co
        · exact .d _ _ hrep
        · refine .tup _ _ rfl fun i y hi => ?_
          match i, hi with
          | 0, hi => obtain rfl := Option.some.inj hi; exact .d _ _ hrep
          | 1, hi => obtain rfl := Option.some.inj hi; exact .d _ _ (.bool _)
      · simp only [execOp, hval, hkey, Instr.lookup, Sem.run_bind, run_underlying (ti_map hm), Result.andThen_ok, MapKept.run_getObj_map hh, K.chk, Sem.run_pure]
        rw [hf]
        simp [he]
  obtain ⟨r, hr1, hr2⟩ := key1
  refine wpIn_of_run (by simp) hr2 (.inl rfl) ⟨by cases dst <;> exact hds, _, β, run_ok hk, ?_⟩
  cases dst with
  | none => exact h
  | some t => exact h.put (by rw [hB.1]; exact hdst t rfl) hr1

theorem e_mapUpdate (E : Eng P cf Q) {xt kt et : Nat} {x y z : Operand} {dst : Option Nat} {ty : TypeId} {pos : String} {af : Array Edge} (p : Name) (ms : List (κ × D)) (key : κ) (d : D) (hm : (P.ti xt).k = .map kt et) (K : KeyE P kt ke kv)
    (hx : ev s x = .mp p) (hp : s.hp p = some (.map (menc ke ms))) (hy : ev s y = .d (ke key)) (hd : ev s z = .d d) (hdst : dst = none) (hk : E.run k (s.set p (some (.map (menc ke (mset ms key d)))))) :
    E.stp .no { dst := dst, op := .mapUpdate xt x y z, type := ty, pos := pos, after := af, guard := none } s k := by
  subst hdst
  rw [e_stp_no]
  rw [E.run_eq] at hk
  intro B hB ds β a w hds h Q'
  have hv := h.ev x
  rw [hx] at hv
  have hkey := h.ev y
  rw [hy] at hkey
  have hkey := K.val hkey.toD
  have hzv := h.ev z
  rw [hd] at hzv
  have hzv := hzv.toD
  generalize hval : a.eval x = v at hv
  cases hv with
  | mp _ _ hn ho g =>
  obtain ⟨b, hb, rfl⟩ := g _ hp
  obtain ⟨b2, ents, clock, hb2, hh, hsz, hent⟩ := (h.objs p _ hp).2
  obtain rfl := Option.some.inj (hb.symm.trans hb2)
  have hlt := lt_of_some hh
  have hks := map_keys K hsz hent
  have hf := K.find key ents.toList _ w hks
  have hl : ents.size = ms.length := by simpa [menc] using hsz
  have key1 : ∃ ents' clock', (execOp a.eval { dst := none, op := .mapUpdate xt x y z, type := ty, pos := pos, after := af, guard := none }).run P w = .ok .skip { w with heap := w.heap.setIfInBounds b.b (.map ents' clock') } ∧
      ents'.size = (menc ke (mset ms key d)).length ∧ ∀ (H : Array Obj) (own : Nat → Prop), (∀ v d, Rep w.heap (s.own B.A β) v d → Rep H own v d) → ∀ (i : Nat) (x : D × D), (menc ke (mset ms key d))[i]? = some x → ∃ en : MapEntry, ents'[i]? = some en ∧ Rep H own en.key x.1 ∧ Rep H own en.val x.2 := by
    cases hi : midx (ms.map (·.1)) key with
    | none =>
      obtain ⟨_, h2⟩ := midx_none (d := d) hi
      rw [hi] at hf
      refine ⟨ents.push { key := kv key, val := a.eval z, born := clock }, clock + 1, ?_, ?_, ?_⟩
      · simp only [execOp, hval, hkey, Instr.mapUpdate, Sem.run_bind, run_underlying (ti_map hm), Result.andThen_ok, MapKept.run_getObj_map hh, K.chk, Sem.run_pure]
        rw [hf]
        simp [setObj, Sem.run, hh]
      · rw [h2]; simp [menc, hl]
      · intro H own hr i x hi'
        rw [h2] at hi'
        by_cases hlt' : i < ms.length
        · have : (menc ke ms)[i]? = some x := by
            rw [← hi']; simp [menc, List.getElem?_append_left, hlt']
          obtain ⟨en, h3, h4, h5⟩ := hent i x this
          exact ⟨en, by rw [Array.getElem?_push, if_neg (by omega)]; exact h3, hr _ _ h4, hr _ _ h5⟩
        · have hie : i = ms.length := by
            have := (List.getElem?_eq_some_iff.1 hi').1
            simp [menc] at this
            omega
          subst hie
          have : x = (ke key, d) := by
            simp [menc] at hi'
            exact hi'.symm
          subst this
          exact ⟨_, by rw [Array.getElem?_push, if_pos hl.symm], K.rep _ _ _, hr _ _ hzv⟩
    | some i =>
      obtain ⟨e, h0, _, h2⟩ := midx_some (d := d) hi
      rw [hi] at hf
      obtain ⟨en, he, hkr, hrep⟩ := hent i (ke key, e) (by simp [menc, h0])
      have hke := K.val hkr
      have he' : ents.toList[i]? = some en := by simpa using he
      refine ⟨ents.modify i fun e => { e with key := kv key, val := a.eval z }, clock, ?_, ?_, ?_⟩
      · simp only [execOp, hval, hkey, Instr.mapUpdate, Sem.run_bind, run_underlying (ti_map hm), Result.andThen_ok, MapKept.run_getObj_map hh, K.chk, Sem.run_pure]
        rw [hf]
        simp [setObj, Sem.run, Instr.keyThatStays, he, hke, K.same, hh]
      · rw [h2]; simp [menc, hl]
      · intro H own hr j x hj
        rw [h2] at hj
        have hjl : j < ms.length := by
          have := (List.getElem?_eq_some_iff.1 hj).1
          simpa [menc] using this
        by_cases hij : i = j
        · subst hij
          have : x = (ke key, d) := by
            simp [menc, hjl] at hj
            exact hj.symm
          subst this
          exact ⟨_, by rw [Array.getElem?_modify, if_pos rfl, he]; rfl, K.rep _ _ _, hr _ _ hzv⟩
        · have : (menc ke ms)[j]? = some x := by
            rw [← hj]; simp [menc, List.getElem?_set_ne hij]
          obtain ⟨en', h3, h4, h5⟩ := hent j x this
          exact ⟨en', by rw [Array.getElem?_modify, if_neg hij]; exact h3, hr _ _ h4, hr _ _ h5⟩
  obtain ⟨ents', clock', hrun, hsz', hent'⟩ := key1
  obtain ⟨hsim, _⟩ := h.modify (p := p) (ob' := .map (menc ke (mset ms key d))) hp trivial (w' := { w with heap := w.heap.setIfInBounds b.b (.map ents' clock') }) rfl (by simp)
    (fun b' hb' => by
      have := hb' b hb
      simp [Array.getElem?_setIfInBounds, Ne.symm this]) (fun _ hr => ⟨b, ents', clock', hb, by simp [hlt], hsz', hent' _ _ hr⟩)
  exact wpIn_of_run (by simp) hrun (.inr ⟨rfl, rfl⟩) ⟨hds, _, _, run_ok hk, hsim⟩
end
attribute [go_sem] lookV menc_nil
end Go.Ab
