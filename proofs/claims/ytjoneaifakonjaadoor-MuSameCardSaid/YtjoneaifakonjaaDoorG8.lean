/-
  The generic layer, part 33: maps. (with the parts that follow it)
-/
import Derived.Test.YtjoneaifakonjaaDoorG6
import Derived.Laws.IdiomMaps
import Derived.ChangeArms
import Derived.WideKeyArgs
set_option linter.all false
/-! ### The generic layer, part 33: maps. -/
namespace Go.Ab
def menc {κ : Type} (ke : κ → D) (ms : List (κ × D)) : List (D × D) := ms.map fun q => (ke q.1, q.2)
theorem menc_nil {κ : Type} (ke : κ → D) : menc ke [] = [] := rfl
section
variable {κ : Type} [DecidableEq κ]
def mlook : List (κ × D) → κ → Option D
  | [], _ => none
  | q :: r, a => if q.1 = a then some q.2 else mlook r a
def mset : List (κ × D) → κ → D → List (κ × D)
  | [], a, d => [(a, d)]
  | q :: r, a, d => if q.1 = a then (a, d) :: r else q :: mset r a d
def midx : List κ → κ → Option Nat
  | [], _ => none
  | x :: r, a => if x = a then some 0 else (midx r a).map (· + 1)
theorem midx_none {a : κ} {d : D} : ∀ {ms : List (κ × D)}, midx (ms.map (·.1)) a = none → mlook ms a = none ∧ mset ms a d = ms ++ [(a, d)]
  | [], _ => ⟨rfl, rfl⟩
  | q :: r, h => by
    simp only [List.map_cons, midx] at h
    split at h
    · cases h
    · rename_i hq
      obtain ⟨h1, h2⟩ := midx_none (d := d) (Option.map_eq_none_iff.1 h)
      exact ⟨by simp [mlook, hq, h1], by simp [mset, hq, h2]⟩
theorem midx_some {a : κ} {d : D} : ∀ {ms : List (κ × D)} {i : Nat}, midx (ms.map (·.1)) a = some i → ∃ e, ms[i]? = some (a, e) ∧ mlook ms a = some e ∧ mset ms a d = ms.set i (a, d)
  | [], _, h => by cases h
  | q :: r, i, h => by
    simp only [List.map_cons, midx] at h
    split at h
    · rename_i hq
      cases h
      exact ⟨q.2, by simp [← hq], by simp [mlook, hq], by simp [mset, hq]⟩
    · rename_i hq
      obtain ⟨j, hj, rfl⟩ := Option.map_eq_some_iff.1 h
      obtain ⟨e, h1, h2, h3⟩ := midx_some (d := d) hj
      exact ⟨e, by simpa using h1, by simp [mlook, hq, h2], by simp [mset, hq, h3]⟩

/-- A kind of keys. -/
structure KeyE (P : Program) (kt : TypeId) (ke : κ → D) (kv : κ → Value) : Prop where
  val : ∀ {H : Array Obj} {own : Nat → Prop} {v : Value} {a : κ}, Rep H own v (ke a) → v = kv a
  rep : ∀ (H : Array Obj) (own : Nat → Prop) (a : κ), Rep H own (kv a) (ke a)
  chk : ∀ (b : Bool) (a : κ) (w : World), (Instr.checkKey b 10000 kt (kv a)).run P w = .ok () w
  same : ∀ a : κ, Instr.sameBits 10000 (kv a) (kv a) = true
  find : ∀ (a : κ) (es : List MapEntry) (ks : List κ) (w : World), es.map (·.key) = ks.map kv → (Instr.findKey kt (kv a) es).run P w = .ok ((midx ks a).bind fun i => (es[i]?).map fun e => (i, e.val)) w
end
section
variable {P : Program}
theorem findNow_ok {κ : Type} [DecidableEq κ] {kv : κ → Value} {kind : TypeDesc} {a : κ} (hs : ∀ x, Instr.sameNow kind (kv a) (kv x) = some (decide (x = a))) : ∀ (es : List MapEntry) (ks : List κ) (i : Nat), es.map (·.key) = ks.map kv →
    Instr.findNow kind (kv a) es i = some ((midx ks a).bind fun j => (es[j]?).map fun e => (i + j, e.val))
  | [], ks, i, h => by
    cases ks with
    | nil => rfl
    | cons k r => simp at h
  | e :: es, ks, i, h => by
    cases ks with
    | nil => simp at h
    | cons k r =>
      simp only [List.map_cons, List.cons.injEq] at h
      simp only [Instr.findNow, h.1, hs, midx]
      by_cases hk : k = a
      · simp [hk]
      · simp only [hk, decide_false, if_false, findNow_ok hs es r (i + 1) h.2]
        cases midx r a with
        | none => rfl
        | some j => simp [Nat.add_assoc, Nat.add_comm 1 j]
theorem find_ok {κ : Type} [DecidableEq κ] {kt : TypeId} {kv : κ → Value} {kind : TypeDesc} (hk : P.underlying kt = some kind) (a : κ) (hs : ∀ x, Instr.sameNow kind (kv a) (kv x) = some (decide (x = a))) (es : List MapEntry) (ks : List κ) (w : World) (h : es.map (·.key) = ks.map kv) :
    (Instr.findKey kt (kv a) es).run P w = .ok ((midx ks a).bind fun i => (es[i]?).map fun e => (i, e.val)) w := by
  have := findNow_ok hs es ks 0 h
  simp only [Nat.zero_add] at this
  simp only [Instr.findKey, Sem.run_bind, run_underlying hk, Result.andThen_ok, this]
  rfl
theorem same_dec {d : TypeDesc} {a b : Value} {p : Prop} [Decidable p] (ha : MapKept.IsKey d a) (hb : MapKept.IsKey d b) (h : p ↔ a = b) : Instr.sameNow d a b = some (decide p) := by
  obtain ⟨r, hr, hi⟩ := MapKept.sameNow_of_keys ha hb
  rw [hr]
  congr 1
  rw [Bool.eq_iff_iff, hi, decide_eq_true_eq, h]
theorem keyStr {kt : TypeId} (h : (P.ti kt).k = .str) : KeyE P kt (fun l : List UInt8 => D.str l) (fun l => .string ⟨l.toArray⟩) where
  val := fun h => by cases h; rfl
  rep := fun _ _ l => .str l
  chk := fun b a w => MapKept.run_checkKey (ti_str h) (by trivial) b 9999
  same := fun a => by
    have : Instr.sameBits (9999 + 1) (.string ⟨a.toArray⟩) (.string ⟨a.toArray⟩) = true := by simp [Instr.sameBits, MapKept.bytes_beq]
    exact this
  find := fun a es ks w hk => find_ok (ti_str h) a (fun x => same_dec (by trivial) (by trivial) ⟨fun e => by rw [e], fun e => by
    have e1 := congrArg (fun v => match v with | Value.string b => b.data.toList | _ => []) e
    simpa using e1.symm⟩) es ks w hk
theorem keyInt {kt : TypeId} {i : IntKind} (h : (P.ti kt).k = .int i) : KeyE P kt (fun n : Int => D.int i n) (fun n => .int i n) where
  val := fun h => by cases h; rfl
  rep := fun _ _ n => .int i n
  chk := fun b a w => MapKept.run_checkKey (k := .int i a) (ti_int h) (show i = i from rfl) b 9999
  same := fun a => by
    have : Instr.sameBits (9999 + 1) (.int i a) (.int i a) = true := by simp [Instr.sameBits]
    exact this
  find := fun a es ks w hk => find_ok (ti_int h) a (fun x => same_dec (d := .int i) (a := .int i a) (b := .int i x) (show i = i from rfl) (show i = i from rfl) ⟨fun e => by rw [e], fun e => by cases e; rfl⟩) es ks w hk
end
section
variable {P : Program} {cf : Cf} {Q : Exit → St → Prop} {s : St} {k : List It}
variable {κ : Type} [DecidableEq κ] {ke : κ → D} {kv : κ → Value}

theorem borns_push {ents : Array MapEntry} {clock : Nat} (h : Borns ents clock) (k v : Value) : Borns (ents.push { key := k, val := v, born := clock }) (clock + 1) := by
  obtain ⟨h1, h2⟩ := h
  refine ⟨?_, fun e he => ?_⟩
  · rw [Array.toList_push, List.map_append, List.nodup_append]
    refine ⟨h1, by simp, fun a ha b hb => ?_⟩
    obtain ⟨e, he, rfl⟩ := List.mem_map.1 ha
    have := h2 e he
    have hb : b = clock := by simpa using hb
    omega
  · rw [Array.toList_push] at he
    rcases List.mem_append.1 he with he | he
    · have := h2 e he; omega
    · rw [List.mem_singleton.1 he]; exact Nat.lt_succ_self _
theorem borns_modify {ents : Array MapEntry} {clock : Nat} (h : Borns ents clock) (i : Nat) (f : MapEntry → MapEntry) (hf : ∀ e, (f e).born = e.born) : Borns (ents.modify i f) clock := by
  have e : (ents.modify i f).toList.map (·.born) = ents.toList.map (·.born) := by
    refine List.ext_getElem? fun j => ?_
    rw [List.getElem?_map, List.getElem?_map, Array.getElem?_toList, Array.getElem?_toList, Array.getElem?_modify]
    split
    · cases ents[j]? with
      | none => rfl
      | some x => simp [hf]
    · rfl
  obtain ⟨h1, h2⟩ := h
  refine ⟨by rw [e]; exact h1, fun x hx => ?_⟩
  have : x.born ∈ (ents.modify i f).toList.map (·.born) := List.mem_map_of_mem hx
  rw [e] at this
  obtain ⟨y, hy, hxy⟩ := List.mem_map.1 this
  rw [← hxy]; exact h2 y hy
theorem e_makeMap (E : Eng P cf Q) {t0 : Nat} {t : Nat} {ty : TypeId} {pos : String} {af : Array Edge} (ht : t < cf.n) (hu : t ∉ s.used) (hk : E.run k ((s.add t (.map [])).put t (.mp [t]))) :
    E.stp { dst := some t, op := .makeMap t0 none, type := ty, pos := pos, after := af, guard := none } s k .no := by
  rw [e_stp_no]
  rw [E.run_eq] at hk
  intro B hB ds β a w hds h Q'
  have hrun : (execOp a.eval { dst := some t, op := .makeMap t0 none, type := ty, pos := pos, after := af, guard := none }).run P w = .ok (.value (.map (some w.heap.size))) (w.alloc (.map #[] 0)) := by
    simp only [execOp, Instr.makeMap]
    rfl
  obtain ⟨hsim, _⟩ := h.alloc hu (.map #[] 0) (.map []) 0 (fun β' hβ _ => ⟨_, #[], 0, hβ, by show (w.heap.push _)[w.heap.size]? = _; rw [Array.getElem?_push_size], ⟨rfl, by simp [Borns]⟩, fun i x hi => by simp at hi⟩)
  refine wpIn_of_run (by simp) hrun (.inl rfl) ⟨hds, _, _, run_ok hk, hsim.put (by rw [hB.1]; exact ht) ?_⟩
  refine .mp _ _ ⟨t, [], rfl, List.mem_cons_self⟩ rfl (fun es _ => ⟨⟨w.heap.size, 0, 0⟩, by simp [updP], rfl⟩)

theorem map_keys {kt : TypeId} (K : KeyE P kt ke kv) {H : Array Obj} {own : Nat → Prop} {ms : List (κ × D)} {ents : Array MapEntry} (hsz : ents.size = (menc ke ms).length)
    (h : ∀ (i : Nat) (x : D × D), (menc ke ms)[i]? = some x → ∃ en : MapEntry, ents[i]? = some en ∧ Rep H own en.key x.1 ∧ Rep H own en.val x.2) : ents.toList.map (·.key) = (ms.map (·.1)).map kv := by
  have hl : ents.size = ms.length := by simpa [menc] using hsz
  apply List.ext_getElem (by simp [hl])
  intro i h1 h2
  have hi : i < ms.length := by simpa using h2
  obtain ⟨en, he, hk, _⟩ := h i (ke ms[i].1, ms[i].2) (by simp [menc, hi])
  have hie : i < ents.size := by omega
  simp [hie] at he
  simp [he, K.val hk]

/-- A type's zero, by values. -/
def zdA : Value → Option D
  | .agg cs => (cs.toList.mapM zd).map .agg
  | v => zd v
def zeroD (P : Program) (t : TypeId) : Option D := (P.info? t).bind fun i => i.zero.bind zdA
theorem zeroD_run {t : TypeId} {z : D} (h : zeroD P t = some z) : ∃ v, (∀ w, (zeroValue t).run P w = .ok v w) ∧ ∀ (H : Array Obj) (own : Nat → Prop), Rep H own v z := by
  obtain ⟨i, hi, h⟩ := Option.bind_eq_some_iff.1 h
  obtain ⟨v, hv, h⟩ := Option.bind_eq_some_iff.1 h
  refine ⟨v, fun w => ?_, fun H own => ?_⟩
  · simp [zeroValue, typeInfo, hi, hv]
  · cases v with
    | agg cs =>
      simp only [zdA, Option.map_eq_some_iff] at h
      obtain ⟨ds, hd, rfl⟩ := h
      obtain ⟨h1, h2, _, h4⟩ := mapM_zd (H := H) (own := own) hd
      refine .agg cs ds (by simpa using h1.symm) h2 (fun i d hi => ?_)
      obtain ⟨u, hu, hr⟩ := h4 i d hi
      have hu' : cs[i]? = some u := by simpa using hu
      have : cs.getD i undef = u := by simp [Array.getD_eq_getD_getElem?, hu']
      rw [this]; exact hr
    | _ => simp only [zdA] at h; exact (zd_rep (H := H) (own := own) h).1

/-- What a lookup hands back. -/
def lookV (z : D) (co : Bool) (r : Option D) : AV := if co then .tup [.d (r.getD z), .d (.bool r.isSome)] else .d (r.getD z)
theorem lookup_ok {xt kt et : Nat} {x y : Operand} {co : Bool} {dst : Option Nat} {ty : TypeId} {pos : String} {af : Array Edge} {gg : Option (Nat × Bool)} (p : Name) (ms : List (κ × D)) (key : κ) (z : D) (hm : (P.ti xt).k = .map kt et) (K : KeyE P kt ke kv) (hz : zeroD P et = some z)
    (hx : ev s x = .mp p) (hp : s.hp p = some (.map (menc ke ms))) (hy : ev s y = .d (ke key)) (hdst : ∀ t ∈ dst, t < cf.n) (hk : run P cf k Q (s.putO dst (lookV z co (mlook ms key)))) :
    AOk P cf { dst := dst, op := .lookup xt x y co, type := ty, pos := pos, after := af, guard := gg } s k Q := by
  intro B hB ds β a w hds h Q'
  have hv := h.ev x
  rw [hx] at hv
  have hkey := h.ev y
  rw [hy] at hkey
  have hkey := K.val hkey.toD
  generalize hval : a.eval x = v at hv
  cases hv with
  | mp _ _ hn ho g =>
  obtain ⟨b, hb, rfl⟩ := g _ hp
  obtain ⟨b2, ents, clock, hb2, hh, ⟨hsz, hbo⟩, hent⟩ := (h.objs p _ hp).2
  obtain rfl := Option.some.inj (hb.symm.trans hb2)
  obtain ⟨zv, hzr, hzrep⟩ := zeroD_run hz
  have hzrep := hzrep w.heap (s.own B.A β)
  have hks := map_keys K hsz hent
  have hf := K.find key ents.toList _ w hks
  have key1 : ∃ r, VR w.heap (s.own B.A β) s.used s.hp β r (lookV z co (mlook ms key)) ∧ (execOp a.eval { dst := dst, op := .lookup xt x y co, type := ty, pos := pos, after := af, guard := gg }).run P w = .ok (.value r) w := by
    cases hi : midx (ms.map (·.1)) key with
    | none =>
      obtain ⟨h1, _⟩ := midx_none (d := z) hi
      rw [hi] at hf
      refine ⟨if co then .tuple #[zv, .bool false] else zv, ?_, ?_⟩
      · rw [h1]
        cases co
        · exact .d _ _ hzrep
        · refine .tup _ _ rfl fun i y hi => ?_
          match i, hi with
          | 0, hi => obtain rfl := Option.some.inj hi; exact .d _ _ hzrep
          | 1, hi => obtain rfl := Option.some.inj hi; exact .d _ _ (.bool _)
      · simp only [execOp, hval, hkey, Instr.lookup, Sem.run_bind, run_underlying (ti_map hm), Result.andThen_ok, MapKept.run_getObj_map hh, K.chk, Sem.run_pure]
        rw [hf]
        simp [hzr]
    | some i =>
      obtain ⟨e, h0, h1, _⟩ := midx_some (d := z) hi
      rw [hi] at hf
      obtain ⟨en, he, _, hrep⟩ := hent i (ke key, e) (by simp [menc, h0])
      have he' : ents.toList[i]? = some en := by simpa using he
      refine ⟨if co then .tuple #[en.val, .bool true] else en.val, ?_, ?_⟩
      · rw [h1]
        cases co
        · exact .d _ _ hrep
        · refine .tup _ _ rfl fun i y hi => ?_
          match i, hi with
          | 0, hi => obtain rfl := Option.some.inj hi; exact .d _ _ hrep
          | 1, hi => obtain rfl := Option.some.inj hi; exact .d _ _ (.bool _)
      · simp only [execOp, hval, hkey, Instr.lookup, Sem.run_bind, run_underlying (ti_map hm), Result.andThen_ok, MapKept.run_getObj_map hh, K.chk, Sem.run_pure]
        rw [hf]
        simp [he]
  obtain ⟨r, hr1, hr2⟩ := key1
  refine wpIn_of_run (by simp) hr2 (.inl rfl) ⟨by cases dst <;> exact hds, _, β, run_ok hk, ?_⟩
  cases dst with
  | none => exact h
  | some t => exact h.put (by rw [hB.1]; exact hdst t rfl) hr1

theorem e_lookup (E : Eng P cf Q) {xt kt et : Nat} {x y : Operand} {co : Bool} {dst : Option Nat} {ty : TypeId} {pos : String} {af : Array Edge} (p : Name) (ms : List (κ × D)) (key : κ) (z : D) (hm : (P.ti xt).k = .map kt et) (K : KeyE P kt ke kv) (hz : zeroD P et = some z)
    (hx : ev s x = .mp p) (hp : s.hp p = some (.map (menc ke ms))) (hy : ev s y = .d (ke key)) (hdst : ∀ t ∈ dst, t < cf.n) (hk : E.run k (s.putO dst (lookV z co (mlook ms key)))) :
    E.stp { dst := dst, op := .lookup xt x y co, type := ty, pos := pos, after := af, guard := none } s k .no := by
  rw [e_stp_no]
  rw [E.run_eq] at hk
  exact lookup_ok p ms key z hm K hz hx hp hy hdst hk
theorem e_mapUpdate (E : Eng P cf Q) {xt kt et : Nat} {x y z : Operand} {dst : Option Nat} {ty : TypeId} {pos : String} {af : Array Edge} (p : Name) (ms : List (κ × D)) (key : κ) (d : D) (hm : (P.ti xt).k = .map kt et) (K : KeyE P kt ke kv)
    (hx : ev s x = .mp p) (hp : s.hp p = some (.map (menc ke ms))) (hy : ev s y = .d (ke key)) (hd : ev s z = .d d) (hdst : dst = none) (hk : E.run k (s.set p (some (.map (menc ke (mset ms key d)))))) :
    E.stp { dst := dst, op := .mapUpdate xt x y z, type := ty, pos := pos, after := af, guard := none } s k .no := by
  subst hdst
  rw [e_stp_no]
  rw [E.run_eq] at hk
  intro B hB ds β a w hds h Q'
  have hv := h.ev x
  rw [hx] at hv
  have hkey := h.ev y
  rw [hy] at hkey
  have hkey := K.val hkey.toD
  have hzv := h.ev z
  rw [hd] at hzv
  have hzv := hzv.toD
  generalize hval : a.eval x = v at hv
  cases hv with
  | mp _ _ hn ho g =>
  obtain ⟨b, hb, rfl⟩ := g _ hp
  obtain ⟨b2, ents, clock, hb2, hh, ⟨hsz, hbo⟩, hent⟩ := (h.objs p _ hp).2
  obtain rfl := Option.some.inj (hb.symm.trans hb2)
  have hlt := lt_of_some hh
  have hks := map_keys K hsz hent
  have hf := K.find key ents.toList _ w hks
  have hl : ents.size = ms.length := by simpa [menc] using hsz
  have key1 : ∃ ents' clock', (execOp a.eval { dst := none, op := .mapUpdate xt x y z, type := ty, pos := pos, after := af, guard := none }).run P w = .ok .skip { w with heap := w.heap.setIfInBounds b.b (.map ents' clock') } ∧
      (ents'.size = (menc ke (mset ms key d)).length ∧ Borns ents' clock') ∧ ∀ (H : Array Obj) (own : Nat → Prop), (∀ v d, Rep w.heap (s.own B.A β) v d → Rep H own v d) → ∀ (i : Nat) (x : D × D), (menc ke (mset ms key d))[i]? = some x → ∃ en : MapEntry, ents'[i]? = some en ∧ Rep H own en.key x.1 ∧ Rep H own en.val x.2 := by
    cases hi : midx (ms.map (·.1)) key with
    | none =>
      obtain ⟨_, h2⟩ := midx_none (d := d) hi
      rw [hi] at hf
      refine ⟨ents.push { key := kv key, val := a.eval z, born := clock }, clock + 1, ?_, ?_, ?_⟩
      · simp only [execOp, hval, hkey, Instr.mapUpdate, Sem.run_bind, run_underlying (ti_map hm), Result.andThen_ok, MapKept.run_getObj_map hh, K.chk, Sem.run_pure]
        rw [hf]
        simp [setObj, Sem.run, hh]
      · rw [h2]; exact ⟨by simp [menc, hl], borns_push hbo _ _⟩
      · intro H own hr i x hi'
        rw [h2] at hi'
        by_cases hlt' : i < ms.length
        · have : (menc ke ms)[i]? = some x := by
            rw [← hi']; simp [menc, List.getElem?_append_left, hlt']
          obtain ⟨en, h3, h4, h5⟩ := hent i x this
          exact ⟨en, by rw [Array.getElem?_push, if_neg (by omega)]; exact h3, hr _ _ h4, hr _ _ h5⟩
        · have hie : i = ms.length := by
            have := (List.getElem?_eq_some_iff.1 hi').1
            simp [menc] at this
            omega
          subst hie
          have : x = (ke key, d) := by
            simp [menc] at hi'
            exact hi'.symm
          subst this
          exact ⟨_, by rw [Array.getElem?_push, if_pos hl.symm], K.rep _ _ _, hr _ _ hzv⟩
    | some i =>
      obtain ⟨e, h0, _, h2⟩ := midx_some (d := d) hi
      rw [hi] at hf
      obtain ⟨en, he, hkr, hrep⟩ := hent i (ke key, e) (by simp [menc, h0])
      have hke := K.val hkr
      have he' : ents.toList[i]? = some en := by simpa using he
      refine ⟨ents.modify i fun e => { e with key := kv key, val := a.eval z }, clock, ?_, ?_, ?_⟩
      · simp only [execOp, hval, hkey, Instr.mapUpdate, Sem.run_bind, run_underlying (ti_map hm), Result.andThen_ok, MapKept.run_getObj_map hh, K.chk, Sem.run_pure]
        rw [hf]
        simp [setObj, Sem.run, Instr.keyThatStays, he, hke, K.same, hh]
      · rw [h2]; exact ⟨by simp [menc, hl], borns_modify hbo _ _ fun _ => rfl⟩
      · intro H own hr j x hj
        rw [h2] at hj
        have hjl : j < ms.length := by
          have := (List.getElem?_eq_some_iff.1 hj).1
          simpa [menc] using this
        by_cases hij : i = j
        · subst hij
          have : x = (ke key, d) := by
            simp [menc, hjl] at hj
            exact hj.symm
          subst this
          exact ⟨_, by rw [Array.getElem?_modify, if_pos rfl, he]; rfl, K.rep _ _ _, hr _ _ hzv⟩
        · have : (menc ke ms)[j]? = some x := by
            rw [← hj]; simp [menc, List.getElem?_set_ne hij]
          obtain ⟨en', h3, h4, h5⟩ := hent j x this
          exact ⟨en', by rw [Array.getElem?_modify, if_neg hij]; exact h3, hr _ _ h4, hr _ _ h5⟩
  obtain ⟨ents', clock', hrun, hsz', hent'⟩ := key1
  obtain ⟨hsim, _⟩ := h.modify (p := p) (ob' := .map (menc ke (mset ms key d))) hp trivial (w' := { w with heap := w.heap.setIfInBounds b.b (.map ents' clock') }) rfl (by simp)
    (fun b' hb' => by
      have := hb' b hb
      simp [Ne.symm this]) (fun _ hr => ⟨b, ents', clock', hb, by simp [hlt], hsz', hent' _ _ hr⟩)
  exact wpIn_of_run (by simp) hrun (.inr ⟨rfl, rfl⟩) ⟨hds, _, _, run_ok hk, hsim⟩
end
attribute [go_sem] lookV menc_nil
end Go.Ab
/-! ### The generic layer, part 34: data that came in, by values: numbers, truths, texts, slices and structs of these. -/
namespace Go.Ab
inductive TS where
  | int (k : IntKind)
  | bool
  | str
  | sl (w : W) (es : List TS)
mutual
/-- Such data. -/
def TS.ok : TS → D → Prop
  | .int k, .int k' n => k' = k ∧ k.min ≤ n ∧ n ≤ k.max
  | .bool, .bool _ => True
  | .str, .str l => l.length ≤ maxLen
  | .sl _ _, .nils => True
  | .sl w es, .sl w' xs => w' = w ∧ xs.length ≤ maxLen ∧ ∀ x ∈ xs, okW w x ∧ oks es x.cells
  | _, _ => False
def oks : List TS → List D → Prop
  | [], [] => True
  | t :: ts, d :: ds => t.ok d ∧ oks ts ds
  | _, _ => False
end
theorem oks_length : ∀ {ts : List TS} {ds : List D}, oks ts ds → ds.length = ts.length
  | [], [], _ => rfl
  | _ :: _, _ :: _, h => by simp [oks_length h.2]
  | [], _ :: _, h => h.elim
  | _ :: _, [], h => h.elim
theorem oks_append : ∀ {ts : List TS} {ds : List D} {ts' : List TS} {ds' : List D}, oks ts ds → oks ts' ds' → oks (ts ++ ts') (ds ++ ds')
  | [], [], _, _, _, h => h
  | _ :: _, _ :: _, _, _, h, h' => ⟨h.1, oks_append h.2 h'⟩
  | [], _ :: _, _, _, h, _ => h.elim
  | _ :: _, [], _, _, h, _ => h.elim
mutual
/-- The shape of a type's cells. -/
def shp (P : Program) : Nat → TypeId → Option (List TS)
  | 0, _ => none
  | n + 1, t =>
    match (P.ti t).k with
    | .int k => some [.int k]
    | .bool => some [.bool]
    | .str => some [.str]
    | .slice e => (shp P n e).bind fun es => if es.length = P.cellsOf e ∧ wd (P.ti e).w = es.length ∧ 0 < es.length then some [.sl (P.ti e).w es] else none
    | .struct fs => (shpF P n fs 0).bind fun ts => if ts.length = P.cellsOf t then some ts else none
    | _ => none
def shpF (P : Program) : Nat → List (Nat × Nat) → Nat → Option (List TS)
  | 0, _, _ => none
  | _ + 1, [], _ => some []
  | n + 1, f :: r, off =>
    if f.1 = off then (shp P n f.2).bind fun ts => if ts.length = P.cellsOf f.2 then (shpF P n r (off + ts.length)).map (ts ++ ·) else none else none
end
theorem choose_list {α : Type} {n : Nat} {p : Nat → α → Prop} (h : ∀ i, i < n → ∃ a, p i a) : ∃ xs : List α, xs.length = n ∧ ∀ i a, xs[i]? = some a → p i a := by
  induction n with
  | zero => exact ⟨[], rfl, fun i a h => by simp at h⟩
  | succ n ih =>
    obtain ⟨xs, h1, h2⟩ := ih fun i hi => h i (by omega)
    obtain ⟨a, ha⟩ := h n (by omega)
    refine ⟨xs ++ [a], by simp [h1], fun i b hb => ?_⟩
    by_cases hi : i < xs.length
    · rw [List.getElem?_append_left hi] at hb; exact h2 i b hb
    · rw [List.getElem?_append_right (by omega)] at hb
      have hi0 : i - xs.length = 0 := by
        have := (List.getElem?_eq_some_iff.1 hb).1
        simp at this
        omega
      rw [hi0] at hb
      have hb : a = b := by simpa using hb
      subst hb
      rw [show i = n by omega]; exact ha
section
variable {H : Type} {enc : TypeId × Value → H} {P : Program} {w : World} {spare : Nat → Bool} {held : Bool}
/-- Cells that stand for data. -/
def CD (w : World) (cs : List Value) (ds : List D) : Prop := (∀ d ∈ ds, d.scal = true) ∧ ∀ (i : Nat) d, ds[i]? = some d → Rep w.heap (fun _ => False) (cs.getD i undef) d
theorem CD.one {v : Value} {d : D} (hd : d.scal = true) (h : Rep w.heap (fun _ => False) v d) : CD w [v] [d] := by
  refine ⟨by simpa using hd, fun i d' hi => ?_⟩
  match i, hi with
  | 0, hi => obtain rfl := Option.some.inj hi; exact h

theorem cells_get {a : Addr} {n : Nat} {cs : List Value} (h : w.cells? 0 a n = some cs) : cs.length = n ∧ ∀ i, i < n → ∃ v, cs[i]? = some v ∧ w.cell? (a.add i) = some v := by
  unfold World.cells? at h
  rw [if_pos (Nat.zero_le _)] at h
  have hl : cs.length = n := by simpa using mapM_some_length h
  refine ⟨hl, fun i hi => ?_⟩
  have := mapM_some_get h i i (by simp [hi])
  exact ⟨cs[i]'(by omega), by simp [hl, hi], by rw [this]; simp [hl, hi]⟩

/-- A slice out of its elements. -/
theorem rep_slice {a : Addr} {cap : Nat} {wf : W} {c : Nat} {xs : List D} (hc : wd wf = c) (hc0 : 0 < c) (hcap : xs.length ≤ cap) (hw : ∀ x ∈ xs, okW wf x)
    (h : ∀ i, i < xs.length → ∃ cs, w.cells? 0 (a.add (i * c)) c = some cs ∧ ∀ x, xs[i]? = some x → ∀ (j : Nat) d, x.cells[j]? = some d → Rep w.heap (fun _ => False) (cs.getD j undef) d) :
    Rep w.heap (fun _ => False) (.slice (some a) xs.length cap) (.sl wf xs) := by
  by_cases h0 : xs.length = 0
  · have : xs = [] := List.length_eq_zero_iff.1 h0
    subst this
    exact .sl0 _ _ _
  obtain ⟨cs0, hcs0, _⟩ := h 0 (by omega)
  obtain ⟨_, hg0⟩ := cells_get hcs0
  obtain ⟨v0, _, hv0⟩ := hg0 0 hc0
  have e0 : (a.add (0 * c)).add 0 = a := by simp [Addr.add]
  rw [e0] at hv0
  obtain ⟨b, o, spot⟩ := a
  unfold World.cell? at hv0
  cases hh : w.heap[b]? with
  | none => rw [hh] at hv0; cases hv0
  | some ob =>
    rw [hh] at hv0
    cases ob with
    | cells cc e fz =>
      simp only at hv0
      cases spot with
      | some _ => simp at hv0
      | none =>
        have hcell : ∀ i v, w.cell? ⟨b, i, none⟩ = some v → cc[i]? = some v := by
          intro i v hi
          simpa [World.cell?, hh] using hi
        refine .sl b o cap cc e fz wf xs hh (fun h => h) hcap ?_ hw (fun i x j d hi hj => ?_)
        · rw [hc]
          obtain ⟨cs, hcs, _⟩ := h (xs.length - 1) (by omega)
          obtain ⟨_, hg⟩ := cells_get hcs
          obtain ⟨v, _, hv⟩ := hg (c - 1) (by omega)
          rw [addr_add, addr_add] at hv
          have := (Array.getElem?_eq_some_iff.1 (hcell _ _ hv)).1
          have e1 : (xs.length - 1) * c + c = xs.length * c := by
            rw [← Nat.succ_mul]; congr 1; omega
          omega
        · have hil : i < xs.length := (List.getElem?_eq_some_iff.1 hi).1
          obtain ⟨cs, hcs, hrep⟩ := h i hil
          obtain ⟨hlen, hg⟩ := cells_get hcs
          have hjl : j < c := by
            have h1 := okW_len (hw x (List.mem_of_getElem? hi))
            have h2 := (List.getElem?_eq_some_iff.1 hj).1
            omega
          obtain ⟨v, hvj, hv⟩ := hg j hjl
          rw [addr_add, addr_add] at hv
          have h3 := hcell _ _ hv
          have h4 := hrep x hi j d hj
          have e1 : cs.getD j undef = v := by simp [List.getD_eq_getElem?_getD, hvj]
          have e2 : cc.getD (o + i * wd wf + j) undef = v := by rw [hc]; simp [Array.getD_eq_getD_getElem?, h3]
          rw [e2, ← e1]; exact h4
    | _ => simp at hv0

theorem reads_both : ∀ m : Nat,
    (∀ n' t cs x ts, shp P m t = some ts → DataW.trod enc P w 0 spare held n' t cs = some x → ∃ ds, oks ts ds ∧ cs.length = ds.length ∧ CD w cs ds) ∧
    (∀ n' (cs : List Value) r off ts, shpF P m r off = some ts → (∀ f ∈ r, ∃ x, DataW.trod enc P w 0 spare held n' f.2 ((cs.drop f.1).take (P.cellsOf f.2)) = some x) →
      ∃ ds, oks ts ds ∧ (∀ d ∈ ds, d.scal = true) ∧ ∀ (i : Nat) d, ds[i]? = some d → Rep w.heap (fun _ => False) (cs.getD (off + i) undef) d) := by
  intro m
  induction m with
  | zero => exact ⟨fun n' t cs x ts h => by simp [shp] at h, fun n' cs r off ts h => by simp [shpF] at h⟩
  | succ m ih =>
    obtain ⟨ihS, ihF⟩ := ih
    refine ⟨fun n' t cs x ts h hx => ?_, fun n' cs r off ts h hx => ?_⟩
    · unfold shp at h
      split at h
      · rename_i k hk
        cases h
        obtain ⟨n, rfl, _, hwf⟩ := DataW.trod_int (ti_int hk) hx
        simp only [Lit.wf, Bool.and_eq_true, decide_eq_true_eq] at hwf
        exact ⟨[.int k n], ⟨⟨rfl, hwf⟩, trivial⟩, rfl, CD.one rfl (.int k n)⟩
      · rename_i hk
        cases h
        have hu : P.underlying t = some .bool := isBool_und (by rw [hk]; rfl)
        obtain ⟨b, rfl, _⟩ := DataW.trod_bool hu hx
        exact ⟨[.bool b], ⟨trivial, trivial⟩, rfl, CD.one rfl (.bool b)⟩
      · rename_i hk
        cases h
        obtain ⟨s, rfl, _, hs⟩ := DataW.trod_string (ti_str hk) hx
        obtain ⟨l, rfl⟩ : ∃ l : List UInt8, s = ⟨l.toArray⟩ := ⟨s.data.toList, by simp⟩
        refine ⟨[.str l], ⟨?_, trivial⟩, rfl, CD.one rfl (.str l)⟩
        simpa [ByteArray.size, TS.ok] using hs
      · rename_i e hk
        obtain ⟨es, hes, h⟩ := Option.bind_eq_some_iff.1 h
        split at h
        · rename_i hc
          cases h
          obtain ⟨hc1, hc2, hc3⟩ := hc
          rcases DataW.trod_slice (ti_slice hk) hx with ⟨rfl, _⟩ | ⟨a, len, cap, elems, rest, n, _, rfl, _, _, hlen, hcap, hel, hget, _, _⟩
          · exact ⟨[.nils], ⟨trivial, trivial⟩, rfl, CD.one rfl .nils⟩
          have each : ∀ i, i < len → ∃ x : D, (okW (P.ti e).w x ∧ oks es x.cells) ∧ ∃ cs, w.cells? 0 (a.add (i * P.cellsOf e)) (P.cellsOf e) = some cs ∧ ∀ (j : Nat) d, x.cells[j]? = some d → Rep w.heap (fun _ => False) (cs.getD j undef) d := by
            intro i hi
            have h1 := hget i hi
            have hi' : i < elems.length := by omega
            rw [List.getElem?_eq_getElem hi', Option.bind_eq_some_iff] at h1
            obtain ⟨ci, hci, htr⟩ := h1
            obtain ⟨di, hok, hdl, hsc, hrep⟩ := ihS n e ci _ es hes htr
            have hdl2 := oks_length hok
            cases hw : (P.ti e).w with
            | none =>
              rw [hw] at hc2
              match di, hdl2, hsc, hrep, hok with
              | [d], _, hsc, hrep, hok =>
                have hs : d.scal = true := hsc d (by simp)
                have hcd : d.cells = [d] := by cases d <;> simp_all [D.scal, D.cells]
                exact ⟨d, ⟨hs, by rw [hcd]; exact hok⟩, ci, hci, by rw [hcd]; exact hrep⟩
              | [], hdl2, _, _, _ => simp [wd] at hc2; simp at hdl2; omega
              | _ :: _ :: _, hdl2, _, _, _ => simp [wd] at hc2; simp at hdl2; omega
            | some nn =>
              rw [hw] at hc2
              have hc2 : nn = es.length := hc2
              exact ⟨.agg di, ⟨⟨by omega, hsc⟩, hok⟩, ci, hci, hrep⟩
          obtain ⟨xs, hxl, hxs⟩ := choose_list each
          have hr := rep_slice (w := w) (a := a) (cap := cap) (wf := (P.ti e).w) (c := P.cellsOf e) (xs := xs) (by omega) (by omega) (by omega)
            (fun x hx' => by obtain ⟨i, hi⟩ := List.mem_iff_getElem?.1 hx'; exact (hxs i x hi).1.1)
            (fun i hi => by
              obtain ⟨_, cs, h2, h3⟩ := hxs i xs[i] (by simp [hi])
              exact ⟨cs, h2, fun x hx' j d hj => by
                have hx' : xs[i] = x := by simpa [hi] using hx'
                subst hx'
                exact h3 j d hj⟩)
          rw [hxl] at hr
          refine ⟨[.sl (P.ti e).w xs], ⟨⟨rfl, by omega, fun x hx' => ?_⟩, trivial⟩, rfl, CD.one rfl hr⟩
          obtain ⟨i, hi⟩ := List.mem_iff_getElem?.1 hx'
          exact (hxs i x hi).1
        · cases h
      · rename_i fs hk
        obtain ⟨ts', hts, h⟩ := Option.bind_eq_some_iff.1 h
        split at h
        · rename_i hc
          cases h
          obtain ⟨fl, hu, rfl⟩ := ti_struct hk
          obtain ⟨xs, n, _, _, hcl, _, hf⟩ := DataW.trod_struct hu hx
          obtain ⟨ds, h1, h2, h3⟩ := ihF n cs _ 0 ts hts (fun f hf' => by
            obtain ⟨f0, hf0, rfl⟩ := List.mem_map.1 hf'
            obtain ⟨i, hi⟩ := List.mem_iff_getElem?.1 hf0
            have hi' : fl[i]? = some f0 := by simpa using hi
            have := hf i f0 hi'
            have hlt : i < xs.length := by
              have := (Array.getElem?_eq_some_iff.1 hi').1
              omega
            exact ⟨xs[i], by rw [this]; simp [hlt]⟩)
          have hl := oks_length h1
          exact ⟨ds, h1, by omega, h2, fun i d hi => by have := h3 i d hi; rwa [Nat.zero_add] at this⟩
        · cases h
      · cases h
    · unfold shpF at h
      cases r with
      | nil =>
        cases h
        exact ⟨[], trivial, by simp, fun i d hi => by simp at hi⟩
      | cons f r =>
        simp only at h
        split at h
        · rename_i hoff
          obtain ⟨ts1, h1, h⟩ := Option.bind_eq_some_iff.1 h
          split at h
          · rename_i hc
            obtain ⟨ts2, h2, rfl⟩ := Option.map_eq_some_iff.1 h
            obtain ⟨x, hx1⟩ := hx f List.mem_cons_self
            obtain ⟨d1, g1, g2, g3, g4⟩ := ihS n' f.2 _ x ts1 h1 hx1
            obtain ⟨d2, k1, k2, k3⟩ := ihF n' cs r _ ts2 h2 fun q hq => hx q (List.mem_cons_of_mem _ hq)
            have hl1 := oks_length g1
            refine ⟨d1 ++ d2, oks_append g1 k1, fun d hd => ?_, fun i d hi => ?_⟩
            · rcases List.mem_append.1 hd with hd | hd
              · exact g3 d hd
              · exact k2 d hd
            · by_cases hlt : i < d1.length
              · rw [List.getElem?_append_left hlt] at hi
                have := g4 i d hi
                have e : ((cs.drop f.1).take (P.cellsOf f.2)).getD i undef = cs.getD (off + i) undef := by
                  rw [List.getD_eq_getElem?_getD, List.getD_eq_getElem?_getD, List.getElem?_take, if_pos (by omega), List.getElem?_drop, hoff]
                rw [e] at this; exact this
              · rw [List.getElem?_append_right (by omega)] at hi
                have := k3 _ d hi
                rw [show off + ts1.length + (i - d1.length) = off + i by omega] at this
                exact this
          · cases h
        · cases h
/-- A value that came in stands for data of its type's shape. -/
theorem reads {m : Nat} {t : TypeId} {v : Value} {dw : DataW H} {ps : List MemPlace} {ts : List TS} (hs : shp P m t = some ts) (h : DataW.Trod enc P w 0 spare held t v dw ps) : ∃ ds, oks ts ds ∧ v.cells.size = ds.length ∧ CD w v.cells.toList ds := by
  obtain ⟨n, hn⟩ := h
  obtain ⟨ds, h1, h2, h3⟩ := (reads_both m).1 n t _ _ ts hs hn
  exact ⟨ds, h1, by simpa using h2, h3⟩
/-- A value of one cell. -/
theorem reads_one {m : Nat} {t : TypeId} {v : Value} {dw : DataW H} {ps : List MemPlace} {ty : TS} (hs : shp P m t = some [ty]) (hv : v.cells = #[v]) (h : DataW.Trod enc P w 0 spare held t v dw ps) : ∃ d, ty.ok d ∧ Rep w.heap (fun _ => False) v d := by
  obtain ⟨ds, h1, h2, h3, h4⟩ := reads hs h
  match ds, h1 with
  | [d], h1 =>
    refine ⟨d, h1.1, ?_⟩
    have := h4 0 d rfl
    rw [hv] at this
    exact this
/-- A struct. -/
theorem reads_agg {m : Nat} {t : TypeId} {vs : Array Value} {dw : DataW H} {ps : List MemPlace} {ts : List TS} (hs : shp P m t = some ts) (h : DataW.Trod enc P w 0 spare held t (.agg vs) dw ps) : ∃ ds, oks ts ds ∧ Rep w.heap (fun _ => False) (.agg vs) (.agg ds) := by
  obtain ⟨ds, h1, h2, h3, h4⟩ := reads hs h
  refine ⟨ds, h1, .agg vs ds h2 h3 fun i d hi => ?_⟩
  have := h4 i d hi
  simpa [Value.cells, Array.getD_eq_getD_getElem?, List.getD_eq_getElem?_getD] using this
end
end Go.Ab
