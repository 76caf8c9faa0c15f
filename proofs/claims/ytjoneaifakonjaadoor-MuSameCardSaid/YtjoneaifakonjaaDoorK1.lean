/-
  The generic layer, part 64: results that turn into data; calls under turned names; lookups in maps that are data, deletions. (with the parts that follow it)
-/
import Derived.Test.YtjoneaifakonjaaDoorJ9
set_option linter.all false
/-! ### The generic layer, part 64: results that turn into data; calls under turned names; lookups in maps that are data; deletions. -/
namespace Go.Ab
section
variable {P : Program}
theorem HCall.fB {G : List (Nat × Obj)} {f : FuncId} {args : List AV} {hp : List (Name × Ob)} {u : List Nat} {Q Q' : AV → List (Name × Ob) → Prop} (h : HCall P G f args hp u Q) (p : Name) (x : D)
    (hQ : ∀ r hp', Q r hp' → (mk [] hp' []).hp p = some (.box (x.cells.map .d)) ∧ (x.cells.all D.scal) = true ∧ Q' (r.frB p x) ((delA hp' p).map fun q => (q.1, q.2.frB p x))) : HCall P G f args hp u Q' := by
  refine ⟨h.1, fun B β vs W h1 h2 h3 h4 h5 => ?_⟩
  refine (h.2 B β vs W h1 h2 h3 h4 h5).mono ?_
  rintro e w' ⟨v, r, hp', u', β', he, hq, hs⟩
  obtain ⟨g1, g2, g3⟩ := hQ r hp' hq
  have := hs.frB (p := p) (d := x) g1 (List.all_eq_true.1 g2)
  rw [mk_frB] at this
  exact ⟨v, _, _, _, β', he, g3, this⟩
theorem HCall.fA {G : List (Nat × Obj)} {f : FuncId} {args : List AV} {hp : List (Name × Ob)} {u : List Nat} {Q Q' : AV → List (Name × Ob) → Prop} (h : HCall P G f args hp u Q) (p : Name)
    (hQ : ∀ r hp', Q r hp' → ∃ w xs, (mk [] hp' []).hp p = some (.arr w xs) ∧ Q' (r.frz p w xs) ((delA hp' p).map fun q => (q.1, q.2.frz p w xs))) : HCall P G f args hp u Q' := by
  refine ⟨h.1, fun B β vs W h1 h2 h3 h4 h5 => ?_⟩
  refine (h.2 B β vs W h1 h2 h3 h4 h5).mono ?_
  rintro e w' ⟨v, r, hp', u', β', he, hq, hs⟩
  obtain ⟨w, xs, g1, g3⟩ := hQ r hp' hq
  have := hs.frzA (p := p) g1
  rw [mk_frzA] at this
  exact ⟨v, _, _, _, β', he, g3, this⟩
theorem HCall.fM {G : List (Nat × Obj)} {f : FuncId} {args : List AV} {hp : List (Name × Ob)} {u : List Nat} {Q Q' : AV → List (Name × Ob) → Prop} (h : HCall P G f args hp u Q) (p : Name)
    (hQ : ∀ r hp', Q r hp' → Q' r hp' ∨ ∃ es, (mk [] hp' []).hp p = some (.map es) ∧ ∀ clk bs, Stamps clk bs es → Q' (r.frM p (mpD clk bs es)) ((delA hp' p).map fun q => (q.1, q.2.frM p (mpD clk bs es)))) : HCall P G f args hp u Q' := by
  refine ⟨h.1, fun B β vs W h1 h2 h3 h4 h5 => ?_⟩
  refine (h.2 B β vs W h1 h2 h3 h4 h5).mono ?_
  rintro e w' ⟨v, r, hp', u', β', he, hq, hs⟩
  rcases hQ r hp' hq with hq' | ⟨es, g1, g3⟩
  · exact ⟨v, r, hp', u', β', he, hq', hs⟩
  · obtain ⟨clk, bs, hst, hs2⟩ := hs.frM (p := p) g1
    rw [mk_frM] at hs2
    exact ⟨v, _, _, _, β', he, g3 clk bs hst, hs2⟩
theorem HCall.toHP {G : List (Nat × Obj)} {f : FuncId} {ds : List D} {Q : AV → List (Name × Ob) → Prop} {Q' : AV → Prop} (h : HCall P G f (ds.map .d) [] [] Q) (hQ : ∀ r hp', Q r hp' → (Q' r ∧ r.inU [] = true) ∧ hp' = []) : HP P G f ds Q' :=
  h.mono fun r hp' hq => ⟨(hQ r hp' hq).1.1, (hQ r hp' hq).1.2, (hQ r hp' hq).2⟩
end
section
variable {P : Program} {cf : Cf} {Q : Exit → St → Prop} {s : St} {k : List It}
/-- A call, the objects handed in under turned names. -/
theorem e_callS (E : Eng P cf Q) {d : Nat} {fv : Operand} {args : Array Operand} {at' : Array TypeId} {ty : TypeId} {pos : String} {af : Array Edge}
    {f : FuncId} {caps : List AV} (σ : Name → Name) (cargs : List AV) (chp : List (Name × Ob)) (cu : List Nat) {Q0 : AV → List (Name × Ob) → Prop} (hc : HCall P cf.G f cargs chp cu Q0)
    (hev : ev s fv = .clo f caps) (hargs : args.toList.map (ev s) ++ caps = renL σ cargs) (hd : d < cf.n ∧ d ∉ s.used) (hcu : inUL cu cargs = true) (hpass : passL σ cu s chp) (hinj : injL σ chp)
    (hk : ∀ r hp', Q0 r hp' → likeM chp hp' ∧ E.run k (aft s σ d chp hp' r)) :
    E.stp { dst := some d, op := .call { callee := .value fv, args := args, argTypes := at' }, type := ty, pos := pos, after := af, guard := none } s k .no := by
  rw [e_stp_no]
  refine call_ok d σ cargs chp cu Q0 hev hargs hcu hd.2 (fun t ht => ?_) hpass hinj hc fun r hp' hr => ?_
  · obtain rfl := Option.some.inj ht
    exact ⟨hd.1, rfl⟩
  · obtain ⟨h1, h2⟩ := hk r hp' hr
    exact ⟨h1, by rw [← E.run_eq]; exact h2⟩
/-- So in a variable's cell, at an operation. -/
theorem e_thawB (E : Eng P cf Q) {d : Option Nat} {op : Op} {ty : TypeId} {ps : String} {af : Array Edge} (p : Name) (j n : Nat) (w : W) (cs : List AV) (hp : s.hp p = some (.box cs)) (hj : cs[j]? = some (.d .nils)) (hn : n ∉ s.used) {s' : St} (he : (s.add n (.arr w [])).set p (some (.box (cs.set j (.vw [n] 0 0)))) = s')
    (h : E.stp { dst := d, op := op, type := ty, pos := ps, after := af, guard := none } s' k (opR P.ti cf.n op d s')) : E.stp { dst := d, op := op, type := ty, pos := ps, after := af, guard := none } s k .no := by
  subst he
  rw [e_stp_no]
  rw [E.stp_eq] at h
  have h0 := aok_of_stp (o := { dst := d, op := op, type := ty, pos := ps, after := af, guard := none }) rfl h
  intro B hB ds β a w' hds hs
  have h1 := hs.addNone hn w
  have hpn : p ≠ [n] := nm_ne (hs.objs p _ hp).1 hn
  refine h0 B hB ds _ a w' hds (h1.rebox (cs := cs) (by simpa [St.add, updP, hpn] using hp) (by simp) fun v i x x' hx hx' hv => ?_)
  by_cases e : j = i
  · subst e
    rw [hj] at hx
    cases hx
    rw [List.getElem?_set] at hx'
    simp at hx'
    obtain ⟨_, rfl⟩ := hx'
    exact vw_nils (w := w) ⟨n, [], rfl, List.mem_cons_self⟩ (by simp [St.add, updP]) hv
  · rw [List.getElem?_set_ne e, hx] at hx'
    cases hx'
    exact hv
end
section
variable {P : Program} {cf : Cf} {Q : Exit → St → Prop} {s : St} {k : List It} {κ : Type} [DecidableEq κ] {ke : κ → D} {kv : κ → Value}
/-- A lookup in a map that is data. -/
theorem lookupD_ok {xt kt et : Nat} {x y : Operand} {co : Bool} {dst : Option Nat} {ty : TypeId} {pos : String} {af : Array Edge} {gg : Option (Nat × Bool)} (clk : Nat) (bs : List Nat) (ms : List (κ × D)) (key : κ) (z : D) (hm : (P.ti xt).k = .map kt et) (K : KeyE P kt ke kv) (hz : zeroD P et = some z)
    (hx : ev s x = .d (mpD clk bs (menc ke ms))) (hy : ev s y = .d (ke key)) (hdst : ∀ t ∈ dst, t < cf.n) (hk : run P cf k Q (s.putO dst (lookV z co (mlook ms key)))) :
    AOk P cf { dst := dst, op := .lookup xt x y co, type := ty, pos := pos, after := af, guard := gg } s k Q := by
  intro B hB ds β a w hds h Q'
  have hv := h.ev x
  rw [hx] at hv
  have hv := hv.toD
  have hkey := h.ev y
  rw [hy] at hkey
  have hkey := K.val hkey.toD
  generalize hval : a.eval x = v at hv
  unfold mpD at hv
  cases hv with
  | mpd b _ ents _ _ _ hh hno hsz hbs hkk hvv =>
  have hent : ∀ (i : Nat) (q : D × D), (menc ke ms)[i]? = some q → ∃ en : MapEntry, ents[i]? = some en ∧ Rep w.heap (s.own B.A β) en.key q.1 ∧ Rep w.heap (s.own B.A β) en.val q.2 := by
    intro i q hi
    have hlt : i < (menc ke ms).length := (List.getElem?_eq_some_iff.1 hi).1
    have hlt' : i < ents.size := by have := hsz.1; simp at this; omega
    refine ⟨ents[i], by simp [hlt'], ?_, ?_⟩
    · have := hkk i q.1 (by rw [List.getElem?_map, hi]; rfl)
      simpa [Array.getD_eq_getD_getElem?, hlt'] using this
    · have := hvv i q.2 (by rw [List.getElem?_map, hi]; rfl)
      simpa [Array.getD_eq_getD_getElem?, hlt'] using this
  obtain ⟨zv, hzr, hzrep⟩ := zeroD_run hz
  have hzrep := hzrep w.heap (s.own B.A β)
  have hks := map_keys K (by have := hsz.1; simpa using this) hent
  have hf := K.find key ents.toList _ w hks
  have key1 : ∃ r, VR w.heap (s.own B.A β) s.used s.hp β r (lookV z co (mlook ms key)) ∧ (execOp a.eval { dst := dst, op := .lookup xt x y co, type := ty, pos := pos, after := af, guard := gg }).run P w = .ok (.value r) w := by
    cases hi : midx (ms.map (·.1)) key with
    | none =>
      obtain ⟨h1, _⟩ := midx_none (d := z) hi
      rw [hi] at hf
      refine ⟨if co then .tuple #[zv, .bool false] else zv, ?_, ?_⟩
      · rw [h1]
        cases co
        · exact .d _ _ hzrep
        · refine .tup _ _ rfl fun i y hi => ?_
          match i, hi with
          | 0, hi => obtain rfl := Option.some.inj hi; exact .d _ _ hzrep
          | 1, hi => obtain rfl := Option.some.inj hi; exact .d _ _ (.bool _)
      · simp only [execOp, hval, hkey, Instr.lookup, Sem.run_bind, run_underlying (ti_map hm), Result.andThen_ok, MapKept.run_getObj_map hh, K.chk, Sem.run_pure]
        rw [hf]
        simp [hzr]
    | some i =>
      obtain ⟨e, h0, h1, _⟩ := midx_some (d := z) hi
      rw [hi] at hf
      obtain ⟨en, he, _, hrep⟩ := hent i (ke key, e) (by simp [menc, h0])
      have he' : ents.toList[i]? = some en := by simpa using he
      refine ⟨if co then .tuple #[en.val, .bool true] else en.val, ?_, ?_⟩
      · rw [h1]
        cases co
        · exact .d _ _ hrep
        · refine .tup _ _ rfl fun i y hi => ?_
          match i, hi with
          | 0, hi => obtain rfl := Option.some.inj hi; exact .d _ _ hrep
          | 1, hi => obtain rfl := Option.some.inj hi; exact .d _ _ (.bool _)
      · simp only [execOp, hval, hkey, Instr.lookup, Sem.run_bind, run_underlying (ti_map hm), Result.andThen_ok, MapKept.run_getObj_map hh, K.chk, Sem.run_pure]
        rw [hf]
        simp [he]
  obtain ⟨r, hr1, hr2⟩ := key1
  refine wpIn_of_run (by simp) hr2 (.inl rfl) ⟨by cases dst <;> exact hds, _, β, run_ok hk, ?_⟩
  cases dst with
  | none => exact h
  | some t => exact h.put (by rw [hB.1]; exact hdst t rfl) hr1
theorem e_lookupD (E : Eng P cf Q) {xt kt et : Nat} {x y : Operand} {co : Bool} {dst : Option Nat} {ty : TypeId} {pos : String} {af : Array Edge} (clk : Nat) (bs : List Nat) (ms : List (κ × D)) (key : κ) (z : D) (hm : (P.ti xt).k = .map kt et) (K : KeyE P kt ke kv) (hz : zeroD P et = some z)
    (hx : ev s x = .d (mpD clk bs (menc ke ms))) (hy : ev s y = .d (ke key)) (hdst : ∀ t ∈ dst, t < cf.n) (hk : E.run k (s.putO dst (lookV z co (mlook ms key)))) :
    E.stp { dst := dst, op := .lookup xt x y co, type := ty, pos := pos, after := af, guard := none } s k .no := by
  rw [e_stp_no]
  rw [E.run_eq] at hk
  exact lookupD_ok clk bs ms key z hm K hz hx hy hdst hk
/-- A lookup in no map. -/
theorem e_lookupN (E : Eng P cf Q) {xt kt et : Nat} {x y : Operand} {co : Bool} {dst : Option Nat} {ty : TypeId} {pos : String} {af : Array Edge} (key : κ) (z : D) (hm : (P.ti xt).k = .map kt et) (K : KeyE P kt ke kv) (hz : zeroD P et = some z)
    (hx : ev s x = .d .nilm) (hy : ev s y = .d (ke key)) (hdst : ∀ t ∈ dst, t < cf.n) (hk : E.run k (s.putO dst (lookV z co none))) :
    E.stp { dst := dst, op := .lookup xt x y co, type := ty, pos := pos, after := af, guard := none } s k .no := by
  rw [e_stp_no]
  rw [E.run_eq] at hk
  intro B hB ds β a w hds h Q'
  have hv := h.ev x
  rw [hx] at hv
  have hv := hv.toD
  have hkey := h.ev y
  rw [hy] at hkey
  have hkey := K.val hkey.toD
  generalize hval : a.eval x = v at hv
  cases hv
  obtain ⟨zv, hzr, hzrep⟩ := zeroD_run hz
  have hzrep := hzrep w.heap (s.own B.A β)
  have key1 : ∃ r, VR w.heap (s.own B.A β) s.used s.hp β r (lookV z co none) ∧ (execOp a.eval { dst := dst, op := .lookup xt x y co, type := ty, pos := pos, after := af, guard := none }).run P w = .ok (.value r) w := by
    refine ⟨if co then .tuple #[zv, .bool false] else zv, ?_, ?_⟩
    · cases co
      · exact .d _ _ hzrep
      · refine .tup _ _ rfl fun i y hi => ?_
        match i, hi with
        | 0, hi => obtain rfl := Option.some.inj hi; exact .d _ _ hzrep
        | 1, hi => obtain rfl := Option.some.inj hi; exact .d _ _ (.bool _)
    · have hf := K.find key [] [] w rfl
      simp only [midx, Option.bind_none] at hf
      simp only [execOp, hval, hkey, Instr.lookup, Sem.run_bind, run_underlying (ti_map hm), Result.andThen_ok, K.chk, Sem.run_pure]
      simp [hzr, hf]
  obtain ⟨r, hr1, hr2⟩ := key1
  refine wpIn_of_run (by simp) hr2 (.inl rfl) ⟨by cases dst <;> exact hds, _, β, run_ok hk, ?_⟩
  cases dst with
  | none => exact h
  | some t => exact h.put (by rw [hB.1]; exact hdst t rfl) hr1
def mdel (ms : List (κ × D)) (a : κ) : List (κ × D) := match midx (ms.map (·.1)) a with
  | none => ms
  | some i => ms.eraseIdx i
theorem map_erase {α β : Type} (f : α → β) : ∀ (l : List α) (i : Nat), (l.eraseIdx i).map f = (l.map f).eraseIdx i
  | [], _ => rfl
  | _ :: _, 0 => rfl
  | a :: l, i + 1 => by simp only [List.eraseIdx_cons_succ, List.map_cons, map_erase f l i]
theorem borns_erase {ents : Array MapEntry} {clock : Nat} (h : Borns ents clock) (i : Nat) : Borns (ents.eraseIdxIfInBounds i) clock := by
  have hs : (ents.eraseIdxIfInBounds i).toList.Sublist ents.toList := by
    unfold Array.eraseIdxIfInBounds
    split
    · simp only [Array.toList_eraseIdx]; exact List.eraseIdx_sublist _ _
    · exact List.Sublist.refl _
  exact ⟨h.1.sublist (hs.map _), fun e he => h.2 e (hs.subset he)⟩
/-- 'delete'. -/
theorem e_delete (E : Eng P cf Q) {xt kt et : Nat} {x y : Operand} {yt : TypeId} {ty : TypeId} {pos : String} {af : Array Edge} (p : Name) (ms : List (κ × D)) (key : κ) (hm : (P.ti xt).k = .map kt et) (K : KeyE P kt ke kv)
    (hx : ev s x = .mp p) (hp : s.hp p = some (.map (menc ke ms))) (hy : ev s y = .d (ke key)) (hk : E.run k (s.set p (some (.map (menc ke (mdel ms key)))))) :
    E.stp { dst := none, op := .call { callee := .builtin .delete, args := #[x, y], argTypes := #[xt, yt] }, type := ty, pos := pos, after := af, guard := none } s k .no := by
  rw [e_stp_no]
  rw [E.run_eq] at hk
  intro B hB ds β a w hds h Q'
  have hv := h.ev x
  rw [hx] at hv
  have hkey := h.ev y
  rw [hy] at hkey
  have hkey := K.val hkey.toD
  generalize hval : a.eval x = v at hv
  cases hv with
  | mp _ _ hn ho g =>
  obtain ⟨b, hb, rfl⟩ := g _ hp
  obtain ⟨b2, ents, clock, hb2, hh, ⟨hsz, hbo⟩, hent⟩ := (h.objs p _ hp).2
  obtain rfl := Option.some.inj (hb.symm.trans hb2)
  have hlt := lt_of_some hh
  have hks := map_keys K hsz hent
  have hf := K.find key ents.toList _ w hks
  have hl : ents.size = ms.length := by simpa [menc] using hsz
  have key1 : ∃ ents', (execOp a.eval { dst := none, op := .call { callee := .builtin .delete, args := #[x, y], argTypes := #[xt, yt] }, type := ty, pos := pos, after := af, guard := none }).run P w = .ok (.value (.tuple #[])) { w with heap := w.heap.setIfInBounds b.b (.map ents' clock) } ∧
      (ents'.size = (menc ke (mdel ms key)).length ∧ Borns ents' clock) ∧ ∀ (H : Array Obj) (own : Nat → Prop), (∀ v d, Rep w.heap (s.own B.A β) v d → Rep H own v d) → ∀ (i : Nat) (x : D × D), (menc ke (mdel ms key))[i]? = some x → ∃ en : MapEntry, ents'[i]? = some en ∧ Rep H own en.key x.1 ∧ Rep H own en.val x.2 := by
    cases hi : midx (ms.map (·.1)) key with
    | none =>
      rw [hi] at hf
      refine ⟨ents, ?_, ?_, ?_⟩
      · simp only [execOp, resolve, invoke, builtin, Builtin.delete_, List.map_toArray, List.map_cons, List.map_nil, hval, hkey, Sem.run_bind, run_underlying (ti_map hm), Result.andThen_ok, MapKept.run_getObj_map hh, K.chk, Sem.run_pure]
        simp [hf, setObj, Sem.run, hh, hval, hkey, run_underlying (ti_map hm), MapKept.run_getObj_map hh, K.chk]
      · unfold mdel; rw [hi]; exact ⟨hsz, hbo⟩
      · intro H own hr i q hi'
        unfold mdel at hi'
        rw [hi] at hi'
        obtain ⟨en, h3, h4, h5⟩ := hent i q hi'
        exact ⟨en, h3, hr _ _ h4, hr _ _ h5⟩
    | some i =>
      obtain ⟨e, h0, _, _⟩ := midx_some (d := .nilp) hi
      rw [hi] at hf
      obtain ⟨en, he, hkr, hrep⟩ := hent i (ke key, e) (by simp [menc, h0])
      have he' : ents.toList[i]? = some en := by simpa using he
      have hil : i < ents.size := lt_of_some he
      refine ⟨ents.eraseIdxIfInBounds i, ?_, ?_, ?_⟩
      · simp only [execOp, resolve, invoke, builtin, Builtin.delete_, List.map_toArray, List.map_cons, List.map_nil, hval, hkey, Sem.run_bind, run_underlying (ti_map hm), Result.andThen_ok, MapKept.run_getObj_map hh, K.chk, Sem.run_pure]
        simp [hf, he, setObj, Sem.run, hh, hval, hkey, run_underlying (ti_map hm), MapKept.run_getObj_map hh, K.chk]
      · unfold mdel
        rw [hi]
        refine ⟨?_, borns_erase hbo i⟩
        have : i < ms.length := by omega
        simp [menc, Array.eraseIdxIfInBounds, hil, hl, List.length_eraseIdx, this]
      · intro H own hr j q hj
        unfold mdel at hj
        rw [hi] at hj
        have e1 : menc ke (ms.eraseIdx i) = (menc ke ms).eraseIdx i := map_erase _ ms i
        rw [e1, List.getElem?_eraseIdx] at hj
        have e2 : (ents.eraseIdxIfInBounds i)[j]? = if j < i then ents[j]? else ents[j + 1]? := by
          have : (ents.eraseIdxIfInBounds i)[j]? = (ents.toList.eraseIdx i)[j]? := by
            simp [Array.eraseIdxIfInBounds, hil, ← Array.getElem?_toList]
          rw [this, List.getElem?_eraseIdx]
          simp
        rw [e2]
        by_cases hji : j < i
        · rw [if_pos hji] at hj ⊢
          obtain ⟨en', h3, h4, h5⟩ := hent j q hj
          exact ⟨en', h3, hr _ _ h4, hr _ _ h5⟩
        · rw [if_neg hji] at hj ⊢
          obtain ⟨en', h3, h4, h5⟩ := hent (j + 1) q hj
          exact ⟨en', h3, hr _ _ h4, hr _ _ h5⟩
  obtain ⟨ents', hrun, hsz', hent'⟩ := key1
  obtain ⟨hsim, _⟩ := h.modify (p := p) (ob' := .map (menc ke (mdel ms key))) hp trivial (w' := { w with heap := w.heap.setIfInBounds b.b (.map ents' clock) }) rfl (by simp)
    (fun b' hb' => by
      have := hb' b hb
      simp [Ne.symm this]) (fun _ hr => ⟨b, ents', clock, hb, by simp [hlt], hsz', hent' _ _ hr⟩)
  exact wpIn_of_run (v := .tuple #[]) (by simp) hrun (.inl rfl) ⟨hds, _, _, run_ok hk, hsim⟩
/-- 'delete' from no map. -/
theorem e_deleteN (E : Eng P cf Q) {xt kt et : Nat} {x y : Operand} {yt : TypeId} {ty : TypeId} {pos : String} {af : Array Edge} (key : κ) (hm : (P.ti xt).k = .map kt et) (K : KeyE P kt ke kv)
    (hx : ev s x = .d .nilm) (hy : ev s y = .d (ke key)) (hk : E.run k s) :
    E.stp { dst := none, op := .call { callee := .builtin .delete, args := #[x, y], argTypes := #[xt, yt] }, type := ty, pos := pos, after := af, guard := none } s k .no := by
  rw [e_stp_no]
  rw [E.run_eq] at hk
  intro B hB ds β a w hds h Q'
  have hv := h.ev x
  rw [hx] at hv
  have hv := hv.toD
  have hkey := h.ev y
  rw [hy] at hkey
  have hkey := K.val hkey.toD
  generalize hval : a.eval x = v at hv
  cases hv
  have hrun : (execOp a.eval { dst := none, op := .call { callee := .builtin .delete, args := #[x, y], argTypes := #[xt, yt] }, type := ty, pos := pos, after := af, guard := none }).run P w = .ok (.value (.tuple #[])) w := by
    simp only [execOp, resolve, invoke, builtin, Builtin.delete_, List.map_toArray, List.map_cons, List.map_nil, hval, hkey, Sem.run_bind, run_underlying (ti_map hm), Result.andThen_ok, K.chk, Sem.run_pure]
    simp [hval, hkey, run_underlying (ti_map hm), K.chk]
  exact wpIn_of_run (v := .tuple #[]) (by simp) hrun (.inl rfl) ⟨hds, _, _, run_ok hk, h⟩
end
section
variable {P : Program} {cf : Cf} {ops : Array Oper} {K : St → Ns → Prop} {s : St} {r : List Oper} {ns : Ns}
theorem VR.clo_d {H : Array Obj} {own : Nat → Prop} {used : List Nat} {hp : Name → Option Ob} {β : Name → Option Blk} {v : Value} {f : Nat} {caps : List D} (h : VR H own used hp β v (.clo f (caps.map .d))) : VR H own used hp β v (.d (.clo f caps)) := by
  cases h with
  | clo _ vs _ hs hc =>
    refine .d _ _ (.clo f vs caps (by simpa using hs) fun i d hi => ?_)
    exact (hc i (.d d) (by rw [List.getElem?_map, hi]; rfl)).toD
theorem VR.d_clo {H : Array Obj} {own : Nat → Prop} {used : List Nat} {hp : Name → Option Ob} {β : Name → Option Blk} {v : Value} {f : Nat} {caps : List D} (h : VR H own used hp β v (.d (.clo f caps))) : VR H own used hp β v (.clo f (caps.map .d)) := by
  have h := h.toD
  cases h with
  | clo _ vs _ hs hc =>
    refine .clo f vs _ (by simpa using hs) fun i x hi => ?_
    rw [List.getElem?_map, Option.map_eq_some_iff] at hi
    obtain ⟨d, hd, rfl⟩ := hi
    exact .d _ _ (hc i d hd)
/-- A closure of plain data is called in such a region. -/
theorem x_callD (E : XEng P cf ops K) {t : Nat} {u : Nat} {args : Array Operand} {at' : Array TypeId} {ty : TypeId} {pos : String} {af : Array Edge} {g : Option (Nat × Bool)}
    {f : FuncId} {caps ds : List D} {x : AV} (hc : HP P cf.G f (ds ++ caps) (fun r => r = x)) (hev : s.fr u = .d (.clo f caps)) (hu : (t == u) = false) (hna : args.all (fun y => match y with | .tmp i => !(i == u) | _ => true) = true)
    (hargs : args.toList.map (ev s) = ds.map .d) (hdst : t < cf.n) (hk : E.run r (s.put t x) (ns ++ [([], [], [])])) :
    E.stp { dst := some t, op := .call { callee := .value (.tmp u), args := args, argTypes := at' }, type := ty, pos := pos, after := af, guard := g } r s ns .no := by
  have htu : ¬ t = u := by simpa using hu
  refine x_leaf E (x := x) [] (fun y hy => by rw [Option.mem_def, Option.some.injEq] at hy; rw [← hy]; exact hdst) (fun s' _ he => ?_) hk
  have hm : ∀ y, y = Operand.tmp u ∨ y ∈ args → ev s' y = ev s y := fun y hy => he y (by
    simp only [Op.operands, Call.operands]
    rcases hy with rfl | hy <;> simp_all)
  have hev' : s'.fr u = .d (.clo f caps) := (hm (.tmp u) (.inl rfl)).trans hev
  have hargs' : args.toList.map (ev (s'.put u (.clo f (caps.map .d)))) ++ caps.map .d = (ds ++ caps).map .d := by
    rw [List.map_append, ← hargs]
    congr 1
    refine List.map_congr_left fun y hy => ?_
    have hy' : y ∈ args := by simpa using hy
    have h1 := Array.all_eq_true'.1 hna y hy'
    rw [← hm y (.inr hy')]
    cases y with
    | tmp i =>
      have : ¬ i = u := by simpa using h1
      show (s'.put u _).fr i = s'.fr i
      simp [St.put, updN, this]
    | _ => rfl
  have h1 := callP_ok (k := []) (Q := fun _ s2 => s2 = (s'.put u (.clo f (caps.map .d))).put t x) (dst := some t) (fv := .tmp u) (args := args) (at' := at') (ty := ty) (pos := pos) (af := af) (g := g) hc
    (show (s'.put u (.clo f (caps.map .d))).fr u = _ by simp [St.put, updN]) hargs' (fun y hy => by rw [Option.mem_def, Option.some.injEq] at hy; rw [← hy]; exact hdst) (fun r hr => by subst hr; rw [run_nil]; rfl)
  intro B hB ds' β a w hds hs Q'
  have hs1 : Sim B β (s'.put u (.clo f (caps.map .d))) a.tmps w := hs.setv (VR.d_clo (by rw [← hev']; exact hs.slots u))
  refine Oper.wpIn_mono ?_ (h1 B hB ds' β a w hds hs1 Q')
  rintro a' w' ⟨hd', s2, β', hrun, hs2⟩
  obtain ⟨_, s3, β3, rfl, hs3⟩ := hrun B hB ds' β' a' w' hd' hs2
  refine ⟨hd', s'.put t x, β3, fun B2 _ ds2 β2 a2 w2 hds2 h2 => ⟨hds2, _, β2, rfl, h2⟩, ?_⟩
  have hv := hs3.slots u
  have e1 : ((s'.put u (.clo f (caps.map .d))).put t x).fr u = .clo f (caps.map .d) := by simp [St.put, updN, Ne.symm htu, fun h : u = t => htu h.symm]
  rw [e1] at hv
  have h4 := hs3.setv (t := u) (x := .d (.clo f caps)) hv.clo_d
  have e2 : ((s'.put u (.clo f (caps.map .d))).put t x).put u (.d (.clo f caps)) = s'.put t x := by
    unfold St.put
    congr 1
    funext i
    simp only [updN]
    by_cases h1 : i = u
    · subst h1
      rw [if_pos rfl, if_neg (fun h : i = t => htu h.symm), hev']
    · simp [h1]
  rw [e2] at h4
  exact h4
end
section
variable {P : Program} {cf : Cf} {Φ : Exit → Act → World → Prop} {I : Base → List Deferred → Prop} {k : List It} {s : St}
/-- A variable's cell that holds no slice turns into one that holds an empty one of its own. -/
theorem Y_thawB (p : Name) (j n : Nat) (w : W) (cs : List AV) (hp : s.hp p = some (.box cs)) (hj : cs[j]? = some (.d .nils)) (hn : n ∉ s.used) (h : ARY P cf Φ I k ((s.add n (.arr w [])).set p (some (.box (cs.set j (.vw [n] 0 0)))))) : ARY P cf Φ I k s := by
  intro B hB ds β a w' hds hi hs
  have h1 := hs.addNone hn w
  have hpn : p ≠ [n] := nm_ne (hs.objs p _ hp).1 hn
  refine h B hB ds _ a w' hds hi (h1.rebox (cs := cs) (by simpa [St.add, updP, hpn] using hp) (by simp) fun v i x x' hx hx' hv => ?_)
  by_cases e : j = i
  · subst e
    rw [hj] at hx
    cases hx
    rw [List.getElem?_set] at hx'
    simp at hx'
    obtain ⟨_, rfl⟩ := hx'
    exact vw_nils (w := w) ⟨n, [], rfl, List.mem_cons_self⟩ (by simp [St.add, updP]) hv
  · rw [List.getElem?_set_ne e, hx] at hx'
    cases hx'
    exact hv
/-- A map turns into data. -/
theorem Y_frM (p : Name) (es : List (D × D)) (hp : s.hp p = some (.map es)) (h : ∀ clk bs, Stamps clk bs es → ARY P cf Φ I k (s.frM p (mpD clk bs es))) : ARY P cf Φ I k s := by
  intro B hB ds β a w' hds hi hs
  obtain ⟨clk, bs, hst, hs2⟩ := hs.frM (p := p) hp
  exact h clk bs hst B hB ds _ a w' hds hi hs2
theorem Y_frB (p : Name) (x : D) (hp : s.hp p = some (.box (x.cells.map .d))) (hsc : (x.cells.all D.scal) = true) (h : ARY P cf Φ I k (s.frB p x)) : ARY P cf Φ I k s :=
  fun B hB ds β a w' hds hi hs => h B hB ds β a w' hds hi (hs.frB hp (List.all_eq_true.1 hsc))
theorem Y_frA (p : Name) (w : W) (xs : List D) (hp : s.hp p = some (.arr w xs)) (h : ARY P cf Φ I k (s.frzA p w xs)) : ARY P cf Φ I k s :=
  fun B hB ds β a w' hds hi hs => h B hB ds β a w' hds hi (hs.frzA hp)
def lkO : Option Ob → Ob → Prop
  | some o, o' => o.like o'
  | none, _ => False
theorem lkO_some (o o' : Ob) : lkO (some o) o' = o.like o' := rfl
def LKL (s0 : St) : List (Name × Ob) → Prop
  | [] => True
  | q :: r => (nmb s0.used q.1 = true → lkO (s0.hp q.1) q.2) ∧ LKL s0 r
theorem LKL_mem {s0 : St} : ∀ {l : List (Name × Ob)}, LKL s0 l → ∀ q ∈ l, nmb s0.used q.1 = true → ∃ o, s0.hp q.1 = some o ∧ o.like q.2
  | [], _, q, h, _ => by cases h
  | _ :: r, h, q, hq, hn => by
    rcases List.mem_cons.1 hq with rfl | hq
    · have := h.1 hn
      cases ho : s0.hp q.1 with
      | none => rw [ho] at this; exact this.elim
      | some o => rw [ho] at this; exact ⟨o, rfl, this⟩
    · exact LKL_mem h.2 q hq hn
/-- The end of a round. -/
theorem rq_mk {B0 : Base} {X : Type} {Iv : X → St} {fr0 fr : List (Nat × AV)} {hp0 hp : List (Name × Ob)} {u0 u : List Nat} {fr' : List (Nat × AV)} {hp' : List (Name × Ob)} {u' : List Nat} (hl : LKL (mk fr0 hp0 u0) hp) (y : X) (τ : Name → Name) (hy : Iv y = mk fr' hp' u') (hle : LeL cf.U τ (mk fr0 hp u) fr' hp' u') :
    rq P cf Φ B0 k Iv (mk fr0 hp0 u0) .normal (mk fr hp u) := ⟨LK_mk (LKL_mem hl), y, τ, by rw [hy]; exact hle.le⟩
theorem putP_cons (s : St) (t : Nat) (ts : List Nat) (d : D) (ds : List D) : putP s (t :: ts) (d :: ds) = putP (s.put t (.d d)) ts ds := rfl
theorem putP_nil (s : St) (ds : List D) : putP s [] ds = s := by cases ds <;> rfl
theorem nbeq_cons (a b : Nat) (l m : List Nat) : ((a :: l) == (b :: m)) = (a == b && l == m) := rfl
theorem nbeq_nn : (([] : List Nat) == []) = true := rfl
theorem nbeq_nc (b : Nat) (m : List Nat) : (([] : List Nat) == b :: m) = false := rfl
theorem nbeq_cn (b : Nat) (m : List Nat) : (b :: m == ([] : List Nat)) = false := rfl
attribute [go_sem] nbeq_cons nbeq_nn nbeq_nc nbeq_cn Bool.false_and Bool.and_false Bool.true_and Bool.and_true Bool.or_self Bool.and_self nilR LKL lkO_some putP_cons putP_nil
end
section
variable {P : Program} {cf : Cf} {ops : Array Oper} {K : St → Ns → Prop} {s : St} {r : List Oper} {ns : Ns}
/-- A call in such a region, a closure of plain data among its arguments. -/
theorem x_callC (E : XEng P cf ops K) {t : Nat} (u : Nat) {fv : Operand} {args : Array Operand} {at' : Array TypeId} {ty : TypeId} {pos : String} {af : Array Edge} {gg : Option (Nat × Bool)}
    {f : FuncId} {caps : List AV} {ds : List D} {x : AV} {g : Nat} (gc : List D) (hc : HP P cf.G f ds (fun r => r = x)) (hfv : ∀ s, ev s fv = .clo f caps) (hev : s.fr u = .clo g (gc.map .d)) (hu : (t == u) = false) (hin : Operand.tmp u ∈ args)
    (hargs : args.toList.map (ev (s.put u (.d (.clo g gc)))) ++ caps = ds.map .d) (hdst : t < cf.n) (hk : E.run r (s.put t x) (ns ++ [([], [], [])])) :
    E.stp { dst := some t, op := .call { callee := .value fv, args := args, argTypes := at' }, type := ty, pos := pos, after := af, guard := gg } r s ns .no := by
  have htu : ¬ t = u := by simpa using hu
  refine x_leaf E (x := x) [] (fun y hy => by rw [Option.mem_def, Option.some.injEq] at hy; rw [← hy]; exact hdst) (fun s' _ he => ?_) hk
  have hm : ∀ y, y ∈ args → ev s' y = ev s y := fun y hy => he y (by
    simp only [Op.operands, Call.operands]
    simp_all)
  have hev' : s'.fr u = .clo g (gc.map .d) := (hm (.tmp u) hin).trans hev
  have hargs' : args.toList.map (ev (s'.put u (.d (.clo g gc)))) ++ caps = ds.map .d := by
    rw [← hargs]
    congr 1
    refine List.map_congr_left fun y hy => ?_
    have hy' : y ∈ args := by simpa using hy
    have h0 := hm y hy'
    cases y with
    | tmp i =>
      by_cases e : i = u
      · subst e
        show (s'.put i _).fr i = (s.put i _).fr i
        simp [St.put, updN]
      · have h0' : s'.fr i = s.fr i := h0
        show (s'.put u _).fr i = (s.put u _).fr i
        simp [St.put, updN, e, h0']
    | _ => rfl
  have h1 := callP_ok (k := []) (Q := fun _ s2 => s2 = (s'.put u (.d (.clo g gc))).put t x) (dst := some t) (fv := fv) (args := args) (at' := at') (ty := ty) (pos := pos) (af := af) (g := gg) hc
    (hfv _) hargs' (fun y hy => by rw [Option.mem_def, Option.some.injEq] at hy; rw [← hy]; exact hdst) (fun r hr => by subst hr; rw [run_nil]; rfl)
  intro B hB ds' β a w hds hs Q'
  have hs1 : Sim B β (s'.put u (.d (.clo g gc))) a.tmps w := hs.setv (VR.clo_d (by rw [← hev']; exact hs.slots u))
  refine Oper.wpIn_mono ?_ (h1 B hB ds' β a w hds hs1 Q')
  rintro a' w' ⟨hd', s2, β', hrun, hs2⟩
  obtain ⟨_, s3, β3, rfl, hs3⟩ := hrun B hB ds' β' a' w' hd' hs2
  refine ⟨hd', s'.put t x, β3, fun B2 _ ds2 β2 a2 w2 hds2 h2 => ⟨hds2, _, β2, rfl, h2⟩, ?_⟩
  have hv := hs3.slots u
  have e1 : ((s'.put u (.d (.clo g gc))).put t x).fr u = .d (.clo g gc) := by simp [St.put, updN, Ne.symm htu, fun h : u = t => htu h.symm]
  rw [e1] at hv
  have h4 := hs3.setv (t := u) (x := .clo g (gc.map .d)) hv.d_clo
  have e2 : ((s'.put u (.d (.clo g gc))).put t x).put u (.clo g (gc.map .d)) = s'.put t x := by
    unfold St.put
    congr 1
    funext i
    simp only [updN]
    by_cases h1 : i = u
    · subst h1
      rw [if_pos rfl, if_neg (fun h : i = t => htu h.symm), hev']
    · simp [h1]
  rw [e2] at h4
  exact h4
end
end Go.Ab
