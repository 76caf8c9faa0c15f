/-
  The generic layer, part 8: each step is sound: operators, structs, lengths.
-/
import Derived.Test.YtmplpdjddjiioaaDoorA7
import Derived.Laws.Concat
import Derived.Laws.Small
namespace Go.Ab
section
variable {P : Program} {B : Base} {β : Name → Option Blk} {s : St} {tm : Array Value} {w : World} {t : Nat}

theorem eqGuard_pure (op : BinOp) (t : TypeId) (x y : Operand) (a b : Value) (h : (∃ k n, a = .int k n) ∨ (∃ l, a = .string l) ∨ (∃ l, a = .bool l)) : eqGuard op t x y a b = pure () := by
  rcases h with ⟨k, n, rfl⟩ | ⟨l, rfl⟩ | ⟨l, rfl⟩
  · exact eqGuard_at_int ..
  · exact eqGuard_at_string ..
  · exact eqGuard_at_bool ..

theorem isBool_und (h : (P.ti t).k.isBool = true) : P.underlying t = some .bool := by
  unfold Program.ti at h
  split at h
  · rename_i d _ hd
    cases d <;> simp [tk, TK.isBool] at h
    exact hd
  · simp [TK.isBool] at h
theorem bs_beq (a b : List UInt8) : ((⟨a.toArray⟩ : ByteArray).toList == (⟨b.toArray⟩ : ByteArray).toList) = (a == b) := by simp

theorem shl_run (i j : IntKind) (a b : Int) (h : 0 ≤ b) : (binOp .shl t (.int i a) (.int j b)).run P w = .ok (.int i (i.wrap (a * 2 ^ min b.toNat i.bits))) w := by
  show (Op.shift .shl i a j b).run P w = _
  unfold Op.shift
  rw [if_neg (by omega)]; rfl
theorem shr_run (i j : IntKind) (a b : Int) (h : 0 ≤ b) : (binOp .shr t (.int i a) (.int j b)).run P w = .ok (.int i (a.fdiv (2 ^ min b.toNat i.bits))) w := by
  show (Op.shift .shr i a j b).run P w = _
  unfold Op.shift
  rw [if_neg (by omega)]; rfl
theorem binD_sound {op : BinOp} {x y : D} {xv yv : Value} (H : Array Obj) (own : Nat → Prop) (hx : Rep H own xv x) (hy : Rep H own yv y) (t : TypeId) (xo yo : Operand) :
    RV (binD (P.ti t).k op x y) fun d => ∃ v, (do eqGuard op t xo yo xv yv; binOp op t xv yv : Sem Value).run P w = .ok v w ∧ Rep H own v d := by
  have go : ∀ (d : D) (v : Value), ((∃ k n, xv = .int k n) ∨ (∃ l, xv = .string l) ∨ (∃ l, xv = .bool l)) → (binOp op t xv yv).run P w = .ok v w → Rep H own v d →
      ∃ v, (do eqGuard op t xo yo xv yv; binOp op t xv yv : Sem Value).run P w = .ok v w ∧ Rep H own v d := fun d v hg hr hv => by
    refine ⟨v, ?_, hv⟩
    rw [eqGuard_pure op t xo yo xv yv hg]
    simpa using hr
  unfold binD
  split <;> try trivial
  all_goals first
    | (split <;> try trivial
       rename_i hk; subst hk
       cases hx; cases hy
       refine go _ _ (.inl ⟨_, _, rfl⟩) (by simp [binOp, Op.intArith, Op.intCmp]; rfl) (by constructor))
    | (split <;> try trivial
       rename_i hk; subst hk
       cases hx; cases hy
       refine go _ _ (.inl ⟨_, _, rfl⟩) (by simp [binOp, Op.intBits, bitI]; rfl) (by constructor))
    | (split <;> try trivial
       rename_i hk
       have hu := isBool_und hk
       cases hx; cases hy
       refine go _ _ (.inr (.inr ⟨_, rfl⟩)) (by simp [binOp, run_equal_bool _ _ _ _ hu]; rfl) (by constructor))
    | (split <;> try trivial
       rename_i hk; subst hk
       intro h0
       cases hx; cases hy
       refine go _ _ (.inl ⟨_, _, rfl⟩) (by simp [binOp, Op.intDiv, h0]; rfl) (by constructor))
    | (cases hx; cases hy
       refine go _ _ (.inr (.inl ⟨_, rfl⟩)) (by simp only [binOp, Op.stringOp, ByteArray.toList_mk, Sem.run_pure]; rfl) (by constructor))
    | skip
  · intro h0
    cases hx; cases hy
    exact go _ _ (.inl ⟨_, _, rfl⟩) (shl_run _ _ _ _ h0) (by constructor)
  · intro h0
    cases hx; cases hy
    exact go _ _ (.inl ⟨_, _, rfl⟩) (shr_run _ _ _ _ h0) (by constructor)
  · intro h0
    cases hx; cases hy
    rename_i a b
    refine go _ (.string ⟨(a ++ b).toArray⟩) (.inr (.inl ⟨_, rfl⟩)) ?_ (by constructor)
    have hsz : ¬ ((((⟨a.toArray⟩ : ByteArray).size + (⟨b.toArray⟩ : ByteArray).size : Nat) : Int) > IntKind.i64.max) := by
      simp [ByteArray.size, IntKind.max_i64]; omega
    simp only [binOp, Op.stringOp, if_neg hsz, Sem.run_pure, ByteArray.mk_append_mk]

theorem bin_sound {op : BinOp} {x y : AV} {xv yv : Value} (hx : VR w.heap (s.own B.A β) s.used s.hp β xv x) (hy : VR w.heap (s.own B.A β) s.used s.hp β yv y) (xo yo : Operand) :
    RV (binR (P.ti t).k op x y) fun z => ∃ v, (do eqGuard op t xo yo xv yv; binOp op t xv yv : Sem Value).run P w = .ok v w ∧ VR w.heap (s.own B.A β) s.used s.hp β v z := by
  unfold binR
  split <;> try trivial
  exact RV.bind (fun d ⟨v, hr, hv⟩ => ⟨v, hr, .d _ _ hv⟩) (binD_sound w.heap (s.own B.A β) hx.toD hy.toD t xo yo)

theorem un_sound {op : UnOp} {x : AV} {xv : Value} (hx : VR w.heap (s.own B.A β) s.used s.hp β xv x) :
    RV (unR op x) fun z => ∃ v, (Op.unary op xv).run P w = .ok v w ∧ VR w.heap (s.own B.A β) s.used s.hp β v z := by
  unfold unR
  split <;> try trivial
  · obtain rfl := hx.bool
    exact ⟨_, by simp [Op.unary], .d _ _ (.bool _)⟩
  · obtain rfl := hx.int
    exact ⟨_, by simp [Op.unary, Op.intArith], .d _ _ (.int _ _)⟩

theorem pick_sound {c x y : AV} {cv xv yv : Value} (hc : VR w.heap (s.own B.A β) s.used s.hp β cv c) (hx : VR w.heap (s.own B.A β) s.used s.hp β xv x) (hy : VR w.heap (s.own B.A β) s.used s.hp β yv y) :
    RV (pickR c x y) fun z => ∃ v, (do pure (.value (if ← asBool cv then xv else yv)) : Sem Next).run P w = .ok (.value v) w ∧ VR w.heap (s.own B.A β) s.used s.hp β v z := by
  unfold pickR
  split <;> try trivial
  · obtain rfl := hc.bool; exact ⟨_, by simp [asBool], hx⟩
  · obtain rfl := hc.bool; exact ⟨_, by simp [asBool], hy⟩

theorem len_sound (h : Sim B β s tm w) {x : AV} {xv : Value} (hx : VR w.heap (s.own B.A β) s.used s.hp β xv x) {i : TI} (hi : i = P.ti t) (ty : TypeId) :
    RV (lenR i s.hp x) fun z => ∃ v, (Builtin.len_ #[t] ty #[xv]).run P w = .ok v w ∧ VR w.heap (s.own B.A β) s.used s.hp β v z := by
  subst hi
  unfold lenR
  split
  · rename_i l hk
    obtain rfl := hx.str
    have hsz : (⟨l.toArray⟩ : ByteArray).size = l.length := by simp [ByteArray.size]
    exact ⟨.int .i64 l.length, by simp [Builtin.len_, run_underlying (ti_str hk), goInt, hsz], .d _ _ (.int _ _)⟩
  · rename_i e wf xs hk
    obtain ⟨a, cap, rfl, _⟩ := hx.toD.sl_inv
    exact ⟨_, by simp [Builtin.len_, run_underlying (ti_slice hk), goInt], .d _ _ (.int _ _)⟩
  · rename_i e hk
    obtain rfl := hx.nils
    exact ⟨_, by simp [Builtin.len_, run_underlying (ti_slice hk), goInt], .d _ _ (.int _ _)⟩
  · rename_i e p o l hk
    split <;> try trivial
    rename_i wf xs hp
    cases hx with
    | vw _ _ _ _ hn h1' hx =>
      obtain ⟨hle, a0, cap, rfl, hx'⟩ := hx _ _ hp
      exact ⟨_, by simp [Builtin.len_, run_underlying (ti_slice hk), goInt], .d _ _ (.int _ _)⟩
  · rename_i a b p hk
    split <;> try trivial
    rename_i es hp
    cases hx with
    | mp _ _ hn h1 hx =>
      obtain ⟨k, hk', rfl⟩ := hx _ hp
      obtain ⟨k', ents, clock, hk'', hb, hz, _⟩ := (h.objs p _ hp).2
      rw [hk'] at hk''; cases hk''
      refine ⟨_, ?_, .d _ _ (.int .i64 es.length)⟩
      simp [Builtin.len_, run_underlying (ti_map hk), goInt, getObj, Sem.run, hb, hz]
  · trivial

theorem max_sound {x y : AV} {xv yv : Value} (hx : VR w.heap (s.own B.A β) s.used s.hp β xv x) (hy : VR w.heap (s.own B.A β) s.used s.hp β yv y) (ts : Array TypeId) (ty : TypeId) :
    RV (maxR x y) fun z => ∃ v, (Builtin.max_ ts ty #[xv, yv]).run P w = .ok v w ∧ VR w.heap (s.own B.A β) s.used s.hp β v z := by
  unfold maxR
  split <;> try trivial
  split <;> try trivial
  obtain rfl := hx.int; obtain rfl := hy.int
  exact ⟨_, by simp [Builtin.max_, Builtin.max2], .d _ _ (.int _ _)⟩
theorem min_sound {x y : AV} {xv yv : Value} (hx : VR w.heap (s.own B.A β) s.used s.hp β xv x) (hy : VR w.heap (s.own B.A β) s.used s.hp β yv y) (ts : Array TypeId) (ty : TypeId) :
    RV (minR x y) fun z => ∃ v, (Builtin.min_ ts ty #[xv, yv]).run P w = .ok v w ∧ VR w.heap (s.own B.A β) s.used s.hp β v z := by
  unfold minR
  split <;> try trivial
  split <;> try trivial
  obtain rfl := hx.int; obtain rfl := hy.int
  exact ⟨_, by simp [Builtin.min_, Builtin.min2], .d _ _ (.int _ _)⟩

theorem conv_sound {t' : Nat} {x : AV} {xv : Value} (hx : VR w.heap (s.own B.A β) s.used s.hp β xv x) :
    RV (convR (P.ti t) (P.ti t') x) fun z => ∃ v, (convert t t' xv).run P w = .ok v w ∧ VR w.heap (s.own B.A β) s.used s.hp β v z := by
  unfold convR
  split <;> try trivial
  · rename_i k1 k2 j n hk1 hk2
    obtain rfl := hx.int
    exact ⟨_, by simp [convert, run_underlying (ti_int hk1), run_underlying (ti_int hk2), Conv.intToInt], .d _ _ (.int _ _)⟩
  · rename_i l hk1 hk2
    obtain rfl := hx.str
    exact ⟨_, by simp [convert, run_underlying (ti_str hk1), run_underlying (ti_str hk2)], .d _ _ (.str _)⟩

theorem extract_sound {x : AV} {xv : Value} (hx : VR w.heap (s.own B.A β) s.used s.hp β xv x) (i : Nat) :
    RV (extractR x i) fun z => ∃ v, (Instr.extract xv i).run P w = .ok v w ∧ VR w.heap (s.own B.A β) s.used s.hp β v z := by
  unfold extractR
  split <;> try trivial
  rename_i vs
  refine RV.ofO fun y hy => ?_
  cases hx with
  | tup xs _ hs h =>
    have hlt : i < xs.size := by rw [hs]; exact (List.getElem?_eq_some_iff.1 hy).1
    have := h i y hy
    refine ⟨_, ?_, this⟩
    simp [Instr.extract, Array.getElem?_eq_getElem hlt, Array.getD_eq_getD_getElem?]

theorem makeFunc_sound {fn : Fn} {first : Array Operand} {caps : List AV} {cvs : Array Value} {ρ : Operand → Value} (hs : cvs.size = caps.length)
    (h : ∀ (i : Nat) x, caps[i]? = some x → VR w.heap (s.own B.A β) s.used s.hp β (cvs.getD i undef) x) :
    RV (makeFuncR fn first.toList caps) fun z => ∃ v, (Instr.makeFunc fn (first.map ρ) cvs).run P w = .ok v w ∧ VR w.heap (s.own B.A β) s.used s.hp β v z := by
  unfold makeFuncR
  split <;> try trivial
  rename_i f hf
  have : first = #[] := by simpa using hf
  subst this
  exact ⟨_, by simp [Instr.makeFunc], .clo f cvs caps hs h⟩

theorem run_part_agg (hg : (P.ti t).k.isBad = false) (ha : (P.ti t).k.agg = true) (cs : Array Value) (o : Nat) : (part t cs o).run P w = .ok (.agg (cs.extract o (o + (P.ti t).sz))) w := by
  simp [part, run_isAgg hg, ha, run_sizeOf hg]
theorem run_part_one (hg : (P.ti t).k.isBad = false) (ha : (P.ti t).k.agg = false) (cs : Array Value) (o : Nat) (v : Value) (h : cs[o]? = some v) : (part t cs o).run P w = .ok v w := by
  simp [part, run_isAgg hg, ha, h]
theorem extract_toArray (c : Array Value) (o z : Nat) : c.extract o (o + z) = ((c.toList.drop o).take z).toArray := by
  apply Array.ext'
  simp [List.extract_eq_take_drop]

theorem partV_sound {H : Array Obj} {own : Nat → Prop} {v : Value} {d y : D} {c0 : Nat} (hd : ∃ cs, d = .agg cs) (h : Rep H own v d) (hp : partD (P.ti t) d c0 = some y) :
    ∃ c u, v = .agg c ∧ (part t c c0).run P w = .ok u w ∧ Rep H own u y := by
  obtain ⟨cs, rfl⟩ := hd
  cases h with
  | agg vs _ hs hsc h =>
    unfold partD at hp
    by_cases hg : (P.ti t).k.isBad = true
    · simp [hg] at hp
    · have hg : (P.ti t).k.isBad = false := by simpa using hg
      simp only [hg, Bool.false_eq_true, if_false] at hp
      by_cases ha : (P.ti t).k.agg = true
      · simp only [ha, if_true] at hp
        split at hp
        · rename_i hle
          cases hp
          refine ⟨vs, _, rfl, run_part_agg hg ha vs c0, ?_⟩
          rw [extract_toArray]
          refine .agg _ _ (by simp; omega) (fun x hx => hsc x (List.mem_of_mem_drop (List.mem_of_mem_take hx))) (fun i x hi => ?_)
          rw [List.getElem?_take] at hi
          split at hi
          · rename_i hlt
            rw [List.getElem?_drop] at hi
            have := h (c0 + i) x hi
            have e1 : ((vs.toList.drop c0).take (P.ti t).sz).toArray.getD i undef = vs.getD (c0 + i) undef := by
              simp [Array.getD_eq_getD_getElem?, hlt]
            rw [e1]; exact this
          · cases hi
        · cases hp
      · have ha : (P.ti t).k.agg = false := by simpa using ha
        simp only [ha, Bool.false_eq_true, if_false] at hp
        have hlt : c0 < vs.size := by rw [hs]; exact (List.getElem?_eq_some_iff.1 hp).1
        exact ⟨vs, _, rfl, run_part_one hg ha vs c0 _ (getD_of (z := undef) hlt), h c0 y hp⟩

theorem field_sound {xv : Value} {x : AV} {f : Nat} (hx : VR w.heap (s.own B.A β) s.used s.hp β xv x) :
    RV (fieldR (P.ti t) P.ti x f) fun y => ∃ v, (Instr.field t xv f).run P w = .ok v w ∧ VR w.heap (s.own B.A β) s.used s.hp β v y := by
  unfold fieldR
  split <;> try trivial
  rename_i fs hk
  split <;> try trivial
  rename_i o tt hf
  obtain ⟨fl, hu, rfl⟩ := ti_struct hk
  simp only [List.getElem?_map, Option.map_eq_some_iff, Prod.mk.injEq] at hf
  obtain ⟨fd, hfd, rfl, rfl⟩ := hf
  have hfd' : fl[f]? = some fd := by simpa using hfd
  have hrun : ∀ (c : Array Value) (u : Value), (part fd.type c fd.offset).run P w = .ok u w → (Instr.field t (.agg c) f).run P w = .ok u w := fun c u hr => by
    simp [Instr.field, run_underlying hu, hfd', asAgg, hr]
  split
  · rename_i cs
    refine RV.ofO fun y hy => ?_
    simp only [Option.map_eq_some_iff] at hy
    obtain ⟨d, hd, rfl⟩ := hy
    obtain ⟨c, u, rfl, hr, hv⟩ := partV_sound (P := P) (w := w) ⟨cs, rfl⟩ hx.toD hd
    exact ⟨u, hrun c u hr, .d _ _ hv⟩
  · rename_i cs
    cases hx with
    | agg vs _ hs h1 h =>
      unfold partC
      by_cases hg : (P.ti fd.type).k.isBad = true
      · simp [hg, RV]
      · have hg : (P.ti fd.type).k.isBad = false := by simpa using hg
        simp only [hg, Bool.false_eq_true, if_false]
        by_cases ha : (P.ti fd.type).k.agg = true
        · simp only [ha, if_true]
          split
          · rename_i hle
            refine ⟨_, hrun _ _ (run_part_agg hg ha vs fd.offset), ?_⟩
            rw [extract_toArray]
            refine mkAgg_rep (by simp; omega) (fun v hv => h1 v ?_) (fun i v x hv hx => ?_)
            · have := List.mem_of_mem_drop (List.mem_of_mem_take hv); simpa using this
            · rw [List.getElem?_take] at hv hx
              split at hv
              · rename_i hlt
                rw [if_pos hlt] at hx
                rw [List.getElem?_drop] at hv hx
                have := h _ x hx
                have e1 : vs.getD (fd.offset + i) undef = v := by
                  simp only [Array.getElem?_toList] at hv
                  simp [Array.getD_eq_getD_getElem?, hv]
                rwa [e1] at this
              · cases hv
          · trivial
        · have ha : (P.ti fd.type).k.agg = false := by simpa using ha
          simp only [ha, Bool.false_eq_true, if_false]
          refine RV.ofO fun x hx => ?_
          have hlt : fd.offset < vs.size := by rw [hs]; exact (List.getElem?_eq_some_iff.1 hx).1
          exact ⟨_, hrun _ _ (run_part_one hg ha vs fd.offset _ (getD_of (z := undef) hlt)), h _ x hx⟩
  · trivial
end
end Go.Ab
