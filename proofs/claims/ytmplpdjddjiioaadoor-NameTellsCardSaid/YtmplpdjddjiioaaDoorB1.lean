/-
  The generic layer, part 10: each step is sound: variables, structs, rows, stores.
-/
import Derived.Test.YtmplpdjddjiioaaDoorA9
namespace Go.Ab
section
variable {P : Program} {B : Base} {β : Name → Option Blk} {s : St} {tm : Array Value} {w : World} {t : Nat}

theorem zero_run {z : List D} (hz : (P.ti t).z = some z) : ∃ v, (∀ w, (zeroValue t).run P w = .ok v w) ∧ v.cells.toList.mapM zd = some z ∧ ∃ i, P.info? t = some i ∧ i.zero = some v ∧ i.size = (P.ti t).sz ∧ i.bytes = (P.ti t).by' := by
  obtain ⟨i, d, hi, hd, _, hs, hb, hz'⟩ := ti_good (zd_good hz)
  rw [hz] at hz'
  cases hv : i.zero with
  | none => rw [hv] at hz'; cases hz'
  | some v =>
    rw [hv] at hz'
    exact ⟨v, fun w => by simp [zeroValue, typeInfo, hi, hv], hz'.symm, i, hi, hv, hs.symm, hb.symm⟩

theorem alloc_sound (h : Sim B β s tm w) {z : List D} (hz : (P.ti t).z = some z) {d : Nat} (hd : d < B.n) (hu : d ∉ s.used) :
    ∃ v w' β', (Instr.alloc t true (.tuple #[])).run P w = .ok v w' ∧ Sim B β' ((s.add d (.box (z.map .d))).put d (.at [d] 0)) (tm.setIfInBounds d v) w' := by
  obtain ⟨v, hr, hm, _⟩ := zero_run hz
  obtain ⟨h1, h2, h3, h4⟩ := mapM_zd (H := w.heap) (own := s.own B.A β) hm
  obtain ⟨β', hs⟩ := newBox_sound h hd hu (c := v.cells) (cs := z.map .d) (by simpa using h1.symm) (by simpa using h3) (fun i x hi => by
    simp only [List.getElem?_map, Option.map_eq_some_iff] at hi
    obtain ⟨d', hd', rfl⟩ := hi
    obtain ⟨u, hu', hrep⟩ := h4 i d' hd'
    have : v.cells.getD i undef = u := by
      simp only [Array.getElem?_toList] at hu'
      simp [Array.getD_eq_getD_getElem?, hu']
    rw [this]; exact .d _ _ hrep) t
  exact ⟨_, _, β', by simp [Instr.alloc, hr, newVar, newRow], hs⟩

theorem box_sound (h : Sim B β s tm w) {xv : Value} {x : AV} (hx : VR w.heap (s.own B.A β) s.used s.hp β xv x) {cs : List AV} (hc : cellsA x = some cs) {d : Nat} (hd : d < B.n) (hu : d ∉ s.used) :
    ∃ v w' β', (Instr.box t xv).run P w = .ok v w' ∧ Sim B β' ((s.add d (.box cs)).put d (.at [d] 0)) (tm.setIfInBounds d v) w' := by
  obtain ⟨h1, h2, h3⟩ := cellsA_rep hc hx
  obtain ⟨β', hs⟩ := newBox_sound h hd hu h1 h2 h3 t
  exact ⟨_, _, β', by simp [Instr.box, newVar, newRow], hs⟩

/-! ### A struct built -/
theorem splice_length {α : Type} (l : List α) (c : Nat) (xs : List α) (h : c + xs.length ≤ l.length) : (splice l c xs).length = l.length := by simp [splice]; omega
theorem splice_get {α : Type} (l : List α) (c : Nat) (xs : List α) (h : c + xs.length ≤ l.length) (i : Nat) : (splice l c xs)[i]? = if c ≤ i ∧ i < c + xs.length then xs[i - c]? else l[i]? := by
  unfold splice
  by_cases h1 : i < c
  · rw [if_neg (by omega), List.getElem?_append_left (by simp; omega)]; simp [h1]
  · have e : (l.take c).length = c := by simp; omega
    rw [List.getElem?_append_right (by omega), e]
    by_cases h2 : i < c + xs.length
    · rw [if_pos ⟨by omega, h2⟩, List.getElem?_append_left (by omega)]
    · rw [if_neg (by omega), List.getElem?_append_right (by omega), List.getElem?_drop]; congr 1; omega

theorem fill_step (cells vs : Array Value) (off : Nat) (h : off + vs.size ≤ cells.size) :
    ((vs.zipIdx.foldl (fun cs (c, j) => cs.setIfInBounds (off + j) c) cells : Array Value)).toList = splice cells.toList off vs.toList := by
  have gen : ∀ (l : List Value) (k : Nat) (cells : Array Value), off + k + l.length ≤ cells.size →
      ((l.zipIdx k).foldl (fun (cs : Array Value) (p : Value × Nat) => cs.setIfInBounds (off + p.2) p.1) cells).toList = splice cells.toList (off + k) l := by
    intro l
    induction l with
    | nil => intro k cells h; simp [splice]
    | cons a r ih =>
      intro k cells h
      simp only [List.zipIdx_cons, List.foldl_cons, List.length_cons] at h ⊢
      rw [ih (k + 1) _ (by simp; omega)]
      apply List.ext_getElem?
      intro i
      rw [splice_get _ _ _ (by simp; omega), splice_get _ _ _ (by simp; omega)]
      simp only [Array.toList_setIfInBounds, List.length_cons, List.getElem?_set, Array.length_toList]
      by_cases h1 : i = off + k
      · subst h1
        simp [show ¬ (off + (k + 1) ≤ off + k) by omega, show off + k < cells.size by omega]
      · by_cases h2 : off + (k + 1) ≤ i ∧ i < off + (k + 1) + r.length
        · rw [if_pos h2, if_pos (by omega), show i - (off + k) = (i - (off + (k + 1))) + 1 by omega, List.getElem?_cons_succ]
        · rw [if_neg h2, if_neg (by omega), if_neg (by omega)]
  have := gen vs.toList 0 cells (by simpa using h)
  rw [Nat.add_zero] at this
  rw [← this]
  rw [← Array.foldl_toList, Array.toList_zipIdx]

section
variable {H : Array Obj} {own : Nat → Prop} {used : List Nat} {hp : Name → Option Ob}
/-- Cells stand for a list. -/
def CR (H : Array Obj) (own : Nat → Prop) (used : List Nat) (hp : Name → Option Ob) (β : Name → Option Blk) (vs : List Value) (cs : List AV) : Prop :=
  vs.length = cs.length ∧ (∀ v ∈ vs, v.oneCell' = true) ∧ ∀ (i : Nat) x, cs[i]? = some x → VR H own used hp β (vs.getD i undef) x
theorem CR.splice {vs us : List Value} {cs ds : List AV} (h : CR H own used hp β vs cs) (g : CR H own used hp β us ds) {c : Nat} (hc : c + us.length ≤ vs.length) : CR H own used hp β (splice vs c us) (splice cs c ds) := by
  have hc' : c + ds.length ≤ cs.length := by rw [← h.1, ← g.1]; exact hc
  refine ⟨by rw [splice_length _ _ _ hc, splice_length _ _ _ hc', h.1], fun v hv => ?_, fun i x hi => ?_⟩
  · simp only [Ab.splice, List.mem_append] at hv
    rcases hv with hv | hv | hv
    · exact h.2.1 v (List.mem_of_mem_take hv)
    · exact g.2.1 v hv
    · exact h.2.1 v (List.mem_of_mem_drop hv)
  · rw [splice_get _ _ _ hc'] at hi
    rw [List.getD_eq_getElem?_getD, splice_get _ _ _ hc, g.1]
    split at hi
    · rename_i hcond
      rw [if_pos hcond]
      have := g.2.2 _ x hi
      rwa [List.getD_eq_getElem?_getD] at this
    · rename_i hcond
      rw [if_neg hcond]
      have := h.2.2 _ x hi
      rwa [List.getD_eq_getElem?_getD] at this
theorem CR.of_cells {v : Value} {x : AV} {cs : List AV} (hc : cellsA x = some cs) (h : VR H own used hp β v x) : CR H own used hp β v.cells.toList cs := by
  obtain ⟨h1, h2, h3⟩ := cellsA_rep hc h
  refine ⟨by simpa using h1, by simpa using h2, fun i x hi => ?_⟩
  have := h3 i x hi
  simpa [Array.getD_eq_getD_getElem?, List.getD_eq_getElem?_getD] using this
theorem CR.mkAgg {vs : List Value} {cs : List AV} (h : CR H own used hp β vs cs) : VR H own used hp β (.agg vs.toArray) (mkAgg cs) :=
  mkAgg_rep h.1 h.2.1 fun i v x hv hx => by
    have := h.2.2 i x hx
    rwa [List.getD_eq_getElem?_getD, hv] at this
theorem CR.zero {v : Value} {z : List D} (hm : v.cells.toList.mapM zd = some z) : CR H own used hp β v.cells.toList (z.map .d) := by
  obtain ⟨h1, h2, h3, h4⟩ := mapM_zd (H := H) (own := own) hm
  refine ⟨by simpa using h1.symm, h3, fun i x hi => ?_⟩
  simp only [List.getElem?_map, Option.map_eq_some_iff] at hi
  obtain ⟨d', hd', rfl⟩ := hi
  obtain ⟨u, hu', hrep⟩ := h4 i d' hd'
  rw [List.getD_eq_getElem?_getD, hu']; exact .d _ _ hrep

theorem buildG_fill {fl : List Field} (place : Nat → Option (Nat × Nat)) (hpl : ∀ f o tt, (fl.map fun f => (f.offset, f.type))[f]? = some (o, tt) → place f = some (o, (P.ti tt).sz)) :
    ∀ (parts : List (Nat × AV)) (pv : List (Nat × Value)) (cells : Array Value) (cs cs' : List AV), CR H own used hp β cells.toList cs →
      pv.length = parts.length → (∀ (i : Nat) q u, parts[i]? = some q → pv[i]? = some u → u.1 = q.1 ∧ VR H own used hp β u.2 q.2) →
      buildG P.ti (fl.map fun f => (f.offset, f.type)) cs parts = some cs' → ∃ cells', Instr.fill place cells pv = some cells' ∧ CR H own used hp β cells'.toList cs'
  | [], [], cells, cs, cs', hc, _, _, h => by simp [buildG] at h; subst h; exact ⟨cells, rfl, hc⟩
  | q :: r, u :: pr, cells, cs, cs', hc, hl, hq, h => by
    obtain ⟨e1, hv⟩ := hq 0 q u rfl rfl
    simp only [buildG] at h
    split at h
    · rename_i o tt vs hf hcv
      split at h
      · rename_i hcond
        have hcr := CR.of_cells hcv hv
        have hpl' := hpl _ _ _ hf
        have hlen : u.2.cells.size = vs.length := by simpa using hcr.1
        have hcs := hc.1
        simp at hcs
        have hno : ¬ (u.2.cells.size ≠ (P.ti tt).sz || o + u.2.cells.size > cells.size) = true := by simp; omega
        have hstep := fill_step cells u.2.cells o (by omega)
        have hc2 := hc.splice hcr (c := o) (by simp; omega)
        rw [← hstep] at hc2
        obtain ⟨cells', hfill, hcr'⟩ := buildG_fill place hpl r pr _ _ cs' hc2 (by simpa using hl) (fun i q' u' h1 h2 => hq (i + 1) q' u' (by simpa using h1) (by simpa using h2)) h
        refine ⟨cells', ?_, hcr'⟩
        obtain ⟨i, v⟩ := u
        simp only at e1 hno hfill ⊢
        subst e1
        simp only [Instr.fill, hpl', if_neg hno]
        exact hfill
      · cases h
    · cases h
  | [], _ :: _, _, _, _, _, hl, _, _ => by simp at hl
  | _ :: _, [], _, _, _, _, hl, _, _ => by simp at hl
end

theorem allGood_places : ∀ (fl : List Field), allGood P.ti (fl.map fun f => (f.offset, f.type)) = true →
    fl.mapM (fun f => (P.info? f.type).map fun i => (f.offset, i.size)) = some (fl.map fun f => (f.offset, (P.ti f.type).sz))
  | [], _ => rfl
  | f :: r, h => by
    simp only [List.map_cons, allGood, Bool.and_eq_true, Bool.not_eq_true'] at h
    obtain ⟨i, d, hi, _, _, hs, _⟩ := ti_good h.1
    simp [List.mapM_cons, hi, allGood_places r h.2, hs]

theorem build_sound {parts : List (Nat × AV)} {pv : Array (Nat × Value)} (hl : pv.size = parts.length)
    (hq : ∀ (i : Nat) q u, parts[i]? = some q → pv.toList[i]? = some u → u.1 = q.1 ∧ VR w.heap (s.own B.A β) s.used s.hp β u.2 q.2) :
    RV (buildR P.ti (P.ti t) parts) fun y => ∃ v, (Instr.build t pv).run P w = .ok v w ∧ VR w.heap (s.own B.A β) s.used s.hp β v y := by
  unfold buildR
  split <;> try trivial
  rename_i fs zs hk hz
  split <;> try trivial
  rename_i hag
  obtain ⟨fl, hu, rfl⟩ := ti_struct hk
  obtain ⟨v, hr, hm, it, hi, hiz, _, _⟩ := zero_run hz
  refine RV.ofO fun y hy => ?_
  simp only [Option.map_eq_some_iff] at hy
  obtain ⟨cs, hb, rfl⟩ := hy
  have hpl := allGood_places fl.toList hag
  obtain ⟨cells', hfill, hcr⟩ := buildG_fill (P := P) (fl := fl.toList) ((fl.toList.map fun f => (f.offset, (P.ti f.type).sz)).toArray[·]?) (fun f o tt hf => by
      simp only [List.getElem?_map, Option.map_eq_some_iff, Prod.mk.injEq] at hf
      obtain ⟨fd, hfd, rfl, rfl⟩ := hf
      simp [show fl[f]? = some fd by simpa using hfd]) parts pv.toList v.cells (zs.map .d) cs (CR.zero (H := w.heap) (own := s.own B.A β) (used := s.used) (hp := s.hp) (β := β) hm) (by simpa using hl) hq hb
  refine ⟨_, run_build w t pv cells' ?_, by simpa using hcr.mkAgg⟩
  simp only [Program.built, hi, hu, hiz, hpl]
  exact hfill

/-! ### A row built -/
theorem zeros_getD (z : Array Value) (n k : Nat) : ((Array.range n).map (z[· % z.size]!)).size = n := by simp

/-- Rows: each element's cells at its place. -/
def rowOK (H : Array Obj) (own : Nat → Prop) (c : Array Value) (o : Nat) (wf : W) (xs : List D) : Prop :=
  (∀ x ∈ xs, okW wf x) ∧ ∀ i x j d, xs[i]? = some x → x.cells[j]? = some d → Rep H own (c.getD (o + i * wd wf + j) undef) d

theorem cellsD_cells {d : D} {cs : List AV} (h : cellsD d = some cs) : cs = d.cells.map .d := by
  cases d <;> simp only [cellsD, Option.some.injEq] at h <;> subst h <;> rfl
theorem cells_len {H : Array Obj} {own : Nat → Prop} {v : Value} {d : D} (h : Rep H own v d) : v.cells.size = d.cells.length ∧ (∀ u ∈ v.cells, u.oneCell' = true) ∧ (∀ x ∈ d.cells, x.scal = true) ∧
    ∀ j x, d.cells[j]? = some x → Rep H own (v.cells.getD j undef) x := by
  obtain ⟨cs, hc⟩ : ∃ cs, cellsD d = some cs := by cases d <;> exact ⟨_, rfl⟩
  have e := cellsD_cells hc
  obtain ⟨h1, h2, h3⟩ := cellsD_rep (used := []) (hp := fun _ => none) (β := fun _ => none) hc h
  subst e
  refine ⟨by simpa using h1, h2, ?_, fun j x hj => (h3 j (.d x) (by simp [hj])).toD⟩
  intro x hx
  cases d with
  | agg cs => cases h with | agg _ _ _ hsc _ => exact hsc x hx
  | _ => simp [D.cells] at hx; subst hx; rfl

theorem fill_rows {H : Array Obj} {own : Nat → Prop} (size : Nat) (wf : W) (hw : wd wf = size) : ∀ (parts : List (Nat × AV)) (pv : List (Nat × Value)) (k : Nat) (cells : Array Value) (pre xs : List D), pre.length = k → rowOK H own cells 0 wf pre →
    pv.length = parts.length → (∀ (i : Nat) q u, parts[i]? = some q → pv[i]? = some u → u.1 = q.1 ∧ ∀ d, q.2 = .d d → Rep H own u.2 d) → partsD k parts = some xs → (∀ x ∈ xs, okW wf x) → (k + xs.length) * size ≤ cells.size →
    ∃ cells', Instr.fill (fun i => some (i * size, size)) cells pv = some cells' ∧ cells'.size = cells.size ∧ rowOK H own cells' 0 wf (pre ++ xs)
  | [], [], k, cells, pre, xs, hk, hpre, _, _, h, _, _ => by
    simp [partsD] at h; subst h
    exact ⟨cells, rfl, rfl, by simpa using hpre⟩
  | q :: r, u :: pr, k, cells, pre, xs, hk, hpre, hl, hq, h, hok, hz => by
    obtain ⟨e1, hv⟩ := hq 0 q u rfl rfl
    simp only [partsD] at h
    split at h <;> try cases h
    rename_i d hqd
    split at h <;> try cases h
    rename_i hqk
    simp only [Option.map_eq_some_iff] at h
    obtain ⟨xs', hx', rfl⟩ := h
    have hrep := hv d hqd
    have hokd : okW wf d := hok d List.mem_cons_self
    obtain ⟨c1, c2, c3, c4⟩ := cells_len hrep
    rw [okW_len hokd, hw] at c1
    simp only [List.length_cons] at hz
    have hle : k * size + size ≤ (k + (xs'.length + 1)) * size := by
      rw [← Nat.succ_mul]; exact Nat.mul_le_mul_right _ (by omega)
    have hno : ¬ (u.2.cells.size ≠ size || k * size + u.2.cells.size > cells.size) = true := by simp; omega
    have hstep := fill_step cells u.2.cells (k * size) (by omega)
    obtain ⟨cells1, hc1⟩ : ∃ c, (u.2.cells.zipIdx.foldl (fun cs (c, j) => cs.setIfInBounds (k * size + j) c) cells : Array Value) = c := ⟨_, rfl⟩
    rw [hc1] at hstep
    have hsz1 : cells1.size = cells.size := by
      have := congrArg List.length hstep
      rw [splice_length _ _ _ (by simp; omega)] at this; simpa using this
    have hget : ∀ i, cells1.getD i undef = if k * size ≤ i ∧ i < k * size + size then u.2.cells.getD (i - k * size) undef else cells.getD i undef := by
      intro i
      have := splice_get cells.toList (k * size) u.2.cells.toList (by simp; omega) i
      rw [← hstep] at this
      simp only [Array.getElem?_toList, Array.length_toList, c1] at this
      simp only [Array.getD_eq_getD_getElem?, this]
      split <;> rfl
    have hpre1 : rowOK H own cells1 0 wf (pre ++ [d]) := by
      refine ⟨fun x hx => ?_, fun i x j d' hi hj => ?_⟩
      · rcases List.mem_append.1 hx with hx | hx
        · exact hpre.1 x hx
        · simp at hx; subst hx; exact hokd
      · rw [hget]
        rcases Nat.lt_or_ge i pre.length with hlt | hge
        · rw [List.getElem?_append_left hlt] at hi
          have hxo := hpre.1 x (List.mem_of_getElem? hi)
          have hjl : j < wd wf := by rw [← okW_len hxo]; exact (List.getElem?_eq_some_iff.1 hj).1
          have : i * wd wf + wd wf ≤ k * size := by rw [← Nat.succ_mul, hw]; exact Nat.mul_le_mul_right _ (by omega)
          rw [if_neg (by omega)]
          exact hpre.2 i x j d' hi hj
        · rw [List.getElem?_append_right hge] at hi
          have hi0 : i = pre.length := by
            have := (List.getElem?_eq_some_iff.1 hi).1; simp at this; omega
          subst hi0
          simp at hi; subst hi
          have hjl : j < wd wf := by rw [← okW_len hokd]; exact (List.getElem?_eq_some_iff.1 hj).1
          rw [hk, hw, if_pos (by omega), show 0 + k * size + j - k * size = j by omega]
          exact c4 j d' hj
    obtain ⟨cells', hfill, hs', hrow⟩ := fill_rows size wf hw r pr (k + 1) cells1 (pre ++ [d]) xs' (by simp [hk]) hpre1 (by simpa using hl) (fun i q' u' h1 h2 => hq (i + 1) q' u' (by simpa using h1) (by simpa using h2)) hx'
      (fun x hx => hok x (List.mem_cons_of_mem _ hx)) (by rw [hsz1]; rw [show k + 1 + xs'.length = k + (xs'.length + 1) by omega]; exact hz)
    refine ⟨cells', ?_, hs'.trans hsz1, by simpa using hrow⟩
    obtain ⟨i, v⟩ := u
    simp only at e1 hno hfill hc1 ⊢
    subst e1
    rw [hqk] at *
    simp only [Instr.fill, if_neg hno, hc1]
    exact hfill
  | [], _ :: _, _, _, _, _, _, _, hl, _, _, _, _ => by simp at hl
  | _ :: _, [], _, _, _, _, _, _, hl, _, _, _, _ => by simp at hl

theorem buildSlice_sound (h : Sim B β s tm w) {parts : List (Nat × AV)} {pv : Array (Nat × Value)} (hl : pv.size = parts.length)
    (hq : ∀ (i : Nat) q u, parts[i]? = some q → pv.toList[i]? = some u → u.1 = q.1 ∧ VR w.heap (s.own B.A β) s.used s.hp β u.2 q.2) {e : Nat} (hk : (P.ti t).k = .slice e) {xs : List D} (hx : partsD 0 parts = some xs)
    {z : List D} (hz : (P.ti e).z = some z) (hw : (P.ti e).isW (P.ti e).w = true) (hok : ∀ x ∈ xs, okW (P.ti e).w x) (hb : xs.length * (P.ti e).sz ≤ 16777216) {d : Nat} (hd : d < B.n) (hu : d ∉ s.used) :
    ∃ v w' β', (Instr.buildSlice t xs.length pv).run P w = .ok v w' ∧ Sim B β' ((s.add d (.arr (P.ti e).w xs)).put d (.vw [d] 0 xs.length)) (tm.setIfInBounds d v) w' := by
  obtain ⟨hg, hwd, _⟩ := isW_spec hw
  obtain ⟨v, hr, hm, it, hi, hiz, _, _⟩ := zero_run hz
  obtain ⟨zc, hzc⟩ : ∃ zc : Array Value, (Array.range (xs.length * (P.ti e).sz)).map ((if xs.length * (P.ti e).sz = 0 then #[] else v.cells)[· % (if xs.length * (P.ti e).sz = 0 then #[] else v.cells).size]!) = zc := ⟨_, rfl⟩
  have hzs : zc.size = xs.length * (P.ti e).sz := by rw [← hzc]; simp
  obtain ⟨cells', hfill, hs', hrow⟩ := fill_rows (H := w.heap) (own := s.own B.A β) (P.ti e).sz (P.ti e).w hwd parts pv.toList 0 zc [] xs rfl ⟨fun x hx => by simp at hx, fun i x j d hi => by simp at hi⟩ (by simpa using hl)
    (fun i q u h1 h2 => let ⟨a, b⟩ := hq i q u h1 h2; ⟨a, fun d hd => by rw [hd] at b; exact b.toD⟩) hx hok (by simp; omega)
  obtain ⟨β', hsim⟩ := newArr_sound h hd hu (c := cells') (wf := (P.ti e).w) (xs := xs) (cap := xs.length) (Nat.le_refl _) (by rw [hwd, hs', hzs]; exact Nat.le_refl _) hok (fun i x j d hi hj => by
    have := hrow.2 i x j d (by simpa using hi) hj
    simpa using this) e
  refine ⟨_, _, β', ?_, hsim⟩
  have hb' : ¬ (xs.length * (P.ti e).sz > 2 ^ 24) := by omega
  simp only [Instr.buildSlice, Sem.run_bind, run_underlying (ti_slice hk), Result.andThen_ok, run_sizeOf hg, if_neg hb']
  by_cases h0 : xs.length * (P.ti e).sz = 0
  · simp only [h0, if_true] at hzc ⊢
    simp only [Sem.run_pure, Result.andThen_ok, hzc, hfill, newRow, Sem.run_bind, run_newObj]
    rfl
  · simp only [h0, if_false] at hzc ⊢
    simp only [Sem.run_bind, hr, Sem.run_pure, Result.andThen_ok, hzc, hfill, newRow, run_newObj]
    rfl
end
end Go.Ab
