/-
  The generic layer, part 10: each step is sound: variables, structs, rows, stores. (with the parts that follow it)
-/
import Derived.Test.YtjoneaifakonjaaDoorA9
set_option linter.all false
/-! ### The generic layer, part 10: each step is sound: variables, structs, rows, stores. -/
namespace Go.Ab
section
variable {P : Program} {B : Base} {β : Name → Option Blk} {s : St} {tm : Array Value} {w : World} {t : Nat}

theorem zero_run {z : List D} (hz : (P.ti t).z = some z) : ∃ v, (∀ w, (zeroValue t).run P w = .ok v w) ∧ v.cells.toList.mapM zd = some z ∧ ∃ i, P.info? t = some i ∧ i.zero = some v ∧ i.size = (P.ti t).sz ∧ i.bytes = (P.ti t).by' := by
  obtain ⟨i, d, hi, hd, _, hs, hb, hz'⟩ := ti_good (zd_good hz)
  rw [hz] at hz'
  cases hv : i.zero with
  | none => rw [hv] at hz'; cases hz'
  | some v =>
    rw [hv] at hz'
    exact ⟨v, fun w => by simp [zeroValue, typeInfo, hi, hv], hz'.symm, i, hi, hv, hs.symm, hb.symm⟩

theorem alloc_sound (h : Sim B β s tm w) {z : List D} (hz : (P.ti t).z = some z) {d : Nat} (hd : d < B.n) (hu : d ∉ s.used) :
    ∃ v w' β', (Instr.alloc t true (.tuple #[])).run P w = .ok v w' ∧ Sim B β' ((s.add d (.box (z.map .d))).put d (.bx [d] 0)) (tm.setIfInBounds d v) w' := by
  obtain ⟨v, hr, hm, _⟩ := zero_run hz
  obtain ⟨h1, h2, h3, h4⟩ := mapM_zd (H := w.heap) (own := s.own B.A β) hm
  obtain ⟨β', hs⟩ := newBox_sound h hd hu (c := v.cells) (cs := z.map .d) (by simpa using h1.symm) (by simpa using h3) (fun i x hi => by
    simp only [List.getElem?_map, Option.map_eq_some_iff] at hi
    obtain ⟨d', hd', rfl⟩ := hi
    obtain ⟨u, hu', hrep⟩ := h4 i d' hd'
    have : v.cells.getD i undef = u := by
      simp only [Array.getElem?_toList] at hu'
      simp [Array.getD_eq_getD_getElem?, hu']
    rw [this]; exact .d _ _ hrep) t
  exact ⟨_, _, β', by simp [Instr.alloc, hr, newVar, newRow], hs⟩

theorem box_sound (h : Sim B β s tm w) {xv : Value} {x : AV} (hx : VR w.heap (s.own B.A β) s.used s.hp β xv x) {cs : List AV} (hc : cellsA x = some cs) {d : Nat} (hd : d < B.n) (hu : d ∉ s.used) :
    ∃ v w' β', (Instr.box t xv).run P w = .ok v w' ∧ Sim B β' ((s.add d (.box cs)).put d (.bx [d] 0)) (tm.setIfInBounds d v) w' := by
  obtain ⟨h1, h2, h3⟩ := cellsA_rep hc hx
  obtain ⟨β', hs⟩ := newBox_sound h hd hu h1 h2 h3 t
  exact ⟨_, _, β', by simp [Instr.box, newVar, newRow], hs⟩

/-! ### A struct built -/
theorem splice_length {α : Type} (l : List α) (c : Nat) (xs : List α) (h : c + xs.length ≤ l.length) : (splice l c xs).length = l.length := by simp [splice]; omega
theorem splice_get {α : Type} (l : List α) (c : Nat) (xs : List α) (h : c + xs.length ≤ l.length) (i : Nat) : (splice l c xs)[i]? = if c ≤ i ∧ i < c + xs.length then xs[i - c]? else l[i]? := by
  unfold splice
  by_cases h1 : i < c
  · rw [if_neg (by omega), List.getElem?_append_left (by simp; omega)]; simp [h1]
  · have e : (l.take c).length = c := by simp; omega
    rw [List.getElem?_append_right (by omega), e]
    by_cases h2 : i < c + xs.length
    · rw [if_pos ⟨by omega, h2⟩, List.getElem?_append_left (by omega)]
    · rw [if_neg (by omega), List.getElem?_append_right (by omega), List.getElem?_drop]; congr 1; omega

theorem fill_step (cells vs : Array Value) (off : Nat) (h : off + vs.size ≤ cells.size) :
    ((vs.zipIdx.foldl (fun cs (c, j) => cs.setIfInBounds (off + j) c) cells : Array Value)).toList = splice cells.toList off vs.toList := by
  have gen : ∀ (l : List Value) (k : Nat) (cells : Array Value), off + k + l.length ≤ cells.size →
      ((l.zipIdx k).foldl (fun (cs : Array Value) (p : Value × Nat) => cs.setIfInBounds (off + p.2) p.1) cells).toList = splice cells.toList (off + k) l := by
    intro l
    induction l with
    | nil => intro k cells h; simp [splice]
    | cons a r ih =>
      intro k cells h
      simp only [List.zipIdx_cons, List.foldl_cons, List.length_cons] at h ⊢
      rw [ih (k + 1) _ (by simp; omega)]
      apply List.ext_getElem?
      intro i
      rw [splice_get _ _ _ (by simp; omega), splice_get _ _ _ (by simp; omega)]
      simp only [Array.toList_setIfInBounds, List.length_cons, List.getElem?_set, Array.length_toList]
      by_cases h1 : i = off + k
      · subst h1
        simp [show ¬ (off + (k + 1) ≤ off + k) by omega, show off + k < cells.size by omega]
      · by_cases h2 : off + (k + 1) ≤ i ∧ i < off + (k + 1) + r.length
        · rw [if_pos h2, if_pos (by omega), show i - (off + k) = (i - (off + (k + 1))) + 1 by omega, List.getElem?_cons_succ]
        · rw [if_neg h2, if_neg (by omega), if_neg (by omega)]
  have := gen vs.toList 0 cells (by simpa using h)
  rw [Nat.add_zero] at this
  rw [← this]
  rw [← Array.foldl_toList, Array.toList_zipIdx]

section
variable {H : Array Obj} {own : Nat → Prop} {used : List Nat} {hp : Name → Option Ob}
/-- Cells stand for a list. -/
def CR (H : Array Obj) (own : Nat → Prop) (used : List Nat) (hp : Name → Option Ob) (β : Name → Option Blk) (vs : List Value) (cs : List AV) : Prop :=
  vs.length = cs.length ∧ (∀ v ∈ vs, v.oneCell' = true) ∧ ∀ (i : Nat) x, cs[i]? = some x → VR H own used hp β (vs.getD i undef) x
theorem CR.splice {vs us : List Value} {cs ds : List AV} (h : CR H own used hp β vs cs) (g : CR H own used hp β us ds) {c : Nat} (hc : c + us.length ≤ vs.length) : CR H own used hp β (splice vs c us) (splice cs c ds) := by
  have hc' : c + ds.length ≤ cs.length := by rw [← h.1, ← g.1]; exact hc
  refine ⟨by rw [splice_length _ _ _ hc, splice_length _ _ _ hc', h.1], fun v hv => ?_, fun i x hi => ?_⟩
  · simp only [Ab.splice, List.mem_append] at hv
    rcases hv with hv | hv | hv
    · exact h.2.1 v (List.mem_of_mem_take hv)
    · exact g.2.1 v hv
    · exact h.2.1 v (List.mem_of_mem_drop hv)
  · rw [splice_get _ _ _ hc'] at hi
    rw [List.getD_eq_getElem?_getD, splice_get _ _ _ hc, g.1]
    split at hi
    · rename_i hcond
      rw [if_pos hcond]
      have := g.2.2 _ x hi
      rwa [List.getD_eq_getElem?_getD] at this
    · rename_i hcond
      rw [if_neg hcond]
      have := h.2.2 _ x hi
      rwa [List.getD_eq_getElem?_getD] at this
theorem CR.of_cells {v : Value} {x : AV} {cs : List AV} (hc : cellsA x = some cs) (h : VR H own used hp β v x) : CR H own used hp β v.cells.toList cs := by
  obtain ⟨h1, h2, h3⟩ := cellsA_rep hc h
  refine ⟨by simpa using h1, by simpa using h2, fun i x hi => ?_⟩
  have := h3 i x hi
  simpa [Array.getD_eq_getD_getElem?, List.getD_eq_getElem?_getD] using this
theorem CR.mkAgg {vs : List Value} {cs : List AV} (h : CR H own used hp β vs cs) : VR H own used hp β (.agg vs.toArray) (mkAgg cs) :=
  mkAgg_rep h.1 h.2.1 fun i v x hv hx => by
    have := h.2.2 i x hx
    rwa [List.getD_eq_getElem?_getD, hv] at this
theorem CR.zero {v : Value} {z : List D} (hm : v.cells.toList.mapM zd = some z) : CR H own used hp β v.cells.toList (z.map .d) := by
  obtain ⟨h1, h2, h3, h4⟩ := mapM_zd (H := H) (own := own) hm
  refine ⟨by simpa using h1.symm, h3, fun i x hi => ?_⟩
  simp only [List.getElem?_map, Option.map_eq_some_iff] at hi
  obtain ⟨d', hd', rfl⟩ := hi
  obtain ⟨u, hu', hrep⟩ := h4 i d' hd'
  rw [List.getD_eq_getElem?_getD, hu']; exact .d _ _ hrep

theorem buildG_fill {fl : List Field} (place : Nat → Option (Nat × Nat)) (hpl : ∀ f o tt, (fl.map fun f => (f.offset, f.type))[f]? = some (o, tt) → place f = some (o, (P.ti tt).sz)) :
    ∀ (parts : List (Nat × AV)) (pv : List (Nat × Value)) (cells : Array Value) (cs cs' : List AV), CR H own used hp β cells.toList cs →
      pv.length = parts.length → (∀ (i : Nat) q u, parts[i]? = some q → pv[i]? = some u → u.1 = q.1 ∧ VR H own used hp β u.2 q.2) →
      buildG P.ti (fl.map fun f => (f.offset, f.type)) cs parts = some cs' → ∃ cells', Instr.fill place cells pv = some cells' ∧ CR H own used hp β cells'.toList cs'
  | [], [], cells, cs, cs', hc, _, _, h => by simp [buildG] at h; subst h; exact ⟨cells, rfl, hc⟩
  | q :: r, u :: pr, cells, cs, cs', hc, hl, hq, h => by
    obtain ⟨e1, hv⟩ := hq 0 q u rfl rfl
    simp only [buildG] at h
    split at h
    · rename_i o tt vs hf hcv
      split at h
      · rename_i hcond
        have hcr := CR.of_cells hcv hv
        have hpl' := hpl _ _ _ hf
        have hlen : u.2.cells.size = vs.length := by simpa using hcr.1
        have hcs := hc.1
        simp at hcs
        have hno : ¬ (u.2.cells.size ≠ (P.ti tt).sz || o + u.2.cells.size > cells.size) = true := by simp; omega
        have hstep := fill_step cells u.2.cells o (by omega)
        have hc2 := hc.splice hcr (c := o) (by simp; omega)
        rw [← hstep] at hc2
        obtain ⟨cells', hfill, hcr'⟩ := buildG_fill place hpl r pr _ _ cs' hc2 (by simpa using hl) (fun i q' u' h1 h2 => hq (i + 1) q' u' (by simpa using h1) (by simpa using h2)) h
        refine ⟨cells', ?_, hcr'⟩
        obtain ⟨i, v⟩ := u
        simp only at e1 hno hfill ⊢
        subst e1
        simp only [Instr.fill, hpl', if_neg hno]
        exact hfill
      · cases h
    · cases h
  | [], _ :: _, _, _, _, _, hl, _, _ => by simp at hl
  | _ :: _, [], _, _, _, _, hl, _, _ => by simp at hl
end

theorem allGood_places : ∀ (fl : List Field), allGood P.ti (fl.map fun f => (f.offset, f.type)) = true →
    fl.mapM (fun f => (P.info? f.type).map fun i => (f.offset, i.size)) = some (fl.map fun f => (f.offset, (P.ti f.type).sz))
  | [], _ => rfl
  | f :: r, h => by
    simp only [List.map_cons, allGood, Bool.and_eq_true, Bool.not_eq_true'] at h
    obtain ⟨i, d, hi, _, _, hs, _⟩ := ti_good h.1
    simp [List.mapM_cons, hi, allGood_places r h.2, hs]

theorem build_sound {parts : List (Nat × AV)} {pv : Array (Nat × Value)} (hl : pv.size = parts.length)
    (hq : ∀ (i : Nat) q u, parts[i]? = some q → pv.toList[i]? = some u → u.1 = q.1 ∧ VR w.heap (s.own B.A β) s.used s.hp β u.2 q.2) :
    RV (buildR P.ti (P.ti t) parts) fun y => ∃ v, (Instr.build t pv).run P w = .ok v w ∧ VR w.heap (s.own B.A β) s.used s.hp β v y := by
  unfold buildR
  split <;> try trivial
  rename_i fs zs hk hz
  split <;> try trivial
  rename_i hag
  obtain ⟨fl, hu, rfl⟩ := ti_struct hk
  obtain ⟨v, hr, hm, it, hi, hiz, _, _⟩ := zero_run hz
  refine RV.ofO fun y hy => ?_
  simp only [Option.map_eq_some_iff] at hy
  obtain ⟨cs, hb, rfl⟩ := hy
  have hpl := allGood_places fl.toList hag
  obtain ⟨cells', hfill, hcr⟩ := buildG_fill (P := P) (fl := fl.toList) ((fl.toList.map fun f => (f.offset, (P.ti f.type).sz)).toArray[·]?) (fun f o tt hf => by
      simp only [List.getElem?_map, Option.map_eq_some_iff, Prod.mk.injEq] at hf
      obtain ⟨fd, hfd, rfl, rfl⟩ := hf
      simp [show fl[f]? = some fd by simpa using hfd]) parts pv.toList v.cells (zs.map .d) cs (CR.zero (H := w.heap) (own := s.own B.A β) (used := s.used) (hp := s.hp) (β := β) hm) (by simpa using hl) hq hb
  refine ⟨_, run_build w t pv cells' ?_, by simpa using hcr.mkAgg⟩
  simp only [Program.built, hi, hu, hiz, hpl]
  exact hfill

/-! ### A row built -/
theorem zeros_getD (z : Array Value) (n : Nat) : ((Array.range n).map (z[· % z.size]!)).size = n := by simp

/-- Rows: each element's cells at its place. -/
def rowOK (H : Array Obj) (own : Nat → Prop) (c : Array Value) (o : Nat) (wf : W) (xs : List D) : Prop :=
  (∀ x ∈ xs, okW wf x) ∧ ∀ i x j d, xs[i]? = some x → x.cells[j]? = some d → Rep H own (c.getD (o + i * wd wf + j) undef) d

theorem cellsD_cells {d : D} {cs : List AV} (h : cellsD d = some cs) : cs = d.cells.map .d := by
  cases d <;> simp only [cellsD, Option.some.injEq] at h <;> subst h <;> rfl
theorem cells_len {H : Array Obj} {own : Nat → Prop} {v : Value} {d : D} (h : Rep H own v d) : v.cells.size = d.cells.length ∧ (∀ u ∈ v.cells, u.oneCell' = true) ∧ (∀ x ∈ d.cells, x.scal = true) ∧
    ∀ j x, d.cells[j]? = some x → Rep H own (v.cells.getD j undef) x := by
  obtain ⟨cs, hc⟩ : ∃ cs, cellsD d = some cs := by cases d <;> exact ⟨_, rfl⟩
  have e := cellsD_cells hc
  obtain ⟨h1, h2, h3⟩ := cellsD_rep (used := []) (hp := fun _ => none) (β := fun _ => none) hc h
  subst e
  refine ⟨by simpa using h1, h2, ?_, fun j x hj => (h3 j (.d x) (by simp [hj])).toD⟩
  intro x hx
  cases d with
  | agg cs => cases h with | agg _ _ _ hsc _ => exact hsc x hx
  | _ => simp [D.cells] at hx; subst hx; rfl

theorem fill_rows {H : Array Obj} {own : Nat → Prop} (size : Nat) (wf : W) (hw : wd wf = size) : ∀ (parts : List (Nat × AV)) (pv : List (Nat × Value)) (k : Nat) (cells : Array Value) (pre xs : List D), pre.length = k → rowOK H own cells 0 wf pre →
    pv.length = parts.length → (∀ (i : Nat) q u, parts[i]? = some q → pv[i]? = some u → u.1 = q.1 ∧ ∀ d, q.2 = .d d → Rep H own u.2 d) → partsD k parts = some xs → (∀ x ∈ xs, okW wf x) → (k + xs.length) * size ≤ cells.size →
    ∃ cells', Instr.fill (fun i => some (i * size, size)) cells pv = some cells' ∧ cells'.size = cells.size ∧ rowOK H own cells' 0 wf (pre ++ xs)
  | [], [], k, cells, pre, xs, hk, hpre, _, _, h, _, _ => by
    simp [partsD] at h; subst h
    exact ⟨cells, rfl, rfl, by simpa using hpre⟩
  | q :: r, u :: pr, k, cells, pre, xs, hk, hpre, hl, hq, h, hok, hz => by
    obtain ⟨e1, hv⟩ := hq 0 q u rfl rfl
    simp only [partsD] at h
    split at h <;> try cases h
    rename_i d hqd
    split at h <;> try cases h
    rename_i hqk
    simp only [Option.map_eq_some_iff] at h
    obtain ⟨xs', hx', rfl⟩ := h
    have hrep := hv d hqd
    have hokd : okW wf d := hok d List.mem_cons_self
    obtain ⟨c1, c2, c3, c4⟩ := cells_len hrep
    rw [okW_len hokd, hw] at c1
    simp only [List.length_cons] at hz
    have hle : k * size + size ≤ (k + (xs'.length + 1)) * size := by
      rw [← Nat.succ_mul]; exact Nat.mul_le_mul_right _ (by omega)
    have hno : ¬ (u.2.cells.size ≠ size || k * size + u.2.cells.size > cells.size) = true := by simp; omega
    have hstep := fill_step cells u.2.cells (k * size) (by omega)
    obtain ⟨cells1, hc1⟩ : ∃ c, (u.2.cells.zipIdx.foldl (fun cs (c, j) => cs.setIfInBounds (k * size + j) c) cells : Array Value) = c := ⟨_, rfl⟩
    rw [hc1] at hstep
    have hsz1 : cells1.size = cells.size := by
      have := congrArg List.length hstep
      rw [splice_length _ _ _ (by simp; omega)] at this; simpa using this
    have hget : ∀ i, cells1.getD i undef = if k * size ≤ i ∧ i < k * size + size then u.2.cells.getD (i - k * size) undef else cells.getD i undef := by
      intro i
      have := splice_get cells.toList (k * size) u.2.cells.toList (by simp; omega) i
      rw [← hstep] at this
      simp only [Array.getElem?_toList, Array.length_toList, c1] at this
      simp only [Array.getD_eq_getD_getElem?, this]
      split <;> rfl
    have hpre1 : rowOK H own cells1 0 wf (pre ++ [d]) := by
      refine ⟨fun x hx => ?_, fun i x j d' hi hj => ?_⟩
      · rcases List.mem_append.1 hx with hx | hx
        · exact hpre.1 x hx
        · simp at hx; subst hx; exact hokd
      · rw [hget]
        rcases Nat.lt_or_ge i pre.length with hlt | hge
        · rw [List.getElem?_append_left hlt] at hi
          have hxo := hpre.1 x (List.mem_of_getElem? hi)
          have hjl : j < wd wf := by rw [← okW_len hxo]; exact (List.getElem?_eq_some_iff.1 hj).1
          have : i * wd wf + wd wf ≤ k * size := by rw [← Nat.succ_mul, hw]; exact Nat.mul_le_mul_right _ (by omega)
          rw [if_neg (by omega)]
          exact hpre.2 i x j d' hi hj
        · rw [List.getElem?_append_right hge] at hi
          have hi0 : i = pre.length := by
            have := (List.getElem?_eq_some_iff.1 hi).1; simp at this; omega
          subst hi0
          simp at hi; subst hi
          have hjl : j < wd wf := by rw [← okW_len hokd]; exact (List.getElem?_eq_some_iff.1 hj).1
          rw [hk, hw, if_pos (by omega), show 0 + k * size + j - k * size = j by omega]
          exact c4 j d' hj
    obtain ⟨cells', hfill, hs', hrow⟩ := fill_rows size wf hw r pr (k + 1) cells1 (pre ++ [d]) xs' (by simp [hk]) hpre1 (by simpa using hl) (fun i q' u' h1 h2 => hq (i + 1) q' u' (by simpa using h1) (by simpa using h2)) hx'
      (fun x hx => hok x (List.mem_cons_of_mem _ hx)) (by rw [hsz1]; rw [show k + 1 + xs'.length = k + (xs'.length + 1) by omega]; exact hz)
    refine ⟨cells', ?_, hs'.trans hsz1, by simpa using hrow⟩
    obtain ⟨i, v⟩ := u
    simp only at e1 hno hfill hc1 ⊢
    subst e1
    rw [hqk] at *
    simp only [Instr.fill, if_neg hno, hc1]
    exact hfill
  | [], _ :: _, _, _, _, _, _, _, hl, _, _, _, _ => by simp at hl
  | _ :: _, [], _, _, _, _, _, _, hl, _, _, _, _ => by simp at hl

theorem buildSlice_sound (h : Sim B β s tm w) {parts : List (Nat × AV)} {pv : Array (Nat × Value)} (hl : pv.size = parts.length)
    (hq : ∀ (i : Nat) q u, parts[i]? = some q → pv.toList[i]? = some u → u.1 = q.1 ∧ VR w.heap (s.own B.A β) s.used s.hp β u.2 q.2) {e : Nat} (hk : (P.ti t).k = .slice e) {xs : List D} (hx : partsD 0 parts = some xs)
    {z : List D} (hz : (P.ti e).z = some z) (hw : (P.ti e).isW (P.ti e).w = true) (hok : ∀ x ∈ xs, okW (P.ti e).w x) (hb : xs.length * (P.ti e).sz ≤ 16777216) {d : Nat} (hd : d < B.n) (hu : d ∉ s.used) :
    ∃ v w' β', (Instr.buildSlice t xs.length pv).run P w = .ok v w' ∧ Sim B β' ((s.add d (.arr (P.ti e).w xs)).put d (.vw [d] 0 xs.length)) (tm.setIfInBounds d v) w' := by
  obtain ⟨hg, hwd, _⟩ := isW_spec hw
  obtain ⟨v, hr, hm, it, hi, hiz, _, _⟩ := zero_run hz
  obtain ⟨zc, hzc⟩ : ∃ zc : Array Value, (Array.range (xs.length * (P.ti e).sz)).map ((if xs.length * (P.ti e).sz = 0 then #[] else v.cells)[· % (if xs.length * (P.ti e).sz = 0 then #[] else v.cells).size]!) = zc := ⟨_, rfl⟩
  have hzs : zc.size = xs.length * (P.ti e).sz := by rw [← hzc]; simp
  obtain ⟨cells', hfill, hs', hrow⟩ := fill_rows (H := w.heap) (own := s.own B.A β) (P.ti e).sz (P.ti e).w hwd parts pv.toList 0 zc [] xs rfl ⟨fun x hx => by simp at hx, fun i x j d hi => by simp at hi⟩ (by simpa using hl)
    (fun i q u h1 h2 => let ⟨a, b⟩ := hq i q u h1 h2; ⟨a, fun d hd => by rw [hd] at b; exact b.toD⟩) hx hok (by simp; omega)
  obtain ⟨β', hsim⟩ := newArr_sound h hd hu (c := cells') (wf := (P.ti e).w) (xs := xs) (cap := xs.length) (Nat.le_refl _) (by rw [hwd, hs', hzs]; exact Nat.le_refl _) hok (fun i x j d hi hj => by
    have := hrow.2 i x j d (by simpa using hi) hj
    simpa using this) e
  refine ⟨_, _, β', ?_, hsim⟩
  have hb' : ¬ (xs.length * (P.ti e).sz > 2 ^ 24) := by omega
  simp only [Instr.buildSlice, Sem.run_bind, run_underlying (ti_slice hk), Result.andThen_ok, run_sizeOf hg, if_neg hb']
  by_cases h0 : xs.length * (P.ti e).sz = 0
  · simp only [h0, if_true] at hzc ⊢
    simp only [Sem.run_pure, Result.andThen_ok, hzc, hfill, newRow, Sem.run_bind, run_newObj]
    rfl
  · simp only [h0, if_false] at hzc ⊢
    simp only [Sem.run_bind, hr, Sem.run_pure, Result.andThen_ok, hzc, hfill, newRow, run_newObj]
    rfl
end
end Go.Ab
/-! ### The generic layer, part 11: each step is sound: stores, append, make. -/
namespace Go.Ab
theorem okWb_ok {w : W} {d : D} (h : okWb w d = true) : okW w d := by
  cases w with
  | none => exact h
  | some n => cases d <;> simp [okWb] at h; exact ⟨h.1, h.2⟩

section
variable {P : Program} {B : Base} {β : Name → Option Blk} {s : St} {tm : Array Value} {w : World} {t : Nat}

theorem run_storeVar (hg : (P.ti t).k.isBad = false) {w : World} {b o : Nat} {c : Array Value} {e : TypeId} (hb : w.heap[b]? = some (.cells c e (0, 0))) {v : Value} (hs : v.cells.size = (P.ti t).sz) (hz : o + v.cells.size ≤ c.size) (h1 : ∀ u ∈ v.cells, u.oneCell' = true) :
    (storeVar t ⟨b, o, none⟩ v).run P w = .ok () (w.setRow b (splice c.toList o v.cells.toList).toArray) := by
  have := run_storeCells_at (P := P) b o e v.cells.toList 0 c w hb (by simpa using hz) (by simpa using h1)
  simp only [Nat.add_zero, Array.length_toList] at this
  simp only [storeVar, Sem.run_bind, run_sizeOf hg, Result.andThen_ok, ne_eq, hs, not_true_eq_false, if_false]
  simp only [hs] at this
  simp only [this, splice, Array.length_toList, hs]
  simp [List.append_assoc]

theorem store_sound (h : Sim B β s tm w) {xv yv : Value} {x y : AV} (hx : VR w.heap (s.own B.A β) s.used s.hp β xv x) (hy : VR w.heap (s.own B.A β) s.used s.hp β yv y) :
    RV (storeR (P.ti t) s x y) fun s' => ∃ w', (Instr.storeAt t xv yv).run P w = .ok () w' ∧ Sim B β s' tm w' := by
  unfold storeR
  split
  · rename_i p c
    split <;> try trivial
    rename_i cs hp
    split <;> try trivial
    rename_i vs hvs
    split <;> try trivial
    rename_i hcond
    obtain ⟨hg, hlen, hle⟩ := hcond
    have hcr := CR.of_cells hvs hy
    cases hx with
    | bx _ _ _ hn h1 hx =>
      obtain ⟨k, hk, hk0, rfl⟩ := hx cs hp
      obtain ⟨k', c', e, hk', _, hc, hz, hl, h1', hcs⟩ := (h.objs p _ hp).2
      rw [hk] at hk'; cases hk'
      have hsz : yv.cells.size = (P.ti t).sz := by have := hcr.1; simp at this; omega
      have hfit : c + yv.cells.size ≤ c'.size := by omega
      have hrun := run_storeVar (P := P) (t := t) hg hc (o := c) hsz hfit (fun u hu => hcr.2.1 u (by simpa using hu))
      refine ⟨_, by simpa [Instr.storeAt, Instr.sureAddr] using hrun, ?_⟩
      have hbox : CR w.heap (s.own B.A β) s.used s.hp β c'.toList cs := ⟨by simpa using hl, by simpa using h1', fun i x hi => by
        have := hcs i x hi
        simpa [Array.getD_eq_getD_getElem?, List.getD_eq_getElem?_getD] using this⟩
      have hnew := hbox.splice hcr (c := c) (by simpa using hfit)
      refine (h.modify (p := p) hp (ob' := .box (splice cs c vs)) trivial (w' := w.setRow k.b _) rfl (by simp) (fun b hb => setRow_other w k.b b _ (hb k hk)) (fun hv _ => ?_)).1
      refine ⟨k, _, e, hk, hk0, setRow_heap w k.b c' _ e (0, 0) hc, ?_, ?_, ?_, fun j x hj => ?_⟩
      · simp; rw [splice_length _ _ _ (by simpa using hfit)]; simpa using hz
      · simpa using hnew.1
      · intro v hv'; exact hnew.2.1 v (by simpa using hv')
      · have := hv _ _ (hnew.2.2 j x hj)
        simpa [Array.getD_eq_getD_getElem?, List.getD_eq_getElem?_getD] using this
  · rename_i p j c
    split <;> try trivial
    rename_i wf xs y' hp
    split <;> try trivial
    rename_i ys hys
    have hrep : Rep w.heap (s.own B.A β) yv y' := hy.toD
    cases hx with
    | el _ _ _ _ hn h1 hx =>
      obtain ⟨hj, k, hk, rfl⟩ := hx wf xs hp
      rcases (h.objs p _ hp).2 with ⟨h0, h0'⟩ | ⟨k', c', e, hk', hc, hz, hl, hw, hcs⟩
      · rw [h0'] at hj; simp at hj
      · rw [hk] at hk'; cases hk'
        have hget : xs[j]? = some (xs.getD j .nilp) := by simp [List.getD_eq_getElem?_getD, hj]
        have hok := hw _ (List.mem_of_getElem? hget)
        have hlej : j * wd wf + wd wf ≤ xs.length * wd wf := by
          have := Nat.mul_le_mul_right (wd wf) (Nat.succ_le_of_lt hj); rwa [Nat.succ_mul] at this
        -- what is stored over which cells
        obtain ⟨z, hz1, hys', hcells, hg, hfit, hsz⟩ : ∃ z, okW wf z ∧ ys = xs.set j z ∧ (∀ i, z.cells[i]? = if c ≤ i ∧ i < c + yv.cells.size then y'.cells[i - c]? else (xs.getD j .nilp).cells[i]?) ∧
            (P.ti t).k.isBad = false ∧ c + yv.cells.size ≤ wd wf ∧ yv.cells.size = (P.ti t).sz := by
          obtain ⟨c1, c2, c3, c4⟩ := cells_len hrep
          unfold storeEl at hys
          split at hys
          · cases hys
          rename_i hg
          have hg : (P.ti t).k.isBad = false := by simpa using hg
          split at hys
          · rename_i hcond
            simp only [Bool.and_eq_true, beq_iff_eq] at hcond
            obtain ⟨⟨hw1, hw2⟩, rfl⟩ := hcond
            cases hys
            obtain ⟨_, hwd, _⟩ := isW_spec hw1
            have hoky := okWb_ok hw2
            rw [okW_len hoky] at c1
            refine ⟨y', hoky, rfl, fun i => ?_, hg, by omega, by omega⟩
            by_cases hi : i < wd wf
            · rw [if_pos (by omega)]; simp
            · rw [if_neg (by omega), List.getElem?_eq_none (by rw [okW_len hoky]; omega), List.getElem?_eq_none (by rw [okW_len hok]; omega)]
          · split at hys
            · cases hys
            · split at hys <;> try cases hys
              rename_i cs hcs'
              split at hys <;> try cases hys
              rename_i hcond
              obtain ⟨hsc, hlt, hs1⟩ := hcond
              have e1 : y'.cells = [y'] := by cases y' <;> first | rfl | simp [D.scal] at hsc
              rw [e1] at c1
              simp at c1
              rw [hcs'] at hok
              have hlen : cs.length = wd wf := okW_len hok
              have hok2 : okW wf (.agg (cs.set c y')) := by
                cases wf with
                | none => simp [okW, D.scal] at hok
                | some n =>
                  refine ⟨by simpa using hok.1, fun d hd => ?_⟩
                  rcases List.mem_or_eq_of_mem_set hd with hd | rfl
                  · exact hok.2 d hd
                  · exact hsc
              refine ⟨_, hok2, rfl, fun i => ?_, hg, by omega, by omega⟩
              rw [hcs', c1, e1]
              simp only [D.cells, List.getElem?_set]
              by_cases hi : c = i
              · subst hi; simp [hlt]
              · rw [if_neg hi, if_neg (by omega)]
        obtain ⟨c1, c2, c3, c4⟩ := cells_len hrep
        have hfit' : k.o + j * wd wf + c + yv.cells.size ≤ c'.size := by omega
        have hrun := run_storeVar (P := P) (t := t) hg hc (o := k.o + j * wd wf + c) hsz hfit' c2
        refine ⟨_, by simpa [Instr.storeAt, Instr.sureAddr] using hrun, ?_⟩
        subst hys'
        refine (h.modify (p := p) hp (ob' := .arr wf (xs.set j z)) ⟨rfl, by simp⟩ (w' := w.setRow k.b _) rfl (by simp) (fun b hb => setRow_other w k.b b _ (hb k hk)) (fun _ hr => ?_)).1
        have hsp := splice_length c'.toList (k.o + j * wd wf + c) yv.cells.toList (by simpa using hfit')
        refine .inr ⟨k, _, e, hk, setRow_heap w k.b c' _ e (0, 0) hc, by simp; rw [hsp]; simpa using hz, by simpa using hl, fun x hx => ?_, fun i x m d hi hm => ?_⟩
        · rcases List.mem_or_eq_of_mem_set hx with hx | rfl
          · exact hw x hx
          · exact hz1
        · have hgetc : ((splice c'.toList (k.o + j * wd wf + c) yv.cells.toList).toArray).getD (k.o + i * wd wf + m) undef =
              if k.o + j * wd wf + c ≤ k.o + i * wd wf + m ∧ k.o + i * wd wf + m < k.o + j * wd wf + c + yv.cells.size then yv.cells.getD (k.o + i * wd wf + m - (k.o + j * wd wf + c)) undef else c'.getD (k.o + i * wd wf + m) undef := by
            have := splice_get c'.toList (k.o + j * wd wf + c) yv.cells.toList (by simpa using hfit') (k.o + i * wd wf + m)
            simp only [Array.getElem?_toList, Array.length_toList] at this
            simp only [Array.getD_eq_getD_getElem?, List.getElem?_toArray, this]
            split <;> rfl
          rw [hgetc]
          rw [List.getElem?_set] at hi
          split at hi
          · rename_i hji
            subst hji
            simp at hi; obtain ⟨_, rfl⟩ := hi
            rw [hcells m] at hm
            by_cases hcm : c ≤ m ∧ m < c + yv.cells.size
            · rw [if_pos hcm] at hm
              rw [if_pos (by omega), show k.o + j * wd wf + m - (k.o + j * wd wf + c) = m - c by omega]
              exact hr _ _ (c4 _ d hm)
            · rw [if_neg hcm] at hm
              rw [if_neg (by omega)]
              exact hr _ _ (hcs j _ m d hget hm)
          · rename_i hji
            have hxo := hw x (List.mem_of_getElem? hi)
            have hml : m < wd wf := by rw [← okW_len hxo]; exact (List.getElem?_eq_some_iff.1 hm).1
            have hne : ¬ (k.o + j * wd wf + c ≤ k.o + i * wd wf + m ∧ k.o + i * wd wf + m < k.o + j * wd wf + c + yv.cells.size) := by
              rcases Nat.lt_or_gt_of_ne hji with hlt | hgt
              · have : j * wd wf + wd wf ≤ i * wd wf := by rw [← Nat.succ_mul]; exact Nat.mul_le_mul_right _ hlt
                omega
              · have : i * wd wf + wd wf ≤ j * wd wf := by rw [← Nat.succ_mul]; exact Nat.mul_le_mul_right _ hgt
                omega
            rw [if_neg hne]
            exact hr _ _ (hcs i x m d hi hm)
  · trivial
end
end Go.Ab
/-! ### The generic layer, part 12: each step is sound: append, make; all steps. -/
namespace Go.Ab
section
variable {P : Program} {B : Base} {β : Name → Option Blk} {s : St} {tm : Array Value} {w : World} {t : Nat}

/-- A slice's cells, as append reads them. -/
structure Seg (P : Program) (H : Array Obj) (own : Nat → Prop) (wf : W) (v : Value) (xs : List D) (news : List Value) : Prop where
  len : ∃ a cap, v = .slice a xs.length cap
  size : news.length = xs.length * wd wf
  one : ∀ u ∈ news, u.oneCell' = true
  ok : ∀ x ∈ xs, okW wf x
  rep : ∀ i x j d, xs[i]? = some x → x.cells[j]? = some d → Rep H own (news.getD (i * wd wf + j) undef) d
  run : ∀ w' : World, w'.heap = H → (Builtin.firstCells (wd wf) xs.length v).run P w' = .ok news.toArray w'

theorem seg_nil {H own} {wf : W} {a : Option Addr} {cap : Nat} : Seg P H own wf (.slice a 0 cap) [] [] := by
  refine ⟨⟨a, cap, rfl⟩, by simp, by simp, by simp, by simp, fun w' _ => ?_⟩
  cases a with
  | none => simp [Builtin.firstCells]
  | some a => simp [Builtin.firstCells, loadCells, loadCellsFrom]

theorem cells_one {H : Array Obj} {own : Nat → Prop} {c : Array Value} {o : Nat} {wf : W} {xs : List D} (hok : ∀ x ∈ xs, okW wf x)
    (h : ∀ i x j d, xs[i]? = some x → x.cells[j]? = some d → Rep H own (c.getD (o + i * wd wf + j) undef) d) : ∀ m, m < xs.length * wd wf → (c.getD (o + m) undef).oneCell' = true := by
  intro m hm
  have hw : 0 < wd wf := by rcases Nat.eq_zero_or_pos (wd wf) with h0 | h0
                            · rw [h0] at hm; simp at hm
                            · exact h0
  have hi : m / wd wf < xs.length := by rw [Nat.div_lt_iff_lt_mul hw]; exact hm
  have hget : xs[m / wd wf]? = some xs[m / wd wf] := List.getElem?_eq_getElem hi
  have hx := hok _ (List.getElem_mem hi)
  have hj : m % wd wf < (xs[m / wd wf]).cells.length := by rw [okW_len hx]; exact Nat.mod_lt _ hw
  have hr := h _ _ _ _ hget (List.getElem?_eq_getElem hj)
  have := hr.oneCell (okW_scal hx _ (List.getElem_mem hj))
  rwa [Nat.add_assoc, Nat.mul_comm, Nat.div_add_mod] at this

theorem seg_block {b o cap : Nat} {c : Array Value} {e : TypeId} {fz : Nat × Nat} {own : Nat → Prop} {wf : W} {xs : List D} (hb : w.heap[b]? = some (.cells c e fz)) (hz : o + xs.length * wd wf ≤ c.size) (hok : ∀ x ∈ xs, okW wf x)
    (h : ∀ i x j d, xs[i]? = some x → x.cells[j]? = some d → Rep w.heap own (c.getD (o + i * wd wf + j) undef) d) :
    Seg P w.heap own wf (.slice (some ⟨b, o, none⟩) xs.length cap) xs ((c.toList.drop o).take (xs.length * wd wf)) := by
  have hl : ((c.toList.drop o).take (xs.length * wd wf)).length = xs.length * wd wf := by simp; omega
  have hg : ∀ m, m < xs.length * wd wf → ((c.toList.drop o).take (xs.length * wd wf)).getD m undef = c.getD (o + m) undef := by
    intro m hm
    simp [List.getD_eq_getElem?_getD, Array.getD_eq_getD_getElem?, hm]
  refine ⟨⟨_, cap, rfl⟩, hl, fun u hu => ?_, hok, fun i x j d hi hj => ?_, fun w' hw' => ?_⟩
  · obtain ⟨m, hm⟩ := List.mem_iff_getElem?.1 hu
    have hlt : m < xs.length * wd wf := by rw [← hl]; exact (List.getElem?_eq_some_iff.1 hm).1
    have := cells_one hok h m hlt
    rw [← hg m hlt, List.getD_eq_getElem?_getD, hm] at this
    exact this
  · have hxo := hok x (List.mem_of_getElem? hi)
    have hjl : j < wd wf := by rw [← okW_len hxo]; exact (List.getElem?_eq_some_iff.1 hj).1
    have hil := (List.getElem?_eq_some_iff.1 hi).1
    have : i * wd wf + wd wf ≤ xs.length * wd wf := by rw [← Nat.succ_mul]; exact Nat.mul_le_mul_right _ hil
    rw [hg _ (by omega), ← Nat.add_assoc]
    exact h i x j d hi hj
  · refine run_firstCells_some (P := P) w' (wd wf) xs.length ⟨b, o, none⟩ xs.length cap _ hl (fun j v hv => ?_)
    rw [addr_add, cell_of_row w' b (o + j) c e fz (by rw [hw']; exact hb)]
    rw [List.getElem?_take] at hv
    split at hv
    · simpa using hv
    · cases hv

theorem listOf_sound (h : Sim B β s tm w) {yv : Value} {y : AV} (hy : VR w.heap (s.own B.A β) s.used s.hp β yv y) {wf : W} {ys : List D} (hl : listOf wf s.hp y = some ys) : ∃ news, Seg P w.heap (s.own B.A β) wf yv ys news := by
  unfold listOf at hl
  split at hl
  · rename_i p o l
    split at hl <;> try cases hl
    rename_i w' xs hp
    split at hl <;> try cases hl
    rename_i hw; subst hw
    cases hy with
    | vw _ _ _ _ hn h1 hx =>
      obtain ⟨hle, a, cap, rfl, hx'⟩ := hx _ _ hp
      have hlen : ((xs.drop o).take l).length = l := by simp; omega
      rcases hx' with ⟨rfl, rfl⟩ | ⟨k, hk, rfl, hcap, hz⟩
      · exact ⟨[], by simpa using seg_nil⟩
      · rcases (h.objs p _ hp).2 with ⟨h0, h0'⟩ | ⟨k', c', e, hk', hc, hzz, hl', hw, hcs⟩
        · rw [h0] at hk; cases hk
        · rw [hk] at hk'; cases hk'
          have hle2 : o * wd w' + l * wd w' ≤ xs.length * wd w' := by rw [← Nat.add_mul]; exact Nat.mul_le_mul_right _ hle
          have := seg_block (P := P) (w := w) (own := s.own B.A β) (cap := cap) (wf := w') (xs := (xs.drop o).take l) (b := k.b) (o := k.o + o * wd w') hc (by rw [hlen]; omega)
            (fun x hx => hw x (List.mem_of_mem_drop (List.mem_of_mem_take hx))) (fun i x j d hi hj => by
              rw [List.getElem?_take] at hi
              split at hi
              · rw [List.getElem?_drop] at hi
                have := hcs _ x j d hi hj
                rwa [show k.o + o * wd w' + i * wd w' + j = k.o + (o + i) * wd w' + j by rw [Nat.add_mul]; omega]
              · cases hi)
          rw [hlen] at this
          exact ⟨_, this⟩
  · rename_i w' xs
    split at hl <;> try cases hl
    rename_i hw; subst hw
    cases hy.toD with
    | sl0 a cap _ => exact ⟨[], seg_nil⟩
    | sl b o cap c e fz _ _ hb hn hcap hz hok hc => exact ⟨_, seg_block hb hz hok hc⟩
  · cases hl
    obtain rfl := hy.nils
    exact ⟨[], seg_nil⟩
  · cases hl

section
variable {e : Nat} {i : TypeInfo} {z : Value}
theorem run_append_grow' (hk : P.underlying t = some (.slice e)) (hi : P.info? e = some i) (hz : i.zero = some z) (ty : TypeId) {own : Nat → Prop} {wf : W} {xv yv : Value} {xs ys : List D} {olds news : List Value} (hs : i.size = wd wf)
    (hx : Seg P w.heap own wf xv xs olds) (hy : Seg P w.heap own wf yv ys news) {a : Option Addr} {cap : Nat} (hxv : xv = .slice a xs.length cap) (hgr : cap < xs.length + ys.length) (hb : (xs.length + ys.length) * i.bytes ≤ 140737488355328) (hb' : xs.length + ys.length ≤ 140737488355328) :
    ∃ nc, xs.length + ys.length ≤ nc ∧ (Builtin.append_ #[t, t] ty #[xv, yv]).run P w =
      .ok (.slice (some ⟨w.heap.size, 0, none⟩) (xs.length + ys.length) nc) (w.drew.alloc (.cells (olds.toArray ++ news.toArray ++ Builtin.zeroCells z.cells (nc - (xs.length + ys.length))) e)) := by
  obtain ⟨ya, yc, rfl⟩ := hy.len
  subst hxv
  refine ⟨grownCap w (xs.length + ys.length) cap e, grownCap_ge _ _ _ _, ?_⟩
  have hn : ¬ (xs.length + ys.length ≤ cap) := by omega
  have h63' : ¬ (9223372036854775807 < ((xs.length : Int) + (ys.length : Int))) := by omega
  have h48' : ¬ (281474976710656 < Builtin.nextslicecap (xs.length + ys.length) cap * i.bytes) := by have := growslice_fits hgr hb; omega
  have hf := hy.run w.drew rfl
  have hfo := hx.run w.drew rfl
  simp [Builtin.append_, run_underlying hk, sizeOf, typeInfo, zeroValue, hi, hz, Builtin.lenOf, hn, h63', h48', Question.forced, hs, hf, hfo, newRow, grownCap]
  congr 2
  apply Array.ext'
  simp [List.append_assoc]
theorem run_append_room' (hk : P.underlying t = some (.slice e)) (hi : P.info? e = some i) (ty : TypeId) {own : Nat → Prop} {wf : W} {yv : Value} {ys : List D} {news : List Value} (hs : i.size = wd wf)
    (hy : Seg P w.heap own wf yv ys news) {b o n cap : Nat} {c : Array Value} {e' : TypeId} (hb : w.heap[b]? = some (.cells c e' (0, 0))) (hr : n + ys.length ≤ cap) (hfit : o + n * wd wf + news.length ≤ c.size) :
    (Builtin.append_ #[t, t] ty #[.slice (some ⟨b, o, none⟩) n cap, yv]).run P w =
      .ok (.slice (some ⟨b, o, none⟩) (n + ys.length) cap) (w.setRow b (splice c.toList (o + n * wd wf) news).toArray) := by
  obtain ⟨ya, yc, rfl⟩ := hy.len
  have hf := hy.run w rfl
  have hst := run_storeCells_at (P := P) b (o + n * wd wf) e' news 0 c w hb (by simpa using hfit) hy.one
  simp only [Nat.add_zero] at hst
  simp [Builtin.append_, run_underlying hk, sizeOf, typeInfo, hi, Builtin.lenOf, hr, hs, hf, addr_add, hst, splice, List.append_assoc]
theorem run_append_none' (hk : P.underlying t = some (.slice e)) (hi : P.info? e = some i) (ty : TypeId) {own : Nat → Prop} {wf : W} {yv : Value} {news : List Value} (hs : i.size = wd wf) (hy : Seg P w.heap own wf yv [] news) (a : Option Addr) (cap : Nat)  :
    (Builtin.append_ #[t, t] ty #[.slice a 0 cap, yv]).run P w = .ok (.slice a 0 cap) w := by
  obtain ⟨ya, yc, rfl⟩ := hy.len
  have hf := hy.run w rfl
  have : news = [] := by have := hy.size; simpa using this
  subst this
  simp only [List.length_nil] at hf
  cases a <;> simp [Builtin.append_, run_underlying hk, sizeOf, typeInfo, hi, Builtin.lenOf, hs, hf, storeCells]
end

theorem rows_append {H : Array Obj} {own : Nat → Prop} {wf : W} {xs ys : List D} {olds news : List Value} {xv yv : Value} (hx : Seg P H own wf xv xs olds) (hy : Seg P H own wf yv ys news) (rest : Array Value) :
    (∀ x ∈ xs ++ ys, okW wf x) ∧ ∀ i x j d, (xs ++ ys)[i]? = some x → x.cells[j]? = some d → Rep H own ((olds.toArray ++ news.toArray ++ rest).getD (i * wd wf + j) undef) d := by
  refine ⟨fun x h => (List.mem_append.1 h).elim (hx.ok x) (hy.ok x), fun i x j d hi hj => ?_⟩
  have hget : ∀ m, (olds.toArray ++ news.toArray ++ rest).getD m undef = if m < olds.length then olds.getD m undef else if m < olds.length + news.length then news.getD (m - olds.length) undef else rest.getD (m - (olds.length + news.length)) undef := by
    intro m
    simp only [Array.getD_eq_getD_getElem?, List.getD_eq_getElem?_getD, Array.getElem?_append, List.size_toArray, Array.size_append, List.getElem?_toArray]
    by_cases h1 : m < olds.length
    · simp [h1, show m < olds.length + news.length by omega]
    · by_cases h2 : m < olds.length + news.length
      · simp [h1, h2]
      · simp [h1, h2]
  rw [hget]
  rcases Nat.lt_or_ge i xs.length with hlt | hge
  · rw [List.getElem?_append_left hlt] at hi
    have hxo := hx.ok x (List.mem_of_getElem? hi)
    have hjl : j < wd wf := by rw [← okW_len hxo]; exact (List.getElem?_eq_some_iff.1 hj).1
    have : i * wd wf + wd wf ≤ xs.length * wd wf := by rw [← Nat.succ_mul]; exact Nat.mul_le_mul_right _ hlt
    rw [if_pos (by rw [hx.size]; omega)]
    exact hx.rep i x j d hi hj
  · rw [List.getElem?_append_right hge] at hi
    have hxo := hy.ok x (List.mem_of_getElem? hi)
    have hil := (List.getElem?_eq_some_iff.1 hi).1
    have hjl : j < wd wf := by rw [← okW_len hxo]; exact (List.getElem?_eq_some_iff.1 hj).1
    have h1 : xs.length * wd wf ≤ i * wd wf := Nat.mul_le_mul_right _ hge
    have h2 : (i - xs.length) * wd wf + wd wf ≤ ys.length * wd wf := by rw [← Nat.succ_mul]; exact Nat.mul_le_mul_right _ hil
    have h3 : i * wd wf = (i - xs.length) * wd wf + xs.length * wd wf := by rw [← Nat.add_mul]; congr 1; omega
    rw [if_neg (by rw [hx.size]; omega), if_pos (by rw [hx.size, hy.size]; omega), hx.size, show i * wd wf + j - xs.length * wd wf = (i - xs.length) * wd wf + j by omega]
    exact hy.rep _ x j d hi hj

theorem append_sound (h : Sim B β s tm w) {xv yv : Value} {x y : AV} (hx : VR w.heap (s.own B.A β) s.used s.hp β xv x) (hy : VR w.heap (s.own B.A β) s.used s.hp β yv y) {e : Nat} (hk : (P.ti t).k = .slice e)
    (hz : (P.ti e).zOk = true) (hw : (P.ti e).isW (P.ti e).w = true) (ty : TypeId) (d : Option Nat) :
    RV (appendR B.n (P.ti e) d s x y) fun s' => ∃ dd v w' β', d = some dd ∧ (Builtin.append_ #[t, t] ty #[xv, yv]).run P w = .ok v w' ∧ Sim B β' s' (tm.setIfInBounds dd v) w' := by
  obtain ⟨hg, hwd, _⟩ := isW_spec hw
  obtain ⟨z, hz, hzl⟩ : ∃ z, (P.ti e).z = some z ∧ z.length = (P.ti e).sz := by
    unfold TI.zOk at hz
    split at hz
    · rename_i z h1; exact ⟨z, h1, by simpa using hz⟩
    · cases hz
  obtain ⟨zv, hr, hm, it, hi, hiz, his, hib⟩ := zero_run hz
  have hu := ti_slice hk
  have hby : ∀ m : Nat, m * (P.ti e).by1 ≤ 140737488355328 → m * it.bytes ≤ 140737488355328 ∧ m ≤ 140737488355328 := by
    intro m hm'
    unfold TI.by1 at hm'
    rw [hib]
    split at hm'
    · rename_i h0; rw [h0]; simp at hm' ⊢; exact hm'
    · exact ⟨hm', Nat.le_trans (Nat.le_mul_of_pos_right m (by omega)) hm'⟩
  -- the whole new row
  have fresh : ∀ (s1 : St) (β1 : Name → Option Blk) (xs ys : List D) (olds news : List Value) (xv' yv' : Value) (dd nc : Nat), Sim B β1 s1 tm w → Seg P w.heap (s1.own B.A β1) (P.ti e).w xv' xs olds → Seg P w.heap (s1.own B.A β1) (P.ti e).w yv' ys news → dd < B.n → dd ∉ s1.used →
      xs.length + ys.length ≤ nc → ∃ β', Sim B β' ((s1.add dd (.arr (P.ti e).w (xs ++ ys))).put dd (.vw [dd] 0 (xs.length + ys.length))) (tm.setIfInBounds dd (.slice (some ⟨w.heap.size, 0, none⟩) (xs.length + ys.length) nc))
        (w.drew.alloc (.cells (olds.toArray ++ news.toArray ++ Builtin.zeroCells zv.cells (nc - (xs.length + ys.length))) e)) := by
    intro s1 β1 xs ys olds news xv' yv' dd nc h1 hsx hsy hdd hud hnc
    obtain ⟨r1, r2⟩ := rows_append hsx hsy (Builtin.zeroCells zv.cells (nc - (xs.length + ys.length)))
    have hzs : zv.cells.size = wd (P.ti e).w := by
      have := (mapM_zd (H := w.heap) (own := s.own B.A β) hm).1
      simp at this; omega
    have hsz : (olds.toArray ++ news.toArray ++ Builtin.zeroCells zv.cells (nc - (xs.length + ys.length))).size = nc * wd (P.ti e).w := by
      simp only [Array.size_append, List.size_toArray, hsx.size, hsy.size, size_zeroCells, hzs, ← Nat.add_mul]; congr 1; omega
    have := newArr_sound (h1.heap_eq (w' := w.drew) rfl rfl) hdd hud (c := olds.toArray ++ news.toArray ++ Builtin.zeroCells zv.cells (nc - (xs.length + ys.length))) (wf := (P.ti e).w) (xs := xs ++ ys) (cap := nc) (by simpa using hnc)
      (by rw [hsz]; exact Nat.le_refl _) r1 (fun i x j d hi hj => r2 i x j d hi hj) e
    simpa using this
  unfold appendR
  split
  · -- onto nil
    rename_i ys hys
    obtain rfl := hx.nils
    intro hb
    obtain ⟨hb1, hb2⟩ := hby _ hb
    unfold newR
    split <;> try trivial
    rename_i dd
    split <;> try trivial
    rename_i hcond
    obtain ⟨hdd, hud⟩ := hcond
    obtain ⟨news, hsy⟩ := listOf_sound (P := P) h hy hys
    by_cases h0 : ys.length = 0
    · have : ys = [] := List.length_eq_zero_iff.1 h0
      subst this
      have hrun := run_append_none' (P := P) (t := t) hu hi ty (by rw [his, hwd]) hsy none 0
      refine ⟨dd, _, _, _, rfl, hrun, (h.addNone hud _).put hdd (.vw _ _ _ _ ⟨dd, [], rfl, List.mem_cons_self⟩ rfl fun w' xs' hp' => ?_)⟩
      have : w' = (P.ti e).w ∧ xs' = [] := by simpa [St.add, updP, eq_comm] using hp'
      obtain ⟨rfl, rfl⟩ := this
      exact ⟨by simp, _, 0, rfl, .inl ⟨rfl, rfl⟩⟩
    · obtain ⟨nc, hnc, hrun⟩ := run_append_grow' (P := P) (t := t) hu hi hiz ty (by rw [his, hwd]) (seg_nil (P := P) (H := w.heap) (own := s.own B.A β) (wf := (P.ti e).w) (a := none) (cap := 0)) hsy rfl (by simp; omega) (by simpa using hb1) (by simpa using hb2)
      obtain ⟨β', hs⟩ := fresh s β [] ys [] news _ _ dd nc h (seg_nil (a := none) (cap := 0)) hsy hdd hud hnc
      exact ⟨dd, _, _, β', rfl, hrun, by simpa using hs⟩
  · -- onto a view
    rename_i ys p o l hys
    split <;> try trivial
    rename_i wf xs hp
    split <;> try trivial
    rename_i hwf
    intro hb
    obtain ⟨hb1, hb2⟩ := hby _ hb
    unfold newR
    split <;> try trivial
    rename_i dd
    split <;> try trivial
    rename_i hcond
    obtain ⟨hdd, hud⟩ := hcond
    have hud : dd ∉ s.used := hud
    obtain ⟨news, hsy⟩ := listOf_sound (P := P) h hy hys
    have hlx : listOf (P.ti e).w s.hp (.vw p o l) = some ((xs.drop o).take l) := by simp [listOf, hp, hwf]
    obtain ⟨olds, hsx⟩ := listOf_sound (P := P) h hx hlx
    have hpn := nm_ne (h.objs p _ hp).1 hud
    have hcomm : ∀ ob, (s.set p none).add dd ob = (s.add dd ob).set p none := by
      intro ob
      unfold St.add St.set
      simp only [St.mk.injEq, true_and, and_true]
      funext q
      simp only [updP]
      by_cases h1 : q = [dd]
      · subst h1; simp [Ne.symm hpn]
      · simp [h1]
    cases hx with
    | vw _ _ _ _ hn h1 hx =>
      obtain ⟨hle, a, cap, rfl, hx'⟩ := hx _ _ hp
      have hlen : ((xs.drop o).take l).length = l := by simp; omega
      by_cases hgr : cap < l + ys.length
      · -- it grows
        have hgr' : cap < ((xs.drop o).take l).length + ys.length := by rw [hlen]; exact hgr
        obtain ⟨nc, hnc, hrun⟩ := run_append_grow' (P := P) (t := t) hu hi hiz ty (by rw [his, hwd]) hsx hsy (a := a) (cap := cap) (by rw [hlen]) hgr' (by rw [hlen]; exact hb1) (by rw [hlen]; exact hb2)
        obtain ⟨β', hs⟩ := fresh s β _ ys olds news _ _ dd nc h hsx hsy hdd hud hnc
        rw [hlen] at hs hrun
        refine ⟨dd, _, _, β', rfl, hrun, ?_⟩
        rw [hcomm, hwf]
        have := hs.drop p
        have e2 : ((s.add dd (.arr (P.ti e).w ((xs.drop o).take l ++ ys))).put dd (.vw [dd] 0 (l + ys.length))).set p none = ((s.add dd (.arr (P.ti e).w ((xs.drop o).take l ++ ys))).set p none).put dd (.vw [dd] 0 (l + ys.length)) := rfl
        rwa [e2] at this
      · -- there is room
        rcases hx' with ⟨rfl, rfl⟩ | ⟨k, hk', rfl, hcap, hz'⟩
        · have : ys = [] := List.length_eq_zero_iff.1 (by omega)
          subst this
          have hrun := run_append_none' (P := P) (t := t) hu hi ty (by rw [his, hwd]) hsy a 0
          refine ⟨dd, _, _, updP β [dd] none, rfl, hrun, ?_⟩
          rw [hcomm]
          have e3 : ((xs.drop o).take 0 ++ ([] : List D)) = [] := by simp
          rw [e3]
          have := ((h.addNone hud wf).put hdd (v := .slice a 0 0) (x := .vw [dd] 0 0) (.vw _ _ _ _ ⟨dd, [], rfl, List.mem_cons_self⟩ rfl fun w' xs' hp' => by
            have : w' = wf ∧ xs' = [] := by simpa [St.add, updP, eq_comm] using hp'
            obtain ⟨rfl, rfl⟩ := this
            exact ⟨by simp, a, 0, rfl, .inl ⟨rfl, rfl⟩⟩)).drop p
          exact this
        · have hob := (h.objs p _ hp).2
          rcases hob with ⟨h0, h0'⟩ | ⟨k', c', e', hk'', hc, hzz, hl', hwx, hcs⟩
          · rw [h0] at hk'; cases hk'
          · rw [hk'] at hk''; cases hk''
            have hmul : (o + cap) * wd wf = o * wd wf + cap * wd wf := Nat.add_mul _ _ _
            have hle2 : (l + ys.length) * wd wf ≤ cap * wd wf := Nat.mul_le_mul_right _ (by omega)
            have hmul2 : (l + ys.length) * wd wf = l * wd wf + ys.length * wd wf := Nat.add_mul _ _ _
            have hns := hsy.size
            rw [← hwf] at hns
            have hfit : k.o + o * wd wf + l * wd wf + news.length ≤ c'.size := by omega
            have hrun := run_append_room' (P := P) (t := t) hu hi ty (wf := wf) (by rw [his, hwf, hwd]) (by rw [hwf]; exact hsy) hc (o := k.o + o * wd wf) (n := l) (cap := cap) (by omega) hfit
            refine ⟨dd, _, _, updP β [dd] (some ⟨k.b, k.o + o * wd wf, k.z⟩), rfl, hrun, ?_⟩
            have hsim := h.renew hud hp hk' wf ((xs.drop o).take l ++ ys) (k.o + o * wd wf) (w' := w.setRow k.b (splice c'.toList (k.o + o * wd wf + l * wd wf) news).toArray) rfl (by simp)
              (fun b hb => setRow_other w k.b b _ hb) (fun hr => ?_)
            · refine hsim.put hdd (.vw _ _ _ _ ⟨dd, [], rfl, List.mem_cons_self⟩ rfl fun w' xs' hp' => ?_)
              have : w' = wf ∧ xs' = (xs.drop o).take l ++ ys := by simpa [St.add, updP, eq_comm] using hp'
              obtain ⟨rfl, rfl⟩ := this
              refine ⟨by simp; omega, _, cap, rfl, .inr ⟨_, by simp [updP]; rfl, by simp, by omega, ?_⟩⟩
              simp only [Nat.zero_add]; omega
            · have hsp := splice_length c'.toList (k.o + o * wd wf + l * wd wf) news (by simpa using hfit)
              refine ⟨_, e', setRow_heap w k.b c' _ e' (0, 0) hc, by simp; rw [hsp]; simpa using hzz, ?_, fun x hx => ?_, fun i x j d hi hj => ?_⟩
              · rw [List.length_append, hlen]; omega
              · rcases List.mem_append.1 hx with hx | hx
                · exact hwx x (List.mem_of_mem_drop (List.mem_of_mem_take hx))
                · rw [hwf]; exact hsy.ok x hx
              · have hgetc : ((splice c'.toList (k.o + o * wd wf + l * wd wf) news).toArray).getD (k.o + o * wd wf + i * wd wf + j) undef =
                    if k.o + o * wd wf + l * wd wf ≤ k.o + o * wd wf + i * wd wf + j ∧ k.o + o * wd wf + i * wd wf + j < k.o + o * wd wf + l * wd wf + news.length then news.getD (k.o + o * wd wf + i * wd wf + j - (k.o + o * wd wf + l * wd wf)) undef else c'.getD (k.o + o * wd wf + i * wd wf + j) undef := by
                  have := splice_get c'.toList (k.o + o * wd wf + l * wd wf) news (by simpa using hfit) (k.o + o * wd wf + i * wd wf + j)
                  simp only [Array.getElem?_toList] at this
                  simp only [Array.getD_eq_getD_getElem?, List.getElem?_toArray, this, List.getD_eq_getElem?_getD]
                  split <;> rfl
                rw [hgetc]
                rcases Nat.lt_or_ge i l with hlt | hge
                · rw [List.getElem?_append_left (by rw [hlen]; exact hlt), List.getElem?_take, if_pos hlt, List.getElem?_drop] at hi
                  have hxo := hwx x (List.mem_of_getElem? hi)
                  have hjl : j < wd wf := by rw [← okW_len hxo]; exact (List.getElem?_eq_some_iff.1 hj).1
                  have : i * wd wf + wd wf ≤ l * wd wf := by rw [← Nat.succ_mul]; exact Nat.mul_le_mul_right _ hlt
                  rw [if_neg (by omega)]
                  have := hr _ _ (hcs _ x j d hi hj)
                  rwa [show k.o + o * wd wf + i * wd wf + j = k.o + (o + i) * wd wf + j by rw [Nat.add_mul]; omega]
                · rw [List.getElem?_append_right (by rw [hlen]; exact hge), hlen] at hi
                  have hxo := hsy.ok x (List.mem_of_getElem? hi)
                  rw [← hwf] at hxo
                  have hil := (List.getElem?_eq_some_iff.1 hi).1
                  have hjl : j < wd wf := by rw [← okW_len hxo]; exact (List.getElem?_eq_some_iff.1 hj).1
                  have g1 : l * wd wf ≤ i * wd wf := Nat.mul_le_mul_right _ hge
                  have g2 : (i - l) * wd wf + wd wf ≤ ys.length * wd wf := by rw [← Nat.succ_mul]; exact Nat.mul_le_mul_right _ hil
                  have g3 : i * wd wf = (i - l) * wd wf + l * wd wf := by rw [← Nat.add_mul]; congr 1; omega
                  rw [if_pos (by omega), show k.o + o * wd wf + i * wd wf + j - (k.o + o * wd wf + l * wd wf) = (i - l) * wd wf + j by omega]
                  have := hsy.rep _ x j d hi hj
                  rw [← hwf] at this
                  exact hr _ _ this
  · trivial
end
end Go.Ab
/-! ### The generic layer, part 13: all steps are sound. -/
namespace Go.Ab
section
variable {P : Program} {B : Base} {β : Name → Option Blk} {s : St} {a : Act} {w : World}

/-- The operation is done: it hands on v, and a state in which f holds stands. -/
def Does (P : Program) (B : Base) (o : Oper) (a : Act) (w : World) (f : St → Prop) : Prop :=
  ∃ nx v w' s' β', (execOp a.eval o).run P w = .ok nx w' ∧ (nx = .value v ∨ nx = .skip ∧ v = undef) ∧ f s' ∧ Sim B β' s' (a.put o.dst v).tmps w'

theorem tmps_put (a : Act) (d : Option Tmp) (v : Value) : (a.put d v).tmps = match d with
  | some d => a.tmps.setIfInBounds d v
  | none => a.tmps := by cases d <;> rfl

def St.putd (s : St) : Option Nat → AV → St
  | some t, x => s.put t x
  | none, _ => s
theorem putR_ok {n : Nat} {d : Option Nat} {x : AV} {f : St → Prop} {z : Prop} (h : (putR n d s x).run f z) : z ∨ (∀ t, d = some t → t < n) ∧ f (s.putd d x) := by
  cases d with
  | some t =>
    simp only [putR] at h
    split at h
    · rename_i ht; exact .inr ⟨fun t' e => by cases e; exact ht, h⟩
    · exact .inl h
  | none => exact .inr ⟨fun t' e => (by cases e), h⟩

theorem Sim.putd (h : Sim B β s a.tmps w) {d : Option Nat} (hd : ∀ t, d = some t → t < B.n) {v : Value} {x : AV} (hv : VR w.heap (s.own B.A β) s.used s.hp β v x) :
    Sim B β (s.putd d x) (a.put d v).tmps w := by
  cases d with
  | none => exact h
  | some t => exact h.put (hd t rfl) hv

theorem bind_run {r : R AV} {g : AV → R St} {f : St → Prop} {z : Prop} {φ : AV → Prop} (hφ : RV r φ) (h : (r.bind g).run f z) : z ∨ ∃ x, φ x ∧ (g x).run f z := by
  induction r with
  | ok x => exact .inr ⟨x, hφ, h⟩
  | need p r ih => exact ih (hφ h.1) h.2
  | no => exact .inl h

theorem val_ok {o : Oper} {r : R AV} {f : St → Prop} {z : Prop} (h : Sim B β s a.tmps w)
    (hφ : RV r fun x => ∃ v, (execOp a.eval o).run P w = .ok (.value v) w ∧ VR w.heap (s.own B.A β) s.used s.hp β v x) (hr : (r.bind (putR B.n o.dst s)).run f z) : z ∨ Does P B o a w f := by
  rcases bind_run hφ hr with hz | ⟨x, ⟨v, hrun, hv⟩, hp⟩
  · exact .inl hz
  · rcases putR_ok hp with hz | ⟨hd, hf⟩
    · exact .inl hz
    · exact .inr ⟨_, v, w, _, β, hrun, .inl rfl, hf, h.putd hd hv⟩

theorem put_ok {o : Oper} {x : AV} {f : St → Prop} {z : Prop} (h : Sim B β s a.tmps w) {v : Value} (hrun : (execOp a.eval o).run P w = .ok (.value v) w) (hv : VR w.heap (s.own B.A β) s.used s.hp β v x)
    (hr : (putR B.n o.dst s x).run f z) : z ∨ Does P B o a w f := by
  rcases putR_ok hr with hz | ⟨hd, hf⟩
  · exact .inl hz
  · exact .inr ⟨_, v, w, _, β, hrun, .inl rfl, hf, h.putd hd hv⟩

theorem new_ok {o : Oper} {ob : Ob} {x : Name → AV} {f : St → Prop} {z : Prop} (hφ : ∀ d, o.dst = some d → d < B.n → d ∉ s.used → ∃ v w' β', (execOp a.eval o).run P w = .ok (.value v) w' ∧ Sim B β' ((s.add d ob).put d (x [d])) (a.tmps.setIfInBounds d v) w')
    (hr : (newR B.n o.dst s ob x).run f z) : z ∨ Does P B o a w f := by
  unfold newR at hr
  split at hr
  · rename_i d hd
    split at hr
    · rename_i hc
      obtain ⟨v, w', β', hrun, hs⟩ := hφ d hd hc.1 hc.2
      exact .inr ⟨_, v, w', _, β', hrun, .inl rfl, hr, by rw [tmps_put, hd]; exact hs⟩
    · exact .inl hr
  · exact .inl hr

theorem map_get {α γ : Type} (f : α → γ) (l : Array α) (i : Nat) : (l.map f)[i]? = (l[i]?).map f := by simp

theorem parts_ok (h : Sim B β s a.tmps w) (parts : Array (Nat × Operand)) : (parts.map fun (i, x) => (i, a.eval x)).size = (parts.toList.map fun q => (q.1, ev s q.2)).length ∧
    ∀ (i : Nat) q u, (parts.toList.map fun q => (q.1, ev s q.2))[i]? = some q → (parts.map fun (i, x) => (i, a.eval x)).toList[i]? = some u → u.1 = q.1 ∧ VR w.heap (s.own B.A β) s.used s.hp β u.2 q.2 := by
  refine ⟨by simp, fun i q u h1 h2 => ?_⟩
  simp only [List.getElem?_map, Option.map_eq_some_iff, Array.toList_map] at h1 h2
  obtain ⟨r, hr, rfl⟩ := h1
  obtain ⟨r', hr', rfl⟩ := h2
  rw [hr] at hr'; cases hr'
  exact ⟨rfl, h.ev _⟩

theorem makeSlice_sound (h : Sim B β s a.tmps w) {t : Nat} {lv cv : Value} {l c : AV} (hl : VR w.heap (s.own B.A β) s.used s.hp β lv l) (hc : VR w.heap (s.own B.A β) s.used s.hp β cv c) (o : Oper)
    (ho : ∀ v w', (Instr.makeSlice t lv cv).run P w = .ok v w' → (execOp a.eval o).run P w = .ok (.value v) w') {f : St → Prop} {z : Prop} (hr : (makeSliceR B.n (P.ti t) P.ti o.dst s l c).run f z) : z ∨ Does P B o a w f := by
  unfold makeSliceR at hr
  split at hr <;> try exact .inl hr
  rename_i e la lb hk
  obtain rfl := hl.int; obtain rfl := hc.int
  split at hr <;> try exact .inl hr
  rename_i zd' hzd
  split at hr <;> try exact .inl hr
  rename_i hcond
  have hcond : ((P.ti e).isW (P.ti e).w && okWb (P.ti e).w zd') = true := by simpa using hcond
  simp only [Bool.and_eq_true] at hcond
  obtain ⟨hw, hokb⟩ := hcond
  have hok := okWb_ok hokb
  obtain ⟨hg, hwd, _⟩ := isW_spec hw
  obtain ⟨⟨h0, h1, h2, h3⟩, hr⟩ := hr
  obtain ⟨zc, hz, hzc⟩ : ∃ zc, (P.ti e).z = some zc ∧ zc = zd'.cells := by
    unfold TI.zero at hzd
    cases hz : (P.ti e).z with
    | none => simp [hz] at hzd
    | some zc =>
      refine ⟨zc, rfl, ?_⟩
      simp only [hz, Option.bind_some] at hzd
      split at hzd
      · cases hzd; rfl
      · rename_i hna
        split at hzd <;> try cases hzd
        have : (P.ti e).w = none := by unfold TI.w; rw [if_neg hna]
        rw [this] at hok
        cases zd' <;> first | rfl | simp [okW, D.scal] at hok
  obtain ⟨zv, hr', hm, it, hi, hiz, his, hib⟩ := zero_run hz
  obtain ⟨m1, m2, m3, m4⟩ := mapM_zd (H := w.heap) (own := s.own B.A β) hm
  have hzlen : zv.cells.size = wd (P.ti e).w := by
    rw [hzc, okW_len hok] at m1; simpa using m1.symm
  refine new_ok (fun d hd hdn hdu => ?_) hr
  have hrun := run_make (P := P) w t e it zv (ti_slice hk) hi hiz .i64 .i64 la lb h0 h1 (by rw [hib, Int.mul_comm]; omega) (by omega)
  obtain ⟨β', hs⟩ := newArr_sound h hdn hdu (c := madeCells zv.cells (lb.toNat * it.size)) (wf := (P.ti e).w) (xs := List.replicate la.toNat zd') (cap := lb.toNat) (by simp; omega)
    (by rw [size_madeCells, his, hwd]; exact Nat.le_refl _) (fun x hx => by rw [List.eq_of_mem_replicate hx]; exact hok) (fun i x j d' hi' hj => by
      have hxe : x = zd' := List.eq_of_mem_replicate (List.mem_of_getElem? hi')
      subst hxe
      have hil : i < la.toNat := by have := (List.getElem?_eq_some_iff.1 hi').1; simpa using this
      have hjl : j < wd (P.ti e).w := by rw [← okW_len hok]; exact (List.getElem?_eq_some_iff.1 hj).1
      rw [← hzc] at hj
      obtain ⟨u, hu, hrep⟩ := m4 j d' hj
      have hin : i * wd (P.ti e).w + wd (P.ti e).w ≤ lb.toNat * it.size := by rw [← Nat.succ_mul, his, hwd]; exact Nat.mul_le_mul_right _ (by omega)
      have : (madeCells zv.cells (lb.toNat * it.size)).getD (i * wd (P.ti e).w + j) undef = u := by
        simp only [Array.getElem?_toList] at hu
        have hmod : (i * wd (P.ti e).w + j) % zv.cells.size = j := by rw [hzlen, Nat.mul_comm, Nat.mul_add_mod]; exact Nat.mod_eq_of_lt hjl
        have hget : zv.cells[j]! = u := by simp [getElem!_def, hu]
        simp [madeCells, Array.getD_eq_getD_getElem?, show i * wd (P.ti e).w + j < lb.toNat * it.size by omega, hmod, hget]
      rw [this]; exact hrep) e
  refine ⟨_, _, β', ho _ _ hrun, ?_⟩
  simpa using hs

set_option maxHeartbeats 1000000 in
theorem opR_sound {o : Oper} (h : Sim B β s a.tmps w) {f : St → Prop} {z : Prop} (hr : (opR P.ti B.n o.op o.dst s).run f z) : z ∨ Does P B o a w f := by
  have hev := h.ev
  obtain ⟨dst, op, ty, pos, after, guard⟩ := o
  simp only at hr
  cases op with
  | move x => exact put_ok h (o := ⟨dst, .move x, ty, pos, after, guard⟩) rfl (hev x) hr
  | assign x => exact put_ok h (o := ⟨dst, .assign x, ty, pos, after, guard⟩) rfl (hev x) hr
  | pick c x y => exact val_ok h (o := ⟨dst, .pick c x y, ty, pos, after, guard⟩) ((pick_sound (P := P) (hev c) (hev x) (hev y)).mono fun _ ⟨v, hr, hv⟩ => ⟨v, by simpa [execOp] using hr, hv⟩) hr
  | alloc e =>
    simp only [opR] at hr
    split at hr <;> try exact .inl hr
    rename_i cs hz
    exact new_ok (o := ⟨dst, .alloc e, ty, pos, after, guard⟩) (fun d hd h1 h2 => let ⟨v, w', β', hrun, hs⟩ := alloc_sound h hz h1 h2; ⟨v, w', β', by simp [execOp, hrun], hs⟩) hr
  | box e x =>
    simp only [opR] at hr
    split at hr <;> try exact .inl hr
    rename_i cs hc
    exact new_ok (o := ⟨dst, .box e x, ty, pos, after, guard⟩) (fun d hd h1 h2 => let ⟨v, w', β', hrun, hs⟩ := box_sound (P := P) (t := e) h (hev x) hc h1 h2; ⟨v, w', β', by simp [execOp, hrun], hs⟩) hr
  | build t parts =>
    obtain ⟨p1, p2⟩ := parts_ok h parts
    exact val_ok h (o := ⟨dst, .build t parts, ty, pos, after, guard⟩) ((build_sound (P := P) (t := t) p1 p2).mono fun _ ⟨v, hr, hv⟩ => ⟨v, by simp [execOp, hr], hv⟩) hr
  | buildSlice t l parts =>
    simp only [opR] at hr
    split at hr <;> try exact .inl hr
    rename_i e xs hk hx
    split at hr <;> try exact .inl hr
    rename_i hc
    obtain ⟨rfl, hz, hw, hok, hb⟩ := hc
    obtain ⟨z', hz⟩ := Option.isSome_iff_exists.1 hz
    have hk' : (P.ti t).k = .slice e := by
      unfold sliceE at hk
      split at hk <;> cases hk
      assumption
    obtain ⟨p1, p2⟩ := parts_ok h parts
    refine new_ok (o := ⟨dst, .buildSlice t xs.length parts, ty, pos, after, guard⟩) (fun d hd h1 h2 => ?_) hr
    obtain ⟨v, w', β', hrun, hs⟩ := buildSlice_sound (P := P) (t := t) h p1 p2 hk' hx hz hw (fun x hx' => okWb_ok (List.all_eq_true.1 hok x hx')) hb h1 h2
    exact ⟨v, w', β', by simp [execOp, hrun], hs⟩
  | load t x => exact val_ok h (o := ⟨dst, .load t x, ty, pos, after, guard⟩) ((load_sound (P := P) (t := t) h (hev x)).mono fun _ ⟨v, hr, hv⟩ => ⟨v, by simp [execOp, hr], hv⟩) hr
  | store t x y =>
    have hs := store_sound (P := P) (t := t) h (hev x) (hev y)
    have hr' : ((storeR (P.ti t) s (ev s x) (ev s y)).bind fun s' => putR B.n dst s' .un).run f z := hr
    have key : ∀ r : R St, RV r (fun s' => ∃ w', (Instr.storeAt t (a.eval x) (a.eval y)).run P w = .ok () w' ∧ Sim B β s' a.tmps w') → (r.bind fun s' => putR B.n dst s' .un).run f z → z ∨ Does P B ⟨dst, .store t x y, ty, pos, after, guard⟩ a w f := by
      intro r
      induction r with
      | ok s' =>
        rintro ⟨w', hrun, hsim⟩ hr
        rcases putR_ok hr with hz | ⟨hd, hf⟩
        · exact .inl hz
        · exact .inr ⟨.skip, undef, w', _, β, by simp [execOp, hrun], .inr ⟨rfl, rfl⟩, hf, hsim.putd hd (.un _)⟩
      | need p r ih => exact fun hφ hr => ih (hφ hr.1) hr.2
      | no => exact fun _ hr => .inl hr
    exact key _ hs hr'
  | fieldAddr t x fi => exact val_ok h (o := ⟨dst, .fieldAddr t x fi, ty, pos, after, guard⟩) ((fieldAddr_sound (P := P) (t := t) (hev x)).mono fun _ ⟨v, hr, hv⟩ => ⟨v, by simp [execOp, hr], hv⟩) hr
  | field t x fi => exact val_ok h (o := ⟨dst, .field t x fi, ty, pos, after, guard⟩) ((field_sound (P := P) (t := t) (hev x)).mono fun _ ⟨v, hr, hv⟩ => ⟨v, by simp [execOp, hr], hv⟩) hr
  | indexAddr t x j => exact val_ok h (o := ⟨dst, .indexAddr t x j, ty, pos, after, guard⟩) ((indexAddr_sound (P := P) (t := t) (hev x) (hev j)).mono fun _ ⟨v, hr, hv⟩ => ⟨v, by simp [execOp, hr], hv⟩) hr
  | index t x j => exact val_ok h (o := ⟨dst, .index t x j, ty, pos, after, guard⟩) ((index_sound (P := P) (t := t) (hev x) (hev j)).mono fun _ ⟨v, hr, hv⟩ => ⟨v, by simp [execOp, hr], hv⟩) hr
  | slice t x lo hi mx =>
    cases mx with
    | some _ => exact .inl hr
    | none =>
      have opt : ∀ o : Option Operand, (∀ x, o.map (ev s) = some x → ∃ v, o.map a.eval = some v ∧ VR w.heap (s.own B.A β) s.used s.hp β v x) ∧ (o.map (ev s) = none → o.map a.eval = none) := by
        intro o
        cases o with
        | none => exact ⟨fun x h => (by cases h), fun _ => rfl⟩
        | some o => exact ⟨fun x h => (by cases h; exact ⟨_, rfl, hev o⟩), fun h => (by cases h)⟩
      exact val_ok h (o := ⟨dst, .slice t x lo hi none, ty, pos, after, guard⟩) ((slice_sound (P := P) (t := t) (hev x) (opt lo).1 (opt lo).2 (opt hi).1 (opt hi).2).mono fun _ ⟨v, hr, hv⟩ => ⟨v, by simp [execOp, hr], hv⟩) hr
  | binOp op t x y yt =>
    exact val_ok h (o := ⟨dst, .binOp op t x y yt, ty, pos, after, guard⟩) ((bin_sound (P := P) (t := t) (hev x) (hev y) x y).mono fun _ ⟨v, hr, hv⟩ => ⟨v, by simp only [execOp, Sem.run_bind] at hr ⊢; rw [hr]; rfl, hv⟩) hr
  | unOp op t x => exact val_ok h (o := ⟨dst, .unOp op t x, ty, pos, after, guard⟩) ((un_sound (P := P) (hev x)).mono fun _ ⟨v, hr, hv⟩ => ⟨v, by simp [execOp, hr], hv⟩) hr
  | convert t t' x => exact val_ok h (o := ⟨dst, .convert t t' x, ty, pos, after, guard⟩) ((conv_sound (P := P) (t := t) (t' := t') (hev x)).mono fun _ ⟨v, hr, hv⟩ => ⟨v, by simp [execOp, hr], hv⟩) hr
  | extract x i => exact val_ok h (o := ⟨dst, .extract x i, ty, pos, after, guard⟩) ((extract_sound (P := P) (hev x) i).mono fun _ ⟨v, hr, hv⟩ => ⟨v, by simp [execOp, hr], hv⟩) hr
  | nilCheck x => exact val_ok h (o := ⟨dst, .nilCheck x, ty, pos, after, guard⟩) ((nil_sound (hev x)).mono fun _ ⟨⟨ad, hr⟩, hv⟩ => ⟨a.eval x, by simp [execOp, hr], hv⟩) hr
  | makeFunc fn first caps =>
    refine val_ok h (o := ⟨dst, .makeFunc fn first caps, ty, pos, after, guard⟩) ((makeFunc_sound (P := P) (ρ := a.eval) (cvs := caps.map a.eval) (by simp) (fun i x hi => ?_)).mono fun _ ⟨v, hr, hv⟩ => ⟨v, by simp [execOp, hr], hv⟩) hr
    simp only [List.getElem?_map, Option.map_eq_some_iff] at hi
    obtain ⟨o, ho, rfl⟩ := hi
    have : (caps.map a.eval).getD i undef = a.eval o := by
      simp only [Array.getElem?_toList] at ho
      simp [Array.getD_eq_getD_getElem?, ho]
    rw [this]; exact hev o
  | makeSlice t l c => exact makeSlice_sound h (hev l) (hev c) ⟨dst, .makeSlice t l c, ty, pos, after, guard⟩ (fun v w' hr => by simp [execOp, hr]) hr
  | call c =>
    obtain ⟨callee, args, ats⟩ := c
    cases callee with
    | value _ => exact .inl hr
    | invoke _ _ => exact .inl hr
    | builtin b =>
      obtain ⟨args⟩ := args
      obtain ⟨ats⟩ := ats
      simp only [opR, builtinR] at hr
      split at hr
      · rename_i x hx
        obtain ⟨xo, rfl, rfl⟩ : ∃ xo, args = [xo] ∧ ev s xo = x := by
          match args, hx with
          | [xo], hx => exact ⟨xo, rfl, by simpa using hx⟩
        split at hr <;> try exact .inl hr
        rename_i t
        exact val_ok h (o := ⟨dst, .call { callee := .builtin .len, args := [xo].toArray, argTypes := [t].toArray }, ty, pos, after, guard⟩)
          ((len_sound (P := P) (t := t) h (hev xo) rfl ty).mono fun _ ⟨v, hr, hv⟩ => ⟨v, by simp [execOp, resolve, invoke, builtin, hr], hv⟩) hr
      · rename_i x y hx
        obtain ⟨xo, yo, rfl, rfl, rfl⟩ : ∃ xo yo, args = [xo, yo] ∧ ev s xo = x ∧ ev s yo = y := by
          match args, hx with
          | [xo, yo], hx => exact ⟨xo, yo, rfl, by simpa using hx⟩
        exact val_ok h (o := ⟨dst, .call { callee := .builtin .max, args := [xo, yo].toArray, argTypes := ats.toArray }, ty, pos, after, guard⟩)
          ((max_sound (P := P) (hev xo) (hev yo) ats.toArray ty).mono fun _ ⟨v, hr, hv⟩ => ⟨v, by simp [execOp, resolve, invoke, builtin, hr], hv⟩) hr
      · rename_i x y hx
        obtain ⟨xo, yo, rfl, rfl, rfl⟩ : ∃ xo yo, args = [xo, yo] ∧ ev s xo = x ∧ ev s yo = y := by
          match args, hx with
          | [xo, yo], hx => exact ⟨xo, yo, rfl, by simpa using hx⟩
        exact val_ok h (o := ⟨dst, .call { callee := .builtin .min, args := [xo, yo].toArray, argTypes := ats.toArray }, ty, pos, after, guard⟩)
          ((min_sound (P := P) (hev xo) (hev yo) ats.toArray ty).mono fun _ ⟨v, hr, hv⟩ => ⟨v, by simp [execOp, resolve, invoke, builtin, hr], hv⟩) hr
      · rename_i x y hx
        obtain ⟨xo, yo, rfl, rfl, rfl⟩ : ∃ xo yo, args = [xo, yo] ∧ ev s xo = x ∧ ev s yo = y := by
          match args, hx with
          | [xo, yo], hx => exact ⟨xo, yo, rfl, by simpa using hx⟩
        split at hr <;> try exact .inl hr
        rename_i t t'
        split at hr <;> try exact .inl hr
        rename_i htt
        have htt : t = t' := by simpa using htt
        subst htt
        split at hr <;> try exact .inl hr
        rename_i e hk
        split at hr <;> try exact .inl hr
        rename_i hc
        have hs := append_sound (P := P) (t := t) h (hev xo) (hev yo) hk hc.1 hc.2 ty dst
        rcases RV.run hs hr with hz | ⟨s', ⟨dd, v, w', β', rfl, hrun, hsim⟩, hf⟩
        · exact .inl hz
        · exact .inr ⟨_, v, w', s', β', by simp [execOp, resolve, invoke, builtin, hrun], .inl rfl, hf, hsim⟩
      · exact .inl hr
  | _ => exact .inl hr
end
end Go.Ab
