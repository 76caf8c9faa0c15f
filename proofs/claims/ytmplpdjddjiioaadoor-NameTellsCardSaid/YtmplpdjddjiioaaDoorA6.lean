/-
  The generic layer, part 6: each step is sound: the values.
-/
import Derived.Test.YtmplpdjddjiioaaDoorA4
namespace Go.Ab

/-! ### What the program says of a type -/
section
variable {P : Program} {t : Nat}
theorem ti_good (h : (P.ti t).k.isBad = false) : ∃ i d, P.info? t = some i ∧ P.underlying t = some d ∧ (P.ti t).k = tk d ∧ (P.ti t).sz = i.size ∧ (P.ti t).by' = i.bytes ∧
    (P.ti t).z = i.zero.bind fun v => v.cells.toList.mapM zd := by
  unfold Program.ti at h ⊢
  split
  · rename_i i d hi hd
    exact ⟨i, d, hi, hd, rfl, rfl, rfl, rfl⟩
  · rename_i hne
    split at h
    · rename_i i d hi hd; exact absurd hd (hne i d hi)
    · simp [TK.isBad] at h
theorem ti_slice {e : Nat} (h : (P.ti t).k = .slice e) : P.underlying t = some (.slice e) := by
  obtain ⟨i, d, _, hd, hk, _⟩ := ti_good (P := P) (t := t) (by rw [h]; rfl)
  rw [h] at hk; rw [hd]
  cases d <;> simp [tk] at hk
  rw [hk]
theorem ti_str (h : (P.ti t).k = .str) : P.underlying t = some .string := by
  obtain ⟨i, d, _, hd, hk, _⟩ := ti_good (P := P) (t := t) (by rw [h]; rfl)
  rw [h] at hk; rw [hd]
  cases d <;> simp [tk] at hk
  rfl
theorem ti_int {k : IntKind} (h : (P.ti t).k = .int k) : P.underlying t = some (.int k) := by
  obtain ⟨i, d, _, hd, hk, _⟩ := ti_good (P := P) (t := t) (by rw [h]; rfl)
  rw [h] at hk; rw [hd]
  cases d <;> simp [tk] at hk
  rw [hk]
theorem ti_map {a b : Nat} (h : (P.ti t).k = .map a b) : P.underlying t = some (.map a b) := by
  obtain ⟨i, d, _, hd, hk, _⟩ := ti_good (P := P) (t := t) (by rw [h]; rfl)
  rw [h] at hk; rw [hd]
  cases d <;> simp [tk] at hk
  rw [hk.1, hk.2]
theorem ti_struct {fs : List (Nat × Nat)} (h : (P.ti t).k = .struct fs) : ∃ fl : Array Field, P.underlying t = some (.struct fl) ∧ fs = fl.toList.map fun f => (f.offset, f.type) := by
  obtain ⟨i, d, _, hd, hk, _⟩ := ti_good (P := P) (t := t) (by rw [h]; rfl)
  rw [h] at hk; rw [hd]
  cases d <;> simp [tk] at hk
  exact ⟨_, rfl, hk⟩
theorem run_isAgg (h : (P.ti t).k.isBad = false) (w : World) : (isAgg t).run P w = .ok (P.ti t).k.agg w := by
  obtain ⟨i, d, _, hd, hk, _⟩ := ti_good h
  rw [hk]
  cases d <;> simp [isAgg, run_underlying hd, tk, TK.agg]
theorem run_sizeOf (h : (P.ti t).k.isBad = false) (w : World) : (sizeOf t).run P w = .ok (P.ti t).sz w := by
  obtain ⟨i, d, hi, hd, _, hs, _⟩ := ti_good h
  simp [sizeOf, typeInfo, hi, hs]
theorem run_typeInfo (h : (P.ti t).k.isBad = false) (w : World) : ∃ i, (typeInfo t).run P w = .ok i w ∧ i.size = (P.ti t).sz ∧ i.bytes = (P.ti t).by' ∧ (P.ti t).z = i.zero.bind fun v => v.cells.toList.mapM zd := by
  obtain ⟨i, d, hi, hd, _, hs, hb, hz⟩ := ti_good h
  exact ⟨i, by simp [typeInfo, hi], hs.symm, hb.symm, hz⟩
theorem zd_good {z : List D} (h : (P.ti t).z = some z) : (P.ti t).k.isBad = false := by
  unfold Program.ti at h ⊢
  split
  · rename_i i d _ _
    cases d <;> rfl
  · split at h <;> simp_all
end

/-! ### Zero values -/
theorem zd_rep {H : Array Obj} {own : Nat → Prop} {v : Value} {d : D} (h : zd v = some d) : Rep H own v d ∧ d.scal = true ∧ v.oneCell' = true := by
  cases v with
  | bool b => cases h; exact ⟨.bool b, rfl, rfl⟩
  | int k n => cases h; exact ⟨.int k n, rfl, rfl⟩
  | string s => cases h; exact ⟨.str s.data.toList, rfl, rfl⟩
  | pointer a => cases a <;> cases h; exact ⟨.nilp, rfl, rfl⟩
  | slice a l c => cases a <;> cases l <;> cases c <;> cases h; exact ⟨.nils, rfl, rfl⟩
  | map r => cases r <;> cases h; exact ⟨.nilm, rfl, rfl⟩
  | nilFunc => cases h; exact ⟨.nilf, rfl, rfl⟩
  | nilIface => cases h; exact ⟨.nili, rfl, rfl⟩
  | _ => cases h

theorem mapM_zd {H : Array Obj} {own : Nat → Prop} : ∀ {vs : List Value} {ds : List D}, vs.mapM zd = some ds → ds.length = vs.length ∧ (∀ d ∈ ds, d.scal = true) ∧ (∀ v ∈ vs, v.oneCell' = true) ∧
    ∀ (j : Nat) (d : D), ds[j]? = some d → ∃ v, vs[j]? = some v ∧ Rep H own v d
  | [], ds, h => by simp at h; subst h; simp
  | v :: r, ds, h => by
    simp only [List.mapM_cons, Option.bind_eq_bind, Option.bind_eq_some_iff] at h
    obtain ⟨d, hd, ds', hr, h⟩ := h
    cases h
    obtain ⟨h1, h2, h3⟩ := zd_rep (H := H) (own := own) hd
    obtain ⟨g1, g2, g3, g4⟩ := mapM_zd (H := H) (own := own) hr
    refine ⟨by simp [g1], by simpa using ⟨h2, g2⟩, by simpa using ⟨h3, g3⟩, fun j d' hj => ?_⟩
    cases j with
    | zero => simp at hj; subst hj; exact ⟨v, rfl, h1⟩
    | succ j => exact g4 j d' (by simpa using hj)

/-! ### Operands -/
section
variable {B : Base} {β : Name → Option Blk} {s : St} {a : Act} {w : World}
theorem cv_rep {H own used hp} {β : Name → Option Blk} (v : Value) : VR H own used hp β v (cv v) := by
  cases v with
  | bool b => exact .d _ _ (.bool b)
  | int k n => exact .d _ _ (.int k n)
  | string s => exact .d _ _ (.str s.data.toList)
  | pointer a => cases a <;> first | exact .d _ _ .nilp | exact .un _
  | slice a l c => cases a <;> cases l <;> cases c <;> first | exact .d _ _ .nils | exact .un _
  | map r => cases r <;> first | exact .d _ _ .nilm | exact .un _
  | nilFunc => exact .d _ _ .nilf
  | nilIface => exact .d _ _ .nili
  | _ => exact .un _

theorem Sim.ev (h : Sim B β s a.tmps w) (x : Operand) : VR w.heap (s.own B.A β) s.used s.hp β (a.eval x) (ev s x) := by
  cases x with
  | tmp t => exact h.slots t
  | const v => exact cv_rep v
  | global g => exact .un _
  | func f => exact .clo f #[] [] rfl (fun i x hi => by simp at hi)
end

/-! ### Inversions -/
section
variable {H : Array Obj} {own : Nat → Prop} {used : List Nat} {hp : Name → Option Ob} {β : Name → Option Blk} {v : Value}
theorem VR.toD {x : D} (h : VR H own used hp β v (.d x)) : Rep H own v x := by cases h; assumption
theorem VR.int {k n} (h : VR H own used hp β v (.d (.int k n))) : v = .int k n := by cases h.toD; rfl
theorem VR.bool {b} (h : VR H own used hp β v (.d (.bool b))) : v = .bool b := by cases h.toD; rfl
theorem VR.str {l} (h : VR H own used hp β v (.d (.str l))) : v = .string ⟨l.toArray⟩ := by cases h.toD; rfl
theorem VR.nils (h : VR H own used hp β v (.d .nils)) : v = .slice none 0 0 := by cases h.toD; rfl
end

/-! ### Cells -/
theorem allD_some : ∀ {cs : List AV} {ds : List D}, allD cs = some ds → cs = ds.map .d
  | [], ds, h => by simp [allD] at h; subst h; rfl
  | .d x :: r, ds, h => by
    simp only [allD, Option.map_eq_some_iff] at h
    obtain ⟨ds', hr, rfl⟩ := h
    simp [allD_some hr]
  | .un :: r, ds, h => by simp [allD] at h
  | .vw _ _ _ :: r, ds, h => by simp [allD] at h
  | .at _ _ :: r, ds, h => by simp [allD] at h
  | .el _ _ _ :: r, ds, h => by simp [allD] at h
  | .mp _ :: r, ds, h => by simp [allD] at h
  | .it _ :: r, ds, h => by simp [allD] at h
  | .agg _ :: r, ds, h => by simp [allD] at h
  | .tup _ :: r, ds, h => by simp [allD] at h
  | .clo _ _ :: r, ds, h => by simp [allD] at h

section
variable {H : Array Obj} {own : Nat → Prop} {used : List Nat} {hp : Name → Option Ob} {β : Name → Option Blk}
theorem VR.scal {v : Value} {d : D} (h1 : v.oneCell' = true) (h : VR H own used hp β v (.d d)) : d.scal = true := by
  have := h.toD
  cases this <;> first | rfl | simp [Value.oneCell'] at h1

/-- Cells that stand for a list, as one value. -/
theorem mkAgg_rep {vs : List Value} {cs : List AV} (hs : vs.length = cs.length) (h1 : ∀ v ∈ vs, v.oneCell' = true) (h : ∀ (i : Nat) v x, vs[i]? = some v → cs[i]? = some x → VR H own used hp β v x) :
    VR H own used hp β (.agg vs.toArray) (mkAgg cs) := by
  unfold mkAgg
  split
  · rename_i ds hd
    have e := allD_some hd
    subst e
    refine .d _ _ (.agg _ ds (by simpa using hs) (fun d hd' => ?_) (fun i d hi => ?_))
    · obtain ⟨i, hi⟩ := List.mem_iff_getElem?.1 hd'
      have hlt : i < vs.length := by rw [hs]; simp; exact (List.getElem?_eq_some_iff.1 hi).1
      exact VR.scal (h1 _ (List.getElem_mem hlt)) (h i _ (.d d) (List.getElem?_eq_getElem hlt) (by simp [hi]))
    · have hlt : i < vs.length := by rw [hs]; simp; exact (List.getElem?_eq_some_iff.1 hi).1
      have := (h i _ (.d d) (List.getElem?_eq_getElem hlt) (by simp [hi])).toD
      simpa [Array.getD_eq_getD_getElem?, hlt] using this
  · refine .agg _ cs (by simpa using hs) (by simpa using h1) (fun i x hi => ?_)
    have hlt : i < vs.length := by rw [hs]; exact (List.getElem?_eq_some_iff.1 hi).1
    have := h i _ x (List.getElem?_eq_getElem hlt) hi
    simpa [Array.getD_eq_getD_getElem?, hlt] using this

theorem cellsD_rep {v : Value} {d : D} {cs : List AV} (hc : cellsD d = some cs) (h : Rep H own v d) : v.cells.size = cs.length ∧ (∀ u ∈ v.cells, u.oneCell' = true) ∧
    ∀ i x, cs[i]? = some x → VR H own used hp β (v.cells.getD i undef) x := by
  cases d with
  | agg ds =>
    simp only [cellsD, Option.some.injEq] at hc; subst hc
    cases h with
    | agg vs ds hs hsc h =>
      refine ⟨by simpa [Value.cells] using hs, fun u hu => ?_, fun i x hi => ?_⟩
      · obtain ⟨i, hi⟩ := Array.mem_iff_getElem?.1 hu
        have hlt : i < ds.length := by rw [← hs]; exact (Array.getElem?_eq_some_iff.1 hi).1
        have := (h i _ (List.getElem?_eq_getElem hlt)).oneCell (hsc _ (List.getElem_mem hlt))
        have e : vs.getD i undef = u := by
          simp only [Value.cells] at hi
          simp [Array.getD_eq_getD_getElem?, hi]
        rwa [e] at this
      · simp only [List.getElem?_map, Option.map_eq_some_iff] at hi
        obtain ⟨d, hd, rfl⟩ := hi
        exact .d _ _ (h i d hd)
  | _ =>
    simp only [cellsD, Option.some.injEq] at hc; subst hc
    have h1 := h.oneCell rfl
    have e : v.cells = #[v] := by cases v <;> first | rfl | simp [Value.oneCell'] at h1
    rw [e]
    refine ⟨rfl, by simpa using h1, fun i x hi => ?_⟩
    cases i with
    | zero => simp at hi; subst hi; exact .d _ _ (by simpa using h)
    | succ i => simp at hi

theorem cellsA_rep {v : Value} {x : AV} {cs : List AV} (hc : cellsA x = some cs) (h : VR H own used hp β v x) :
    v.cells.size = cs.length ∧ (∀ u ∈ v.cells, u.oneCell' = true) ∧ ∀ i x, cs[i]? = some x → VR H own used hp β (v.cells.getD i undef) x := by
  have one : ∀ y : AV, cs = [y] → VR H own used hp β v y → v.oneCell' = true → v.cells.size = cs.length ∧ (∀ u ∈ v.cells, u.oneCell' = true) ∧ ∀ i x, cs[i]? = some x → VR H own used hp β (v.cells.getD i undef) x := by
    intro y hy hh h1
    subst hy
    have e : v.cells = #[v] := by cases v <;> first | rfl | simp [Value.oneCell'] at h1
    rw [e]
    refine ⟨rfl, by simpa using h1, fun i x hi => ?_⟩
    cases i with
    | zero => simp at hi; subst hi; simpa using hh
    | succ i => simp at hi
  cases x with
  | d y => exact cellsD_rep hc h.toD
  | agg ds =>
    simp only [cellsA, Option.some.injEq] at hc; subst hc
    cases h with
    | agg vs ds hs h1 h => exact ⟨by simpa [Value.cells] using hs, by simpa [Value.cells] using h1, fun i x hi => by simpa [Value.cells] using h i x hi⟩
  | vw p o l => simp only [cellsA, Option.some.injEq] at hc; exact one _ hc.symm h (by cases h; assumption)
  | «at» p c => simp only [cellsA, Option.some.injEq] at hc; exact one _ hc.symm h (by cases h; assumption)
  | el p i c => simp only [cellsA, Option.some.injEq] at hc; exact one _ hc.symm h (by cases h; assumption)
  | mp p => simp only [cellsA, Option.some.injEq] at hc; exact one _ hc.symm h (by cases h; assumption)
  | it p => simp only [cellsA, Option.some.injEq] at hc; exact one _ hc.symm h (by cases h; assumption)
  | clo f c => simp only [cellsA, Option.some.injEq] at hc; exact one _ hc.symm h (by cases h; rfl)
  | un => cases hc
  | tup _ => cases hc
end
end Go.Ab
