/-
  The generic layer, part 6: each step is sound: the values. (with the parts that follow it)
-/
import Derived.Test.YtjoneaifakonjaaDoorA5
import Derived.Laws.Strings2
import Derived.Laws.Concat
import Derived.Laws.Small
import Derived.Laws.MakeOwn
import Derived.Laws.NewBlocks
set_option linter.all false
/-! ### The generic layer, part 6: each step is sound: the values. -/
namespace Go.Ab

/-! ### What the program says of a type -/
section
variable {P : Program} {t : Nat}
theorem ti_good (h : (P.ti t).k.isBad = false) : ∃ i d, P.info? t = some i ∧ P.underlying t = some d ∧ (P.ti t).k = tk d ∧ (P.ti t).sz = i.size ∧ (P.ti t).by' = i.bytes ∧
    (P.ti t).z = i.zero.bind fun v => v.cells.toList.mapM zd := by
  unfold Program.ti at h ⊢
  split
  · rename_i i d hi hd
    exact ⟨i, d, hi, hd, rfl, rfl, rfl, rfl⟩
  · rename_i hne
    split at h
    · rename_i i d hi hd; exact absurd hd (hne i d hi)
    · simp [TK.isBad] at h
theorem ti_slice {e : Nat} (h : (P.ti t).k = .slice e) : P.underlying t = some (.slice e) := by
  obtain ⟨i, d, _, hd, hk, _⟩ := ti_good (P := P) (t := t) (by rw [h]; rfl)
  rw [h] at hk; rw [hd]
  cases d <;> simp [tk] at hk
  rw [hk]
theorem ti_str (h : (P.ti t).k = .str) : P.underlying t = some .string := by
  obtain ⟨i, d, _, hd, hk, _⟩ := ti_good (P := P) (t := t) (by rw [h]; rfl)
  rw [h] at hk; rw [hd]
  cases d <;> simp [tk] at hk
  rfl
theorem ti_int {k : IntKind} (h : (P.ti t).k = .int k) : P.underlying t = some (.int k) := by
  obtain ⟨i, d, _, hd, hk, _⟩ := ti_good (P := P) (t := t) (by rw [h]; rfl)
  rw [h] at hk; rw [hd]
  cases d <;> simp [tk] at hk
  rw [hk]
theorem ti_map {a b : Nat} (h : (P.ti t).k = .map a b) : P.underlying t = some (.map a b) := by
  obtain ⟨i, d, _, hd, hk, _⟩ := ti_good (P := P) (t := t) (by rw [h]; rfl)
  rw [h] at hk; rw [hd]
  cases d <;> simp [tk] at hk
  rw [hk.1, hk.2]
theorem ti_struct {fs : List (Nat × Nat)} (h : (P.ti t).k = .struct fs) : ∃ fl : Array Field, P.underlying t = some (.struct fl) ∧ fs = fl.toList.map fun f => (f.offset, f.type) := by
  obtain ⟨i, d, _, hd, hk, _⟩ := ti_good (P := P) (t := t) (by rw [h]; rfl)
  rw [h] at hk; rw [hd]
  cases d <;> simp [tk] at hk
  exact ⟨_, rfl, hk⟩
theorem run_isAgg (h : (P.ti t).k.isBad = false) (w : World) : (isAgg t).run P w = .ok (P.ti t).k.agg w := by
  obtain ⟨i, d, _, hd, hk, _⟩ := ti_good h
  rw [hk]
  cases d <;> simp [isAgg, run_underlying hd, tk, TK.agg]
theorem run_sizeOf (h : (P.ti t).k.isBad = false) (w : World) : (sizeOf t).run P w = .ok (P.ti t).sz w := by
  obtain ⟨i, d, hi, hd, _, hs, _⟩ := ti_good h
  simp [sizeOf, typeInfo, hi, hs]
theorem run_typeInfo (h : (P.ti t).k.isBad = false) (w : World) : ∃ i, (typeInfo t).run P w = .ok i w ∧ i.size = (P.ti t).sz ∧ i.bytes = (P.ti t).by' ∧ (P.ti t).z = i.zero.bind fun v => v.cells.toList.mapM zd := by
  obtain ⟨i, d, hi, hd, _, hs, hb, hz⟩ := ti_good h
  exact ⟨i, by simp [typeInfo, hi], hs.symm, hb.symm, hz⟩
theorem zd_good {z : List D} (h : (P.ti t).z = some z) : (P.ti t).k.isBad = false := by
  unfold Program.ti at h ⊢
  split
  · rename_i i d _ _
    cases d <;> rfl
  · split at h <;> simp_all
end

/-! ### Zero values -/
theorem zd_rep {H : Array Obj} {own : Nat → Prop} {v : Value} {d : D} (h : zd v = some d) : Rep H own v d ∧ d.scal = true ∧ v.oneCell' = true := by
  cases v with
  | bool b => cases h; exact ⟨.bool b, rfl, rfl⟩
  | int k n => cases h; exact ⟨.int k n, rfl, rfl⟩
  | string s => cases h; exact ⟨.str s.data.toList, rfl, rfl⟩
  | pointer a => cases a <;> cases h; exact ⟨.nilp, rfl, rfl⟩
  | slice a l c => cases a <;> cases l <;> cases c <;> cases h; exact ⟨.nils, rfl, rfl⟩
  | map r => cases r <;> cases h; exact ⟨.nilm, rfl, rfl⟩
  | nilFunc => cases h; exact ⟨.nilf, rfl, rfl⟩
  | nilIface => cases h; exact ⟨.nili, rfl, rfl⟩
  | _ => cases h

theorem mapM_zd {H : Array Obj} {own : Nat → Prop} : ∀ {vs : List Value} {ds : List D}, vs.mapM zd = some ds → ds.length = vs.length ∧ (∀ d ∈ ds, d.scal = true) ∧ (∀ v ∈ vs, v.oneCell' = true) ∧
    ∀ (j : Nat) (d : D), ds[j]? = some d → ∃ v, vs[j]? = some v ∧ Rep H own v d
  | [], ds, h => by simp at h; subst h; simp
  | v :: r, ds, h => by
    simp only [List.mapM_cons, Option.bind_eq_bind, Option.bind_eq_some_iff] at h
    obtain ⟨d, hd, ds', hr, h⟩ := h
    cases h
    obtain ⟨h1, h2, h3⟩ := zd_rep (H := H) (own := own) hd
    obtain ⟨g1, g2, g3, g4⟩ := mapM_zd (H := H) (own := own) hr
    refine ⟨by simp [g1], by simpa using ⟨h2, g2⟩, by simpa using ⟨h3, g3⟩, fun j d' hj => ?_⟩
    cases j with
    | zero => simp at hj; subst hj; exact ⟨v, rfl, h1⟩
    | succ j => exact g4 j d' (by simpa using hj)

/-! ### Operands -/
section
variable {B : Base} {β : Name → Option Blk} {s : St} {a : Act} {w : World}
theorem cv_rep {H own used hp} {β : Name → Option Blk} (v : Value) : VR H own used hp β v (cv v) := by
  cases v with
  | bool b => exact .d _ _ (.bool b)
  | int k n => exact .d _ _ (.int k n)
  | string s => exact .d _ _ (.str s.data.toList)
  | pointer a => cases a <;> first | exact .d _ _ .nilp | exact .un _
  | slice a l c => cases a <;> cases l <;> cases c <;> first | exact .d _ _ .nils | exact .un _
  | map r => cases r <;> first | exact .d _ _ .nilm | exact .un _
  | nilFunc => exact .d _ _ .nilf
  | nilIface => exact .d _ _ .nili
  | _ => exact .un _

theorem Sim.ev (h : Sim B β s a.tmps w) (x : Operand) : VR w.heap (s.own B.A β) s.used s.hp β (a.eval x) (ev s x) := by
  cases x with
  | tmp t => exact h.slots t
  | const v => exact cv_rep v
  | global g => exact .un _
  | func f => exact .clo f #[] [] rfl (fun i x hi => by simp at hi)
end

/-! ### Inversions -/
section
variable {H : Array Obj} {own : Nat → Prop} {used : List Nat} {hp : Name → Option Ob} {β : Name → Option Blk} {v : Value}
theorem VR.toD {x : D} (h : VR H own used hp β v (.d x)) : Rep H own v x := by cases h; assumption
theorem VR.int {k n} (h : VR H own used hp β v (.d (.int k n))) : v = .int k n := by cases h.toD; rfl
theorem VR.bool {b} (h : VR H own used hp β v (.d (.bool b))) : v = .bool b := by cases h.toD; rfl
theorem VR.str {l} (h : VR H own used hp β v (.d (.str l))) : v = .string ⟨l.toArray⟩ := by cases h.toD; rfl
theorem VR.nils (h : VR H own used hp β v (.d .nils)) : v = .slice none 0 0 := by cases h.toD; rfl
end

/-! ### Cells -/
theorem allD_some : ∀ {cs : List AV} {ds : List D}, allD cs = some ds → cs = ds.map .d
  | [], ds, h => by simp [allD] at h; subst h; rfl
  | .d x :: r, ds, h => by
    simp only [allD, Option.map_eq_some_iff] at h
    obtain ⟨ds', hr, rfl⟩ := h
    simp [allD_some hr]
  | .un :: r, ds, h => by simp [allD] at h
  | .vw _ _ _ :: r, ds, h => by simp [allD] at h
  | .bx _ _ :: r, ds, h => by simp [allD] at h
  | .el _ _ _ :: r, ds, h => by simp [allD] at h
  | .mp _ :: r, ds, h => by simp [allD] at h
  | .it _ :: r, ds, h => by simp [allD] at h
  | .agg _ :: r, ds, h => by simp [allD] at h
  | .tup _ :: r, ds, h => by simp [allD] at h
  | .clo _ _ :: r, ds, h => by simp [allD] at h

section
variable {H : Array Obj} {own : Nat → Prop} {used : List Nat} {hp : Name → Option Ob} {β : Name → Option Blk}
theorem VR.scal {v : Value} {d : D} (h1 : v.oneCell' = true) (h : VR H own used hp β v (.d d)) : d.scal = true := by
  have := h.toD
  cases this <;> first | rfl | simp [Value.oneCell'] at h1

/-- Cells that stand for a list, as one value. -/
theorem mkAgg_rep {vs : List Value} {cs : List AV} (hs : vs.length = cs.length) (h1 : ∀ v ∈ vs, v.oneCell' = true) (h : ∀ (i : Nat) v x, vs[i]? = some v → cs[i]? = some x → VR H own used hp β v x) :
    VR H own used hp β (.agg vs.toArray) (mkAgg cs) := by
  unfold mkAgg
  split
  · rename_i ds hd
    have e := allD_some hd
    subst e
    refine .d _ _ (.agg _ ds (by simpa using hs) (fun d hd' => ?_) (fun i d hi => ?_))
    · obtain ⟨i, hi⟩ := List.mem_iff_getElem?.1 hd'
      have hlt : i < vs.length := by rw [hs]; simp; exact (List.getElem?_eq_some_iff.1 hi).1
      exact VR.scal (h1 _ (List.getElem_mem hlt)) (h i _ (.d d) (List.getElem?_eq_getElem hlt) (by simp [hi]))
    · have hlt : i < vs.length := by rw [hs]; simp; exact (List.getElem?_eq_some_iff.1 hi).1
      have := (h i _ (.d d) (List.getElem?_eq_getElem hlt) (by simp [hi])).toD
      simpa [Array.getD_eq_getD_getElem?, hlt] using this
  · refine .agg _ cs (by simpa using hs) (by simpa using h1) (fun i x hi => ?_)
    have hlt : i < vs.length := by rw [hs]; exact (List.getElem?_eq_some_iff.1 hi).1
    have := h i _ x (List.getElem?_eq_getElem hlt) hi
    simpa [Array.getD_eq_getD_getElem?, hlt] using this

theorem cellsD_rep {v : Value} {d : D} {cs : List AV} (hc : cellsD d = some cs) (h : Rep H own v d) : v.cells.size = cs.length ∧ (∀ u ∈ v.cells, u.oneCell' = true) ∧
    ∀ i x, cs[i]? = some x → VR H own used hp β (v.cells.getD i undef) x := by
  cases d with
  | agg ds =>
    simp only [cellsD, Option.some.injEq] at hc; subst hc
    cases h with
    | agg vs ds hs hsc h =>
      refine ⟨by simpa [Value.cells] using hs, fun u hu => ?_, fun i x hi => ?_⟩
      · obtain ⟨i, hi⟩ := Array.mem_iff_getElem?.1 hu
        have hlt : i < ds.length := by rw [← hs]; exact (Array.getElem?_eq_some_iff.1 hi).1
        have := (h i _ (List.getElem?_eq_getElem hlt)).oneCell (hsc _ (List.getElem_mem hlt))
        have e : vs.getD i undef = u := by
          simp only [Value.cells] at hi
          simp [Array.getD_eq_getD_getElem?, hi]
        rwa [e] at this
      · simp only [List.getElem?_map, Option.map_eq_some_iff] at hi
        obtain ⟨d, hd, rfl⟩ := hi
        exact .d _ _ (h i d hd)
  | _ =>
    simp only [cellsD, Option.some.injEq] at hc; subst hc
    have h1 := h.oneCell rfl
    have e : v.cells = #[v] := by cases v <;> first | rfl | simp [Value.oneCell'] at h1
    rw [e]
    refine ⟨rfl, by simpa using h1, fun i x hi => ?_⟩
    cases i with
    | zero => simp at hi; subst hi; exact .d _ _ (by simpa using h)
    | succ i => simp at hi

theorem cellsA_rep {v : Value} {x : AV} {cs : List AV} (hc : cellsA x = some cs) (h : VR H own used hp β v x) :
    v.cells.size = cs.length ∧ (∀ u ∈ v.cells, u.oneCell' = true) ∧ ∀ i x, cs[i]? = some x → VR H own used hp β (v.cells.getD i undef) x := by
  have one : ∀ y : AV, cs = [y] → VR H own used hp β v y → v.oneCell' = true → v.cells.size = cs.length ∧ (∀ u ∈ v.cells, u.oneCell' = true) ∧ ∀ i x, cs[i]? = some x → VR H own used hp β (v.cells.getD i undef) x := by
    intro y hy hh h1
    subst hy
    have e : v.cells = #[v] := by cases v <;> first | rfl | simp [Value.oneCell'] at h1
    rw [e]
    refine ⟨rfl, by simpa using h1, fun i x hi => ?_⟩
    cases i with
    | zero => simp at hi; subst hi; simpa using hh
    | succ i => simp at hi
  cases x with
  | d y => exact cellsD_rep hc h.toD
  | agg ds =>
    simp only [cellsA, Option.some.injEq] at hc; subst hc
    cases h with
    | agg vs ds hs h1 h => exact ⟨by simpa [Value.cells] using hs, by simpa [Value.cells] using h1, fun i x hi => by simpa [Value.cells] using h i x hi⟩
  | vw p o l => simp only [cellsA, Option.some.injEq] at hc; exact one _ hc.symm h (by cases h; assumption)
  | bx p c => simp only [cellsA, Option.some.injEq] at hc; exact one _ hc.symm h (by cases h; assumption)
  | el p i c => simp only [cellsA, Option.some.injEq] at hc; exact one _ hc.symm h (by cases h; assumption)
  | mp p => simp only [cellsA, Option.some.injEq] at hc; exact one _ hc.symm h (by cases h; assumption)
  | it p => simp only [cellsA, Option.some.injEq] at hc; exact one _ hc.symm h (by cases h; assumption)
  | clo f c => simp only [cellsA, Option.some.injEq] at hc; exact one _ hc.symm h (by cases h; rfl)
  | un => cases hc
  | tup _ => cases hc
end
end Go.Ab
/-! ### The generic layer, part 7: each step is sound: loads, addresses, numbers. -/
namespace Go.Ab

/-- If all that is asked holds, the result is such. -/
def RV {α : Type} : R α → (α → Prop) → Prop
  | .ok x, φ => φ x
  | .need p r, φ => p → RV r φ
  | .no, _ => True
theorem RV.mono {α : Type} {φ ψ : α → Prop} (h : ∀ x, φ x → ψ x) : ∀ {r : R α}, RV r φ → RV r ψ
  | .ok _, hr => h _ hr
  | .need _ _, hr => fun hp => RV.mono h (hr hp)
  | .no, _ => trivial
theorem RV.bind {α β : Type} {φ : α → Prop} {ψ : β → Prop} {f : α → R β} (hf : ∀ x, φ x → RV (f x) ψ) : ∀ {r : R α}, RV r φ → RV (r.bind f) ψ
  | .ok _, hr => hf _ hr
  | .need _ _, hr => fun hp => RV.bind hf (hr hp)
  | .no, _ => trivial
theorem RV.ofO {α : Type} {φ : α → Prop} {o : Option α} (h : ∀ x, o = some x → φ x) : RV (R.ofO o) φ := by
  cases o with
  | none => trivial
  | some x => exact h x rfl
theorem RV.run {φ : St → Prop} {f : St → Prop} {z : Prop} : ∀ {r : R St}, RV r φ → r.run f z → z ∨ ∃ s, φ s ∧ f s
  | .ok _, hr, h => .inr ⟨_, hr, h⟩
  | .need _ _, hr, h => RV.run (hr h.1) h.2
  | .no, _, h => .inl h

section
variable {P : Program} {t : Nat}
theorem addr_add (b o n : Nat) : (⟨b, o, none⟩ : Addr).add n = ⟨b, o + n, none⟩ := by unfold Addr.add; split <;> simp_all

theorem run_loadVar_agg (hg : (P.ti t).k.isBad = false) (ha : (P.ti t).k.agg = true) {w : World} {b o : Nat} {c : Array Value} {e : TypeId} {fz : Nat × Nat}
    (hb : w.heap[b]? = some (.cells c e fz)) (hz : o + (P.ti t).sz ≤ c.size) :
    (loadVar t ⟨b, o, none⟩).run P w = .ok (.agg ((c.toList.drop o).take (P.ti t).sz).toArray) w := by
  have hl : ((c.toList.drop o).take (P.ti t).sz).length = (P.ti t).sz := by simp; omega
  have := run_loadCells_list (P := P) w ⟨b, o, none⟩ ((c.toList.drop o).take (P.ti t).sz) (fun j v hv => by
    rw [addr_add, cell_of_row w b (o + j) c e fz hb]
    rw [List.getElem?_take] at hv
    split at hv
    · simpa using hv
    · cases hv)
  rw [hl] at this
  simp [loadVar, run_isAgg hg, ha, run_sizeOf hg, this]
theorem run_loadVar_one (hg : (P.ti t).k.isBad = false) (ha : (P.ti t).k.agg = false) {w : World} {b o : Nat} {c : Array Value} {e : TypeId} {fz : Nat × Nat}
    (hb : w.heap[b]? = some (.cells c e fz)) {v : Value} (hv : c[o]? = some v) : (loadVar t ⟨b, o, none⟩).run P w = .ok v w := by
  have hc : w.cell? ⟨b, o, none⟩ = some v := by rw [cell_of_row w b o c e fz hb, hv]
  simp [loadVar, run_isAgg hg, ha, hc]

theorem getD_of {α : Type} {c : Array α} {i : Nat} {z : α} (h : i < c.size) : c[i]? = some (c.getD i z) := by simp [Array.getD_eq_getD_getElem?, h]

/-- A part of a datum that lies there is read. -/
theorem part_sound {H : Array Obj} {own : Nat → Prop} {w : World} (hw : w.heap = H) {b o c0 : Nat} {c : Array Value} {e : TypeId} {fz : Nat × Nat} (hb : H[b]? = some (.cells c e fz)) {d y : D}
    (hz : o + d.cells.length ≤ c.size) (hsc : ∀ x ∈ d.cells, x.scal = true) (h : ∀ j x, d.cells[j]? = some x → Rep H own (c.getD (o + j) undef) x) (hp : partD (P.ti t) d c0 = some y) :
    ∃ v, (loadVar t ⟨b, o + c0, none⟩).run P w = .ok v w ∧ Rep H own v y := by
  subst hw
  unfold partD at hp
  by_cases hg : (P.ti t).k.isBad = true
  · simp [hg] at hp
  · have hg : (P.ti t).k.isBad = false := by simpa using hg
    simp only [hg, Bool.false_eq_true, if_false] at hp
    have one : ∀ y', d.cells[c0]? = some y' → (P.ti t).k.agg = false → ∃ v, (loadVar t ⟨b, o + c0, none⟩).run P w = .ok v w ∧ Rep w.heap own v y' := by
      intro y' hy ha
      have hlt : c0 < d.cells.length := (List.getElem?_eq_some_iff.1 hy).1
      exact ⟨_, run_loadVar_one hg ha hb (getD_of (z := undef) (show o + c0 < c.size by omega)), h c0 y' hy⟩
    cases d with
    | agg cs =>
      simp only at hp
      by_cases ha : (P.ti t).k.agg = true
      · simp only [ha, if_true] at hp
        split at hp
        · rename_i hle
          cases hp
          simp only [D.cells] at hz hsc h
          refine ⟨_, run_loadVar_agg hg ha hb (by omega), .agg _ _ (by simp; omega) (fun x hx => hsc x (List.mem_of_mem_drop (List.mem_of_mem_take hx))) (fun i x hi => ?_)⟩
          rw [List.getElem?_take] at hi
          split at hi
          · rename_i hlt
            rw [List.getElem?_drop] at hi
            have := h (c0 + i) x hi
            have hlt2 : c0 + i < cs.length := (List.getElem?_eq_some_iff.1 hi).1
            have e1 : ((c.toList.drop (o + c0)).take (P.ti t).sz).toArray.getD i undef = c.getD (o + (c0 + i)) undef := by
              simp [Array.getD_eq_getD_getElem?, hlt, Nat.add_assoc]
            rw [e1]; exact this
          · cases hi
        · cases hp
      · have ha : (P.ti t).k.agg = false := by simpa using ha
        simp only [ha, Bool.false_eq_true, if_false] at hp
        exact one y hp ha
    | _ =>
      simp only at hp
      by_cases ha : (P.ti t).k.agg = true
      · simp [ha] at hp
      · have ha : (P.ti t).k.agg = false := by simpa using ha
        simp only [ha, Bool.false_eq_true, if_false] at hp
        split at hp
        · rename_i h0
          cases hp; subst h0
          exact one _ rfl ha
        · cases hp
end

section
variable {P : Program} {B : Base} {β : Name → Option Blk} {s : St} {tm : Array Value} {w : World} {t : Nat}

theorem partC_sound (_h : Sim B β s tm w) {b c0 : Nat} {c : Array Value} {e : TypeId} {fz : Nat × Nat} (hb : w.heap[b]? = some (.cells c e fz)) {cs : List AV} (hl : c.size = cs.length) (h1 : ∀ v ∈ c, v.oneCell' = true)
    (hc : ∀ (j : Nat) x, cs[j]? = some x → VR w.heap (s.own B.A β) s.used s.hp β (c.getD j undef) x) :
    RV (partC (P.ti t) cs c0) fun y => ∃ v, (loadVar t ⟨b, c0, none⟩).run P w = .ok v w ∧ VR w.heap (s.own B.A β) s.used s.hp β v y := by
  unfold partC
  by_cases hg : (P.ti t).k.isBad = true
  · simp [hg, RV]
  · have hg : (P.ti t).k.isBad = false := by simpa using hg
    simp only [hg, Bool.false_eq_true, if_false]
    by_cases ha : (P.ti t).k.agg = true
    · simp only [ha, if_true]
      split
      · rename_i hle
        refine ⟨_, run_loadVar_agg hg ha hb (by omega), mkAgg_rep (by simp; omega) (fun v hv => h1 v ?_) (fun i v x hv hx => ?_)⟩
        · have := List.mem_of_mem_drop (List.mem_of_mem_take hv); simpa using this
        · rw [List.getElem?_take] at hv hx
          split at hv
          · rename_i hlt
            rw [if_pos hlt] at hx
            rw [List.getElem?_drop] at hv hx
            have := hc _ x hx
            have e1 : c.getD (c0 + i) undef = v := by
              simp only [Array.getElem?_toList] at hv
              simp [Array.getD_eq_getD_getElem?, hv]
            rwa [e1] at this
          · cases hv
      · trivial
    · have ha : (P.ti t).k.agg = false := by simpa using ha
      simp only [ha, Bool.false_eq_true, if_false]
      refine RV.ofO fun x hx => ?_
      have hlt : c0 < cs.length := (List.getElem?_eq_some_iff.1 hx).1
      exact ⟨_, run_loadVar_one hg ha hb (getD_of (z := undef) (by omega)), hc c0 x hx⟩

theorem okW_len {w : W} {x : D} (h : okW w x) : x.cells.length = wd w := by
  cases w with
  | none => cases x <;> first | rfl | simp [okW, D.scal] at h
  | some n => cases x <;> first | exact h.1 | exact h.elim
theorem okW_scal {w : W} {x : D} (h : okW w x) : ∀ y ∈ x.cells, y.scal = true := by
  cases w with
  | none => cases x <;> first | simp [okW, D.scal] at h; done | (intro y hy; simp [D.cells] at hy; subst hy; rfl)
  | some n => cases x <;> first | exact h.2 | exact h.elim

theorem load_sound (h : Sim B β s tm w) {xv : Value} {x : AV} (hx : VR w.heap (s.own B.A β) s.used s.hp β xv x) :
    RV (loadR (P.ti t) s.hp x) fun y => ∃ v, (Instr.loadAt t xv).run P w = .ok v w ∧ VR w.heap (s.own B.A β) s.used s.hp β v y := by
  unfold loadR
  split
  · rename_i p c
    split
    · rename_i cs hp
      cases hx with
      | bx _ _ _ _ _ hx =>
        obtain ⟨k, hk, hk0, rfl⟩ := hx cs hp
        obtain ⟨k', c', e, hk', _, hc, hz, hl, h1, hcs⟩ := (h.objs p _ hp).2
        rw [hk] at hk'; cases hk'
        exact (partC_sound (P := P) (t := t) h hc hl h1 hcs (c0 := c)).mono fun y ⟨v, hr, hv⟩ => ⟨v, by simpa [Instr.loadAt, Instr.sureAddr] using hr, hv⟩
    · trivial
  · rename_i p j c
    split
    · rename_i wf xs hp
      cases hx with
      | el _ _ _ _ _ _ hx =>
        obtain ⟨hj, k, hk, rfl⟩ := hx wf xs hp
        refine RV.ofO fun y hy => ?_
        simp only [Option.map_eq_some_iff] at hy
        obtain ⟨d, hd, rfl⟩ := hy
        rcases (h.objs p _ hp).2 with ⟨h0, h0'⟩ | ⟨k', c', e, hk', hc, hz, hl, hw, hcs⟩
        · rw [h0'] at hj; simp at hj
        · rw [hk] at hk'; cases hk'
          have hget : xs[j]? = some (xs.getD j .nilp) := by simp [List.getD_eq_getElem?_getD, hj]
          have hmem : xs.getD j .nilp ∈ xs := List.mem_of_getElem? hget
          have hok := hw _ hmem
          have hle : j * wd wf + wd wf ≤ xs.length * wd wf := by
            have := Nat.mul_le_mul_right (wd wf) (Nat.succ_le_of_lt hj); rwa [Nat.succ_mul] at this
          obtain ⟨v, hr, hv⟩ := part_sound (P := P) (t := t) (own := s.own B.A β) (w := w) rfl hc (o := k.o + j * wd wf) (c0 := c) (d := xs.getD j .nilp) (y := d)
            (by rw [okW_len hok]; omega) (okW_scal hok) (fun i x hi => hcs j _ i x hget hi) hd
          exact ⟨v, by simpa [Instr.loadAt, Instr.sureAddr] using hr, .d _ _ hv⟩
    · trivial
  · rename_i d
    refine RV.ofO fun y hy => ?_
    simp only [Option.map_eq_some_iff] at hy
    obtain ⟨d', hd, rfl⟩ := hy
    cases hx.toD with
    | ptr b o c e fz d hb hn hz hsc hc =>
      obtain ⟨v, hr, hv⟩ := part_sound (P := P) (t := t) (own := s.own B.A β) (w := w) rfl hb (o := o) (c0 := 0) hz hsc hc hd
      exact ⟨v, by simpa [Instr.loadAt, Instr.sureAddr] using hr, .d _ _ hv⟩
  · trivial

/-! ### Addresses -/
theorem sz_good {t : Nat} (h : ¬ (P.ti t).sz = 0) : (P.ti t).k.isBad = false := by
  unfold Program.ti at h ⊢
  split
  · rename_i i d _ _
    cases d <;> rfl
  · rename_i hne
    split at h
    · rename_i i d hi hd; exact absurd hd (hne i d hi)
    · simp at h
theorem run_fieldAt {fs : List (Nat × Nat)} (hk : (P.ti t).k = .struct fs) {f o tt : Nat} (hf : fs[f]? = some (o, tt)) (hs : ¬ (P.ti tt).sz = 0) (b c : Nat) (w : World) :
    (Instr.fieldAt t (.pointer (some ⟨b, c, none⟩)) f).run P w = .ok (.pointer (some ⟨b, c + o, none⟩)) w := by
  obtain ⟨fl, hu, rfl⟩ := ti_struct hk
  simp only [List.getElem?_map, Option.map_eq_some_iff, Prod.mk.injEq] at hf
  obtain ⟨fd, hfd, rfl, rfl⟩ := hf
  have hfd' : fl[f]? = some fd := by simpa using hfd
  simp [Instr.fieldAt, run_underlying hu, hfd', Instr.sureAddr, fieldPlace, run_sizeOf (sz_good hs), hs, addr_add]

theorem fieldAddr_sound {xv : Value} {x : AV} {f : Nat} (hx : VR w.heap (s.own B.A β) s.used s.hp β xv x) :
    RV (fieldAddrR (P.ti t) P.ti s.hp x f) fun y => ∃ v, (Instr.fieldAt t xv f).run P w = .ok v w ∧ VR w.heap (s.own B.A β) s.used s.hp β v y := by
  unfold fieldAddrR
  split <;> try trivial
  rename_i fs hk
  split <;> try trivial
  rename_i o tt hf
  split <;> try trivial
  rename_i hs
  split
  · rename_i p c
    split <;> try trivial
    rename_i cs hp
    cases hx with
    | bx _ _ _ hn h1 hx =>
      obtain ⟨k, hk', hk0, rfl⟩ := hx _ hp
      exact ⟨_, run_fieldAt hk hf hs _ _ w, .bx _ _ _ hn rfl fun cs' hp' => ⟨k, hk', hk0, rfl⟩⟩
  · rename_i p j c
    split <;> try trivial
    rename_i wf xs hp
    cases hx with
    | el _ _ _ _ hn h1 hx =>
      obtain ⟨hj, k, hk', rfl⟩ := hx _ _ hp
      refine ⟨_, run_fieldAt hk hf hs _ _ w, .el _ _ _ _ hn rfl fun w' xs' hp' => ?_⟩
      rw [hp] at hp'; cases hp'
      exact ⟨hj, k, hk', by rw [Nat.add_assoc]⟩
  · rename_i cs
    refine RV.ofO fun y hy => ?_
    simp only [Option.map_eq_some_iff] at hy
    obtain ⟨d, hd, rfl⟩ := hy
    cases hx.toD with
    | ptr b o' c e fz d' hb hn hz hsc hc =>
      refine ⟨_, run_fieldAt hk hf hs _ _ w, .d _ _ ?_⟩
      simp only [D.cells] at hz hsc hc
      unfold partD at hd
      split at hd
      · cases hd
      · simp only at hd
        split at hd
        · split at hd
          · rename_i hle
            cases hd
            refine .ptr b (o' + o) c e fz _ hb hn (by simp [D.cells]; omega) (fun x hx' => hsc x (List.mem_of_mem_drop (List.mem_of_mem_take hx'))) (fun i x hi => ?_)
            simp only [D.cells] at hi
            rw [List.getElem?_take] at hi
            split at hi
            · rw [List.getElem?_drop] at hi
              have := hc _ x hi
              rwa [← Nat.add_assoc] at this
            · cases hi
          · cases hd
        · have hlt : o < cs.length := (List.getElem?_eq_some_iff.1 hd).1
          have hsd := hsc d (List.mem_of_getElem? hd)
          have e1 : d.cells = [d] := by cases d <;> first | rfl | simp [D.scal] at hsd
          refine .ptr b (o' + o) c e fz d hb hn (by rw [e1]; simp; omega) (by rw [e1]; simpa using hsd) (fun i x hi => ?_)
          rw [e1] at hi
          cases i with
          | zero => simp at hi; subst hi; exact hc _ _ hd
          | succ i => simp at hi
  · trivial

theorem run_indexAt {e : Nat} (hk : (P.ti t).k = .slice e) (hg : (P.ti e).k.isBad = false) (b o : Nat) (len cap : Nat) (kd : IntKind) (n : Int) (h0 : 0 ≤ n) (h1 : n < len) (w : World) :
    (Instr.indexAt t (.slice (some ⟨b, o, none⟩) len cap) (.int kd n)).run P w = .ok (.pointer (some ⟨b, o + n.toNat * (P.ti e).sz, none⟩)) w := by
  have hu := ti_slice hk
  simp [Instr.indexAt, asIntOf, run_underlying hu, h0, h1, run_sizeOf hg, addr_add]

theorem isW_spec {i : TI} {w : W} (h : i.isW w = true) : i.k.isBad = false ∧ wd w = i.sz ∧ w = i.w := by
  unfold TI.isW at h
  simp only [Bool.and_eq_true, Bool.not_eq_true'] at h
  cases w with
  | none => simp at h; exact ⟨h.1, by simp [wd, h.2.2], by simp [TI.w, h.2.1]⟩
  | some n => simp at h; exact ⟨h.1, by simp [wd, h.2.2], by simp [TI.w, h.2.1, h.2.2]⟩

theorem indexAddr_sound {xv jv : Value} {x j : AV} (hx : VR w.heap (s.own B.A β) s.used s.hp β xv x) (hj : VR w.heap (s.own B.A β) s.used s.hp β jv j) :
    RV (indexAddrR (P.ti t) P.ti s.hp x j) fun y => ∃ v, (Instr.indexAt t xv jv).run P w = .ok v w ∧ VR w.heap (s.own B.A β) s.used s.hp β v y := by
  unfold indexAddrR
  split
  · rename_i e p o l kd n hk
    split <;> try trivial
    rename_i wf xs hp
    split <;> try trivial
    rename_i hw
    obtain ⟨hg, hwd, _⟩ := isW_spec hw
    rintro ⟨h0, h1⟩
    obtain rfl := hj.int
    cases hx with
    | vw _ _ _ _ hn h1' hx =>
      obtain ⟨hle, a, cap, rfl, hx'⟩ := hx _ _ hp
      rcases hx' with ⟨hl0, _⟩ | ⟨k, hk', rfl, hcap, hz⟩
      · omega
      · refine ⟨_, run_indexAt hk hg _ _ _ _ _ n h0 h1 w, .el _ _ _ _ hn rfl fun w' xs' hp' => ?_⟩
        rw [hp] at hp'; cases hp'
        refine ⟨by omega, k, hk', ?_⟩
        rw [hwd, Nat.add_mul, Nat.add_assoc]; rfl
  · rename_i e wf xs kd n hk
    split <;> try trivial
    rename_i hw
    obtain ⟨hg, hwd, _⟩ := isW_spec hw
    rintro ⟨h0, h1⟩
    obtain rfl := hj.int
    cases hx.toD with
    | sl0 a cap _ => simp at h1; omega
    | sl b o cap c e' fz _ _ hb hn hcap hz hok hc =>
      have hlt : n.toNat < xs.length := by omega
      have hget : xs[n.toNat]? = some (xs.getD n.toNat .nilp) := by simp [List.getD_eq_getElem?_getD, hlt]
      have hmem : xs.getD n.toNat .nilp ∈ xs := List.mem_of_getElem? hget
      have ho := hok _ hmem
      have hle : n.toNat * wd wf + wd wf ≤ xs.length * wd wf := by
        have := Nat.mul_le_mul_right (wd wf) (Nat.succ_le_of_lt hlt); rwa [Nat.succ_mul] at this
      refine ⟨_, run_indexAt hk hg _ _ _ _ _ n h0 h1 w, .d _ _ (.ptr b _ c e' fz _ hb hn ?_ (okW_scal ho) fun i x hi => ?_)⟩
      · rw [okW_len ho, ← hwd]; omega
      · rw [← hwd]; exact hc _ _ i x hget hi
  · trivial

theorem bs_get (l : List UInt8) (n : Nat) (h : n < l.length) : (⟨l.toArray⟩ : ByteArray)[n]? = some (l.getD n 0) := by
  have h2 : n < (⟨l.toArray⟩ : ByteArray).size := by simpa [ByteArray.size] using h
  rw [ByteArray.getElem?_lt' _ _ h2]
  simp [ByteArray.getElem_eq_getElem_data, List.getD_eq_getElem?_getD, h]

theorem index_sound {xv jv : Value} {x j : AV} (hx : VR w.heap (s.own B.A β) s.used s.hp β xv x) (hj : VR w.heap (s.own B.A β) s.used s.hp β jv j) :
    RV (indexR (P.ti t) x j) fun y => ∃ v, (Instr.index t xv jv).run P w = .ok v w ∧ VR w.heap (s.own B.A β) s.used s.hp β v y := by
  unfold indexR
  split
  · rename_i l kd n hk
    rintro ⟨h0, h1⟩
    obtain rfl := hj.int
    obtain rfl := hx.str
    have hget := bs_get l n.toNat (by omega)
    exact ⟨_, by simp [Instr.index, asIntOf, run_underlying (ti_str hk), h0, hget], .d _ _ (.int _ _)⟩
  · trivial

theorem Rep.sl_inv {H : Array Obj} {own : Nat → Prop} {v : Value} {wf : W} {xs : List D} (h : Rep H own v (.sl wf xs)) : ∃ a cap, v = .slice a xs.length cap ∧ xs.length ≤ cap ∧
    (xs ≠ [] → ∃ b o c e fz, a = some ⟨b, o, none⟩ ∧ H[b]? = some (.cells c e fz) ∧ ¬ own b ∧ o + xs.length * wd wf ≤ c.size ∧ (∀ x ∈ xs, okW wf x) ∧
      ∀ i x j d, xs[i]? = some x → x.cells[j]? = some d → Rep H own (c.getD (o + i * wd wf + j) undef) d) := by
  cases h with
  | sl0 a cap _ => exact ⟨a, cap, rfl, Nat.zero_le _, fun h => absurd rfl h⟩
  | sl b o cap c e fz _ _ hb hn hcap hz hok hc => exact ⟨_, cap, rfl, hcap, fun _ => ⟨b, o, c, e, fz, rfl, hb, hn, hz, hok, hc⟩⟩

theorem loI_sound {n m : Int} {xo : Option AV} {vo : Option Value} (hx : ∀ x, xo = some x → ∃ v, vo = some v ∧ VR w.heap (s.own B.A β) s.used s.hp β v x) (hn : xo = none → vo = none) (h : loI n xo = some m) :
    (vo = none ∧ m = n) ∨ ∃ k, vo = some (.int k m) := by
  unfold loI at h
  split at h
  · cases h; exact .inl ⟨hn rfl, rfl⟩
  · cases h
    obtain ⟨v, rfl, hv⟩ := hx _ rfl
    obtain rfl := hv.int
    exact .inr ⟨_, rfl⟩
  · cases h

theorem run_bound (k : IntKind) (i : Int) (y : Nat) (code : BoundsCode) (h0 : 0 ≤ i) (h1 : i ≤ y) (w : World) : (Instr.sliceBound (.int k i) y code).run P w = .ok i.toNat w := by
  simp [Instr.sliceBound, asIntOf, h0, h1]

theorem run_bounds (isSlice : Bool) (len cap : Nat) (lo hi : Option Value) (a b : Int) (hlo : (lo = none ∧ a = 0) ∨ ∃ k, lo = some (.int k a)) (hhi : (hi = none ∧ b = len) ∨ ∃ k, hi = some (.int k b))
    (h0 : 0 ≤ a) (h1 : a ≤ b) (h2 : b ≤ cap) (w : World) : (Instr.sliceBounds isSlice len cap lo hi none).run P w = .ok (a.toNat, b.toNat, cap) w := by
  have hb : ∀ k code, (Instr.sliceBound (.int k b) cap code).run P w = .ok b.toNat w := fun k code => run_bound k b cap code (by omega) h2 w
  have ha : ∀ k code, (Instr.sliceBound (.int k a) b.toNat code).run P w = .ok a.toNat w := fun k code => run_bound k a _ code h0 (by omega) w
  rcases hlo with ⟨rfl, rfl⟩ | ⟨k1, rfl⟩ <;> rcases hhi with ⟨rfl, rfl⟩ | ⟨k2, rfl⟩ <;> simp only [Instr.sliceBounds]
  · simp
  · simp [hb]
  · have := ha k1; simp at this; simp [this]
  · simp [hb, ha]

theorem slice_sound {xv : Value} {x : AV} {lo hi : Option AV} {lov hiv : Option Value} (hx : VR w.heap (s.own B.A β) s.used s.hp β xv x)
    (hlo : ∀ x, lo = some x → ∃ v, lov = some v ∧ VR w.heap (s.own B.A β) s.used s.hp β v x) (hlo' : lo = none → lov = none)
    (hhi : ∀ x, hi = some x → ∃ v, hiv = some v ∧ VR w.heap (s.own B.A β) s.used s.hp β v x) (hhi' : hi = none → hiv = none) :
    RV (sliceR (P.ti t) P.ti s.hp x lo hi) fun y => ∃ v, (Instr.sliceAt t xv lov hiv none).run P w = .ok v w ∧ VR w.heap (s.own B.A β) s.used s.hp β v y := by
  unfold sliceR
  split
  · rename_i l hk
    split <;> try trivial
    rename_i a b ha hb
    rintro ⟨h0, h1, h2⟩
    obtain rfl := hx.str
    have hu := ti_str hk
    have hr := run_bounds (P := P) false l.length l.length lov hiv a b (loI_sound hlo hlo' ha) (loI_sound hhi hhi' hb) h0 h1 h2 w
    refine ⟨.string ⟨((l.drop a.toNat).take (b.toNat - a.toNat)).toArray⟩, ?_, .d _ _ (.str _)⟩
    have hsz : (⟨l.toArray⟩ : ByteArray).size = l.length := by simp [ByteArray.size]
    simp only [Instr.sliceAt, Instr.slice, Sem.run_bind, run_underlying hu, Result.andThen_ok, Option.isSome_none, Bool.false_eq_true, if_false, hsz, hr, Sem.run_pure, ByteArray.extract_mk]
  · rename_i e wf xs hk
    split <;> try trivial
    rename_i hw
    obtain ⟨hg, hwd, _⟩ := isW_spec hw
    split <;> try trivial
    rename_i a b ha hb
    rintro ⟨h0, h1, h2⟩
    have hu := ti_slice hk
    obtain ⟨a0, cap, rfl, hcap, hd⟩ := hx.toD.sl_inv
    have hr := run_bounds (P := P) true xs.length cap lov hiv a b (loI_sound hlo hlo' ha) (loI_sound hhi hhi' hb) h0 h1 (by omega) w
    refine ⟨.slice (if cap = a.toNat then a0 else a0.map (·.add (a.toNat * (P.ti e).sz))) (b.toNat - a.toNat) (cap - a.toNat), ?_, .d _ _ ?_⟩
    · simp [Instr.sliceAt, run_underlying hu, Instr.slice, hr, run_sizeOf hg]
    · have hlen : ((xs.drop a.toNat).take (b.toNat - a.toNat)).length = b.toNat - a.toNat := by simp; omega
      by_cases hz0 : b.toNat - a.toNat = 0
      · have : (xs.drop a.toNat).take (b.toNat - a.toNat) = [] := by rw [hz0]; simp
        rw [this, hz0]; exact .sl0 _ _ _
      · have hne : cap ≠ a.toNat := by omega
        rw [if_neg hne]
        obtain ⟨b', o, c, e', fz, rfl, hb', hn, hz, hok, hc⟩ := hd (by rintro rfl; simp at h2; omega)
        have hle : a.toNat * wd wf + (b.toNat - a.toNat) * wd wf ≤ xs.length * wd wf := by
          rw [← Nat.add_mul]; exact Nat.mul_le_mul_right _ (by omega)
        have e1 : (some (⟨b', o, none⟩ : Addr)).map (·.add (a.toNat * (P.ti e).sz)) = some ⟨b', o + a.toNat * wd wf, none⟩ := by simp [addr_add, hwd]
        rw [e1]
        have := Rep.sl (H := w.heap) (own := s.own B.A β) b' (o + a.toNat * wd wf) (cap - a.toNat) c e' fz wf ((xs.drop a.toNat).take (b.toNat - a.toNat)) hb' hn (by rw [hlen]; omega)
          (by rw [hlen]; omega) (fun x hx' => hok x (List.mem_of_mem_drop (List.mem_of_mem_take hx'))) (fun i x j d hi hj => by
            rw [List.getElem?_take] at hi
            split at hi
            · rw [List.getElem?_drop] at hi
              have := hc _ x j d hi hj
              rwa [show o + a.toNat * wd wf + i * wd wf + j = o + (a.toNat + i) * wd wf + j by rw [Nat.add_mul]; omega]
            · cases hi)
        rwa [hlen] at this
  · rename_i e p off n hk
    split <;> try trivial
    rename_i wf xs hp
    split <;> try trivial
    rename_i hw
    obtain ⟨hg, hwd, _⟩ := isW_spec hw
    split <;> try trivial
    rename_i a b ha hb
    rintro ⟨h0, h1, h2⟩
    have hu := ti_slice hk
    cases hx with
    | vw _ _ _ _ hn h1' hx =>
      obtain ⟨hle, a0, cap, rfl, hx'⟩ := hx _ _ hp
      have hcap : n ≤ cap := by
        rcases hx' with ⟨rfl, rfl⟩ | ⟨k, _, _, h, _⟩
        · exact Nat.le_refl _
        · exact h
      have hr := run_bounds (P := P) true n cap lov hiv a b (loI_sound hlo hlo' ha) (loI_sound hhi hhi' hb) h0 h1 (by omega) w
      refine ⟨.slice (if cap = a.toNat then a0 else a0.map (·.add (a.toNat * (P.ti e).sz))) (b.toNat - a.toNat) (cap - a.toNat), ?_, .vw _ _ _ _ hn rfl fun w' xs' hp' => ?_⟩
      · simp [Instr.sliceAt, run_underlying hu, Instr.slice, hr, run_sizeOf hg]
      · rw [hp] at hp'; cases hp'
        refine ⟨by omega, _, _, rfl, ?_⟩
        by_cases hc0 : cap = a.toNat
        · exact .inl ⟨by omega, by omega⟩
        · rw [if_neg hc0]
          rcases hx' with ⟨rfl, rfl⟩ | ⟨k, hk', rfl, h3, h4⟩
          · exact absurd (by omega) hc0
          · refine .inr ⟨k, hk', ?_, by omega, ?_⟩
            · simp [addr_add, hwd, Nat.add_mul]; omega
            · rw [show off + a.toNat + (cap - a.toNat) = off + cap by omega]; exact h4
  · rename_i e hk
    split <;> try trivial
    rename_i hg
    have hg : (P.ti e).k.isBad = false := by simpa using hg
    split <;> try trivial
    rename_i a b ha hb
    rintro ⟨rfl, rfl⟩
    obtain rfl := hx.nils
    have hr := run_bounds (P := P) true 0 0 lov hiv 0 0 (loI_sound hlo hlo' ha) (loI_sound hhi hhi' hb) (by omega) (by omega) (by omega) w
    exact ⟨.slice none 0 0, by simp [Instr.sliceAt, run_underlying (ti_slice hk), Instr.slice, hr, run_sizeOf hg], .d _ _ .nils⟩
  · trivial
end
end Go.Ab
/-! ### The generic layer, part 8: each step is sound: operators, structs, lengths. -/
namespace Go.Ab
section
variable {P : Program} {B : Base} {β : Name → Option Blk} {s : St} {tm : Array Value} {w : World} {t : Nat}

theorem eqGuard_pure (op : BinOp) (t : TypeId) (x y : Operand) (a b : Value) (h : (∃ k n, a = .int k n) ∨ (∃ l, a = .string l) ∨ (∃ l, a = .bool l)) : eqGuard op t x y a b = pure () := by
  rcases h with ⟨k, n, rfl⟩ | ⟨l, rfl⟩ | ⟨l, rfl⟩
  · exact eqGuard_at_int ..
  · exact eqGuard_at_string ..
  · exact eqGuard_at_bool ..

theorem isBool_und (h : (P.ti t).k.isBool = true) : P.underlying t = some .bool := by
  unfold Program.ti at h
  split at h
  · rename_i d _ hd
    cases d <;> simp [tk, TK.isBool] at h
    exact hd
  · simp [TK.isBool] at h
theorem bs_beq (a b : List UInt8) : ((⟨a.toArray⟩ : ByteArray).toList == (⟨b.toArray⟩ : ByteArray).toList) = (a == b) := by simp

theorem shl_run (i j : IntKind) (a b : Int) (h : 0 ≤ b) : (binOp .shl t (.int i a) (.int j b)).run P w = .ok (.int i (i.wrap (a * 2 ^ min b.toNat i.bits))) w := by
  show (Op.shift .shl i a j b).run P w = _
  unfold Op.shift
  rw [if_neg (by omega)]; rfl
theorem shr_run (i j : IntKind) (a b : Int) (h : 0 ≤ b) : (binOp .shr t (.int i a) (.int j b)).run P w = .ok (.int i (a.fdiv (2 ^ min b.toNat i.bits))) w := by
  show (Op.shift .shr i a j b).run P w = _
  unfold Op.shift
  rw [if_neg (by omega)]; rfl
theorem binD_sound {op : BinOp} {x y : D} {xv yv : Value} (H : Array Obj) (own : Nat → Prop) (hx : Rep H own xv x) (hy : Rep H own yv y) (t : TypeId) (xo yo : Operand) :
    RV (binD (P.ti t).k op x y) fun d => ∃ v, (do eqGuard op t xo yo xv yv; binOp op t xv yv : Sem Value).run P w = .ok v w ∧ Rep H own v d := by
  have go : ∀ (d : D) (v : Value), ((∃ k n, xv = .int k n) ∨ (∃ l, xv = .string l) ∨ (∃ l, xv = .bool l)) → (binOp op t xv yv).run P w = .ok v w → Rep H own v d →
      ∃ v, (do eqGuard op t xo yo xv yv; binOp op t xv yv : Sem Value).run P w = .ok v w ∧ Rep H own v d := fun d v hg hr hv => by
    refine ⟨v, ?_, hv⟩
    rw [eqGuard_pure op t xo yo xv yv hg]
    simpa using hr
  unfold binD
  split <;> try trivial
  all_goals first
    | (split <;> try trivial
       rename_i hk; subst hk
       cases hx; cases hy
       refine go _ _ (.inl ⟨_, _, rfl⟩) (by simp [binOp, Op.intArith, Op.intCmp]; rfl) (by constructor))
    | (split <;> try trivial
       rename_i hk; subst hk
       cases hx; cases hy
       refine go _ _ (.inl ⟨_, _, rfl⟩) (by simp [binOp, Op.intBits, bitI]; rfl) (by constructor))
    | (split <;> try trivial
       rename_i hk
       have hu := isBool_und hk
       cases hx; cases hy
       refine go _ _ (.inr (.inr ⟨_, rfl⟩)) (by simp [binOp, run_equal_bool _ _ _ _ hu]; rfl) (by constructor))
    | (split <;> try trivial
       rename_i hk; subst hk
       intro h0
       cases hx; cases hy
       refine go _ _ (.inl ⟨_, _, rfl⟩) (by simp [binOp, Op.intDiv, h0]; rfl) (by constructor))
    | (cases hx; cases hy
       refine go _ _ (.inr (.inl ⟨_, rfl⟩)) (by simp only [binOp, Op.stringOp, ByteArray.toList_mk, Sem.run_pure]; rfl) (by constructor))
    | skip
  · intro h0
    cases hx; cases hy
    exact go _ _ (.inl ⟨_, _, rfl⟩) (shl_run _ _ _ _ h0) (by constructor)
  · intro h0
    cases hx; cases hy
    exact go _ _ (.inl ⟨_, _, rfl⟩) (shr_run _ _ _ _ h0) (by constructor)
  · intro h0
    cases hx; cases hy
    rename_i a b
    refine go _ (.string ⟨(a ++ b).toArray⟩) (.inr (.inl ⟨_, rfl⟩)) ?_ (by constructor)
    have hsz : ¬ ((((⟨a.toArray⟩ : ByteArray).size + (⟨b.toArray⟩ : ByteArray).size : Nat) : Int) > IntKind.i64.max) := by
      simp [ByteArray.size, IntKind.max_i64]; omega
    simp only [binOp, Op.stringOp, if_neg hsz, Sem.run_pure, ByteArray.mk_append_mk]

theorem bin_sound {op : BinOp} {x y : AV} {xv yv : Value} (hx : VR w.heap (s.own B.A β) s.used s.hp β xv x) (hy : VR w.heap (s.own B.A β) s.used s.hp β yv y) (xo yo : Operand) :
    RV (binR (P.ti t).k op x y) fun z => ∃ v, (do eqGuard op t xo yo xv yv; binOp op t xv yv : Sem Value).run P w = .ok v w ∧ VR w.heap (s.own B.A β) s.used s.hp β v z := by
  unfold binR
  split <;> try trivial
  exact RV.bind (fun d ⟨v, hr, hv⟩ => ⟨v, hr, .d _ _ hv⟩) (binD_sound w.heap (s.own B.A β) hx.toD hy.toD t xo yo)

theorem un_sound {op : UnOp} {x : AV} {xv : Value} (hx : VR w.heap (s.own B.A β) s.used s.hp β xv x) :
    RV (unR op x) fun z => ∃ v, (Op.unary op xv).run P w = .ok v w ∧ VR w.heap (s.own B.A β) s.used s.hp β v z := by
  unfold unR
  split <;> try trivial
  · obtain rfl := hx.bool
    exact ⟨_, by simp [Op.unary], .d _ _ (.bool _)⟩
  · obtain rfl := hx.int
    exact ⟨_, by simp [Op.unary, Op.intArith], .d _ _ (.int _ _)⟩

theorem pick_sound {c x y : AV} {cv xv yv : Value} (hc : VR w.heap (s.own B.A β) s.used s.hp β cv c) (hx : VR w.heap (s.own B.A β) s.used s.hp β xv x) (hy : VR w.heap (s.own B.A β) s.used s.hp β yv y) :
    RV (pickR c x y) fun z => ∃ v, (do pure (.value (if ← asBool cv then xv else yv)) : Sem Next).run P w = .ok (.value v) w ∧ VR w.heap (s.own B.A β) s.used s.hp β v z := by
  unfold pickR
  split <;> try trivial
  · obtain rfl := hc.bool; exact ⟨_, by simp [asBool], hx⟩
  · obtain rfl := hc.bool; exact ⟨_, by simp [asBool], hy⟩

theorem len_sound (h : Sim B β s tm w) {x : AV} {xv : Value} (hx : VR w.heap (s.own B.A β) s.used s.hp β xv x) {i : TI} (hi : i = P.ti t) (ty : TypeId) :
    RV (lenR i s.hp x) fun z => ∃ v, (Builtin.len_ #[t] ty #[xv]).run P w = .ok v w ∧ VR w.heap (s.own B.A β) s.used s.hp β v z := by
  subst hi
  unfold lenR
  split
  · rename_i l hk
    obtain rfl := hx.str
    have hsz : (⟨l.toArray⟩ : ByteArray).size = l.length := by simp [ByteArray.size]
    exact ⟨.int .i64 l.length, by simp [Builtin.len_, run_underlying (ti_str hk), goInt, hsz], .d _ _ (.int _ _)⟩
  · rename_i e wf xs hk
    obtain ⟨a, cap, rfl, _⟩ := hx.toD.sl_inv
    exact ⟨_, by simp [Builtin.len_, run_underlying (ti_slice hk), goInt], .d _ _ (.int _ _)⟩
  · rename_i e hk
    obtain rfl := hx.nils
    exact ⟨_, by simp [Builtin.len_, run_underlying (ti_slice hk), goInt], .d _ _ (.int _ _)⟩
  · rename_i e p o l hk
    split <;> try trivial
    rename_i wf xs hp
    cases hx with
    | vw _ _ _ _ hn h1' hx =>
      obtain ⟨hle, a0, cap, rfl, hx'⟩ := hx _ _ hp
      exact ⟨_, by simp [Builtin.len_, run_underlying (ti_slice hk), goInt], .d _ _ (.int _ _)⟩
  · rename_i a b p hk
    split <;> try trivial
    rename_i es hp
    cases hx with
    | mp _ _ hn h1 hx =>
      obtain ⟨k, hk', rfl⟩ := hx _ hp
      obtain ⟨k', ents, clock, hk'', hb, hz, _⟩ := (h.objs p _ hp).2
      rw [hk'] at hk''; cases hk''
      refine ⟨_, ?_, .d _ _ (.int .i64 es.length)⟩
      simp [Builtin.len_, run_underlying (ti_map hk), goInt, getObj, Sem.run, hb, hz]
  · trivial

theorem max_sound {x y : AV} {xv yv : Value} (hx : VR w.heap (s.own B.A β) s.used s.hp β xv x) (hy : VR w.heap (s.own B.A β) s.used s.hp β yv y) (ts : Array TypeId) (ty : TypeId) :
    RV (maxR x y) fun z => ∃ v, (Builtin.max_ ts ty #[xv, yv]).run P w = .ok v w ∧ VR w.heap (s.own B.A β) s.used s.hp β v z := by
  unfold maxR
  split <;> try trivial
  split <;> try trivial
  obtain rfl := hx.int; obtain rfl := hy.int
  exact ⟨_, by simp [Builtin.max_, Builtin.max2], .d _ _ (.int _ _)⟩
theorem min_sound {x y : AV} {xv yv : Value} (hx : VR w.heap (s.own B.A β) s.used s.hp β xv x) (hy : VR w.heap (s.own B.A β) s.used s.hp β yv y) (ts : Array TypeId) (ty : TypeId) :
    RV (minR x y) fun z => ∃ v, (Builtin.min_ ts ty #[xv, yv]).run P w = .ok v w ∧ VR w.heap (s.own B.A β) s.used s.hp β v z := by
  unfold minR
  split <;> try trivial
  split <;> try trivial
  obtain rfl := hx.int; obtain rfl := hy.int
  exact ⟨_, by simp [Builtin.min_, Builtin.min2], .d _ _ (.int _ _)⟩

theorem conv_sound {t' : Nat} {x : AV} {xv : Value} (hx : VR w.heap (s.own B.A β) s.used s.hp β xv x) :
    RV (convR (P.ti t) (P.ti t') x) fun z => ∃ v, (convert t t' xv).run P w = .ok v w ∧ VR w.heap (s.own B.A β) s.used s.hp β v z := by
  unfold convR
  split <;> try trivial
  · rename_i k1 k2 j n hk1 hk2
    obtain rfl := hx.int
    exact ⟨_, by simp [convert, run_underlying (ti_int hk1), run_underlying (ti_int hk2), Conv.intToInt], .d _ _ (.int _ _)⟩
  · rename_i l hk1 hk2
    obtain rfl := hx.str
    exact ⟨_, by simp [convert, run_underlying (ti_str hk1), run_underlying (ti_str hk2)], .d _ _ (.str _)⟩

theorem extract_sound {x : AV} {xv : Value} (hx : VR w.heap (s.own B.A β) s.used s.hp β xv x) (i : Nat) :
    RV (extractR x i) fun z => ∃ v, (Instr.extract xv i).run P w = .ok v w ∧ VR w.heap (s.own B.A β) s.used s.hp β v z := by
  unfold extractR
  split <;> try trivial
  rename_i vs
  refine RV.ofO fun y hy => ?_
  cases hx with
  | tup xs _ hs h =>
    have hlt : i < xs.size := by rw [hs]; exact (List.getElem?_eq_some_iff.1 hy).1
    have := h i y hy
    refine ⟨_, ?_, this⟩
    simp [Instr.extract, Array.getElem?_eq_getElem hlt, Array.getD_eq_getD_getElem?]

theorem nil_sound {B : Base} {x : AV} {xv : Value} (hx : VR w.heap (s.own B.A β) s.used s.hp β xv x) :
    RV (nilR s.hp x) fun z => (∃ a, xv = .pointer (some a)) ∧ VR w.heap (s.own B.A β) s.used s.hp β xv z := by
  unfold nilR
  split <;> try trivial
  split <;> try trivial
  rename_i p c cs hp
  cases hx with
  | bx _ _ _ hu h1 h =>
    obtain ⟨k, _, _, rfl⟩ := h cs hp
    exact ⟨⟨_, rfl⟩, .bx _ _ _ hu h1 h⟩

theorem makeFunc_sound {fn : Fn} {first : Array Operand} {caps : List AV} {cvs : Array Value} {ρ : Operand → Value} (hs : cvs.size = caps.length)
    (h : ∀ (i : Nat) x, caps[i]? = some x → VR w.heap (s.own B.A β) s.used s.hp β (cvs.getD i undef) x) :
    RV (makeFuncR fn first.toList caps) fun z => ∃ v, (Instr.makeFunc fn (first.map ρ) cvs).run P w = .ok v w ∧ VR w.heap (s.own B.A β) s.used s.hp β v z := by
  unfold makeFuncR
  split <;> try trivial
  rename_i f hf
  have : first = #[] := by simpa using hf
  subst this
  exact ⟨_, by simp [Instr.makeFunc], .clo f cvs caps hs h⟩

theorem run_part_agg (hg : (P.ti t).k.isBad = false) (ha : (P.ti t).k.agg = true) (cs : Array Value) (o : Nat) : (part t cs o).run P w = .ok (.agg (cs.extract o (o + (P.ti t).sz))) w := by
  simp [part, run_isAgg hg, ha, run_sizeOf hg]
theorem run_part_one (hg : (P.ti t).k.isBad = false) (ha : (P.ti t).k.agg = false) (cs : Array Value) (o : Nat) (v : Value) (h : cs[o]? = some v) : (part t cs o).run P w = .ok v w := by
  simp [part, run_isAgg hg, ha, h]
theorem extract_toArray (c : Array Value) (o z : Nat) : c.extract o (o + z) = ((c.toList.drop o).take z).toArray := by
  apply Array.ext'
  simp [List.extract_eq_take_drop]

theorem partV_sound {H : Array Obj} {own : Nat → Prop} {v : Value} {d y : D} {c0 : Nat} (hd : ∃ cs, d = .agg cs) (h : Rep H own v d) (hp : partD (P.ti t) d c0 = some y) :
    ∃ c u, v = .agg c ∧ (part t c c0).run P w = .ok u w ∧ Rep H own u y := by
  obtain ⟨cs, rfl⟩ := hd
  cases h with
  | agg vs _ hs hsc h =>
    unfold partD at hp
    by_cases hg : (P.ti t).k.isBad = true
    · simp [hg] at hp
    · have hg : (P.ti t).k.isBad = false := by simpa using hg
      simp only [hg, Bool.false_eq_true, if_false] at hp
      by_cases ha : (P.ti t).k.agg = true
      · simp only [ha, if_true] at hp
        split at hp
        · rename_i hle
          cases hp
          refine ⟨vs, _, rfl, run_part_agg hg ha vs c0, ?_⟩
          rw [extract_toArray]
          refine .agg _ _ (by simp; omega) (fun x hx => hsc x (List.mem_of_mem_drop (List.mem_of_mem_take hx))) (fun i x hi => ?_)
          rw [List.getElem?_take] at hi
          split at hi
          · rename_i hlt
            rw [List.getElem?_drop] at hi
            have := h (c0 + i) x hi
            have e1 : ((vs.toList.drop c0).take (P.ti t).sz).toArray.getD i undef = vs.getD (c0 + i) undef := by
              simp [Array.getD_eq_getD_getElem?, hlt]
            rw [e1]; exact this
          · cases hi
        · cases hp
      · have ha : (P.ti t).k.agg = false := by simpa using ha
        simp only [ha, Bool.false_eq_true, if_false] at hp
        have hlt : c0 < vs.size := by rw [hs]; exact (List.getElem?_eq_some_iff.1 hp).1
        exact ⟨vs, _, rfl, run_part_one hg ha vs c0 _ (getD_of (z := undef) hlt), h c0 y hp⟩

theorem field_sound {xv : Value} {x : AV} {f : Nat} (hx : VR w.heap (s.own B.A β) s.used s.hp β xv x) :
    RV (fieldR (P.ti t) P.ti x f) fun y => ∃ v, (Instr.field t xv f).run P w = .ok v w ∧ VR w.heap (s.own B.A β) s.used s.hp β v y := by
  unfold fieldR
  split <;> try trivial
  rename_i fs hk
  split <;> try trivial
  rename_i o tt hf
  obtain ⟨fl, hu, rfl⟩ := ti_struct hk
  simp only [List.getElem?_map, Option.map_eq_some_iff, Prod.mk.injEq] at hf
  obtain ⟨fd, hfd, rfl, rfl⟩ := hf
  have hfd' : fl[f]? = some fd := by simpa using hfd
  have hrun : ∀ (c : Array Value) (u : Value), (part fd.type c fd.offset).run P w = .ok u w → (Instr.field t (.agg c) f).run P w = .ok u w := fun c u hr => by
    simp [Instr.field, run_underlying hu, hfd', asAgg, hr]
  split
  · rename_i cs
    refine RV.ofO fun y hy => ?_
    simp only [Option.map_eq_some_iff] at hy
    obtain ⟨d, hd, rfl⟩ := hy
    obtain ⟨c, u, rfl, hr, hv⟩ := partV_sound (P := P) (w := w) ⟨cs, rfl⟩ hx.toD hd
    exact ⟨u, hrun c u hr, .d _ _ hv⟩
  · rename_i cs
    cases hx with
    | agg vs _ hs h1 h =>
      unfold partC
      by_cases hg : (P.ti fd.type).k.isBad = true
      · simp [hg, RV]
      · have hg : (P.ti fd.type).k.isBad = false := by simpa using hg
        simp only [hg, Bool.false_eq_true, if_false]
        by_cases ha : (P.ti fd.type).k.agg = true
        · simp only [ha, if_true]
          split
          · rename_i hle
            refine ⟨_, hrun _ _ (run_part_agg hg ha vs fd.offset), ?_⟩
            rw [extract_toArray]
            refine mkAgg_rep (by simp; omega) (fun v hv => h1 v ?_) (fun i v x hv hx => ?_)
            · have := List.mem_of_mem_drop (List.mem_of_mem_take hv); simpa using this
            · rw [List.getElem?_take] at hv hx
              split at hv
              · rename_i hlt
                rw [if_pos hlt] at hx
                rw [List.getElem?_drop] at hv hx
                have := h _ x hx
                have e1 : vs.getD (fd.offset + i) undef = v := by
                  simp only [Array.getElem?_toList] at hv
                  simp [Array.getD_eq_getD_getElem?, hv]
                rwa [e1] at this
              · cases hv
          · trivial
        · have ha : (P.ti fd.type).k.agg = false := by simpa using ha
          simp only [ha, Bool.false_eq_true, if_false]
          refine RV.ofO fun x hx => ?_
          have hlt : fd.offset < vs.size := by rw [hs]; exact (List.getElem?_eq_some_iff.1 hx).1
          exact ⟨_, hrun _ _ (run_part_one hg ha vs fd.offset _ (getD_of (z := undef) hlt)), h _ x hx⟩
  · trivial
end
end Go.Ab
/-! ### The generic layer, part 9: each step is sound: objects. -/
namespace Go.Ab
section
variable {P : Program} {B : Base} {β : Name → Option Blk} {s : St} {tm : Array Value} {w : World} {t : Nat}

theorem nm_ne {used : List Nat} {p : Name} (h : nm used p) (ht : t ∉ used) : p ≠ [t] := by
  obtain ⟨a, l, rfl, ha⟩ := h
  intro e
  simp at e
  exact ht (e.1 ▸ ha)

/-- An object gives its block to a new one. -/
theorem Sim.renew (h : Sim B β s tm w) (ht : t ∉ s.used) {p : Name} {ob : Ob} {k : Blk} (hp : s.hp p = some ob) (hk : β p = some k) (wf : W) (xs : List D) (o' : Nat) {w' : World} (hio : wio w' = wio w) (hsz : w'.heap.size = w.heap.size)
    (hw : ∀ b, b ≠ k.b → w'.heap[b]? = w.heap[b]?)
    (hO : (∀ v d, Rep w.heap (s.own B.A β) v d → Rep w'.heap (s.own B.A β) v d) →
      ∃ c e, w'.heap[k.b]? = some (.cells c e (0, 0)) ∧ c.size = k.z ∧ o' + xs.length * wd wf ≤ k.z ∧ (∀ x ∈ xs, okW wf x) ∧
        ∀ i x j d, xs[i]? = some x → x.cells[j]? = some d → Rep w'.heap (s.own B.A β) (c.getD (o' + i * wd wf + j) undef) d) :
    Sim B (updP β [t] (some ⟨k.b, o', k.z⟩)) ((s.set p none).add t (.arr wf xs)) tm w' := by
  obtain ⟨β', hβ'⟩ : ∃ β', updP β [t] (some ⟨k.b, o', k.z⟩) = β' := ⟨_, rfl⟩
  obtain ⟨s', hs'⟩ : ∃ s', (s.set p none).add t (.arr wf xs) = s' := ⟨_, rfl⟩
  have hnew : β' [t] = some ⟨k.b, o', k.z⟩ := by rw [← hβ']; simp [updP]
  have hold : ∀ q, q ≠ [t] → β' q = β q := fun q hq => by rw [← hβ']; simp [updP, hq]
  have hpn := nm_ne (h.objs p ob hp).1 ht
  have hhn : s'.hp [t] = some (.arr wf xs) := by rw [← hs']; simp [St.add, updP]
  have hhp : s'.hp p = none := by rw [← hs']; simp [St.add, St.set, updP, hpn]
  have hhq : ∀ q, q ≠ [t] → q ≠ p → s'.hp q = s.hp q := fun q h1 h2 => by rw [← hs']; simp [St.add, St.set, updP, h1, h2]
  have hus : s'.used = t :: s.used := by rw [← hs']; rfl
  have hfr : s'.fr = s.fr := by rw [← hs']; rfl
  have hpne : s.hp p ≠ none := by rw [hp]; simp
  have hown : s'.own B.A β' = s.own B.A β := by
    funext b
    refine propext (or_congr_right ⟨?_, ?_⟩)
    · rintro ⟨q, l, hq, hl, rfl⟩
      by_cases e1 : q = [t]
      · subst e1; rw [hnew] at hl; cases hl; exact ⟨p, k, hpne, hk, rfl⟩
      · by_cases e2 : q = p
        · subst e2; exact absurd hhp hq
        · rw [hold q e1] at hl; rw [hhq q e1 e2] at hq; exact ⟨q, l, hq, hl, rfl⟩
    · rintro ⟨q, l, hq, hl, rfl⟩
      by_cases e2 : q = p
      · subst e2; rw [hk] at hl; cases hl; exact ⟨[t], _, by rw [hhn]; simp, hnew, rfl⟩
      · cases ho : s.hp q with
        | none => exact absurd ho hq
        | some o =>
          have e1 := nm_ne (h.objs q o ho).1 ht
          exact ⟨q, l, by rw [hhq q e1 e2]; exact hq, by rw [hold q e1]; exact hl, rfl⟩
  have hr : ∀ v d, Rep w.heap (s.own B.A β) v d → Rep w'.heap (s.own B.A β) v d := fun v d hd => hd.mono (fun b hb _ => hw b fun e => hb (.inr ⟨p, k, hpne, hk, e.symm⟩)) (fun _ _ h => h)
  have hst : ∀ q, nm s.used q → Stays s.hp s'.hp β β' q := by
    intro q hq o ho
    have e1 := nm_ne hq ht
    have e2 : q ≠ p := by rintro rfl; rw [hhp] at ho; cases ho
    exact ⟨o, by rwa [hhq q e1 e2] at ho, Ob.like_refl _, hold q e1⟩
  have hu : ∀ x ∈ s.used, x ∈ s'.used := fun x hx => by rw [hus]; exact List.mem_cons_of_mem _ hx
  rw [hβ', hs']
  refine { tms := h.tms, io := hio.trans h.io, size := by rw [hsz]; exact h.size, frame := ?_, slots := fun i => ?_, objs := ?_, blocks := ?_, inj := ?_, us := fun x hx => hu x (h.us x hx),
           stay := fun p hp => (hold p (nm_ne (hp.mono h.us) ht)).trans (h.stay p hp) }
  · intro b hb hn
    rw [hw b ?_]
    · exact h.frame b hb hn
    · rintro rfl
      rcases (h.blocks p k hpne hk).2.2 with h3 | h3
      · omega
      · exact hn h3
  · rw [hown, hfr]; exact (h.slots i).mono hr hu hst
  · intro q o ho
    rw [hown]
    by_cases e1 : q = [t]
    · subst e1
      rw [hhn] at ho; cases ho
      obtain ⟨c, e, h1, h2, h3, h4, h5⟩ := hO hr
      exact ⟨⟨t, [], rfl, by rw [hus]; exact List.mem_cons_self⟩, .inr ⟨_, c, e, hnew, h1, h2, h3, h4, h5⟩⟩
    · have e2 : q ≠ p := by rintro rfl; rw [hhp] at ho; cases ho
      rw [hhq q e1 e2] at ho
      obtain ⟨h1, h2⟩ := h.objs q o ho
      refine ⟨h1.mono hu, h2.mono hr hu hst (hold q e1) fun l hl => hw l.b fun e => ?_⟩
      exact e2 (h.inj q p l k (by rw [ho]; simp) hpne hl hk e)
  · intro q l hq hl
    rw [hsz]
    by_cases e1 : q = [t]
    · subst e1; rw [hnew] at hl; cases hl; exact h.blocks p k hpne hk
    · have e2 : q ≠ p := by rintro rfl; exact hq hhp
      rw [hold q e1] at hl; rw [hhq q e1 e2] at hq
      exact h.blocks q l hq hl
  · intro q q' l l' hq hq' hl hl' e
    have key : ∀ q l, s'.hp q ≠ none → β' q = some l → ∃ r, (q = [t] ∧ r = p ∨ q ≠ [t] ∧ r = q ∧ q ≠ p) ∧ s.hp r ≠ none ∧ ∃ m, β r = some m ∧ m.b = l.b := by
      intro q l hq hl
      by_cases e1 : q = [t]
      · subst e1; rw [hnew] at hl; cases hl; exact ⟨p, .inl ⟨rfl, rfl⟩, hpne, k, hk, rfl⟩
      · have e2 : q ≠ p := by rintro rfl; exact hq hhp
        rw [hold q e1] at hl; rw [hhq q e1 e2] at hq
        exact ⟨q, .inr ⟨e1, rfl, e2⟩, hq, l, hl, rfl⟩
    obtain ⟨r, h1, h2, m, h3, h4⟩ := key q l hq hl
    obtain ⟨r', g1, g2, m', g3, g4⟩ := key q' l' hq' hl'
    have : r = r' := h.inj r r' m m' h2 g2 h3 g3 (by rw [h4, g4, e])
    rcases h1 with ⟨rfl, rfl⟩ | ⟨h1, rfl, h5⟩ <;> rcases g1 with ⟨rfl, rfl⟩ | ⟨g1, rfl, g5⟩
    · rfl
    · exact absurd this.symm g5
    · exact absurd this h5
    · exact this

/-- An empty object that lies nowhere. -/
theorem Sim.addNone (h : Sim B β s tm w) (ht : t ∉ s.used) (wf : W) : Sim B (updP β [t] none) (s.add t (.arr wf [])) tm w := by
  have hold : ∀ q, q ≠ [t] → updP β [t] none q = β q := fun q hq => by simp [updP, hq]
  have hnew : updP β [t] none [t] = none := by simp [updP]
  have hhq : ∀ q, q ≠ [t] → (s.add t (.arr wf [])).hp q = s.hp q := fun q h1 => by simp [St.add, updP, h1]
  have hown : (s.add t (.arr wf [])).own B.A (updP β [t] none) = s.own B.A β := by
    funext b
    refine propext (or_congr_right ⟨?_, ?_⟩)
    · rintro ⟨q, l, hq, hl, rfl⟩
      by_cases e1 : q = [t]
      · subst e1; rw [hnew] at hl; cases hl
      · rw [hold q e1] at hl; rw [hhq q e1] at hq; exact ⟨q, l, hq, hl, rfl⟩
    · rintro ⟨q, l, hq, hl, rfl⟩
      cases ho : s.hp q with
      | none => exact absurd ho hq
      | some o =>
        have e1 := nm_ne (h.objs q o ho).1 ht
        exact ⟨q, l, by rw [hhq q e1]; exact hq, by rw [hold q e1]; exact hl, rfl⟩
  have hst : ∀ q, nm s.used q → Stays s.hp (s.add t (.arr wf [])).hp β (updP β [t] none) q := by
    intro q hq o ho
    have e1 := nm_ne hq ht
    exact ⟨o, by rwa [hhq q e1] at ho, Ob.like_refl _, hold q e1⟩
  have hu : ∀ x ∈ s.used, x ∈ (s.add t (.arr wf [])).used := fun x hx => List.mem_cons_of_mem _ hx
  refine { tms := h.tms, io := h.io, size := h.size, frame := h.frame, slots := fun i => ?_, objs := ?_, blocks := ?_, inj := ?_, us := fun x hx => hu x (h.us x hx),
           stay := fun p hp => (hold p (nm_ne (hp.mono h.us) ht)).trans (h.stay p hp) }
  · rw [hown]; exact (h.slots i).mono (fun _ _ h => h) hu hst
  · intro q o ho
    rw [hown]
    by_cases e1 : q = [t]
    · subst e1
      have : o = .arr wf [] := by simpa [St.add, updP] using ho.symm
      subst this
      exact ⟨⟨t, [], rfl, List.mem_cons_self⟩, .inl ⟨hnew, rfl⟩⟩
    · rw [hhq q e1] at ho
      obtain ⟨h1, h2⟩ := h.objs q o ho
      exact ⟨h1.mono hu, h2.mono (fun _ _ h => h) hu hst (hold q e1) fun _ _ => rfl⟩
  · intro q l hq hl
    by_cases e1 : q = [t]
    · subst e1; rw [hnew] at hl; cases hl
    · rw [hold q e1] at hl; rw [hhq q e1] at hq
      exact h.blocks q l hq hl
  · intro q q' l l' hq hq' hl hl' e
    by_cases e1 : q = [t]
    · subst e1; rw [hnew] at hl; cases hl
    · by_cases e2 : q' = [t]
      · subst e2; rw [hnew] at hl'; cases hl'
      · rw [hold q e1] at hl; rw [hhq q e1] at hq; rw [hold q' e2] at hl'; rw [hhq q' e2] at hq'
        exact h.inj q q' l l' hq hq' hl hl' e

theorem VR.own_at {H own} (p : Name) (b z : Nat) {used : List Nat} {hp : Name → Option Ob} {β : Name → Option Blk} (hu : nm used p) (hβ : β p = some ⟨b, 0, z⟩) : VR H own used hp β (.pointer (some ⟨b, 0, none⟩)) (.bx p 0) :=
  .bx _ _ _ hu rfl fun _ _ => ⟨_, hβ, rfl, rfl⟩

/-- A new variable. -/
theorem newBox_sound (h : Sim B β s tm w) (ht : t < B.n) (hu : t ∉ s.used) {c : Array Value} {cs : List AV} (hs : c.size = cs.length) (h1 : ∀ u ∈ c, u.oneCell' = true)
    (hv : ∀ i x, cs[i]? = some x → VR w.heap (s.own B.A β) s.used s.hp β (c.getD i undef) x) (e : TypeId) :
    ∃ β', Sim B β' ((s.add t (.box cs)).put t (.bx [t] 0)) (tm.setIfInBounds t (.pointer (some ⟨w.heap.size, 0, none⟩))) (w.alloc (.cells c e)) := by
  obtain ⟨hsim, _⟩ := h.alloc hu (.cells c e) (.box cs) c.size (fun β' hβ hmono =>
    ⟨_, c, e, hβ, rfl, heap_alloc_new w _, rfl, hs, h1, fun j x hj => hmono _ _ (hv j x hj)⟩)
  refine ⟨_, hsim.put ht (.own_at [t] w.heap.size c.size ⟨t, [], rfl, List.mem_cons_self⟩ ?_)⟩
  simp [updP]

/-- A new row. -/
theorem newArr_sound (h : Sim B β s tm w) (ht : t < B.n) (hu : t ∉ s.used) {c : Array Value} {wf : W} {xs : List D} {cap : Nat} (hl : xs.length ≤ cap) (hz : cap * wd wf ≤ c.size) (hok : ∀ x ∈ xs, okW wf x)
    (hv : ∀ i x j d, xs[i]? = some x → x.cells[j]? = some d → Rep w.heap (s.own B.A β) (c.getD (i * wd wf + j) undef) d) (e : TypeId) :
    ∃ β', Sim B β' ((s.add t (.arr wf xs)).put t (.vw [t] 0 xs.length)) (tm.setIfInBounds t (.slice (some ⟨w.heap.size, 0, none⟩) xs.length cap)) (w.alloc (.cells c e)) := by
  have hle : xs.length * wd wf ≤ cap * wd wf := Nat.mul_le_mul_right _ hl
  obtain ⟨hsim, _⟩ := h.alloc hu (.cells c e) (.arr wf xs) c.size (fun β' hβ hmono =>
    .inr ⟨_, c, e, hβ, heap_alloc_new w _, rfl, by simp; omega, hok, fun i x j d hi hj => by
      have := hmono _ _ (.d _ _ (hv i x j d hi hj))
      simpa using this.toD⟩)
  refine ⟨_, hsim.put ht (.vw _ _ _ _ ⟨t, [], rfl, List.mem_cons_self⟩ rfl fun w' xs' hp' => ?_)⟩
  have : w' = wf ∧ xs' = xs := by simpa [St.add, updP, eq_comm] using hp'
  obtain ⟨rfl, rfl⟩ := this
  exact ⟨by simp, _, cap, rfl, .inr ⟨⟨w.heap.size, 0, c.size⟩, by simp [updP], by simp, hl, by simpa using hz⟩⟩
end
end Go.Ab
