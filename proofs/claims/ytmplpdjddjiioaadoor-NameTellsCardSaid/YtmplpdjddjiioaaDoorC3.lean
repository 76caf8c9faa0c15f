/-
  The generic layer, part 20: contracts of the machine (the shelf's) as contracts by values.
-/
import Derived.Test.YtmplpdjddjiioaaDoorC2
import Derived.Lib.AppendIntMem
namespace Go.Ab

/-- Memory has grown; what was there is as it was. -/
structure Ext (w w' : World) : Prop where
  io : wio w' = wio w
  size : w.heap.size ≤ w'.heap.size
  old : ∀ b, b < w.heap.size → w'.heap[b]? = w.heap[b]?
theorem Ext.refl (w : World) : Ext w w := ⟨rfl, Nat.le_refl _, fun _ _ => rfl⟩
theorem Ext.grow (w : World) (k : Nat) (os : Array Obj) : Ext w (Sort.grow (w.drewN k) os) := by
  have h := Lib.below_grow w.heap.size w (Nat.le_refl _) k os
  exact ⟨by show (_, _) = (_, _); rw [h.os, h.output], h.size, h.block⟩

/-- A plain datum's value. -/
def D.val : D → Option Value
  | .int k n => some (.int k n)
  | .bool b => some (.bool b)
  | .str s => some (.string ⟨s.toArray⟩)
  | .nilp => some (.pointer none)
  | .nils => some (.slice none 0 0)
  | .nilm => some (.map none)
  | .nilf => some .nilFunc
  | .nili => some .nilIface
  | _ => none
theorem Rep.val {H : Array Obj} {own : Nat → Prop} {v u : Value} {d : D} (h : Rep H own v d) (hd : d.val = some u) : v = u := by
  cases h <;> simp [D.val] at hd <;> first | exact hd | exact hd.symm
theorem D.val_rep {H : Array Obj} {own : Nat → Prop} {v : Value} {d : D} (h : d.val = some v) : Rep H own v d := by
  cases d <;> simp [D.val] at h <;> subst h <;> constructor
def vals : List D → Option (List Value)
  | [] => some []
  | d :: r => match d.val, vals r with
    | some v, some vs => some (v :: vs)
    | _, _ => none
theorem vals_get : ∀ {l : List D} {vs : List Value}, vals l = some vs → vs.length = l.length ∧ ∀ (i : Nat) d, l[i]? = some d → d.val = vs[i]?
  | [], vs, h => by simp only [vals, Option.some.injEq] at h; subst h; exact ⟨rfl, by simp⟩
  | d :: r, vs, h => by
    simp only [vals] at h
    split at h
    · rename_i v vs' h1 h2
      simp only [Option.some.injEq] at h
      subst h
      obtain ⟨g1, g2⟩ := vals_get h2
      refine ⟨by simp [g1], fun i e hi => ?_⟩
      cases i with
      | zero => simp at hi; subst hi; simpa using h1
      | succ i => simpa using g2 i e (by simpa using hi)
    · cases h

section
variable {P : Program}

/-- A contract of the machine at plain arguments. -/
theorem HP_of_calls {G : List (Nat × Obj)} {f : FuncId} {args : List D} {vs : List Value} {Q : AV → Prop} (he : ∀ vs w, (callFunc f vs).run P w = .ok (.enter f vs) w) (hv : vals args = some vs)
    (h : ∀ w : World, (∀ q ∈ G, w.heap[q.1]? = some q.2) → Calls P f vs.toArray w fun e w' => ∃ v d, e = .returned v ∧ Q (.d d) ∧ d.val = some v ∧ Ext w w') : HP P G f args Q := by
  refine ⟨he, fun B β tm w h1 h2 h3 h4 hs => ?_⟩
  obtain ⟨g1, g2⟩ := vals_get hv
  have htm : tm = vs.toArray := by
    have hsz : tm.size = args.length := by rw [hs.tms, h1]; simp
    apply Array.ext
    · rw [hsz]; simp [g1]
    · intro i hi hi'
      have hlt : i < args.length := by omega
      have := hs.slots i
      rw [mk_fr, argsFr_get, if_pos (Nat.zero_le _), Nat.sub_zero, List.getElem?_map, List.getElem?_eq_getElem hlt] at this
      have hr := this.toD.val (g2 i _ (List.getElem?_eq_getElem hlt) ▸ List.getElem?_eq_getElem (by omega : i < vs.length))
      simpa [Array.getD_eq_getD_getElem?, hi] using hr
  subst htm
  have hcl := (callsIn_wide (n := 0)).2 (h w fun q hq => by
    obtain ⟨k1, k2⟩ := B.hG q (h4 ▸ hq)
    rw [← h2]; exact k1)
  refine hcl.mono ?_
  rintro e w' ⟨v, d, rfl, hQ, hrep, hext⟩
  refine ⟨v, .d d, [], [], β, rfl, ⟨hQ, rfl, rfl⟩, ?_⟩
  have hno : ∀ p, ¬ nm B.U0 p := fun p hp => by
    obtain ⟨a, t, _, ha⟩ := hp
    rw [show B.U0 = [] from h3] at ha; cases ha
  have hnone : ∀ p, (mk [(0, AV.d d)] [] []).hp p = none := fun _ => rfl
  refine { tms := rfl, io := hext.io.trans hs.io, size := Nat.le_trans hs.size hext.size, frame := fun b hb hn => ?_, slots := fun t => ?_, objs := fun p o ho => (by cases ho), blocks := fun p k hp => (by exact absurd rfl hp), inj := fun p q k l hp => (by exact absurd rfl hp), us := fun x hx => (by rw [show B.U0 = [] from h3] at hx; cases hx), stay := fun p hp => (hno p hp).elim }
  · rw [hext.old b (Nat.lt_of_lt_of_le hb hs.size)]; exact hs.frame b hb hn
  · rw [mk_fr, lkA_cons, lkA_nil]
    by_cases ht : t = 0
    · subst ht
      rw [if_pos rfl]
      exact .d _ _ (D.val_rep hrep)
    · rw [if_neg ht]; exact .un _
end
end Go.Ab
