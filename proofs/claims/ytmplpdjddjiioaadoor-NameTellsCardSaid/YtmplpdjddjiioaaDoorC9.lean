/-
  The generic layer, part 26: ranges over a string; loops that carry objects.
-/
import Derived.Test.YtmplpdjddjiioaaDoorC8
import Derived.Laws.RangeString
namespace Go.Ab
section
variable {P : Program} {cf : Cf}

/-- A loop whose rounds carry values and objects under their own names. -/
theorem loopO_ok {X : Type} (I : X → List (Nat × AV)) (O : X → List (Name × Ob)) (u : List Nat) (μ : X → Nat) {c : Code} {s : St} {k : List It} {Q : Exit → St → Prop} (x0 : X) (h0 : LeL cf.U id s (I x0) (O x0) u)
    (hr : ∀ x, run P cf [.code c] (lq P cf (fun s' => ∃ y, μ y < μ x ∧ LeL cf.U id s' (I y) (O y) u) k Q) (mk (I x) (O x) u)) : ACk P cf (.loop c) s k Q :=
  loopN_ok (fun x => mk (I x) (O x) u) μ _ ⟨x0, id, h0.le⟩ (fun _ _ ⟨y, hy, h⟩ => ⟨y, hy, id, h.le⟩) hr

/-- 'range s' of a string: the walk's place. -/
theorem range_str {s : St} {k : List It} {Q : Exit → St → Prop} {xt : Nat} {x : Operand} {t : Nat} {ty : TypeId} {pos : String} {af : Array Edge} {l : List UInt8} (hs : (P.ti xt).k = .str) (hx : ev s x = .d (.str l)) (ht : t < cf.n) (hu : t ∉ s.used)
    (hk : run P cf k Q ((s.add t (.siter l 0)).put t (.it [t]))) :
    AOk P cf { dst := some t, op := .range xt x, type := ty, pos := pos, after := af, guard := none } s k Q := by
  intro B hB ds β a w hds h Q'
  have hv := h.ev x
  rw [hx] at hv
  have hv := hv.toD.val rfl
  have hrun : (execOp a.eval { dst := some t, op := .range xt x, type := ty, pos := pos, after := af, guard := none }).run P w = .ok (.value (.pointer (some ⟨w.heap.size, 0, none⟩))) (w.alloc (.stringIter ⟨l.toArray⟩ 0)) := by
    show (do pure (Next.value (← Instr.range xt (a.eval x))) : Sem Next).run P w = _
    rw [hv, Sem.run_bind]
    simp [Instr.range, run_underlying (ti_str hs)]
  obtain ⟨hsim, _⟩ := h.alloc hu (.stringIter ⟨l.toArray⟩ 0) (.siter l 0) 0 (fun β' hβ _ => ⟨_, hβ, World.iter_heap w ⟨l.toArray⟩ 0⟩)
  refine wpIn_of_run (by simp) hrun (.inl rfl) ⟨hds, _, _, run_ok hk, hsim.put (by rw [hB.1]; exact ht) ?_⟩
  refine .its _ _ ⟨t, [], rfl, List.mem_cons_self⟩ rfl (fun l' i hi => ⟨⟨w.heap.size, 0, 0⟩, by simp [updP], rfl⟩) (fun l' i hi => ⟨⟨w.heap.size, 0, 0⟩, by simp [updP], rfl⟩)

/-- 'next' of such a walk. -/
theorem next_str {s : St} {k : List It} {Q : Exit → St → Prop} {x : Operand} {t : Nat} {ty : TypeId} {ps : String} {af : Array Edge} {p : Name} {l : List UInt8} {pos : Nat} (hx : ev s x = .it p) (hp : s.hp p = some (.siter l pos)) (ht : t < cf.n)
    (h1 : pos < l.length → run P cf k Q ((s.set p (some (.siter l (pos + (Utf8.decode ⟨l.toArray⟩ pos).2)))).put t (.tup [.d (.bool true), .d (.int .i64 pos), .d (.int .i32 (Utf8.decode ⟨l.toArray⟩ pos).1)])))
    (h2 : ¬ pos < l.length → run P cf k Q (s.put t (.tup [.d (.bool false)]))) :
    AOk P cf { dst := some t, op := .next x true, type := ty, pos := ps, after := af, guard := none } s k Q := by
  intro B hB ds β a w hds h Q'
  have hv := h.ev x
  rw [hx] at hv
  have hsz : (⟨l.toArray⟩ : ByteArray).size = l.length := by simp [ByteArray.size]
  generalize hval : a.eval x = v at hv
  cases hv with
  | its _ _ hn ho g g' =>
  obtain ⟨kk, hk, rfl⟩ := g l pos hp
  obtain ⟨k2, hk2, hh⟩ := (h.objs p _ hp).2
  obtain rfl := Option.some.inj (hk.symm.trans hk2)
  have hlt := lt_of_some hh
  by_cases hpos : pos < l.length
  · have hrun : (execOp a.eval { dst := some t, op := .next x true, type := ty, pos := ps, after := af, guard := none }).run P w =
        .ok (.value (.tuple #[.bool true, goInt pos, .int .i32 (Utf8.decode ⟨l.toArray⟩ pos).1])) { w with heap := w.heap.setIfInBounds kk.b (.stringIter ⟨l.toArray⟩ (pos + (Utf8.decode ⟨l.toArray⟩ pos).2)) } := by
      show (do pure (Next.value (← Instr.next (a.eval x) true ty)) : Sem Next).run P w = _
      rw [hval, Sem.run_bind]
      simp [Instr.next, getObj, setObj, hh, hsz, hpos, Sem.run]
    obtain ⟨hsim, hvr⟩ := h.modify (p := p) (ob' := .siter l (pos + (Utf8.decode ⟨l.toArray⟩ pos).2)) hp trivial (w' := { w with heap := w.heap.setIfInBounds kk.b (.stringIter ⟨l.toArray⟩ (pos + (Utf8.decode ⟨l.toArray⟩ pos).2)) }) rfl (by simp)
      (fun b hb => by
        have := hb kk hk
        simp [Array.getElem?_setIfInBounds, Ne.symm this]) (fun _ _ => ⟨kk, hk, by simp [hlt]⟩)
    refine wpIn_of_run (by simp) hrun (.inl rfl) ⟨hds, _, _, run_ok (h1 hpos), hsim.put (by rw [hB.1]; exact ht) ?_⟩
    refine .tup _ _ rfl fun i y hi => ?_
    match i, hi with
    | 0, hi => obtain rfl := Option.some.inj hi; exact .d _ _ (.bool _)
    | 1, hi => obtain rfl := Option.some.inj hi; exact .d _ _ (.int _ _)
    | 2, hi => obtain rfl := Option.some.inj hi; exact .d _ _ (.int _ _)
  · have hrun : (execOp a.eval { dst := some t, op := .next x true, type := ty, pos := ps, after := af, guard := none }).run P w = .ok (.value (.tuple #[.bool false])) w := by
      show (do pure (Next.value (← Instr.next (a.eval x) true ty)) : Sem Next).run P w = _
      rw [hval, Sem.run_bind]
      simp [Instr.next, getObj, hh, hsz, hpos, Sem.run]
    refine wpIn_of_run (by simp) hrun (.inl rfl) ⟨hds, _, _, run_ok (h2 hpos), h.put (by rw [hB.1]; exact ht) ?_⟩
    refine .tup _ _ rfl fun i y hi => ?_
    match i, hi with
    | 0, hi => obtain rfl := Option.some.inj hi; exact .d _ _ (.bool _)
end
end Go.Ab
