/-
  The generic layer, part 24: loops under the veil, where all that is carried are plain values. (with the parts that follow it)
-/
import Derived.Test.YtjoneaifakonjaaDoorC6
import Derived.Laws.BytesString
import Derived.Laws.RangeString
set_option linter.all false
/-! ### The generic layer, part 24: loops under the veil, where all that is carried are plain values. -/
namespace Go.Ab
/-- Such slots hold such values. -/
def frE (s : St) : List (Nat × AV) → Prop
  | [] => True
  | q :: r => s.fr q.1 = q.2 ∧ q.2.inU [] = true ∧ frE s r
theorem frE_mem {s : St} : ∀ {l : List (Nat × AV)}, frE s l → ∀ q ∈ l, s.fr q.1 = q.2 ∧ q.2.inU [] = true
  | [], _, q, h => by simp at h
  | _ :: r, h, q, hq => by
    rcases List.mem_cons.1 hq with rfl | hq
    · exact ⟨h.1, h.2.1⟩
    · exact frE_mem h.2.2 q hq
theorem le_flat {s : St} {fr : List (Nat × AV)} (h : frE s fr) : Le [] id s (mk fr [] []) where
  fr := fun t => by
    rcases lkA_mem (z := AV.un) (l := fr) (i := t) with e | hm
    · exact .inl e
    · obtain ⟨h1, h2⟩ := frE_mem h _ hm
      exact .inr ⟨by rw [AV.ren_id id (fun _ => rfl)]; exact h1, h2⟩
  hp := fun p o ho => by cases ho
  inj := fun p q hp => by exact absurd rfl hp
  us := fun x hx => by cases hx
  stay := fun p hp => by obtain ⟨a, t, _, ha⟩ := hp; cases ha
section
variable {P : Program} {cf : Cf}
theorem lq_exit_x (next : St → Prop) (k : List It) (Q : Exit → St → Prop) (s : St) (i : Nat) : lq P cf next k Q (.exit i) s = xk P cf i k Q s := rfl
/-- A loop, what stands behind a round said anyhow. -/
theorem loopN_ok {X : Type} (I : X → St) (μ : X → Nat) (next : X → St → Prop) {c : Code} {s : St} {k : List It} {Q : Exit → St → Prop}
    (h0 : ∃ x τ, Le cf.U τ s (I x))
    (hn : ∀ x s', next x s' → ∃ y, μ y < μ x ∧ ∃ τ, Le cf.U τ s' (I y)) (hr : ∀ x, run P cf [.code c] (lq P cf (next x) k Q) (I x)) : ACk P cf (.loop c) s k Q := by
  have key : ∀ N x, μ x < N → ∀ (B : Base), cf.fits B → ∀ ds β a w, a.defers = ds → Sim B β (I x) a.tmps w → Code.roundsIn (Fw cf.ro) 0 P c (hold P cf (lift B ds Q) k) N a w := by
    intro N
    induction N with
    | zero => intro x hx; omega
    | succ N ih =>
      intro x hx B hB ds β a w hds h
      rw [roundsIn_succ]
      refine wpIn_mono (run_ok (hr x) B hB ds β a w hds h) fun e a' w' hq => ?_
      obtain ⟨hd', s', β', hq, hs⟩ := hq
      cases e with
      | normal =>
        obtain ⟨y, hy, τ, hle⟩ := hn x s' hq
        obtain ⟨β2, hs2, _⟩ := hs.le (τ := τ) (by rw [hB.2.1]; exact hle)
        exact ih y (by omega) B hB ds β2 a' w' hd' hs2
      | exit i =>
        unfold lq goK at hq
        show hold P cf (lift B ds Q) k (.exit i) a' w'
        simp only at hq
        split at hq
        · rename_i k' hk'
          exact hold_exit_some _ i k k' a' w' hk' (run_ok hq B hB ds β' a' w' hd' hs)
        · rename_i hk'
          exact hold_exit_none _ i k a' w' hk' ⟨hd', s', β', hq, hs⟩
      | ret => exact hold_ret _ k a' w' ⟨hd', s', β', hq, hs⟩
      | goto l => exact hq.elim
      | panic c => exact hq.elim
      | outgrown => exact hq.elim
  obtain ⟨x, τ, hle⟩ := h0
  intro B hB ds β a w hds h
  obtain ⟨β2, hs2, _⟩ := h.le (τ := τ) (by rw [hB.2.1]; exact hle)
  exact wpIn_loop_rounds (μ x + 1) (key _ x (Nat.lt_succ_self _) B hB ds β2 a w hds hs2)

/-- A loop whose rounds carry plain values alone. -/
theorem loopP_ok {X : Type} (I : X → List (Nat × AV)) (μ : X → Nat) {c : Code} {s : St} {k : List It} {Q : Exit → St → Prop} (hU : cf.U = []) (x0 : X) (h0 : frE s (I x0))
    (hr : ∀ x, run P cf [.code c] (lq P cf (fun s' => ∃ y, μ y < μ x ∧ frE s' (I y)) k Q) (mk (I x) [] [])) : ACk P cf (.loop c) s k Q :=
  loopN_ok (fun x => mk (I x) [] []) μ _ ⟨x0, id, by rw [hU]; exact le_flat h0⟩ (fun x s' ⟨y, hy, h⟩ => ⟨y, hy, id, by rw [hU]; exact le_flat h⟩) hr
end
attribute [go_sem] frE lq_normal lq_exit_x lq_ret xk_nil xk_code xk_ops xk_eq xk_ne
end Go.Ab
/-! ### The generic layer, part 25: more operations: bytes to a string. -/
namespace Go.Ab
section
variable {P : Program} {cf : Cf}

/-- An operation that yields a value and turns no memory. -/
theorem aok_val {s : St} {k : List It} {Q : Exit → St → Prop} {o : Oper} {t : Nat} (hd : o.dst = some t) (ht : t < cf.n) (hnd : ∀ c, o.op ≠ .defer c) (x : AV)
    (h : ∀ (B : Base) (β : Name → Option Blk) (a : Act) (w : World), Sim B β s a.tmps w → ∃ v, (execOp a.eval o).run P w = .ok (.value v) w ∧ VR w.heap (s.own B.A β) s.used s.hp β v x) (hk : run P cf k Q (s.put t x)) : AOk P cf o s k Q := by
  intro B hB ds β a w hds hs Q'
  obtain ⟨v, hrun, hv⟩ := h B β a w hs
  refine wpIn_of_run hnd hrun (.inl rfl) ⟨by rw [hd]; exact hds, s.put t x, β, run_ok hk, ?_⟩
  rw [hd]
  exact hs.put (by rw [hB.1]; exact ht) hv

theorem foldl_push (bs : List UInt8) : ∀ acc : List UInt8, (bs.map fun b => ((b.toNat : Nat) : Int)).foldl (fun (r : ByteArray) n => r.push (UInt8.ofNat n.toNat)) ⟨acc.toArray⟩ = ⟨(acc ++ bs).toArray⟩ := by
  induction bs with
  | nil => intro acc; simp
  | cons b r ih =>
    intro acc
    simp only [List.map_cons, List.foldl_cons]
    have : (ByteArray.push ⟨acc.toArray⟩ (UInt8.ofNat ((b.toNat : Nat) : Int).toNat)) = ⟨(acc ++ [b]).toArray⟩ := by
      simp [ByteArray.push]
    rw [this, ih]
    simp

/-- '[]byte' to a string. -/
theorem conv_bytes {s : St} {k : List It} {Q : Exit → St → Prop} {src dst' e : Nat} {x : Operand} {t : Nat} {ty : TypeId} {pos : String} {af : Array Edge} (bs : List UInt8) (hs : (P.ti src).k = .slice e) (he : (P.ti e).k = .int .u8) (hd : (P.ti dst').k = .str)
    (hl : listOf none s.hp (ev s x) = some (bs.map fun b => .int .u8 b.toNat)) (ht : t < cf.n) (hk : run P cf k Q (s.put t (.d (.str bs)))) :
    AOk P cf { dst := some t, op := .convert src dst' x, type := ty, pos := pos, after := af, guard := none } s k Q := by
  refine aok_val rfl ht (by simp) _ (fun B β a w h => ?_) hk
  obtain ⟨news, hseg⟩ := listOf_sound (P := P) h (h.ev x) hl
  obtain ⟨ad, cap, hv⟩ := hseg.len
  have hnews : news = (bs.map fun b => ((b.toNat : Nat) : Int)).map (Value.int .u8) := by
    have hsz := hseg.size
    simp only [wd, Nat.mul_one, List.length_map] at hsz
    apply List.ext_getElem (by simp [hsz])
    intro i h1 h2
    have := hseg.rep i (.int .u8 (bs.getD i 0).toNat) 0 (.int .u8 (bs.getD i 0).toNat) (by
      have : i < bs.length := by omega
      simp [this]) rfl
    simp only [wd, Nat.mul_one, Nat.add_zero] at this
    have hv := this.val rfl
    have hi : i < bs.length := by omega
    simp [h1, hi] at hv
    simp [hv]
  have hrun := hseg.run w rfl
  rw [hv] at hrun
  refine ⟨.string ⟨bs.toArray⟩, ?_, .d _ _ (.str _)⟩
  have hc : (convert src dst' (a.eval x)).run P w = .ok (.string ⟨bs.toArray⟩) w := by
    rw [hv, run_convert_bytes_string w src dst' e ad _ cap (ti_slice hs) (ti_int he) (ti_str hd)]
    cases ad with
    | none =>
      have hn : news = [] := by simpa [Builtin.firstCells] using hrun
      rw [hn] at hnews
      have : bs = [] := by
        cases bs with
        | nil => rfl
        | cons b r => simp at hnews
      subst this
      rfl
    | some ad =>
      have hload : (loadCells ad (bs.map fun b => D.int .u8 b.toNat).length).run P w = .ok ((bs.map fun b => ((b.toNat : Nat) : Int)).map (Value.int .u8)).toArray w := by
        rw [← hnews]
        simpa [Builtin.firstCells, wd] using hrun
      rw [run_bytesToString w ad _ cap _ hload]
      have := foldl_push bs []
      simp only [List.nil_append] at this
      rw [show (ByteArray.empty) = ⟨([] : List UInt8).toArray⟩ from rfl, this]
  show (do pure (Next.value (← convert src dst' (a.eval x))) : Sem Next).run P w = _
  rw [Sem.run_bind, hc]; rfl
end
end Go.Ab
/-! ### The generic layer, part 26: ranges over a string; loops that carry objects. -/
namespace Go.Ab
section
variable {P : Program} {cf : Cf}

/-- A loop whose rounds carry values and objects under their own names. -/
theorem loopO_ok {X : Type} (I : X → List (Nat × AV)) (O : X → List (Name × Ob)) (u : List Nat) (μ : X → Nat) {c : Code} {s : St} {k : List It} {Q : Exit → St → Prop} (x0 : X) (h0 : LeL cf.U id s (I x0) (O x0) u)
    (hr : ∀ x, run P cf [.code c] (lq P cf (fun s' => ∃ y, μ y < μ x ∧ LeL cf.U id s' (I y) (O y) u) k Q) (mk (I x) (O x) u)) : ACk P cf (.loop c) s k Q :=
  loopN_ok (fun x => mk (I x) (O x) u) μ _ ⟨x0, id, h0.le⟩ (fun _ _ ⟨y, hy, h⟩ => ⟨y, hy, id, h.le⟩) hr

/-- 'range s' of a string: the walk's place. -/
theorem range_str {s : St} {k : List It} {Q : Exit → St → Prop} {xt : Nat} {x : Operand} {t : Nat} {ty : TypeId} {pos : String} {af : Array Edge} {l : List UInt8} (hs : (P.ti xt).k = .str) (hx : ev s x = .d (.str l)) (ht : t < cf.n) (hu : t ∉ s.used)
    (hk : run P cf k Q ((s.add t (.siter l 0)).put t (.it [t]))) :
    AOk P cf { dst := some t, op := .range xt x, type := ty, pos := pos, after := af, guard := none } s k Q := by
  intro B hB ds β a w hds h Q'
  have hv := h.ev x
  rw [hx] at hv
  have hv := hv.toD.val rfl
  have hrun : (execOp a.eval { dst := some t, op := .range xt x, type := ty, pos := pos, after := af, guard := none }).run P w = .ok (.value (.pointer (some ⟨w.heap.size, 0, none⟩))) (w.alloc (.stringIter ⟨l.toArray⟩ 0)) := by
    show (do pure (Next.value (← Instr.range xt (a.eval x))) : Sem Next).run P w = _
    rw [hv, Sem.run_bind]
    simp [Instr.range, run_underlying (ti_str hs)]
  obtain ⟨hsim, _⟩ := h.alloc hu (.stringIter ⟨l.toArray⟩ 0) (.siter l 0) 0 (fun β' hβ _ => ⟨_, hβ, World.iter_heap w ⟨l.toArray⟩ 0⟩)
  refine wpIn_of_run (by simp) hrun (.inl rfl) ⟨hds, _, _, run_ok hk, hsim.put (by rw [hB.1]; exact ht) ?_⟩
  refine .its _ _ ⟨t, [], rfl, List.mem_cons_self⟩ rfl (fun l' i hi => ⟨⟨w.heap.size, 0, 0⟩, by simp [updP], rfl⟩) (fun l' c i hi => ⟨⟨w.heap.size, 0, 0⟩, by simp [updP], rfl⟩)

/-- 'next' of such a walk. -/
theorem next_str {s : St} {k : List It} {Q : Exit → St → Prop} {x : Operand} {t : Nat} {ty : TypeId} {ps : String} {af : Array Edge} {p : Name} {l : List UInt8} {pos : Nat} (hx : ev s x = .it p) (hp : s.hp p = some (.siter l pos)) (ht : t < cf.n)
    (h1 : pos < l.length → run P cf k Q ((s.set p (some (.siter l (pos + (Utf8.decode ⟨l.toArray⟩ pos).2)))).put t (.tup [.d (.bool true), .d (.int .i64 pos), .d (.int .i32 (Utf8.decode ⟨l.toArray⟩ pos).1)])))
    (h2 : ¬ pos < l.length → run P cf k Q (s.put t (.tup [.d (.bool false)]))) :
    AOk P cf { dst := some t, op := .next x true, type := ty, pos := ps, after := af, guard := none } s k Q := by
  intro B hB ds β a w hds h Q'
  have hv := h.ev x
  rw [hx] at hv
  have hsz : (⟨l.toArray⟩ : ByteArray).size = l.length := by simp [ByteArray.size]
  generalize hval : a.eval x = v at hv
  cases hv with
  | its _ _ hn ho g g' =>
  obtain ⟨kk, hk, rfl⟩ := g l pos hp
  obtain ⟨k2, hk2, hh⟩ := (h.objs p _ hp).2
  obtain rfl := Option.some.inj (hk.symm.trans hk2)
  have hlt := lt_of_some hh
  by_cases hpos : pos < l.length
  · have hrun : (execOp a.eval { dst := some t, op := .next x true, type := ty, pos := ps, after := af, guard := none }).run P w =
        .ok (.value (.tuple #[.bool true, goInt pos, .int .i32 (Utf8.decode ⟨l.toArray⟩ pos).1])) { w with heap := w.heap.setIfInBounds kk.b (.stringIter ⟨l.toArray⟩ (pos + (Utf8.decode ⟨l.toArray⟩ pos).2)) } := by
      show (do pure (Next.value (← Instr.next (a.eval x) true ty)) : Sem Next).run P w = _
      rw [hval, Sem.run_bind]
      simp [Instr.next, getObj, setObj, hh, hsz, hpos, Sem.run]
    obtain ⟨hsim, hvr⟩ := h.modify (p := p) (ob' := .siter l (pos + (Utf8.decode ⟨l.toArray⟩ pos).2)) hp trivial (w' := { w with heap := w.heap.setIfInBounds kk.b (.stringIter ⟨l.toArray⟩ (pos + (Utf8.decode ⟨l.toArray⟩ pos).2)) }) rfl (by simp)
      (fun b hb => by
        have := hb kk hk
        simp [Ne.symm this]) (fun _ _ => ⟨kk, hk, by simp [hlt]⟩)
    refine wpIn_of_run (by simp) hrun (.inl rfl) ⟨hds, _, _, run_ok (h1 hpos), hsim.put (by rw [hB.1]; exact ht) ?_⟩
    refine .tup _ _ rfl fun i y hi => ?_
    match i, hi with
    | 0, hi => obtain rfl := Option.some.inj hi; exact .d _ _ (.bool _)
    | 1, hi => obtain rfl := Option.some.inj hi; exact .d _ _ (.int _ _)
    | 2, hi => obtain rfl := Option.some.inj hi; exact .d _ _ (.int _ _)
  · have hrun : (execOp a.eval { dst := some t, op := .next x true, type := ty, pos := ps, after := af, guard := none }).run P w = .ok (.value (.tuple #[.bool false])) w := by
      show (do pure (Next.value (← Instr.next (a.eval x) true ty)) : Sem Next).run P w = _
      rw [hval, Sem.run_bind]
      simp [Instr.next, getObj, hh, hsz, hpos, Sem.run]
    refine wpIn_of_run (by simp) hrun (.inl rfl) ⟨hds, _, _, run_ok (h2 hpos), h.put (by rw [hB.1]; exact ht) ?_⟩
    refine .tup _ _ rfl fun i y hi => ?_
    match i, hi with
    | 0, hi => obtain rfl := Option.some.inj hi; exact .d _ _ (.bool _)
end
end Go.Ab
