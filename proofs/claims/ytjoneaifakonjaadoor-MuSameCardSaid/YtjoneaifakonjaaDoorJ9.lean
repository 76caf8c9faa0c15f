/-
  The generic layer, part 63: the statement that ranges over a function, as a whole; how a function that holds it is left. (with the parts that follow it)
-/
import Derived.Test.YtjoneaifakonjaaDoorJ6
import Derived.RangeFuncLeaves
set_option linter.all false
/-! ### The generic layer, part 63: the statement as a whole. -/
namespace Go.Ab
open Go.RowKit
section
variable {P : Program} {cf : Cf}

/-- Behind the assignment: the body. -/
def asg (P : Program) (cf : Cf) (body : Code) (Q : Exit → St → Prop) (e : Exit) (s1 : St) : Prop := e = .normal ∧ run P cf [.code body] Q s1
theorem asgE {P : Program} {cf : Cf} {body : Code} {Q : Exit → St → Prop} {s1 : St} (h : ∀ E : Eng P cf Q, E.run [.code body] s1) : asg P cf body Q .normal s1 := ⟨rfl, veil h⟩
theorem Y_range {B0 : Base} (hro : cf.ro = none) {f : FuncId} {caps : List D} {N : Nat} {xs : Nat → List D} (hit : ItC P cf.G f caps N xs) {g : Operand} {ps : List Nat} {assign body : Code} {k : List It} {s : St} {Φ : Exit → Act → World → Prop}
    (hev : ev s g = .d (.clo f caps)) {X : Type} (Iv : Nat → X → St) (hps : ∀ t ∈ ps, t < cf.n) (hxs : ∀ n, n < N → (xs n).length = ps.length) (h0 : ∃ x τ, Le cf.U τ s (Iv 0 x))
    (hr : ∀ n x, n < N → ∀ l, run P ⟨cf.n, some l, cf.G, (Iv n x).used⟩ [.code assign] (asg P ⟨cf.n, some l, cf.G, (Iv n x).used⟩ body (rq P cf Φ B0 k (Iv (n + 1)) (Iv n x))) (putP (Iv n x) ps (xs n)))
    (hd : ∀ x, ARY P cf Φ (CI B0) k (Iv N x)) : ARY P cf Φ (CI B0) (.code (.rangeFunc g ps.toArray assign body) :: k) s := by
  obtain ⟨n0, ro, G0, U0⟩ := cf
  simp only at hro
  subst hro
  intro B hB ds β a w hds hCI hs
  refine wpIn_rangeFunc fun fn _ => ?_
  have hg := hs.ev g
  rw [hev] at hg
  obtain ⟨cvs, hsz, hcv, hval⟩ : ∃ cvs : Array Value, cvs.size = caps.length ∧ (∀ i d, caps[i]? = some d → Rep w.heap (s.own B.A β) (cvs.getD i undef) d) ∧ a.eval g = .func (.func f) #[] cvs := by
    have := hg.toD
    generalize a.eval g = v at this
    cases this with
    | clo _ vs _ h1 h2 => exact ⟨vs, h1, h2, rfl⟩
  obtain ⟨W1, hW1⟩ : ∃ W1, (w.alloc (.deferred (some []))).alloc (.loop { state := .ready, pending := none, fn, tmps := a.tmps, params := ps.toArray, assign, body, defers := w.heap.size }) = W1 := ⟨_, rfl⟩
  have hz1 : W1.heap.size = w.heap.size + 2 := by rw [← hW1]; simp
  have hL1 : W1.heap[w.heap.size + 1]? = some (.loop { state := .ready, pending := none, fn, tmps := a.tmps, params := ps.toArray, assign, body, defers := w.heap.size }) := by
    rw [← hW1]
    have := World.alloc_heap_new (w.alloc (.deferred (some []))) (.loop { state := .ready, pending := none, fn, tmps := a.tmps, params := ps.toArray, assign, body, defers := w.heap.size })
    rwa [World.size_alloc] at this
  have hD1 : W1.heap[w.heap.size]? = some (.deferred (some [])) := by
    rw [← hW1]; exact (Below.heap_alloc _ _ _ (by simp)).trans (World.alloc_heap_new w _)
  have hold : ∀ b, b < w.heap.size → W1.heap[b]? = w.heap[b]? := fun b hb => by
    rw [← hW1]; exact (Below.heap_alloc _ _ _ (by simp; omega)).trans (Below.heap_alloc _ _ _ hb)
  have hio1 : wio W1 = wio w := by rw [← hW1]; rfl
  obtain ⟨x0, τ, hle⟩ := h0
  obtain ⟨β0, hs0, hβ0⟩ := hs.le (τ := τ) (by rw [hB.2.1]; exact hle)
  have hBz : B.H0.size ≤ w.heap.size := hs.size
  have hown0 : ∀ b, ownB (Iv 0 x0) β0 b → s.own B.A β b := by
    rintro b ⟨p, k, hp, hk, rfl⟩
    cases ho : (Iv 0 x0).hp p with
    | none => exact absurd ho hp
    | some o =>
      refine .inr ⟨τ p, k, ?_, by rw [← hβ0 p hp]; exact hk, rfl⟩
      rw [(hle.hp p o ho).1]; simp
  -- the caller's side of the rounds
  let D := w.heap.size
  let L := w.heap.size + 1
  let RB : LoopState → Option Code → (Nat → Prop) → World → Prop := fun st pe X W =>
    W.heap[L]? = some (.loop { state := st, pending := pe, fn, tmps := a.tmps, params := ps.toArray, assign, body, defers := D }) ∧ W.heap[D]? = some (.deferred (some [])) ∧ w.heap.size + 2 ≤ W.heap.size ∧ ∀ b, X b → w.heap.size + 2 ≤ b ∧ b < W.heap.size
  obtain ⟨z, hzl, hzw, hzC, hzJ, hzX⟩ : ∃ z : Itz, z.l = L ∧ z.w = W1 ∧ (z.C0 = fun b => B.A b ∨ b = D ∨ b = L ∨ ownB (Iv 0 x0) β0 b) ∧ (z.J = fun n C X W => RB .ready none X W ∧ ∃ x, SS B a.tmps D L C X W (Iv n x)) ∧
      (z.Jx = fun _ C X W => ∃ c s', RB .done (some c) X W ∧ jumpQ P ⟨n0, none, G0, U0⟩ Φ B0 k c s' ∧ SS B a.tmps D L C X W s') := ⟨⟨L, W1, _, _, _⟩, rfl, rfl, rfl, rfl, rfl⟩
  have hRB : ∀ st pe X W X' W', RB st pe X W → Stp W X W' X' → RB st pe X' W' := fun st pe X W X' W' ⟨h1, h2, h3, h4⟩ hst => by
    refine ⟨(hst.same L (lt_of_some h1) (fun hx => by have := (h4 _ hx).1; show False; simp only [L] at this; omega)).trans h1, (hst.same D (lt_of_some h2) (fun hx => by have := (h4 _ hx).1; show False; simp only [D] at this; omega)).trans h2, Nat.le_trans h3 hst.size, fun b hb => ⟨?_, (hst.new b hb).2⟩⟩
    rcases (hst.new b hb).1 with h | h
    · exact (h4 b h).1
    · exact Nat.le_trans h3 h
  have hz : z.Ok P G0 N xs := by
    refine ⟨?_, ?_, ?_, ?_⟩ <;> simp only [hzl, hzw, hzC, hzJ, hzX]
    · rintro b (h | rfl | rfl | h)
      · have := B.hA b h; show b < W1.heap.size; omega
      · show w.heap.size < W1.heap.size; omega
      · show w.heap.size + 1 < W1.heap.size; omega
      · have := hs.own_lt (hown0 b h); show b < W1.heap.size; omega
    · rintro n C X W X' W' ⟨h1, x, h2⟩ hst
      exact ⟨hRB _ _ _ _ _ _ h1 hst, x, h2.stp hst (fun b hb => (h1.2.2.2 b hb).1) (by omega) h1.2.2.1 (lt_of_some h1.2.1) (lt_of_some h1.1)⟩
    · rintro n C X W X' W' ⟨c, s', h1, hj, h2⟩ hst
      exact ⟨c, s', hRB _ _ _ _ _ _ h1 hst, hj, h2.stp hst (fun b hb => (h1.2.2.2 b hb).1) (by omega) h1.2.2.1 (lt_of_some h1.2.1) (lt_of_some h1.1)⟩
    · rintro n C X W vs hn ⟨h1, x, h2⟩ hvs hrep
      obtain ⟨fn', t', as', bd', hy, hrd⟩ := round_ok (B0 := B0) (k := k) (Iv := Iv (n + 1)) (D := D) (L := L) hB hps (hxs n hn) (hr n x hn L) h1.1 (by simp only [D, L]; omega) (by simp only [L]; omega) (by simp only [D]; omega) h1.2.1 h2 hvs hrep
      refine ⟨fn', t', as', bd', hy, hrd.mono ?_⟩
      rintro e W' ⟨C', hc, hD', hq⟩
      have hX : ∀ b, X b → w.heap.size + 2 ≤ b ∧ b < W'.heap.size := fun b hb => ⟨(h1.2.2.2 b hb).1, Nat.lt_of_lt_of_le (h1.2.2.2 b hb).2 hc.2.1⟩
      refine ⟨C', hc, ?_⟩
      rcases hq with ⟨rfl, hl, y, hS⟩ | ⟨rfl, c, s', hl, hj, hS⟩
      · exact .inl ⟨rfl, ⟨hl, hD', Nat.le_trans h1.2.2.1 hc.2.1, hX⟩, y, hS⟩
      · exact .inr ⟨rfl, c, s', ⟨hl, hD', Nat.le_trans h1.2.2.1 hc.2.1, hX⟩, hj, hS⟩
  have hJ0 : z.J 0 z.C0 (fun _ => False) z.w := by
    simp only [hzw, hzC, hzJ]
    refine ⟨⟨hL1, hD1, by show _ ≤ W1.heap.size; omega, fun b hb => hb.elim⟩, x0, ?_⟩
    have hG : ∀ q ∈ B.G, W1.heap[q.1]? = some q.2 ∧ ¬ ownB (Iv 0 x0) β0 q.1 := fun q hq => by
      obtain ⟨g1, g2⟩ := B.hG q hq
      have hlt := lt_of_some g1
      refine ⟨(hold _ (by omega)).trans ((hs.frame _ hlt g2).trans g1), fun hb => ?_⟩
      rcases (hs0.ownB_ok hb).2.2 with h | h
      · omega
      · exact g2 h
    have hA1 : ∀ b, (B.A b ∨ False ∨ b = D ∨ b = L) → b < W1.heap.size := by
      rintro b (h | h | rfl | rfl)
      · have := B.hA b h; omega
      · exact h.elim
      · show w.heap.size < _; omega
      · show w.heap.size + 1 < _; omega
    let B1 : Base := { n := B.n, io := B.io, G := B.G, H0 := W1.heap, O0 := ownB (Iv 0 x0) β0, A := fun b => B.A b ∨ False ∨ b = D ∨ b = L, U0 := B.U0, β0 := B.β0, hG := hG, hA := hA1 }
    refine SS.mk' (B4 := B1) (β5 := β0) ⟨rfl, rfl, rfl, rfl, rfl, by show B.H0.size ≤ W1.heap.size; omega, fun b hb ho => (hold b (by omega)).trans (hs.frame b hb ho), fun b hb ho => ?_, fun b hb => .inl hb⟩ rfl (fun b hb => hb) (fun b => Iff.rfl) ?_
    · rcases (hs0.ownB_ok ho).2.2 with h | h
      · omega
      · exact h
    · refine hs0.mv rfl (hio1.trans hs.io) (Nat.le_refl _) (fun _ _ _ => rfl) (by omega) (fun b hb _ => hold b hb) (fun b hb hc => ?_) (fun p k hp hk => .inr ⟨p, k, hp, hk, rfl⟩) hs0.us hs0.stay
      rcases hc with h | h | h | h
      · exact h
      · exact h.elim
      · simp only [D] at h; omega
      · simp only [L] at h; omega
  have hcaps : ∀ i d, caps[i]? = some d → Rep z.w.heap z.C0 (cvs.getD i undef) d := fun i d hi => (by rw [hzw, hzC]; exact (hcv i d hi).mono (fun b _ hlt => hold b hlt) (fun b hb hc => by
    rcases hc with h | h | h | h
    · exact .inl h
    · simp only [D] at h; omega
    · simp only [L] at h; omega
    · exact hown0 b h))
  have hGz : ∀ q ∈ G0, z.w.heap[q.1]? = some q.2 := fun q hq => by
    obtain ⟨g1, g2⟩ := B.hG q (by rw [hB.2.2]; exact hq)
    have hlt := lt_of_some g1
    rw [hzw]; exact (hold _ (by omega)).trans ((hs.frame _ hlt g2).trans g1)
  have hcall := hit.2 z hz cvs hsz hcaps hJ0 hGz
  rw [hzl, hzw] at hcall
  simp only [hzJ, hzX] at hcall
  refine ⟨L, [mkD D], W1, { target := .fn (.func f) cvs, args := #[.func (.yield L) #[] #[]] }, W1, f, #[.func (.yield L) #[] #[]] ++ cvs, W1, ?_, ?_, fun _ _ => trivial, ?_, fun hdep => by simp [Fw_depth] at hdep, ?_⟩
  · rw [← hW1]; exact run_enterLoop_outer _ _ _ _ _
  · simp only [resolve, hval]
    simp [go_sem]
  · simp [invoke, go_sem, hit.1]
  have hcall' : CallsIn (Fw none) (0 - 1) P f (#[.func (.yield L) #[] #[]] ++ cvs) W1 _ := hcall
  refine hcall'.mono ?_
  rintro e W2 ⟨⟨v, rfl⟩, C, X', hq⟩
  -- behind the loop
  have key : ∀ st pe s', RB st pe X' W2 → SS B a.tmps D L C X' W2 s' → ∃ W4 B5 β5, W4 = W2.putObj L (.loop { state := .exhausted, pending := pe, fn, tmps := a.tmps, params := ps.toArray, assign, body, defers := D }) ∧ CI B0 B5 ([mkD D] ++ a.defers) ∧ (⟨n0, none, G0, U0⟩ : Cf).fits B5 ∧ Sim B5 β5 s' a.tmps W4 := by
    rintro st pe s' ⟨h1, h2, h3, h4⟩ ⟨β', B', hE, hH, hO, hA, hC, hsx⟩
    have hoth : ∀ b, b ≠ L → (W2.putObj L (.loop { state := .exhausted, pending := pe, fn, tmps := a.tmps, params := ps.toArray, assign, body, defers := D })).heap[b]? = W2.heap[b]? := fun b hb => World.putObj_heap_other hb
    have hlt : ∀ b, b < B.H0.size → b ≠ L := fun b hb => by simp only [L]; omega
    have hsz4 : (W2.putObj L (.loop { state := .exhausted, pending := pe, fn, tmps := a.tmps, params := ps.toArray, assign, body, defers := D })).heap.size = W2.heap.size := by simp
    generalize hW4 : W2.putObj L (.loop { state := .exhausted, pending := pe, fn, tmps := a.tmps, params := ps.toArray, assign, body, defers := D }) = W4 at hoth hsz4
    have hio4 : wio W4 = wio W2 := by rw [← hW4]; rfl
    have hG5 : ∀ q ∈ B'.G, W4.heap[q.1]? = some q.2 ∧ ¬ ownB s' β' q.1 := fun q hq => by
      have g0 := lt_of_some (B.hG q (by rw [← hE.G]; exact hq)).1
      have g1 := B'.hG q hq
      exact ⟨(hoth _ (hlt _ g0)).trans (by rw [← hH]; exact g1.1), fun hb => g1.2 ((hO _).2 hb)⟩
    let B5 : Base := { n := B'.n, io := B'.io, G := B'.G, H0 := W4.heap, O0 := ownB s' β', A := B'.A, U0 := B'.U0, β0 := B'.β0, hA := fun b hb => by have := B'.hA b hb; rw [hH] at this; omega, hG := hG5 }
    have hE5 : BExt B B5 := by
      refine ⟨hE.n, hE.io, hE.G, hE.U0, hE.β0, by show B.H0.size ≤ W4.heap.size; omega, fun b hb ho => ?_, fun b hb ho => hE.O0 b hb ((hO b).2 ho), hE.A⟩
      show W4.heap[b]? = _
      rw [hoth b (hlt b hb), ← hH]; exact hE.frame b hb ho
    refine ⟨W4, B5, β', rfl, ⟨hCI.ext.trans hE5, ?_⟩, ⟨hE5.n.trans hB.1, hE5.U0.trans hB.2.1, hE5.G.trans hB.2.2⟩, ?_⟩
    · obtain ⟨Ds, e1, e2, e3⟩ := hCI.mark
      have hAD : B'.A D := (hA D).2 (.inr (.inr (.inl rfl)))
      refine ⟨D :: Ds, by rw [hds, e1]; rfl, List.nodup_cons.2 ⟨fun hm => ?_, e2⟩, fun D' hD' => ?_⟩
      · have := lt_of_some (e3 D hm).1
        simp only [D] at this; omega
      · rcases List.mem_cons.1 hD' with rfl | hm
        · refine ⟨(hoth D (by simp only [D, L]; omega)).trans h2, hAD, Nat.le_trans hCI.ext.size hBz, fun ho => (hsx.ownB_ok ho).2.1 hAD⟩
        · obtain ⟨f1, f2, f3, f4⟩ := e3 D' hm
          have hl := lt_of_some f1
          exact ⟨(hE5.frame D' hl f4).trans f1, hE5.A D' f2, f3, fun ho => f4 (hE5.O0 D' hl ho)⟩
    · exact hsx.mv rfl (hio4.trans hsx.io) (Nat.le_refl _) (fun _ _ _ => rfl) (by omega) (fun b hb hn => hoth b (fun e => hn (e ▸ (hA L).2 (.inr (.inr (.inr rfl)))))) (fun b _ h => h) (fun p k hp hk => .inr ⟨p, k, hp, hk, rfl⟩) hsx.us hsx.stay
  rcases hq with ⟨h1, x, hS⟩ | ⟨n, c, s', h1, hj, hS⟩
  · obtain ⟨W4, B5, β5, e4, hc5, hf5, hs5⟩ := key _ _ _ h1 hS
    refine ⟨none, W4, ?_, ?_⟩
    · rw [e4]; exact run_endLoop h1.1 (by simp)
    · exact hd x B5 hf5 _ β5 { a with defers := [mkD D] ++ a.defers } W4 rfl hc5 hs5
  · obtain ⟨W4, B5, β5, e4, hc5, hf5, hs5⟩ := key _ _ _ h1 hS
    refine ⟨some c, W4, ?_, ?_⟩
    · rw [e4]; exact run_endLoop h1.1 (by simp)
    · rcases hj with ⟨i, rfl, hy⟩ | ⟨rfl, hy⟩
      · exact wpIn_exit (yq_hold' (a := { a with defers := [mkD D] ++ a.defers }) hf5 hc5 rfl hy hs5)
      · exact wpIn_ret (yq_hold' (a := { a with defers := [mkD D] ++ a.defers }) hf5 hc5 rfl hy hs5)

/-- What a function's contract asks of its end. -/
def RH (B0 : Base) (Q : AV → List (Name × Ob) → Prop) (e : Ending) (w : World) : Prop := ∃ v r hp' u' β', e = .returned v ∧ Q r hp' ∧ Sim { B0 with n := 1 } β' (mk [(0, r)] hp' u') #[v] w
def ΦR (P : Program) (fn : Func) (B0 : Base) (Q : AV → List (Name × Ob) → Prop) : Exit → Act → World → Prop := bodyPostM Fence.wide 0 P fn (RH B0 Q)

/-- The marks are taken off, one by one. -/
theorem marks {fn : Func} {tmps : Array Value} {R : Ending → World → Prop} : ∀ (Ds : List Nat) (w : World), Ds.Nodup → (∀ D ∈ Ds, w.heap[D]? = some (.deferred (some []))) →
    (∀ w', w'.heap.size = w.heap.size → wio w' = wio w → (∀ b, b ∉ Ds → w'.heap[b]? = w.heap[b]?) → ∃ v, (results fn tmps).run P w' = .ok v w' ∧ R (.returned v) w') → LeavesInM Fence.wide 0 P fn tmps R (Ds.map mkD) .returning w
  | [], w, _, _, h => h w rfl rfl (fun _ _ => rfl)
  | D :: Ds, w, hn, hd, h => by
    obtain ⟨h1, h2⟩ := List.nodup_cons.1 hn
    have hD := hd D List.mem_cons_self
    refine ⟨by simp, .inl ⟨D, _, rfl, run_takeDeferred hD, marks Ds _ h2 (fun D' hD' => ?_) (fun w' z1 z2 z3 => ?_)⟩⟩
    · have hne : D' ≠ D := fun e => h1 (e ▸ hD')
      exact (World.putObj_heap_other hne).trans (hd D' (List.mem_cons_of_mem _ hD'))
    · refine h w' (by rw [z1]; simp) (z2.trans rfl) (fun b hb => ?_)
      rw [z3 b (fun hm => hb (List.mem_cons_of_mem _ hm))]
      have hne : b ≠ D := fun e => hb (e ▸ List.mem_cons_self)
      exact World.putObj_heap_other hne

/-- Behind the marks the state stands in the call's first setting. -/
theorem CI.back {B0 B : Base} {ds : List Deferred} {β : Name → Option Blk} {s : St} {tm : Array Value} {w : World} (h : CI B0 B ds) (hs : Sim B β s tm w) {fn : Func} {R : Ending → World → Prop}
    (hR : ∀ w', Sim B0 β s tm w' → ∃ v, (results fn tm).run P w' = .ok v w' ∧ R (.returned v) w') : LeavesInM Fence.wide 0 P fn tm R ds .returning w := by
  obtain ⟨Ds, rfl, hn, hd⟩ := h.mark
  refine marks Ds w hn (fun D hD => ?_) (fun w' z1 z2 z3 => hR w' ?_)
  · obtain ⟨f1, f2, f3, f4⟩ := hd D hD
    exact (hs.frame D (lt_of_some f1) f4).trans f1
  · have hz := h.ext.size
    have hz2 := hs.size
    refine hs.mv h.ext.n.symm (z2.trans (hs.io.trans h.ext.io)) (by omega) (fun b hb ho => ?_) (by omega) (fun b hb hna => z3 b (fun hm => hna (hd b hm).2.1)) (fun b _ hb => h.ext.A b hb) (fun p k hp hk => ?_) (by rw [← h.ext.U0]; exact hs.us) (by rw [← h.ext.U0, ← h.ext.β0]; exact hs.stay)
    · rw [z3 b (fun hm => by have := (hd b hm).2.2.1; omega), hs.frame b (by omega) (fun hc => ho (h.ext.O0 b hb hc))]
      exact h.ext.frame b hb ho
    · rcases (hs.blocks p k hp hk).2.2 with g | g
      · exact .inl (by omega)
      · rcases Nat.lt_or_ge k.b B0.H0.size with hlt | hge
        · exact .inr (h.ext.O0 _ hlt g)
        · exact .inl hge

theorem sim_ret {B : Base} {β : Name → Option Blk} {s : St} {tm : Array Value} {w : World} {v : Value} {x : AV} (hsim : Sim B β s tm w) (hv : VR w.heap (s.own B.A β) s.used s.hp β v x) : Sim { B with n := 1 } β (retS s x) #[v] w := by
  refine { tms := rfl, io := hsim.io, size := hsim.size, frame := hsim.frame, slots := fun t => ?_, objs := hsim.objs, blocks := hsim.blocks, inj := hsim.inj, us := hsim.us, stay := hsim.stay }
  show VR w.heap (s.own B.A β) s.used s.hp β _ (if t = 0 then x else .un)
  by_cases ht : t = 0
  · subst ht; rw [if_pos rfl]; exact hv
  · rw [if_neg ht]; exact .un _

/-- A function that ranges over functions is left: objects are handed back. -/
theorem X_ret {B0 : Base} {fn : Func} {u : List Nat} {Q : AV → List (Name × Ob) → Prop} {s : St} {e : Exit} (he : e = .ret ∨ e = .normal) (hu : B0.U0 = u) (h : fq P fn.results.toList u Q .ret s) : ARX cf (ΦR P fn { B0 with n := 1 } Q) (CI B0) e s := by
  intro B hB ds β a w hds hc hs
  have : LeavesInM Fence.wide 0 P fn a.tmps (RH { B0 with n := 1 } Q) a.defers .returning w := by
    rw [hds]
    refine hc.back hs (fun w' hs' => ?_)
    obtain ⟨l, v, ⟨r, hp', u', τ, hQ, hle⟩, hr, hv⟩ := run_results hs' fn h
    obtain ⟨β2, hs2, _⟩ := (sim_ret hs' hv).le (τ := τ) (by show Le B0.U0 τ _ _; rw [hu]; exact hle.le)
    exact ⟨v, hr, v, r, hp', u', β2, rfl, hQ, hs2⟩
  rcases he with rfl | rfl <;> exact this
/-- .. arrays that it made turn into data. -/
theorem X_retZ {B0 : Base} {fn : Func} {Q : AV → Prop} {s : St} {e : Exit} (he : e = .ret ∨ e = .normal) (hu : B0.U0 = []) (h : pz P fn.results.toList Q .ret s) : ARX cf (ΦR P fn { B0 with n := 1 } fun r hp' => Q r ∧ r.inU [] = true ∧ hp' = []) (CI B0) e s := by
  intro B hB ds β a w hds hc hs
  have : LeavesInM Fence.wide 0 P fn a.tmps (RH { B0 with n := 1 } fun r hp' => Q r ∧ r.inU [] = true ∧ hp' = []) a.defers .returning w := by
    rw [hds]
    refine hc.back hs (fun w' hs' => ?_)
    obtain ⟨l, v, ⟨L, hL, hin, hQ⟩, hr, hv⟩ := run_results hs' fn h
    obtain ⟨s2, hs2, hfr⟩ := frz_slot L _ (sim_ret hs' hv) (Lok_ret (retV l) L s _ rfl hL)
    have hle : LeL ([] : List Nat) id s2 [(0, frzs L (retV l))] [] [] := by
      refine ⟨⟨⟨?_, hin⟩, trivial⟩, trivial, trivial, rfl, trivial⟩
      rw [AV.ren_id id (fun _ => rfl), hfr 0]
      rfl
    obtain ⟨β2, hs3, _⟩ := hs2.le (τ := id) (by show Le B0.U0 id _ _; rw [hu]; exact hle.le)
    exact ⟨v, hr, v, _, _, _, β2, rfl, ⟨hQ, hin, rfl⟩, hs3⟩
  rcases he with rfl | rfl <;> exact this

/-- A function's contract out of its body's walk, where it ranges over functions. -/
theorem funR_ok {G : List (Nat × Obj)} {f : FuncId} {fn : Func} {c : Code} {args : List AV} {hp : List (Name × Ob)} {u : List Nat} {Q : AV → List (Name × Ob) → Prop} (hf : P.funcs[f]? = some fn) (hb : fn.body = some c)
    (hnm : (fn.name == "runtime.NumGoroutine") = false) (hn : args.length ≤ fn.ntmps)
    (h : ∀ B0 : Base, B0.U0 = u → ARY P ⟨fn.ntmps, none, G, u⟩ (ΦR P fn { B0 with n := 1 } Q) (CI B0) [.code c] (mk (argsFr 0 args) hp u)) : HCall P G f args hp u Q := by
  refine ⟨enter_run hf hb hnm, fun B β vs w h1 h2 h3 h4 hs => ?_⟩
  have hsz : vs.size = args.length := hs.tms.trans h1
  have hs' : Sim { B with n := fn.ntmps } β (mk (argsFr 0 args) hp u) (vs ++ Array.replicate (fn.ntmps - vs.size) undef) w := by
    refine { hs with tms := by simp; omega, slots := fun t => ?_ }
    have := hs.slots t
    by_cases ht : t < vs.size
    · have e : (vs ++ Array.replicate (fn.ntmps - vs.size) undef).getD t undef = vs.getD t undef := by
        simp [Array.getD_eq_getD_getElem?, Array.getElem?_append, ht]
      rw [e]; exact this
    · have e : (mk (argsFr 0 args) hp u).fr t = .un := by
        rw [mk_fr, argsFr_get, if_pos (Nat.zero_le _), List.getElem?_eq_none (by omega)]; rfl
      rw [e]; exact .un _
  have hrun := h { B with n := fn.ntmps } h3 { B with n := fn.ntmps } ⟨rfl, h3, h4⟩ [] β { tmps := vs ++ Array.replicate (fn.ntmps - vs.size) undef, defers := [] } w rfl ⟨.refl _, [], rfl, List.nodup_nil, fun D hD => by cases hD⟩ hs'
  exact callsIn_of_wp_marks hf hb trivial hrun
theorem LK_mk {s0 : St} {fr : List (Nat × AV)} {hp : List (Name × Ob)} {u : List Nat} (h : ∀ q ∈ hp, nmb s0.used q.1 = true → ∃ o, s0.hp q.1 = some o ∧ o.like q.2) : LK s0 (mk fr hp u) := by
  intro p o' hn ho
  refine h _ (mk_hp_mem ho) ?_
  obtain ⟨a, t, rfl, ha⟩ := hn
  simpa [nmb] using ha
theorem fra_mk (fr fr' : List (Nat × AV)) (hp : List (Name × Ob)) (u u' : List Nat) (hp' : List (Name × Ob)) : (mk fr hp u).fra (mk fr' hp' u').fr = mk fr' hp u := rfl
end
end Go.Ab
