/-
  The generic layer, part 62: a function that ranges over a function: the statement's rule, and how such a function is left. (with the parts that follow it)
-/
import Derived.Test.YtjoneaifakonjaaDoorJ3
set_option linter.all false
/-! ### The generic layer, part 62: the statement that ranges over an iterator. -/
namespace Go.Ab

/-- A later setting of the same call. -/
structure BExt (B0 B : Base) : Prop where
  n : B.n = B0.n
  io : B.io = B0.io
  G : B.G = B0.G
  U0 : B.U0 = B0.U0
  β0 : B.β0 = B0.β0
  size : B0.H0.size ≤ B.H0.size
  frame : ∀ b, b < B0.H0.size → ¬ B0.O0 b → B.H0[b]? = B0.H0[b]?
  O0 : ∀ b, b < B0.H0.size → B.O0 b → B0.O0 b
  A : ∀ b, B0.A b → B.A b
theorem BExt.refl (B : Base) : BExt B B := ⟨rfl, rfl, rfl, rfl, rfl, Nat.le_refl _, fun _ _ _ => rfl, fun _ _ h => h, fun _ h => h⟩
theorem BExt.trans {A B C : Base} (h : BExt A B) (g : BExt B C) : BExt A C :=
  ⟨g.n.trans h.n, g.io.trans h.io, g.G.trans h.G, g.U0.trans h.U0, g.β0.trans h.β0, Nat.le_trans h.size g.size,
    fun b hb ho => (g.frame b (Nat.lt_of_lt_of_le hb h.size) (fun hc => ho (h.O0 b hb hc))).trans (h.frame b hb ho), fun b hb hc => h.O0 b hb (g.O0 b (Nat.lt_of_lt_of_le hb h.size) hc), fun b hb => g.A b (h.A b hb)⟩
def mkD (D : Nat) : Deferred := { target := .collected D, args := #[] }
/-- The setting of a function that ranges over functions: its loops' marks, and their blocks. -/
structure CI (B0 : Base) (B : Base) (ds : List Deferred) : Prop where
  ext : BExt B0 B
  mark : ∃ Ds : List Nat, ds = Ds.map mkD ∧ Ds.Nodup ∧ ∀ D ∈ Ds, B.H0[D]? = some (.deferred (some [])) ∧ B.A D ∧ B0.H0.size ≤ D ∧ ¬ B.O0 D

def St.fra (s : St) (fr : Nat → AV) : St := { s with fr := fr }
/-- What of s' bears an old name is what bore it. -/
def LK (s0 s : St) : Prop := ∀ p o', nm s0.used p → s.hp p = some o' → ∃ o, s0.hp p = some o ∧ o.like o'
def putP (s : St) : List Nat → List D → St
  | t :: ts, d :: ds => putP (s.put t (.d d)) ts ds
  | _, _ => s

section
variable {P : Program} {cf : Cf}
theorem putP_hp : ∀ (ts : List Nat) (ds : List D) (s : St), (putP s ts ds).hp = s.hp ∧ (putP s ts ds).used = s.used
  | [], _, s => by cases ‹List D› <;> exact ⟨rfl, rfl⟩
  | _ :: _, [], _ => ⟨rfl, rfl⟩
  | t :: ts, d :: ds, s => putP_hp ts ds (s.put t (.d d))
theorem Sim.putP {B : Base} {β : Name → Option Blk} {w : World} : ∀ (ts : List Nat) (ds : List D) (vs : List Value) (s : St) (tm : Array Value), Sim B β s tm w → (∀ t ∈ ts, t < B.n) → vs.length = ds.length →
    (∀ i d, ds[i]? = some d → Rep w.heap (s.own B.A β) (vs.getD i undef) d) → Sim B β (putP s ts ds) ((ts.zip vs).foldl (fun tm (q : Nat × Value) => tm.setIfInBounds q.1 q.2) tm) w
  | [], ds, vs, s, tm, h, _, _, _ => by cases ds <;> exact h
  | _ :: _, [], [], s, tm, h, _, _, _ => h
  | t :: ts, d :: ds, v :: vs, s, tm, h, ht, hl, hv => by
    refine Sim.putP ts ds vs (s.put t (.d d)) _ (h.put (ht t List.mem_cons_self) (.d _ _ (hv 0 d rfl))) (fun x hx => ht x (List.mem_cons_of_mem _ hx)) (by simpa using hl) (fun i d' hi => ?_)
    exact hv (i + 1) d' hi

/-- How a round's body may be left. -/
def rq (P : Program) (cf : Cf) (Φ : Exit → Act → World → Prop) (B0 : Base) (k : List It) {X : Type} (Iv : X → St) (s0 : St) (e : Exit) (s2 : St) : Prop :=
  match e with
  | .normal => LK s0 s2 ∧ ∃ y τ, Le cf.U τ (s2.fra s0.fr) (Iv y)
  | .exit i => LK s0 s2 ∧ yq P cf Φ (CI B0) k (.exit i) (s2.fra s0.fr)
  | .ret => LK s0 s2 ∧ yq P cf Φ (CI B0) k .ret (s2.fra s0.fr)
  | _ => False

/-- What stands behind n rounds. -/
def SS (B : Base) (tm : Array Value) (D L : Nat) (C X : Nat → Prop) (W : World) (s : St) : Prop :=
  ∃ β B', BExt B B' ∧ B'.H0 = W.heap ∧ (∀ b, B'.O0 b ↔ ownB s β b) ∧ (∀ b, B'.A b ↔ (B.A b ∨ X b ∨ b = D ∨ b = L)) ∧ (∀ b, C b ↔ (B.A b ∨ b = D ∨ b = L ∨ ownB s β b)) ∧ Sim B' β s tm W

theorem SS.stp {B : Base} {tm : Array Value} {D L z0 : Nat} {C X X' : Nat → Prop} {W W' : World} {s : St} (h : SS B tm D L C X W s) (hst : Stp W X W' X') (hX : ∀ b, X b → z0 ≤ b) (hz : B.H0.size ≤ z0) (hW : z0 ≤ W.heap.size) (hD : D < W.heap.size) (hL : L < W.heap.size) :
    SS B tm D L C X' W' s := by
  obtain ⟨β, B', hE, hH, hO, hA, hC, hs⟩ := h
  have hlt : ∀ b, B.A b → b < W.heap.size := fun b hb => Nat.lt_of_lt_of_le (B.hA b hb) (by rw [← hH]; exact hE.size)
  have hsame : ∀ b, b < B.H0.size → W'.heap[b]? = W.heap[b]? := fun b hb => hst.same b (by omega) (fun hx => by have := hX b hx; omega)
  have hG : ∀ q ∈ B'.G, W'.heap[q.1]? = some q.2 ∧ ¬ ownB s β q.1 := fun q hq => by
    have h0 := B.hG q (by rw [← hE.G]; exact hq)
    have h1 := B'.hG q hq
    exact ⟨(hsame _ (lt_of_some h0.1)).trans (by rw [← hH]; exact h1.1), fun hb => h1.2 ((hO _).2 hb)⟩
  refine ⟨β, { n := B'.n, io := B'.io, G := B'.G, H0 := W'.heap, O0 := ownB s β, A := fun b => B.A b ∨ X' b ∨ b = D ∨ b = L, U0 := B'.U0, β0 := B'.β0, hA := ?_, hG := hG }, ?_, rfl, fun _ => Iff.rfl, fun _ => Iff.rfl, hC, ?_⟩
  · rintro b (hb | hb | rfl | rfl)
    · exact Nat.lt_of_lt_of_le (hlt b hb) hst.size
    · exact (hst.new b hb).2
    · exact Nat.lt_of_lt_of_le hD hst.size
    · exact Nat.lt_of_lt_of_le hL hst.size
  · refine ⟨hE.n, hE.io, hE.G, hE.U0, hE.β0, Nat.le_trans hE.size (by rw [hH]; exact hst.size), fun b hb ho => ?_, fun b hb ho => hE.O0 b hb ((hO b).2 ho), fun b hb => .inl hb⟩
    exact (hsame b hb).trans ((by rw [hH] : W.heap[b]? = B'.H0[b]?).trans (hE.frame b hb ho))
  · refine hs.mv rfl (hst.io.trans hs.io) (Nat.le_refl _) (fun _ _ _ => rfl) hst.size (fun b hb hn => hst.same b hb (fun hx => hn ((hA b).2 (.inr (.inl hx))))) (fun b hb hc => ?_) (fun p k hp hk => .inr ⟨p, k, hp, hk, rfl⟩) hs.us hs.stay
    rcases hc with hc | hc | hc | hc
    · exact (hA b).2 (.inl hc)
    · rcases (hst.new b hc).1 with h1 | h1
      · exact (hA b).2 (.inr (.inl h1))
      · omega
    · exact (hA b).2 (.inr (.inr (.inl hc)))
    · exact (hA b).2 (.inr (.inr (.inr hc)))

/-- A round's body has come to its end in a world W3; the record is turned (W4): what stands there for the loop's own frame. -/
theorem SS.after {B B' : Base} {tm : Array Value} {D L : Nat} {X : Nat → Prop} {W W2 W3 W4 : World} {s0 s1 s2 : St} {β' β1 β2 : Name → Option Blk} {tm2 : Array Value} {B2 : Base}
    (hE : BExt B B') (hH : B'.H0 = W.heap) (hO : ∀ b, B'.O0 b ↔ ownB s0 β' b) (hA : ∀ b, B'.A b ↔ (B.A b ∨ X b ∨ b = D ∨ b = L)) (hs : Sim B' β' s0 tm W)
    (hn2 : B2.n = B'.n) (hio2 : B2.io = B'.io) (hG2 : B2.G = B'.G) (hH2 : B2.H0 = W2.heap) (hO2 : ∀ b, B2.O0 b ↔ ownB s1 β1 b) (hA2 : B2.A = B'.A) (hU2 : B2.U0 = s0.used) (hβ2 : B2.β0 = β')
    (hsz : W.heap.size ≤ W2.heap.size) (h12 : ∀ b, b < W.heap.size → ¬ ownB s0 β' b → b ≠ L → W2.heap[b]? = W.heap[b]?) (hown1 : ∀ b, ownB s1 β1 b → W.heap.size ≤ b ∨ ownB s0 β' b)
    (hs2 : Sim B2 β2 s2 tm2 W3) (hlk : LK s0 s2) (hLz : B.H0.size ≤ L) (h34 : W3.heap.size = W4.heap.size) (hio4 : wio W4 = wio W3) (h4 : ∀ b, b ≠ L → W4.heap[b]? = W3.heap[b]?) :
    (∀ b, b < W.heap.size → ¬ ownB s0 β' b → b ≠ L → W4.heap[b]? = W.heap[b]?) ∧ W.heap.size ≤ W4.heap.size ∧ (∀ b, ownB s2 β2 b → (W.heap.size ≤ b ∨ ownB s0 β' b) ∧ b < W4.heap.size ∧ ¬ B'.A b) ∧
      ∃ B4, BExt B B4 ∧ B4.H0 = W4.heap ∧ (∀ b, B4.O0 b ↔ ownB s2 β2 b) ∧ (∀ b, B4.A b ↔ (B.A b ∨ X b ∨ b = D ∨ b = L)) ∧ Sim B4 β2 (s2.fra s0.fr) tm W4 := by
  have hown2 : ∀ b, ownB s2 β2 b → W.heap.size ≤ b ∨ ownB s0 β' b := fun b hb => by
    rcases (hs2.ownB_ok hb).2.2 with h | h
    · rw [hH2] at h; exact .inl (Nat.le_trans hsz h)
    · exact hown1 b ((hO2 b).1 h)
  have hz3 : W2.heap.size ≤ W3.heap.size := by have := hs2.size; rw [hH2] at this; exact this
  have hsame : ∀ b, b < W.heap.size → ¬ ownB s0 β' b → b ≠ L → W4.heap[b]? = W.heap[b]? := fun b hb hnb hne => by
    have h1 : ¬ ownB s1 β1 b := fun h => by
      rcases hown1 b h with h | h
      · omega
      · exact hnb h
    refine (h4 b hne).trans ((hs2.frame b (by rw [hH2]; omega) (fun h => h1 ((hO2 b).1 h))).trans ?_)
    rw [hH2]; exact h12 b hb hnb hne
  have hsz4 : W.heap.size ≤ W4.heap.size := by omega
  have hG4 : ∀ q ∈ B'.G, W4.heap[q.1]? = some q.2 ∧ ¬ ownB s2 β2 q.1 := fun q hq => by
    obtain ⟨g1, g2⟩ := B'.hG q hq
    have hlt := lt_of_some g1
    have hlt' : q.1 < W.heap.size := by rw [← hH]; exact hlt
    have hq2 := B2.hG q (by rw [hG2]; exact hq)
    have hno : ¬ ownB s2 β2 q.1 := fun hb => by
      rcases hown2 _ hb with h | h
      · omega
      · exact g2 ((hO _).2 h)
    refine ⟨?_, hno⟩
    have h3 : W3.heap[q.1]? = some q.2 := (hs2.frame _ (lt_of_some hq2.1) hq2.2).trans hq2.1
    have hb0 := lt_of_some (B.hG q (by rw [← hE.G]; exact hq)).1
    exact (h4 _ (by omega)).trans h3
  have hltA : ∀ b, B'.A b → b < W4.heap.size := fun b hb => Nat.lt_of_lt_of_le (B'.hA b hb) (by rw [hH]; exact hsz4)
  refine ⟨hsame, hsz4, fun b hb => ⟨hown2 b hb, by have := (hs2.ownB_ok hb).1; omega, by have := (hs2.ownB_ok hb).2.1; rw [hA2] at this; exact this⟩, ?_⟩
  let B4 : Base := { n := B'.n, io := B'.io, G := B'.G, H0 := W4.heap, O0 := ownB s2 β2, A := B'.A, U0 := B'.U0, β0 := B'.β0, hA := hltA, hG := hG4 }
  have hu : ∀ x ∈ s0.used, x ∈ s2.used := fun x hx => hs2.us x (by rw [hU2]; exact hx)
  have hst : ∀ p, nm s0.used p → β2 p = β' p := fun p hp => by rw [← hβ2]; exact hs2.stay p (by rw [hU2]; exact hp)
  have hs4 : Sim B4 β2 s2 tm2 W4 := by
    refine hs2.mv hn2.symm (hio4.trans (hs2.io.trans hio2)) (Nat.le_refl _) (fun _ _ _ => rfl) (by omega) (fun b hb hn => h4 b (fun e => hn (by rw [hA2, hA]; exact .inr (.inr (.inr e))))) (fun b _ hb => by rw [hA2]; exact hb) (fun p k hp hk => .inr ⟨p, k, hp, hk, rfl⟩) (fun x hx => hu x (hs.us x hx)) (fun p hp => ?_)
    have : nm s0.used p := hp.mono hs.us
    exact (hst p this).trans (hs.stay p hp)
  have hown : ∀ b, b < W.heap.size → s2.own B'.A β2 b → s0.own B'.A β' b := by
    rintro b hb (h1 | h1)
    · exact .inl h1
    · rcases hown2 b h1 with h | h
      · omega
      · exact .inr h
  have hr : ∀ v d, Rep W.heap (s0.own B'.A β') v d → Rep W4.heap (s2.own B'.A β2) v d := fun v d hd => hd.mono (fun b hb hlt => hsame b hlt (fun h => hb (.inr h)) (fun e => hb (.inl ((hA b).2 (.inr (.inr (.inr e))))))) hown
  refine ⟨B4, ⟨hE.n, hE.io, hE.G, hE.U0, hE.β0, Nat.le_trans hE.size (by rw [hH]; exact hsz4), fun b hb ho => ?_, fun b hb ho => ?_, fun b hb => (hA b).2 (.inl hb)⟩, rfl, fun _ => Iff.rfl, hA, ?_⟩
  · have hbW : b < W.heap.size := by have := hE.size; rw [hH] at this; omega
    refine (hsame b hbW (fun h => ho (hE.O0 b hb ((hO b).2 h))) (by omega)).trans ?_
    rw [← hE.frame b hb ho, hH]
  · rcases hown2 b ho with h | h
    · have := hE.size; rw [hH] at this; omega
    · exact hE.O0 b hb ((hO b).2 h)
  · exact { hs4 with tms := hs.tms, slots := fun t => (hs.slots t).mono hr hu (fun p hp o' ho => by obtain ⟨o, h1, h2⟩ := hlk p o' hp ho; exact ⟨o, h1, h2, hst p hp⟩) }

theorem SS.mk' {B B4 : Base} {tm : Array Value} {D L : Nat} {X : Nat → Prop} {W4 : World} {s5 : St} {β5 : Name → Option Blk} (hE : BExt B B4) (hH : B4.H0 = W4.heap) (hsub : ∀ b, ownB s5 β5 b → B4.O0 b) (hA : ∀ b, B4.A b ↔ (B.A b ∨ X b ∨ b = D ∨ b = L))
    (hs : Sim B4 β5 s5 tm W4) : SS B tm D L (fun b => B.A b ∨ b = D ∨ b = L ∨ ownB s5 β5 b) X W4 s5 := by
  refine ⟨β5, { n := B4.n, io := B4.io, G := B4.G, H0 := W4.heap, O0 := ownB s5 β5, A := B4.A, U0 := B4.U0, β0 := B4.β0, hA := fun b hb => by rw [← hH]; exact B4.hA b hb, hG := fun q hq => ⟨by rw [← hH]; exact (B4.hG q hq).1, fun hb => (B4.hG q hq).2 (hsub _ hb)⟩ },
    ⟨hE.n, hE.io, hE.G, hE.U0, hE.β0, by show B.H0.size ≤ W4.heap.size; rw [← hH]; exact hE.size, fun b hb ho => ?_, fun b hb ho => hE.O0 b hb (hsub b ho), hE.A⟩, rfl, fun _ => Iff.rfl, hA, fun _ => Iff.rfl, ?_⟩
  · show W4.heap[b]? = _
    rw [← hH]; exact hE.frame b hb ho
  · exact hs.mv rfl hs.io (Nat.le_refl _) (fun _ _ _ => rfl) (Nat.le_refl _) (fun _ _ _ => rfl) (fun _ _ h => h) (fun p k hp hk => .inr ⟨p, k, hp, hk, rfl⟩) hs.us hs.stay

/-- How a round has left the loop. -/
def jumpQ (P : Program) (cf : Cf) (Φ : Exit → Act → World → Prop) (B0 : Base) (k : List It) (c : Code) (s : St) : Prop :=
  (∃ i, c = .exit i ∧ yq P cf Φ (CI B0) k (.exit i) s) ∨ (c = .ret ∧ yq P cf Φ (CI B0) k .ret s)

theorem wio_putObj (w : World) (r : Nat) (o : Obj) : wio (w.putObj r o) = wio w := rfl
theorem foldl_zip (ps : List Nat) (vs tm : Array Value) : (ps.toArray.zip vs).foldl (fun tmps (q : Nat × Value) => tmps.setIfInBounds q.1 q.2) tm = (ps.zip vs.toList).foldl (fun tm (q : Nat × Value) => tm.setIfInBounds q.1 q.2) tm := by
  rw [← Array.foldl_toList, Array.toList_zip]

/-- One round. -/
theorem round_ok {n0 : Nat} {G0 : List (Nat × Obj)} {U0 : List Nat} {B0 B : Base} {ps : List Nat} {assign body : Code} {k : List It} {Φ : Exit → Act → World → Prop} {X : Type} {s0 : St} {Iv : X → St} {fn : FuncId} {tm : Array Value} {D L : Nat} {C Xs : Nat → Prop} {W : World} {vs : Array Value}
    {xl : List Ab.D} (hB : (⟨n0, none, G0, U0⟩ : Cf).fits B) (hps : ∀ t ∈ ps, t < n0) (hxl : xl.length = ps.length)
    (hr : run P ⟨n0, some L, G0, s0.used⟩ [.code assign] (fun e s1 => e = .normal ∧ run P ⟨n0, some L, G0, s0.used⟩ [.code body] (rq P ⟨n0, none, G0, U0⟩ Φ B0 k Iv s0) s1) (Ab.putP s0 ps xl))
    (hL : W.heap[L]? = some (.loop { state := .ready, pending := none, fn, tmps := tm, params := ps.toArray, assign, body, defers := D })) (hDL : D ≠ L) (hLz : B.H0.size ≤ L) (hDz : B.H0.size ≤ D) (hD : W.heap[D]? = some (.deferred (some [])))
    (hS : SS B tm D L C Xs W s0) (hvs : vs.size = xl.length) (hrep : ∀ i d, xl[i]? = some d → Rep W.heap (fun b => C b ∨ Xs b) (vs.getD i undef) d) :
    YieldAt Fence.wide 0 P L vs W fun e W' => ∃ C', (wio W' = wio W ∧ W.heap.size ≤ W'.heap.size ∧ (∀ b, b < W.heap.size → ¬ C b → W'.heap[b]? = W.heap[b]?) ∧ (∀ q ∈ G0, W'.heap[q.1]? = W.heap[q.1]?) ∧ ∀ b, C' b → (C b ∨ W.heap.size ≤ b) ∧ b < W'.heap.size) ∧ W'.heap[D]? = some (.deferred (some [])) ∧
      ((e = .returned (.bool true) ∧ W'.heap[L]? = some (.loop { state := .ready, pending := none, fn, tmps := tm, params := ps.toArray, assign, body, defers := D }) ∧ ∃ y, SS B tm D L C' Xs W' (Iv y)) ∨
       (e = .returned (.bool false) ∧ ∃ c s', W'.heap[L]? = some (.loop { state := .done, pending := some c, fn, tmps := tm, params := ps.toArray, assign, body, defers := D }) ∧ jumpQ P ⟨n0, none, G0, U0⟩ Φ B0 k c s' ∧ SS B tm D L C' Xs W' s')) := by
  obtain ⟨β', B', hE, hH, hO, hA, hC, hsx⟩ := hS
  have hLlt := lt_of_some hL
  have hDlt := lt_of_some hD
  refine ⟨fn, _, assign, body, run_yield hL (by simp [hvs, hxl]), roundIn_of_wpIn trivial ?_⟩
  rw [foldl_zip]
  have hGn : ∀ q ∈ B'.G, W.heap[q.1]? = some q.2 ∧ ¬ ownB s0 β' q.1 := fun q hq => ⟨by rw [← hH]; exact (B'.hG q hq).1, fun hb => (B'.hG q hq).2 ((hO _).2 hb)⟩
  let Br1 : Base := { n := B'.n, io := B'.io, G := B'.G, H0 := W.heap, O0 := ownB s0 β', A := B'.A, U0 := s0.used, β0 := β', hA := fun b hb => by rw [← hH]; exact B'.hA b hb, hG := hGn }
  have hs1 : Sim Br1 β' s0 tm W := hsx.mv rfl hsx.io (Nat.le_refl _) (fun _ _ _ => rfl) (Nat.le_refl _) (fun _ _ _ => rfl) (fun _ _ h => h) (fun p k hp hk => .inr ⟨p, k, hp, hk, rfl⟩) (fun _ h => h) (fun _ _ => rfl)
  have hn1 : B'.n = n0 := hE.n.trans hB.1
  have hG1 : B'.G = G0 := hE.G.trans hB.2.2
  have hs1' := hs1.putP ps xl vs.toList s0 tm (fun t ht => by show t < B'.n; rw [hn1]; exact hps t ht) (by simpa using hvs) (fun i d hi => by
    have := hrep i d hi
    rw [show vs.toList.getD i undef = vs.getD i undef by simp [Array.getD_eq_getD_getElem?, List.getD_eq_getElem?_getD]]
    refine this.mono (fun _ _ _ => rfl) (fun b _ hb => ?_)
    rcases hb with hb | hb
    · rcases (hA b).1 hb with h | h | h | h
      · exact .inl ((hC b).2 (.inl h))
      · exact .inr h
      · exact .inl ((hC b).2 (.inr (.inl h)))
      · exact .inl ((hC b).2 (.inr (.inr (.inl h))))
    · exact .inl ((hC b).2 (.inr (.inr (.inr hb)))))
  have hrunA := run_ok hr Br1 ⟨hn1, rfl, hG1⟩ [] β' { tmps := (ps.zip vs.toList).foldl (fun tm (q : Nat × Value) => tm.setIfInBounds q.1 q.2) tm, defers := [] } W rfl hs1'
  refine wpIn_mono hrunA ?_
  rintro e a1 W1 ⟨hd1, s1, β1, ⟨rfl, hrun⟩, hsA⟩
  have hnA : ∀ b, B'.A b → ¬ ownB s0 β' b := fun b hb ho => (hsx.ownB_ok ho).2.1 hb
  have hAL : B'.A L := (hA L).2 (.inr (.inr (.inr rfl)))
  have hAD : B'.A D := (hA D).2 (.inr (.inr (.inl rfl)))
  have hL1 := (hsA.frame L hLlt (hnA L hAL)).trans hL
  have hD1 := (hsA.frame D hDlt (hnA D hAD)).trans hD
  refine ⟨_, run_beginRound hL1 rfl, ?_⟩
  obtain ⟨W2, hW2⟩ : ∃ W2, W1.putObj L (.loop { state := .busy, pending := none, fn, tmps := tm, params := ps.toArray, assign, body, defers := D }) = W2 := ⟨_, rfl⟩
  show body.wpIn _ _ _ _ _ (W1.putObj L (.loop { state := .busy, pending := none, fn, tmps := tm, params := ps.toArray, assign, body, defers := D }))
  rw [hW2]
  have hz12 : W2.heap.size = W1.heap.size := by rw [← hW2]; simp
  have hzW1 : W.heap.size ≤ W1.heap.size := hsA.size
  have h12 : ∀ b, b ≠ L → W2.heap[b]? = W1.heap[b]? := fun b hb => by rw [← hW2]; exact World.putObj_heap_other hb
  have hL2 : W2.heap[L]? = some (.loop { state := .busy, pending := none, fn, tmps := tm, params := ps.toArray, assign, body, defers := D }) := by rw [← hW2]; exact World.putObj_heap_same (by omega)
  have hD2 := (h12 D hDL).trans hD1
  have hio2 : wio W2 = wio W1 := by rw [← hW2]; rfl
  have hqlt : ∀ q ∈ B'.G, q.1 < B.H0.size := fun q hq => lt_of_some (B.hG q (by rw [← hE.G]; exact hq)).1
  have hGB : ∀ q ∈ B'.G, W2.heap[q.1]? = some q.2 ∧ ¬ ownB s1 β1 q.1 := fun q hq => by
    have h0 := hqlt q hq
    have h1 := hGn q hq
    refine ⟨(h12 _ (by omega)).trans ((hsA.frame _ (lt_of_some h1.1) h1.2).trans h1.1), fun hb => ?_⟩
    rcases (hsA.ownB_ok hb).2.2 with h | h
    · have := lt_of_some h1.1
      change W.heap.size ≤ _ at h
      omega
    · exact h1.2 h
  let Br2 : Base := { n := B'.n, io := B'.io, G := B'.G, H0 := W2.heap, O0 := ownB s1 β1, A := B'.A, U0 := s0.used, β0 := β', hA := fun b hb => by have := B'.hA b hb; rw [hH] at this; omega, hG := hGB }
  have hsB : Sim Br2 β1 s1 a1.tmps W2 := hsA.mv rfl (hio2.trans hsA.io) (Nat.le_refl _) (fun _ _ _ => rfl) (by omega) (fun b hb hn => h12 b (fun e => hn (e ▸ hAL))) (fun _ _ h => h) (fun p k hp hk => .inr ⟨p, k, hp, hk, rfl⟩) hsA.us hsA.stay
  have hrunB := run_ok hrun Br2 ⟨hn1, rfl, hG1⟩ [] β1 a1 W2 hd1 hsB
  refine wpIn_mono hrunB ?_
  rintro e a3 W3 ⟨hd3, s2, β2, hq, hs3⟩
  have hL3 := (hs3.frame L (lt_of_some hL2) (fun ho => (hsA.ownB_ok ho).2.1 hAL)).trans hL2
  have hD3 := (hs3.frame D (lt_of_some hD2) (fun ho => (hsA.ownB_ok ho).2.1 hAD)).trans hD2
  have hLlt3 := lt_of_some hL3
  have hrest : ∀ (W4 : World), LK s0 s2 → W3.heap.size = W4.heap.size → wio W4 = wio W3 → (∀ b, b ≠ L → W4.heap[b]? = W3.heap[b]?) →
      (W4.heap[D]? = some (.deferred (some [])) ∧ ∃ B4, BExt B B4 ∧ B4.H0 = W4.heap ∧ (∀ b, B4.O0 b ↔ ownB s2 β2 b) ∧ (∀ b, B4.A b ↔ (B.A b ∨ Xs b ∨ b = D ∨ b = L)) ∧ Sim B4 β2 (s2.fra s0.fr) tm W4) ∧
        ∀ C' : Nat → Prop, (∀ b, C' b → B.A b ∨ b = D ∨ b = L ∨ ownB s2 β2 b) → (wio W4 = wio W ∧ W.heap.size ≤ W4.heap.size ∧ (∀ b, b < W.heap.size → ¬ C b → W4.heap[b]? = W.heap[b]?) ∧ (∀ q ∈ G0, W4.heap[q.1]? = W.heap[q.1]?) ∧ ∀ b, C' b → (C b ∨ W.heap.size ≤ b) ∧ b < W4.heap.size) := by
    intro W4 hlk h34 hio4 h4
    obtain ⟨g1, g2, g3, B4, g4, g5, g6, g7, g8⟩ := SS.after (B2 := Br2) (W2 := W2) hE hH hO hA hsx rfl rfl rfl rfl (fun _ => Iff.rfl) rfl rfl rfl (by omega) (fun b hb hnb hne => (h12 b hne).trans (hsA.frame b hb hnb)) (fun b hb => (hsA.ownB_ok hb).2.2) hs3 hlk hLz h34 hio4 h4
    refine ⟨⟨(h4 D hDL).trans hD3, B4, g4, g5, g6, g7, g8⟩, fun C' hC' => ⟨hio4.trans (hs3.io.trans hsx.io.symm), g2, fun b hb hn => g1 b hb (fun h => hn ((hC b).2 (.inr (.inr (.inr h))))) (fun h => hn ((hC b).2 (.inr (.inr (.inl h))))), fun q hq => ?_, fun b hb => ?_⟩⟩
    · have hq' : q ∈ B'.G := by rw [hG1]; exact hq
      have h0 := hqlt q hq'
      exact g1 _ (lt_of_some (hGn q hq').1) (hGn q hq').2 (by omega)
    · have hBA : ∀ b, B.A b → b < W4.heap.size := fun b hb => by have := B.hA b hb; have := hE.size; rw [hH] at this; omega
      rcases hC' b hb with h | rfl | rfl | h
      · exact ⟨.inl ((hC b).2 (.inl h)), hBA b h⟩
      · exact ⟨.inl ((hC _).2 (.inr (.inl rfl))), by omega⟩
      · exact ⟨.inl ((hC _).2 (.inr (.inr (.inl rfl)))), by omega⟩
      · obtain ⟨h1, h2, _⟩ := g3 b h
        refine ⟨?_, h2⟩
        rcases h1 with h1 | h1
        · exact .inr h1
        · exact .inl ((hC b).2 (.inr (.inr (.inr h1))))
  have hjump : ∀ (c : Code), LK s0 s2 → jumpQ P ⟨n0, none, G0, U0⟩ Φ B0 k c (s2.fra s0.fr) → ∃ v W4, (Instr.endRound L (some c)).run P W3 = .ok v W4 ∧ ∃ C', (wio W4 = wio W ∧ W.heap.size ≤ W4.heap.size ∧ (∀ b, b < W.heap.size → ¬ C b → W4.heap[b]? = W.heap[b]?) ∧ (∀ q ∈ G0, W4.heap[q.1]? = W.heap[q.1]?) ∧ ∀ b, C' b → (C b ∨ W.heap.size ≤ b) ∧ b < W4.heap.size) ∧ W4.heap[D]? = some (.deferred (some [])) ∧
      ((Ending.returned v = .returned (.bool true) ∧ W4.heap[L]? = some (.loop { state := .ready, pending := none, fn, tmps := tm, params := ps.toArray, assign, body, defers := D }) ∧ ∃ y, SS B tm D L C' Xs W4 (Iv y)) ∨
       (Ending.returned v = .returned (.bool false) ∧ ∃ c s', W4.heap[L]? = some (.loop { state := .done, pending := some c, fn, tmps := tm, params := ps.toArray, assign, body, defers := D }) ∧ jumpQ P ⟨n0, none, G0, U0⟩ Φ B0 k c s' ∧ SS B tm D L C' Xs W4 s')) := by
    intro c hlk hj
    obtain ⟨⟨r1, B4, r2, r3, r4, r5, r6⟩, r7⟩ := hrest (W3.putObj L (.loop { state := .done, pending := some c, fn, tmps := tm, params := ps.toArray, assign, body, defers := D })) hlk (by simp) rfl (fun b hb => World.putObj_heap_other hb)
    exact ⟨_, _, run_endRound (some c) hL3, _, r7 _ (fun b hb => hb), r1, .inr ⟨rfl, c, _, World.putObj_heap_same hLlt3, hj, SS.mk' (s5 := s2.fra s0.fr) (β5 := β2) r2 r3 (fun b hb => (r4 b).2 hb) r5 r6⟩⟩
  cases e with
  | normal =>
    obtain ⟨hlk, y, τ, hle⟩ := hq
    obtain ⟨⟨r1, B4, r2, r3, r4, r5, r6⟩, r7⟩ := hrest (W3.putObj L (.loop { state := .ready, pending := none, fn, tmps := tm, params := ps.toArray, assign, body, defers := D })) hlk (by simp) rfl (fun b hb => World.putObj_heap_other hb)
    obtain ⟨β5, hs5, hβ5⟩ := r6.le (τ := τ) (by rw [r2.U0, hB.2.1]; exact hle)
    have hsub : ∀ b, ownB (Iv y) β5 b → ownB s2 β2 b := by
      rintro b ⟨p, k, hp, hk, rfl⟩
      cases ho : (Iv y).hp p with
      | none => exact absurd ho hp
      | some o =>
        refine ⟨τ p, k, ?_, by rw [← hβ5 p hp]; exact hk, rfl⟩
        have := (hle.hp p o ho).1
        intro h
        have h' : (s2.fra s0.fr).hp (τ p) = none := h
        rw [h'] at this; cases this
    exact ⟨_, _, run_endRound none hL3, _, r7 (fun b => B.A b ∨ b = D ∨ b = L ∨ ownB (Iv y) β5 b) (fun b hb => Or.imp id (Or.imp id (Or.imp id (hsub b))) hb), r1, .inl ⟨rfl, World.putObj_heap_same hLlt3, y, SS.mk' r2 r3 (fun b hb => (r4 b).2 (hsub b hb)) r5 hs5⟩⟩
  | exit i => exact hjump (.exit i) hq.1 (.inl ⟨i, rfl, hq.2⟩)
  | ret => exact hjump .ret hq.1 (.inr ⟨rfl, hq.2⟩)
  | goto l => exact hq.elim
  | panic c => exact hq.elim
  | outgrown => exact hq.elim
end
end Go.Ab
