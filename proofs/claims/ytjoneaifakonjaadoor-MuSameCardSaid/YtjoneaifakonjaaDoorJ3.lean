/-
  The generic layer, part 60: ranges over functions: code in which a round is called, or that ranges over a function, walked piece by piece at the machine's side; an iterator's contract. (with the parts that follow it)
-/
import Derived.Test.YtjoneaifakonjaaDoorI3
import Derived.RangeFuncRecord
import Derived.RangeFuncSeq
set_option linter.all false
/-! ### The generic layer, part 60: a state moved to another setting; code walked piece by piece. -/
namespace Go.Ab
section
variable {P : Program} {cf : Cf}

/-- What stands for a state goes on standing for it in another setting, when memory has turned elsewhere. -/
theorem Sim.mv {B B' : Base} {β : Name → Option Blk} {s : St} {tm : Array Value} {w w' : World} (h : Sim B β s tm w) (hn : B'.n = B.n) (hio : wio w' = B'.io) (hsz : B'.H0.size ≤ w'.heap.size)
    (hfr : ∀ b, b < B'.H0.size → ¬ B'.O0 b → w'.heap[b]? = B'.H0[b]?) (hw : w.heap.size ≤ w'.heap.size) (hk : ∀ b, b < w.heap.size → ¬ B.A b → w'.heap[b]? = w.heap[b]?)
    (hA : ∀ b, b < w.heap.size → B'.A b → B.A b) (hbl : ∀ p k, s.hp p ≠ none → β p = some k → B'.H0.size ≤ k.b ∨ B'.O0 k.b)
    (hus : ∀ x ∈ B'.U0, x ∈ s.used) (hst : ∀ p, nm B'.U0 p → β p = B'.β0 p) : Sim B' β s tm w' := by
  have hown : ∀ b, b < w.heap.size → s.own B'.A β b → s.own B.A β b := by
    rintro b hb (h1 | h1)
    · exact .inl (hA b hb h1)
    · exact .inr h1
  have hr : ∀ v d, Rep w.heap (s.own B.A β) v d → Rep w'.heap (s.own B'.A β) v d := fun v d hd => hd.mono (fun b hb hlt => hk b hlt (fun ha => hb (.inl ha))) hown
  have hst' : ∀ p, nm s.used p → Stays s.hp s.hp β β p := fun p _ o' ho => ⟨o', ho, Ob.like_refl _, rfl⟩
  refine { tms := h.tms.trans hn.symm, io := hio, size := hsz, frame := hfr, slots := fun t => (h.slots t).mono hr (fun _ h => h) hst', objs := fun p o ho => ⟨(h.objs p o ho).1, (h.objs p o ho).2.mono hr (fun _ h => h) hst' rfl (fun k hk' => ?_)⟩, blocks := fun p k hp hk' => ?_, inj := h.inj, us := hus, stay := hst }
  · obtain ⟨b1, b2, _⟩ := h.blocks p k (by rw [ho]; simp) hk'
    exact hk k.b b1 b2
  · obtain ⟨b1, b2, _⟩ := h.blocks p k hp hk'
    exact ⟨Nat.lt_of_lt_of_le b1 hw, fun ha => b2 (hA _ b1 ha), hbl p k hp hk'⟩

/-- The blocks of a state's objects. -/
def ownB (s : St) (β : Name → Option Blk) (b : Nat) : Prop := ∃ p k, s.hp p ≠ none ∧ β p = some k ∧ k.b = b
theorem Sim.ownB_ok {B : Base} {β : Name → Option Blk} {s : St} {tm : Array Value} {w : World} (h : Sim B β s tm w) {b : Nat} (hb : ownB s β b) : b < w.heap.size ∧ ¬ B.A b ∧ (B.H0.size ≤ b ∨ B.O0 b) := by
  obtain ⟨p, k, hp, hk, rfl⟩ := hb
  exact h.blocks p k hp hk

/-- From each machine state that the abstract state stands for, in a setting of which I holds, the items lead where Φ holds. -/
def ARY (P : Program) (cf : Cf) (Φ : Exit → Act → World → Prop) (I : Base → List Deferred → Prop) (k : List It) (s : St) : Prop :=
  ∀ B, cf.fits B → ∀ ds β a w, a.defers = ds → I B ds → Sim B β s a.tmps w → hold P cf Φ k .normal a w
def ARX (cf : Cf) (Φ : Exit → Act → World → Prop) (I : Base → List Deferred → Prop) (e : Exit) (s : St) : Prop :=
  ∀ B, cf.fits B → ∀ ds β a w, a.defers = ds → I B ds → Sim B β s a.tmps w → Φ e a w
def yq (P : Program) (cf : Cf) (Φ : Exit → Act → World → Prop) (I : Base → List Deferred → Prop) (k : List It) (e : Exit) (s : St) : Prop :=
  match e with
  | .normal => ARY P cf Φ I k s
  | .exit i => (match exitK i k with
    | some k' => ARY P cf Φ I k' s
    | none => ARX cf Φ I (.exit i) s)
  | .ret => ARX cf Φ I .ret s
  | _ => False

variable {Φ : Exit → Act → World → Prop} {I : Base → List Deferred → Prop} {k : List It} {s : St} {B : Base} {ds : List Deferred} {e : Exit} {a : Act} {w : World}
theorem yq_normal : yq P cf Φ I k .normal s = ARY P cf Φ I k s := rfl
theorem yq_ret : yq P cf Φ I k .ret s = ARX cf Φ I .ret s := rfl
theorem yq_exit_nil (i : Nat) : yq P cf Φ I [] (.exit i) s = ARX cf Φ I (.exit i) s := rfl
theorem yq_exit_code (i : Nat) (c : Code) : yq P cf Φ I (.code c :: k) (.exit i) s = yq P cf Φ I k (.exit i) s := rfl
theorem yq_exit_ops (i : Nat) (all : Array Oper) (r : List Oper) : yq P cf Φ I (.ops all r :: k) (.exit i) s = yq P cf Φ I k (.exit i) s := rfl
theorem yq_exit_eq (i : Nat) : yq P cf Φ I (.blk i :: k) (.exit i) s = ARY P cf Φ I k s := by simp [yq, exitK]
theorem yq_exit_ne (i j : Nat) (h : (j == i) = false) : yq P cf Φ I (.blk j :: k) (.exit i) s = yq P cf Φ I k (.exit i) s := by
  have : ¬ j = i := by simpa using h
  simp [yq, exitK, this]
theorem yq_hold' {β : Name → Option Blk} (hB : cf.fits B) (hI : I B ds) (hd : a.defers = ds) (hq : yq P cf Φ I k e s) (hs : Sim B β s a.tmps w) : hold P cf Φ k e a w := by
  cases e with
  | normal => exact hq B hB ds β a w hd hI hs
  | exit i =>
    simp only [yq] at hq
    split at hq
    · rename_i k' hk'; exact hold_exit_some _ i k k' a w hk' (hq B hB ds β a w hd hI hs)
    · rename_i hk'; exact hold_exit_none _ i k a w hk' (hq B hB ds β a w hd hI hs)
  | ret => exact hold_ret _ k a w (hq B hB ds β a w hd hI hs)
  | goto l => exact hq.elim
  | panic c => exact hq.elim
  | outgrown => exact hq.elim
theorem yq_hold (hB : cf.fits B) (hI : I B ds) (h : lift B ds (yq P cf Φ I k) e a w) : hold P cf Φ k e a w := by
  obtain ⟨hd, s', β', hq, hs⟩ := h
  exact yq_hold' hB hI hd hq hs

/-- A piece that the engine walks. -/
theorem Y_code {c : Code} (h : run P cf [.code c] (yq P cf Φ I k) s) : ARY P cf Φ I (.code c :: k) s :=
  fun B hB ds β a w hds hI hs => wpIn_mono (run_ok h B hB ds β a w hds hs) fun _ _ _ hq => yq_hold hB hI hq
theorem Y_codeE {c : Code} (h : ∀ E : Eng P cf (yq P cf Φ I k), E.run [.code c] s) : ARY P cf Φ I (.code c :: k) s := Y_code (veil h)
theorem Y_seq {x y : Code} (h : ARY P cf Φ I (.code x :: .code y :: k) s) : ARY P cf Φ I (.code (.seq x y) :: k) s :=
  fun B hB ds β a w hds hI hs => wpIn_seq (wpIn_mono (h B hB ds β a w hds hI hs) (hold_then _ y k))
theorem Y_block {i : Nat} {x : Code} (h : ARY P cf Φ I (.code x :: .blk i :: k) s) : ARY P cf Φ I (.code (.block i x) :: k) s :=
  fun B hB ds β a w hds hI hs => wpIn_block (wpIn_mono (h B hB ds β a w hds hI hs) (hold_block _ i k))
theorem Y_blk {i : Nat} (h : ARY P cf Φ I k s) : ARY P cf Φ I (.blk i :: k) s := fun B hB ds β a w hds hI hs => h B hB ds β a w hds hI hs
theorem Y_nil (h : ARX cf Φ I .normal s) : ARY P cf Φ I [] s := fun B hB ds β a w hds hI hs => h B hB ds β a w hds hI hs
theorem Y_skip (h : ARY P cf Φ I k s) : ARY P cf Φ I (.code .skip :: k) s := fun B hB ds β a w hds hI hs => wpIn_skip (h B hB ds β a w hds hI hs)
theorem Y_region {i : Nat} {ops : List Oper} (h : ARY P cf Φ I (.ops ops.toArray ops :: k) s) : ARY P cf Φ I (.code (.region i ops.toArray false) :: k) s := by
  intro B hB ds β a w hds hI hs
  refine wpIn_region ?_
  refine h B hB ds β a w hds hI hs _ ?_
  apply List.ext_getElem?
  intro j
  simp only [List.getElem?_map, List.size_toArray, List.getElem?_toArray]
  by_cases hj : j < ops.length
  · simp [hj]
  · simp [hj]
theorem Y_ops_nil {all : Array Oper} (h : ARY P cf Φ I k s) : ARY P cf Φ I (.ops all [] :: k) s := by
  intro B hB ds β a w hds hI hs l hl
  cases l with
  | nil => exact h B hB ds β a w hds hI hs
  | cons i l => simp at hl
/-- One operation that has a step. -/
theorem Y_op {all : Array Oper} {o : Oper} {r : List Oper} (hg : o.guard = none) (h : (opR P.ti cf.n o.op o.dst s).run (fun s' => ARY P cf Φ I (.ops all r :: k) s') False) : ARY P cf Φ I (.ops all (o :: r) :: k) s := by
  intro B hB ds β a w hds hI hs l hl
  cases l with
  | nil => simp at hl
  | cons i l =>
    simp only [List.map_cons, List.cons.injEq] at hl
    obtain ⟨hi, hl⟩ := hl
    have hw : Region.wanted o (yielded all a.tmps) = true := by simp [Region.wanted, hg]
    simp only [wpOpsIn, hi, hw, if_true]
    rw [← hB.1] at h
    rcases opR_sound hs h with hz | ⟨nx, v, w', s', β', hrun, hnx, hf, hs'⟩
    · exact hz.elim
    · have hnd : ∀ c, o.op ≠ .defer c := by
        intro c hc
        have : ∃ d w2, (execOp a.eval o).run P w = .ok (.defer d) w2 ∨ ∃ h w2, (execOp a.eval o).run P w = .halt h w2 := by
          simp only [execOp, hc, Sem.run_bind]
          cases (resolve a.eval c o.type).run P w with
          | ok d w2 => exact ⟨d, w2, .inl rfl⟩
          | halt hh w2 => exact ⟨default, w2, .inr ⟨hh, w2, rfl⟩⟩
        obtain ⟨d, w2, h1 | ⟨hh, w3, h1⟩⟩ := this
        · rw [hrun] at h1; cases h1; rcases hnx with h2 | ⟨h2, _⟩ <;> cases h2
        · rw [hrun] at h1; cases h1
      refine wpIn_of_run hnd hrun hnx (hf B hB ds β' _ w' ?_ hI hs' l hl)
      cases o.dst <;> exact hds
theorem Rrun_ok (s' : St) (f : St → Prop) (z : Prop) : (R.ok s').run f z = f s' := rfl
theorem Rrun_need (p : Prop) (x : R St) (f : St → Prop) (z : Prop) : (R.need p x).run f z = (p ∧ x.run f z) := rfl

/-! ### Loops in whose rounds settings change -/
/-- What is asked where a loop's round ends. -/
def lpY (P : Program) (cf : Cf) (Φ : Exit → Act → World → Prop) {X : Type} (S : X → St) (J : X → Base → List Deferred → Prop) (μ : X → Nat) (x : X) (k : List It) (e : Exit) (a : Act) (w : World) : Prop :=
  match e with
  | .normal => ∃ y, μ y < μ x ∧ ∃ B, cf.fits B ∧ J y B a.defers ∧ ∃ β, Sim B β (S y) a.tmps w
  | e => hold P cf Φ k e a w
theorem Y_loop {X : Type} (S : X → St) (J : X → Base → List Deferred → Prop) (μ : X → Nat) {c : Code} (x0 : X) (h0 : ∃ τ, Le cf.U τ s (S x0)) (hI : ∀ B ds, I B ds → J x0 B ds)
    (hr : ∀ x, ARY P cf (lpY P cf Φ S J μ x k) (J x) [.code c] (S x)) : ARY P cf Φ I (.code (.loop c) :: k) s := by
  have key : ∀ N x, μ x < N → ∀ (B : Base), cf.fits B → ∀ ds β a w, a.defers = ds → J x B ds → Sim B β (S x) a.tmps w → Code.roundsIn (Fw cf.ro) 0 P c (hold P cf Φ k) N a w := by
    intro N
    induction N with
    | zero => intro x hx; omega
    | succ N ih =>
      intro x hx B hB ds β a w hds hJ h
      rw [roundsIn_succ]
      refine wpIn_mono (hr x B hB ds β a w hds hJ h) fun e a' w' hq => ?_
      cases e with
      | normal =>
        obtain ⟨y, hy, B', hB', hJ', β', hs'⟩ := hq
        exact ih y (by omega) B' hB' _ β' a' w' rfl hJ' hs'
      | exit i => exact hq
      | ret => exact hq
      | goto l => exact hq
      | panic c => exact hq
      | outgrown => exact hq
  obtain ⟨τ, hle⟩ := h0
  intro B hB ds β a w hds hi h
  obtain ⟨β2, hs2, _⟩ := h.le (τ := τ) (by rw [hB.2.1]; exact hle)
  exact wpIn_loop_rounds (μ x0 + 1) (key _ x0 (Nat.lt_succ_self _) B hB ds β2 a w hds (hI _ _ hi) hs2)
theorem Y_loop_next {X : Type} {S : X → St} {J : X → Base → List Deferred → Prop} {μ : X → Nat} {x : X} (y : X) (hy : μ y < μ x) (τ : Name → Name) (hle : Le cf.U τ s (S y)) (hI : ∀ B ds, I B ds → J y B ds) : ARY P cf (lpY P cf Φ S J μ x k) I [] s := by
  intro B hB ds β a w hds hi h
  obtain ⟨β2, hs2, _⟩ := h.le (τ := τ) (by rw [hB.2.1]; exact hle)
  exact ⟨y, hy, B, hB, by rw [hds]; exact hI _ _ hi, β2, hs2⟩
theorem X_loop_exit {X : Type} {S : X → St} {J : X → Base → List Deferred → Prop} {μ : X → Nat} {x : X} {i : Nat} (h : yq P cf Φ I k (.exit i) s) : ARX cf (lpY P cf Φ S J μ x k) I (.exit i) s :=
  fun _ hB _ _ _ _ hds hi hs => yq_hold' hB hi hds h hs
theorem X_loop_ret {X : Type} {S : X → St} {J : X → Base → List Deferred → Prop} {μ : X → Nat} {x : X} (h : ARX cf Φ I .ret s) : ARX cf (lpY P cf Φ S J μ x k) I .ret s :=
  fun B hB ds β a w hds hi hs => hold_ret _ k a w (h B hB ds β a w hds hi hs)
end
end Go.Ab
/-! ### The generic layer, part 61: iterators. -/
namespace Go.Ab
/-- An iterator's step: it may turn its own blocks X. -/
structure Stp (W : World) (X : Nat → Prop) (W' : World) (X' : Nat → Prop) : Prop where
  size : W.heap.size ≤ W'.heap.size
  io : wio W' = wio W
  same : ∀ b, b < W.heap.size → ¬ X b → W'.heap[b]? = W.heap[b]?
  new : ∀ b, X' b → (X b ∨ W.heap.size ≤ b) ∧ b < W'.heap.size
/-- What a caller of an iterator brings: its loop's record l; the world of the call; its own blocks C0; what holds behind n rounds (J), and where a round has said 'no more' (Jx). -/
structure Itz where
  l : Nat
  w : World
  C0 : Nat → Prop
  J : Nat → (Nat → Prop) → (Nat → Prop) → World → Prop
  Jx : Nat → (Nat → Prop) → (Nat → Prop) → World → Prop
structure Itz.Ok (P : Program) (G : List (Nat × Obj)) (N : Nat) (xs : Nat → List D) (z : Itz) : Prop where
  lt : ∀ b, z.C0 b → b < z.w.heap.size
  stab : ∀ n C X W X' W', z.J n C X W → Stp W X W' X' → z.J n C X' W'
  stabx : ∀ n C X W X' W', z.Jx n C X W → Stp W X W' X' → z.Jx n C X' W'
  round : ∀ n C X W vs, n < N → z.J n C X W → vs.size = (xs n).length → (∀ i d, (xs n)[i]? = some d → Rep W.heap (fun b => C b ∨ X b) (vs.getD i undef) d) →
    YieldAt Fence.wide 0 P z.l vs W fun e W' => ∃ C', (wio W' = wio W ∧ W.heap.size ≤ W'.heap.size ∧ (∀ b, b < W.heap.size → ¬ C b → W'.heap[b]? = W.heap[b]?) ∧ (∀ q ∈ G, W'.heap[q.1]? = W.heap[q.1]?) ∧ ∀ b, C' b → (C b ∨ W.heap.size ≤ b) ∧ b < W'.heap.size) ∧
      ((e = .returned (.bool true) ∧ z.J (n + 1) C' X W') ∨ (e = .returned (.bool false) ∧ z.Jx (n + 1) C' X W'))
/-- An iterator's contract: N items come, one by one. -/
def ItC (P : Program) (G : List (Nat × Obj)) (f : FuncId) (caps : List D) (N : Nat) (xs : Nat → List D) : Prop :=
  (∀ vs w, (callFunc f vs).run P w = .ok (.enter f vs) w) ∧
  ∀ z : Itz, z.Ok P G N xs → ∀ cvs : Array Value, cvs.size = caps.length → (∀ i d, caps[i]? = some d → Rep z.w.heap z.C0 (cvs.getD i undef) d) → z.J 0 z.C0 (fun _ => False) z.w → (∀ q ∈ G, z.w.heap[q.1]? = some q.2) →
    CallsIn Fence.wide 0 P f (#[.func (.yield z.l) #[] #[]] ++ cvs) z.w fun e W' => (∃ v, e = .returned v) ∧ ∃ C X, z.J N C X W' ∨ ∃ n, z.Jx n C X W'

/-- The iterator's setting between its steps. -/
def IJ (z : Itz) (J : (Nat → Prop) → (Nat → Prop) → World → Prop) (B : Base) (ds : List Deferred) : Prop :=
  ds = [] ∧ ∃ C X W0, W0.heap = B.H0 ∧ wio W0 = B.io ∧ J C X W0 ∧ (∀ b, B.A b ↔ C b) ∧ (∀ b, B.O0 b ↔ X b) ∧ (∀ b, X b → z.w.heap.size ≤ b) ∧ z.w.heap.size ≤ W0.heap.size
def II (z : Itz) (n : Nat) : Base → List Deferred → Prop := IJ z (z.J n)
def IX (z : Itz) : Base → List Deferred → Prop := IJ z fun C X W => ∃ n, z.Jx n C X W
def ΦI (z : Itz) (N : Nat) (e : Exit) (a : Act) (w : World) : Prop := (e = .normal ∨ e = .ret) ∧ a.defers = [] ∧ ∃ C X, z.J N C X w ∨ ∃ n, z.Jx n C X w

section
variable {P : Program} {cf : Cf} {G : List (Nat × Obj)} {N : Nat} {xs : Nat → List D} {z : Itz} {k : List It} {s : St}
/-- Between two settings the iterator has made a step. -/
theorem IJ.stp {J : (Nat → Prop) → (Nat → Prop) → World → Prop} {B : Base} {ds : List Deferred} {β : Name → Option Blk} {tm : Array Value} {w : World} (h : IJ z J B ds) (hs : Sim B β s tm w) :
    ∃ C X W0, W0.heap = B.H0 ∧ J C X W0 ∧ Stp W0 X w (ownB s β) ∧ (∀ b, B.A b ↔ C b) ∧ (∀ b, ownB s β b → z.w.heap.size ≤ b) ∧ z.w.heap.size ≤ w.heap.size := by
  obtain ⟨_, C, X, W0, h1, h2, hJ, hA, hO, hX, hz⟩ := h
  have hsz : W0.heap.size = B.H0.size := by rw [h1]
  refine ⟨C, X, W0, h1, hJ, ⟨by rw [hsz]; exact hs.size, by rw [h2]; exact hs.io, fun b hb hx => ?_, fun b hb => ?_⟩, hA, fun b hb => ?_, ?_⟩
  · rw [h1]; exact hs.frame b (by rw [← hsz]; exact hb) (fun ho => hx ((hO b).1 ho))
  · obtain ⟨b1, _, b3⟩ := hs.ownB_ok hb
    refine ⟨?_, b1⟩
    rcases b3 with b3 | b3
    · exact .inr (by rw [hsz]; exact b3)
    · exact .inl ((hO b).1 b3)
  · rcases (hs.ownB_ok hb).2.2 with b3 | b3
    · have := hs.size; omega
    · exact hX b ((hO b).1 b3)
  · have := hs.size; omega
theorem X_endI {z : Itz} (hz : z.Ok P G N xs) {e : Exit} (he : e = .normal ∨ e = .ret) : ARX cf (ΦI z N) (II z N) e s := by
  intro B hB ds β a w hds hi hs
  obtain ⟨C, X, W0, _, hJ, hst, _⟩ := IJ.stp hi hs
  exact ⟨he, hds.trans hi.1, C, _, .inl (hz.stab _ _ _ _ _ _ hJ hst)⟩
theorem X_endX {z : Itz} (hz : z.Ok P G N xs) {e : Exit} (he : e = .normal ∨ e = .ret) : ARX cf (ΦI z N) (IX z) e s := by
  intro B hB ds β a w hds hi hs
  obtain ⟨C, X, W0, _, ⟨n, hJ⟩, hst, _⟩ := IJ.stp hi hs
  exact ⟨he, hds.trans hi.1, C, _, .inr ⟨n, hz.stabx _ _ _ _ _ _ hJ hst⟩⟩

/-- A call of yield: a round. -/
theorem Y_yield (hz : z.Ok P cf.G N xs) {Φ : Exit → Act → World → Prop} {n t : Nat} {all : Array Oper} {fv : Operand} {args : Array Operand} {at' : Array TypeId} {ty : TypeId} {pos : String} {af : Array Edge} {r : List Oper}
    (hn : n < N) (ht : t < cf.n) (hev : ev s fv = .d (.yl z.l)) (hargs : args.toList.map (ev s) = (xs n).map .d)
    (h1 : ARY P cf Φ (II z (n + 1)) (.ops all r :: k) (s.put t (.d (.bool true)))) (h2 : ARY P cf Φ (IX z) (.ops all r :: k) (s.put t (.d (.bool false)))) :
    ARY P cf Φ (II z n) (.ops all ({ dst := some t, op := .call { callee := .value fv, args := args, argTypes := at' }, type := ty, pos := pos, after := af, guard := none } :: r) :: k) s := by
  intro B hB ds β a w hds hI hs l hl
  cases l with
  | nil => simp at hl
  | cons i l =>
    simp only [List.map_cons, List.cons.injEq] at hl
    obtain ⟨hi, hl⟩ := hl
    simp only [wpOpsIn, hi, Region.wanted, if_true]
    obtain ⟨C, X, W0, hW0, hJ, hst, hA, hX, hzw⟩ := IJ.stp hI hs
    have hJ' := hz.stab _ _ _ _ _ _ hJ hst
    have hf := hs.ev fv
    rw [hev] at hf
    have hfv : a.eval fv = .func (.yield z.l) #[] #[] := by
      have := hf.toD
      generalize a.eval fv = v at this
      cases this; rfl
    have hlen : args.size = (xs n).length := by simpa using congrArg List.length hargs
    have hrd := hz.round n C (ownB s β) w (args.map a.eval) hn hJ' (by simpa using hlen) (fun j d hj => by
      have hx : (args.toList.map (ev s))[j]? = some (.d d) := by rw [hargs, List.getElem?_map, hj]; rfl
      have := (calls_list hs args.toList j _ hx).toD
      rw [show (args.map a.eval).getD j undef = (args.toList.map a.eval).toArray.getD j undef by simp [Array.getD_eq_getD_getElem?]]
      refine this.mono (fun _ _ _ => rfl) (fun b _ hb => ?_)
      rcases hb with hb | hb
      · exact .inl ((hA b).2 hb)
      · exact .inr hb)
    obtain ⟨fn, tmps, assign, body, hy, hrd⟩ := hrd
    refine ⟨fun _ _ => trivial, ?_⟩
    have hrun : (execOp a.eval { dst := some t, op := .call { callee := .value fv, args := args, argTypes := at' }, type := ty, pos := pos, after := af, guard := none } : Sem Next).run P w = .ok (.round z.l fn tmps assign body) w := by
      have e : (execOp a.eval { dst := some t, op := .call { callee := .value fv, args := args, argTypes := at' }, type := ty, pos := pos, after := af, guard := none } : Sem Next) = Instr.yield z.l (#[] ++ args.map a.eval ++ #[]) := by
        show (do let d ← (Deferred.ofValue (a.eval fv) (args.map a.eval)); invoke d.target d.args : Sem Next) = _
        rw [hfv]; rfl
      rw [e]
      simpa using hy
    rw [Oper.semAt_eq _ _ _ (by simp), hrun, Oper.uponIn_round]
    refine ⟨fun hdep => by simp [Fw_depth] at hdep, ?_⟩
    have hrd' : RoundIn (Fw cf.ro) (0 - 1) P z.l fn tmps assign body w _ := hrd
    refine hrd'.mono ?_
    rintro e W' ⟨C', ⟨c1, c2, c3, c4, c5⟩, hq⟩
    have hG' : ∀ q ∈ B.G, W'.heap[q.1]? = some q.2 ∧ ¬ ownB s β q.1 := fun q hq => by
      obtain ⟨g1, g2⟩ := B.hG q hq
      have hlt := lt_of_some g1
      refine ⟨(c4 q (by rw [← hB.2.2]; exact hq)).trans ((hs.frame _ hlt g2).trans g1), fun hb => ?_⟩
      rcases (hs.ownB_ok hb).2.2 with g3 | g3
      · omega
      · exact g2 g3
    let B' : Base := { n := B.n, io := B.io, G := B.G, H0 := W'.heap, O0 := ownB s β, A := C', U0 := B.U0, β0 := B.β0, hA := fun b hb => (c5 b hb).2, hG := hG' }
    have hs' : Sim B' β s a.tmps W' := by
      refine hs.mv rfl (c1.trans hs.io) (Nat.le_refl _) (fun _ _ _ => rfl) c2 (fun b hb hn => c3 b hb (fun hc => hn ((hA b).2 hc))) (fun b hb hc => ?_) (fun p k hp hk => .inr ⟨p, k, hp, hk, rfl⟩) hs.us hs.stay
      rcases (c5 b hc).1 with h | h
      · exact (hA b).2 h
      · omega
    have hIJ : ∀ J : (Nat → Prop) → (Nat → Prop) → World → Prop, J C' (ownB s β) W' → IJ z J B' ds := fun J hj => ⟨hI.1, C', _, W', rfl, c1.trans hs.io, hj, fun _ => Iff.rfl, fun _ => Iff.rfl, hX, Nat.le_trans hzw c2⟩
    rcases hq with ⟨rfl, hj⟩ | ⟨rfl, hj⟩
    · exact h1 B' ⟨hB.1, hB.2.1, hB.2.2⟩ ds β (a.put (some t) (.bool true)) W' hds (hIJ _ hj) (hs'.put (by show t < B.n; rw [hB.1]; exact ht) (.d _ _ (.bool _))) l hl
    · exact h2 B' ⟨hB.1, hB.2.1, hB.2.2⟩ ds β (a.put (some t) (.bool false)) W' hds (hIJ _ ⟨_, hj⟩) (hs'.put (by show t < B.n; rw [hB.1]; exact ht) (.d _ _ (.bool _))) l hl

/-- An iterator's contract out of its body's walk. -/
theorem funI_ok {G : List (Nat × Obj)} {f : FuncId} {fn : Func} {c : Code} {caps : List D} (hf : P.funcs[f]? = some fn) (hb : fn.body = some c) (hnm : (fn.name == "runtime.NumGoroutine") = false) (hn : caps.length + 1 ≤ fn.ntmps) (hres : fn.results = #[])
    (h : ∀ z : Itz, z.Ok P G N xs → ARY P ⟨fn.ntmps, none, G, []⟩ (ΦI z N) (II z 0) [.code c] (mk (argsFr 0 (.d (.yl z.l) :: caps.map .d)) [] [])) : ItC P G f caps N xs := by
  refine ⟨enter_run hf hb hnm, fun z hz cvs hsz hcv hJ hG => ?_⟩
  let B : Base := { n := fn.ntmps, io := wio z.w, G := G, H0 := z.w.heap, O0 := fun _ => False, A := z.C0, U0 := [], β0 := fun _ => none, hA := hz.lt, hG := fun q hq => ⟨hG q hq, fun h => h⟩ }
  have hsim : Sim B (fun _ => none) (mk (argsFr 0 (.d (.yl z.l) :: caps.map .d)) [] []) ((#[Value.func (.yield z.l) #[] #[]] ++ cvs) ++ Array.replicate (fn.ntmps - (#[Value.func (.yield z.l) #[] #[]] ++ cvs).size) undef) z.w := by
    have hown : ∀ b, (mk (argsFr 0 (.d (.yl z.l) :: caps.map .d)) [] []).own z.C0 (fun _ => none) b → z.C0 b := by
      rintro b (hb | ⟨p, k, hp, _⟩)
      · exact hb
      · exact absurd rfl hp
    refine { tms := by show (_ : Array Value).size = fn.ntmps; simp; omega, io := rfl, size := Nat.le_refl _, frame := fun _ _ _ => rfl, slots := fun t => ?_, objs := fun p o ho => (by cases ho), blocks := fun p k hp => absurd rfl hp, inj := fun p q k l hp => absurd rfl hp, us := fun _ hx => hx, stay := fun p hp => (by obtain ⟨_, _, _, hx⟩ := hp; cases hx) }
    rw [mk_fr, argsFr_get, if_pos (Nat.zero_le _), Nat.sub_zero]
    cases t with
    | zero =>
      have e : ((#[Value.func (.yield z.l) #[] #[]] ++ cvs) ++ Array.replicate (fn.ntmps - (#[Value.func (.yield z.l) #[] #[]] ++ cvs).size) undef).getD 0 undef = .func (.yield z.l) #[] #[] := by
        simp [Array.getD_eq_getD_getElem?, Array.getElem?_append]
      rw [e]
      exact .d _ _ (.yl _)
    | succ t =>
      cases ht : (caps.map AV.d)[t]? with
      | none => rw [List.getElem?_cons_succ, ht]; exact .un _
      | some x =>
        rw [List.getElem?_cons_succ, ht]
        rw [List.getElem?_map, Option.map_eq_some_iff] at ht
        obtain ⟨d, hd, rfl⟩ := ht
        have hlt : t < cvs.size := by rw [hsz]; exact (List.getElem?_eq_some_iff.1 hd).1
        have e : ((#[Value.func (.yield z.l) #[] #[]] ++ cvs) ++ Array.replicate (fn.ntmps - (#[Value.func (.yield z.l) #[] #[]] ++ cvs).size) undef).getD (t + 1) undef = cvs.getD t undef := by
          have h1 : t + 1 < 1 + cvs.size := by omega
          simp [Array.getD_eq_getD_getElem?, Array.getElem?_append, h1, hlt]
        rw [e]
        exact .d _ _ ((hcv t d hd).mono (fun _ _ _ => rfl) (fun b _ => hown b))
  have hrun := h z hz B ⟨rfl, rfl, rfl⟩ [] (fun _ => none) { tmps := (#[Value.func (.yield z.l) #[] #[]] ++ cvs) ++ Array.replicate (fn.ntmps - (#[Value.func (.yield z.l) #[] #[]] ++ cvs).size) undef, defers := [] } z.w rfl
    ⟨rfl, z.C0, fun _ => False, z.w, rfl, rfl, hJ, fun _ => Iff.rfl, fun _ => Iff.rfl, fun b hb => hb.elim, Nat.le_refl _⟩ hsim
  refine callsIn_of_wp hf hb trivial (wpIn_mono (F := Fence.wide) hrun fun e a' w' hq => ?_)
  obtain ⟨he, hd, hq⟩ := hq
  have hr : (results fn a'.tmps).run P w' = .ok (.tuple #[]) w' := by
    simp [results, hres]
  rcases he with rfl | rfl
  · exact ⟨hd, _, hr, ⟨_, rfl⟩, hq⟩
  · exact ⟨hd, _, hr, ⟨_, rfl⟩, hq⟩
end
attribute [go_sem] yq_normal yq_ret yq_exit_nil yq_exit_code yq_exit_ops yq_exit_eq yq_exit_ne Rrun_ok Rrun_need
end Go.Ab
