/-
  The generic layer, part 60: ranges over functions: code in which a round is called, or that ranges over a function, walked piece by piece at the machine's side; an iterator's contract. (with the parts that follow it) (with the parts that follow it)
-/
import Derived.Test.YtejpnabbmgpmaaaGreatWC
import Derived.RangeFuncRecord
import Derived.RangeFuncSeq
import Derived.RangeFuncLeaves
import Derived.DefersIn
import Derived.RangeFuncBound
import Derived.Laws.CopyRow
import Derived.Laws.IdiomCopy
import Derived.Lib.Builder
import Derived.LaidEqlPtr
import Derived.Laws.Pointers
import Derived.Laws.Externs
import Derived.Lib.UnsafeStr
set_option linter.unusedSimpArgs false
namespace Go.Ab
section
variable {P : Program} {cf : Cf}
theorem Sim.mv {B B' : Base} {β : Name → Option Blk} {s : St} {tm : Array Value} {w w' : World} (h : Sim B β s tm w) (hn : B'.n = B.n) (hio : wio w' = B'.io) (hsz : B'.H0.size ≤ w'.heap.size)
    (hfr : ∀ b, b < B'.H0.size → ¬ B'.O0 b → w'.heap[b]? = B'.H0[b]?) (hw : w.heap.size ≤ w'.heap.size) (hk : ∀ b, b < w.heap.size → ¬ B.A b → w'.heap[b]? = w.heap[b]?)
    (hA : ∀ b, b < w.heap.size → B'.A b → B.A b) (hbl : ∀ p k, s.hp p ≠ none → β p = some k → B'.H0.size ≤ k.b ∨ B'.O0 k.b)
    (hus : ∀ x ∈ B'.U0, x ∈ s.used) (hst : ∀ p, nm B'.U0 p → β p = B'.β0 p) : Sim B' β s tm w' := by
  have hown : ∀ b, b < w.heap.size → s.own B'.A β b → s.own B.A β b := by
    rintro b hb (h1 | h1)
    · exact .inl (hA b hb h1)
    · exact .inr h1
  have hr : ∀ v d, Rep w.heap (s.own B.A β) v d → Rep w'.heap (s.own B'.A β) v d := fun v d hd => hd.mono (fun b hb hlt => hk b hlt (fun ha => hb (.inl ha))) hown
  have hst' : ∀ p, nm s.used p → Stays s.hp s.hp β β p := fun p _ o' ho => ⟨o', ho, Ob.like_refl _, rfl⟩
  refine { tms := h.tms.trans hn.symm, io := hio, size := hsz, frame := hfr, slots := fun t => (h.slots t).mono hr (fun _ h => h) hst', objs := fun p o ho => ⟨(h.objs p o ho).1, (h.objs p o ho).2.mono hr (fun _ h => h) hst' rfl (fun k hk' => ?_)⟩, blocks := fun p k hp hk' => ?_, inj := h.inj, us := hus, stay := hst }
  · obtain ⟨b1, b2, _⟩ := h.blocks p k (by rw [ho]; simp) hk'
    exact hk k.b b1 b2
  · obtain ⟨b1, b2, _⟩ := h.blocks p k hp hk'
    exact ⟨Nat.lt_of_lt_of_le b1 hw, fun ha => b2 (hA _ b1 ha), hbl p k hp hk'⟩
def ownB (s : St) (β : Name → Option Blk) (b : Nat) : Prop := ∃ p k, s.hp p ≠ none ∧ β p = some k ∧ k.b = b
theorem Sim.ownB_ok {B : Base} {β : Name → Option Blk} {s : St} {tm : Array Value} {w : World} (h : Sim B β s tm w) {b : Nat} (hb : ownB s β b) : b < w.heap.size ∧ ¬ B.A b ∧ (B.H0.size ≤ b ∨ B.O0 b) := by
  obtain ⟨p, k, hp, hk, rfl⟩ := hb
  exact h.blocks p k hp hk
def ARY (P : Program) (cf : Cf) (Φ : Exit → Act → World → Prop) (I : Base → List Deferred → Prop) (k : List It) (s : St) : Prop :=
  ∀ B, cf.fits B → ∀ ds β a w, a.defers = ds → I B ds → Sim B β s a.tmps w → hold P cf Φ k .normal a w
def ARX (cf : Cf) (Φ : Exit → Act → World → Prop) (I : Base → List Deferred → Prop) (e : Exit) (s : St) : Prop :=
  ∀ B, cf.fits B → ∀ ds β a w, a.defers = ds → I B ds → Sim B β s a.tmps w → Φ e a w
def yq (P : Program) (cf : Cf) (Φ : Exit → Act → World → Prop) (I : Base → List Deferred → Prop) (k : List It) (e : Exit) (s : St) : Prop :=
  match e with
  | .normal => ARY P cf Φ I k s
  | .exit i => (match exitK i k with
    | some k' => ARY P cf Φ I k' s
    | none => ARX cf Φ I (.exit i) s)
  | .ret => ARX cf Φ I .ret s
  | _ => False
variable {Φ : Exit → Act → World → Prop} {I : Base → List Deferred → Prop} {k : List It} {s : St} {B : Base} {ds : List Deferred} {e : Exit} {a : Act} {w : World}
theorem yq_normal : yq P cf Φ I k .normal s = ARY P cf Φ I k s := rfl
theorem yq_ret : yq P cf Φ I k .ret s = ARX cf Φ I .ret s := rfl
theorem yq_exit_nil (i : Nat) : yq P cf Φ I [] (.exit i) s = ARX cf Φ I (.exit i) s := rfl
theorem yq_exit_code (i : Nat) (c : Code) : yq P cf Φ I (.code c :: k) (.exit i) s = yq P cf Φ I k (.exit i) s := rfl
theorem yq_exit_ops (i : Nat) (all : Array Oper) (r : List Oper) : yq P cf Φ I (.ops all r :: k) (.exit i) s = yq P cf Φ I k (.exit i) s := rfl
theorem yq_exit_eq (i : Nat) : yq P cf Φ I (.blk i :: k) (.exit i) s = ARY P cf Φ I k s := by simp [yq, exitK]
theorem yq_exit_ne (i j : Nat) (h : (j == i) = false) : yq P cf Φ I (.blk j :: k) (.exit i) s = yq P cf Φ I k (.exit i) s := by
  have : ¬ j = i := by simpa using h
  simp [yq, exitK, this]
theorem yq_hold' {β : Name → Option Blk} (hB : cf.fits B) (hI : I B ds) (hd : a.defers = ds) (hq : yq P cf Φ I k e s) (hs : Sim B β s a.tmps w) : hold P cf Φ k e a w := by
  cases e with
  | normal => exact hq B hB ds β a w hd hI hs
  | exit i =>
    simp only [yq] at hq
    split at hq
    · rename_i k' hk'; exact hold_exit_some _ i k k' a w hk' (hq B hB ds β a w hd hI hs)
    · rename_i hk'; exact hold_exit_none _ i k a w hk' (hq B hB ds β a w hd hI hs)
  | ret => exact hold_ret _ k a w (hq B hB ds β a w hd hI hs)
  | goto l => exact hq.elim
  | panic c => exact hq.elim
  | outgrown => exact hq.elim
theorem yq_hold (hB : cf.fits B) (hI : I B ds) (h : lift B ds (yq P cf Φ I k) e a w) : hold P cf Φ k e a w := by
  obtain ⟨hd, s', β', hq, hs⟩ := h
  exact yq_hold' hB hI hd hq hs
theorem Y_code {c : Code} (h : run P cf [.code c] (yq P cf Φ I k) s) : ARY P cf Φ I (.code c :: k) s :=
  fun B hB ds β a w hds hI hs => wpIn_mono (run_ok h B hB ds β a w hds hs) fun _ _ _ hq => yq_hold hB hI hq
theorem Y_codeE {c : Code} (h : ∀ E : Eng P cf (yq P cf Φ I k), E.run [.code c] s) : ARY P cf Φ I (.code c :: k) s := Y_code (veil h)
theorem Y_seq {x y : Code} (h : ARY P cf Φ I (.code x :: .code y :: k) s) : ARY P cf Φ I (.code (.seq x y) :: k) s :=
  fun B hB ds β a w hds hI hs => wpIn_seq (wpIn_mono (h B hB ds β a w hds hI hs) (hold_then _ y k))
theorem Y_block {i : Nat} {x : Code} (h : ARY P cf Φ I (.code x :: .blk i :: k) s) : ARY P cf Φ I (.code (.block i x) :: k) s :=
  fun B hB ds β a w hds hI hs => wpIn_block (wpIn_mono (h B hB ds β a w hds hI hs) (hold_block _ i k))
theorem Y_blk {i : Nat} (h : ARY P cf Φ I k s) : ARY P cf Φ I (.blk i :: k) s := fun B hB ds β a w hds hI hs => h B hB ds β a w hds hI hs
theorem Y_nil (h : ARX cf Φ I .normal s) : ARY P cf Φ I [] s := fun B hB ds β a w hds hI hs => h B hB ds β a w hds hI hs
theorem Y_region {i : Nat} {ops : List Oper} (h : ARY P cf Φ I (.ops ops.toArray ops :: k) s) : ARY P cf Φ I (.code (.region i ops.toArray false) :: k) s := by
  intro B hB ds β a w hds hI hs
  refine wpIn_region ?_
  refine h B hB ds β a w hds hI hs _ ?_
  apply List.ext_getElem?
  intro j
  simp only [List.getElem?_map, List.size_toArray, List.getElem?_toArray]
  by_cases hj : j < ops.length
  · simp [hj]
  · simp [hj]
theorem Y_ops_nil {all : Array Oper} (h : ARY P cf Φ I k s) : ARY P cf Φ I (.ops all [] :: k) s := by
  intro B hB ds β a w hds hI hs l hl
  cases l with
  | nil => exact h B hB ds β a w hds hI hs
  | cons i l => simp at hl
theorem Y_op {all : Array Oper} {o : Oper} {r : List Oper} (hg : o.guard = none) (h : (opR P.ti cf.n o.op o.dst s).run (fun s' => ARY P cf Φ I (.ops all r :: k) s') False) : ARY P cf Φ I (.ops all (o :: r) :: k) s := by
  intro B hB ds β a w hds hI hs l hl
  cases l with
  | nil => simp at hl
  | cons i l =>
    simp only [List.map_cons, List.cons.injEq] at hl
    obtain ⟨hi, hl⟩ := hl
    have hw : Region.wanted o (yielded all a.tmps) = true := by simp [Region.wanted, hg]
    simp only [wpOpsIn, hi, hw, if_true]
    rw [← hB.1] at h
    rcases opR_sound hs h with hz | ⟨nx, v, w', s', β', hrun, hnx, hf, hs'⟩
    · exact hz.elim
    · have hnd : ∀ c, o.op ≠ .defer c := by
        intro c hc
        have : ∃ d w2, (execOp a.eval o).run P w = .ok (.defer d) w2 ∨ ∃ h w2, (execOp a.eval o).run P w = .halt h w2 := by
          simp only [execOp, hc, Sem.run_bind]
          cases (resolve a.eval c o.type).run P w with
          | ok d w2 => exact ⟨d, w2, .inl rfl⟩
          | halt hh w2 => exact ⟨default, w2, .inr ⟨hh, w2, rfl⟩⟩
        obtain ⟨d, w2, h1 | ⟨hh, w3, h1⟩⟩ := this
        · rw [hrun] at h1; cases h1; rcases hnx with h2 | ⟨h2, _⟩ <;> cases h2
        · rw [hrun] at h1; cases h1
      refine wpIn_of_run hnd hrun hnx (hf B hB ds β' _ w' ?_ hI hs' l hl)
      cases o.dst <;> exact hds
theorem Rrun_ok (s' : St) (f : St → Prop) (z : Prop) : (R.ok s').run f z = f s' := rfl
theorem Rrun_need (p : Prop) (x : R St) (f : St → Prop) (z : Prop) : (R.need p x).run f z = (p ∧ x.run f z) := rfl
def lpY (P : Program) (cf : Cf) (Φ : Exit → Act → World → Prop) {X : Type} (S : X → St) (J : X → Base → List Deferred → Prop) (μ : X → Nat) (x : X) (k : List It) (e : Exit) (a : Act) (w : World) : Prop :=
  match e with
  | .normal => ∃ y, μ y < μ x ∧ ∃ B, cf.fits B ∧ J y B a.defers ∧ ∃ β, Sim B β (S y) a.tmps w
  | e => hold P cf Φ k e a w
theorem Y_loop {X : Type} (S : X → St) (J : X → Base → List Deferred → Prop) (μ : X → Nat) {c : Code} (x0 : X) (h0 : ∃ τ, Le cf.U τ s (S x0)) (hI : ∀ B ds, I B ds → J x0 B ds)
    (hr : ∀ x, ARY P cf (lpY P cf Φ S J μ x k) (J x) [.code c] (S x)) : ARY P cf Φ I (.code (.loop c) :: k) s := by
  have key : ∀ N x, μ x < N → ∀ (B : Base), cf.fits B → ∀ ds β a w, a.defers = ds → J x B ds → Sim B β (S x) a.tmps w → Code.roundsIn (Fw cf.ro) 0 P c (hold P cf Φ k) N a w := by
    intro N
    induction N with
    | zero => intro x hx; omega
    | succ N ih =>
      intro x hx B hB ds β a w hds hJ h
      rw [roundsIn_succ]
      refine wpIn_mono (hr x B hB ds β a w hds hJ h) fun e a' w' hq => ?_
      cases e with
      | normal =>
        obtain ⟨y, hy, B', hB', hJ', β', hs'⟩ := hq
        exact ih y (by omega) B' hB' _ β' a' w' rfl hJ' hs'
      | exit i => exact hq
      | ret => exact hq
      | goto l => exact hq
      | panic c => exact hq
      | outgrown => exact hq
  obtain ⟨τ, hle⟩ := h0
  intro B hB ds β a w hds hi h
  obtain ⟨β2, hs2, _⟩ := h.le (τ := τ) (by rw [hB.2.1]; exact hle)
  exact wpIn_loop_rounds (μ x0 + 1) (key _ x0 (Nat.lt_succ_self _) B hB ds β2 a w hds (hI _ _ hi) hs2)
theorem Y_loop_next {X : Type} {S : X → St} {J : X → Base → List Deferred → Prop} {μ : X → Nat} {x : X} (y : X) (hy : μ y < μ x) (τ : Name → Name) (hle : Le cf.U τ s (S y)) (hI : ∀ B ds, I B ds → J y B ds) : ARY P cf (lpY P cf Φ S J μ x k) I [] s := by
  intro B hB ds β a w hds hi h
  obtain ⟨β2, hs2, _⟩ := h.le (τ := τ) (by rw [hB.2.1]; exact hle)
  exact ⟨y, hy, B, hB, by rw [hds]; exact hI _ _ hi, β2, hs2⟩
theorem X_loop_exit {X : Type} {S : X → St} {J : X → Base → List Deferred → Prop} {μ : X → Nat} {x : X} {i : Nat} (h : yq P cf Φ I k (.exit i) s) : ARX cf (lpY P cf Φ S J μ x k) I (.exit i) s :=
  fun _ hB _ _ _ _ hds hi hs => yq_hold' hB hi hds h hs
theorem X_loop_ret {X : Type} {S : X → St} {J : X → Base → List Deferred → Prop} {μ : X → Nat} {x : X} (h : ARX cf Φ I .ret s) : ARX cf (lpY P cf Φ S J μ x k) I .ret s :=
  fun B hB ds β a w hds hi hs => hold_ret _ k a w (h B hB ds β a w hds hi hs)
end
end Go.Ab
namespace Go.Ab
structure Stp (W : World) (X : Nat → Prop) (W' : World) (X' : Nat → Prop) : Prop where
  size : W.heap.size ≤ W'.heap.size
  io : wio W' = wio W
  same : ∀ b, b < W.heap.size → ¬ X b → W'.heap[b]? = W.heap[b]?
  new : ∀ b, X' b → (X b ∨ W.heap.size ≤ b) ∧ b < W'.heap.size
structure Itz where
  l : Nat
  w : World
  C0 : Nat → Prop
  J : Nat → (Nat → Prop) → (Nat → Prop) → World → Prop
  Jx : Nat → (Nat → Prop) → (Nat → Prop) → World → Prop
structure Itz.Ok (P : Program) (G : List (Nat × Obj)) (N : Nat) (xs : Nat → List D) (z : Itz) : Prop where
  lt : ∀ b, z.C0 b → b < z.w.heap.size
  stab : ∀ n C X W X' W', z.J n C X W → Stp W X W' X' → z.J n C X' W'
  stabx : ∀ n C X W X' W', z.Jx n C X W → Stp W X W' X' → z.Jx n C X' W'
  round : ∀ n C X W vs, n < N → z.J n C X W → vs.size = (xs n).length → (∀ i d, (xs n)[i]? = some d → Rep W.heap (fun b => C b ∨ X b) (vs.getD i undef) d) →
    YieldAt Fence.wide 0 P z.l vs W fun e W' => ∃ C', (wio W' = wio W ∧ W.heap.size ≤ W'.heap.size ∧ (∀ b, b < W.heap.size → ¬ C b → W'.heap[b]? = W.heap[b]?) ∧ (∀ q ∈ G, W'.heap[q.1]? = W.heap[q.1]?) ∧ ∀ b, C' b → (C b ∨ W.heap.size ≤ b) ∧ b < W'.heap.size) ∧
      ((e = .returned (.bool true) ∧ z.J (n + 1) C' X W') ∨ (e = .returned (.bool false) ∧ z.Jx (n + 1) C' X W'))
def ItC (P : Program) (G : List (Nat × Obj)) (f : FuncId) (caps : List D) (N : Nat) (xs : Nat → List D) : Prop :=
  (∀ vs w, (callFunc f vs).run P w = .ok (.enter f vs) w) ∧
  ∀ z : Itz, z.Ok P G N xs → ∀ cvs : Array Value, cvs.size = caps.length → (∀ i d, caps[i]? = some d → Rep z.w.heap z.C0 (cvs.getD i undef) d) → z.J 0 z.C0 (fun _ => False) z.w → (∀ q ∈ G, z.w.heap[q.1]? = some q.2) →
    CallsIn Fence.wide 0 P f (#[.func (.yield z.l) #[] #[]] ++ cvs) z.w fun e W' => (∃ v, e = .returned v) ∧ ∃ C X, z.J N C X W' ∨ ∃ n, z.Jx n C X W'
def IJ (z : Itz) (J : (Nat → Prop) → (Nat → Prop) → World → Prop) (B : Base) (ds : List Deferred) : Prop :=
  ds = [] ∧ ∃ C X W0, W0.heap = B.H0 ∧ wio W0 = B.io ∧ J C X W0 ∧ (∀ b, B.A b ↔ C b) ∧ (∀ b, B.O0 b ↔ X b) ∧ (∀ b, X b → z.w.heap.size ≤ b) ∧ z.w.heap.size ≤ W0.heap.size
def II (z : Itz) (n : Nat) : Base → List Deferred → Prop := IJ z (z.J n)
def IX (z : Itz) : Base → List Deferred → Prop := IJ z fun C X W => ∃ n, z.Jx n C X W
def ΦI (z : Itz) (N : Nat) (e : Exit) (a : Act) (w : World) : Prop := (e = .normal ∨ e = .ret) ∧ a.defers = [] ∧ ∃ C X, z.J N C X w ∨ ∃ n, z.Jx n C X w
section
variable {P : Program} {cf : Cf} {G : List (Nat × Obj)} {N : Nat} {xs : Nat → List D} {z : Itz} {k : List It} {s : St}
theorem IJ.stp {J : (Nat → Prop) → (Nat → Prop) → World → Prop} {B : Base} {ds : List Deferred} {β : Name → Option Blk} {tm : Array Value} {w : World} (h : IJ z J B ds) (hs : Sim B β s tm w) :
    ∃ C X W0, W0.heap = B.H0 ∧ J C X W0 ∧ Stp W0 X w (ownB s β) ∧ (∀ b, B.A b ↔ C b) ∧ (∀ b, ownB s β b → z.w.heap.size ≤ b) ∧ z.w.heap.size ≤ w.heap.size := by
  obtain ⟨_, C, X, W0, h1, h2, hJ, hA, hO, hX, hz⟩ := h
  have hsz : W0.heap.size = B.H0.size := by rw [h1]
  refine ⟨C, X, W0, h1, hJ, ⟨by rw [hsz]; exact hs.size, by rw [h2]; exact hs.io, fun b hb hx => ?_, fun b hb => ?_⟩, hA, fun b hb => ?_, ?_⟩
  · rw [h1]; exact hs.frame b (by rw [← hsz]; exact hb) (fun ho => hx ((hO b).1 ho))
  · obtain ⟨b1, _, b3⟩ := hs.ownB_ok hb
    refine ⟨?_, b1⟩
    rcases b3 with b3 | b3
    · exact .inr (by rw [hsz]; exact b3)
    · exact .inl ((hO b).1 b3)
  · rcases (hs.ownB_ok hb).2.2 with b3 | b3
    · have := hs.size; omega
    · exact hX b ((hO b).1 b3)
  · have := hs.size; omega
theorem X_endI {z : Itz} (hz : z.Ok P G N xs) {e : Exit} (he : e = .normal ∨ e = .ret) : ARX cf (ΦI z N) (II z N) e s := by
  intro B hB ds β a w hds hi hs
  obtain ⟨C, X, W0, _, hJ, hst, _⟩ := IJ.stp hi hs
  exact ⟨he, hds.trans hi.1, C, _, .inl (hz.stab _ _ _ _ _ _ hJ hst)⟩
theorem X_endX {z : Itz} (hz : z.Ok P G N xs) {e : Exit} (he : e = .normal ∨ e = .ret) : ARX cf (ΦI z N) (IX z) e s := by
  intro B hB ds β a w hds hi hs
  obtain ⟨C, X, W0, _, ⟨n, hJ⟩, hst, _⟩ := IJ.stp hi hs
  exact ⟨he, hds.trans hi.1, C, _, .inr ⟨n, hz.stabx _ _ _ _ _ _ hJ hst⟩⟩
theorem Y_yield (hz : z.Ok P cf.G N xs) {Φ : Exit → Act → World → Prop} {n t : Nat} {all : Array Oper} {fv : Operand} {args : Array Operand} {at' : Array TypeId} {ty : TypeId} {pos : String} {af : Array Edge} {r : List Oper}
    (hn : n < N) (ht : t < cf.n) (hev : ev s fv = .d (.yl z.l)) (hargs : args.toList.map (ev s) = (xs n).map .d)
    (h1 : ARY P cf Φ (II z (n + 1)) (.ops all r :: k) (s.put t (.d (.bool true)))) (h2 : ARY P cf Φ (IX z) (.ops all r :: k) (s.put t (.d (.bool false)))) :
    ARY P cf Φ (II z n) (.ops all ({ dst := some t, op := .call { callee := .value fv, args := args, argTypes := at' }, type := ty, pos := pos, after := af, guard := none } :: r) :: k) s := by
  intro B hB ds β a w hds hI hs l hl
  cases l with
  | nil => simp at hl
  | cons i l =>
    simp only [List.map_cons, List.cons.injEq] at hl
    obtain ⟨hi, hl⟩ := hl
    simp only [wpOpsIn, hi, Region.wanted, if_true]
    obtain ⟨C, X, W0, hW0, hJ, hst, hA, hX, hzw⟩ := IJ.stp hI hs
    have hJ' := hz.stab _ _ _ _ _ _ hJ hst
    have hf := hs.ev fv
    rw [hev] at hf
    have hfv : a.eval fv = .func (.yield z.l) #[] #[] := by
      have := hf.toD
      generalize a.eval fv = v at this
      cases this; rfl
    have hlen : args.size = (xs n).length := by simpa using congrArg List.length hargs
    have hrd := hz.round n C (ownB s β) w (args.map a.eval) hn hJ' (by simpa using hlen) (fun j d hj => by
      have hx : (args.toList.map (ev s))[j]? = some (.d d) := by rw [hargs, List.getElem?_map, hj]; rfl
      have := (calls_list hs args.toList j _ hx).toD
      rw [show (args.map a.eval).getD j undef = (args.toList.map a.eval).toArray.getD j undef by simp [Array.getD_eq_getD_getElem?]]
      refine this.mono (fun _ _ _ => rfl) (fun b _ hb => ?_)
      rcases hb with hb | hb
      · exact .inl ((hA b).2 hb)
      · exact .inr hb)
    obtain ⟨fn, tmps, assign, body, hy, hrd⟩ := hrd
    refine ⟨fun _ _ => trivial, ?_⟩
    have hrun : (execOp a.eval { dst := some t, op := .call { callee := .value fv, args := args, argTypes := at' }, type := ty, pos := pos, after := af, guard := none } : Sem Next).run P w = .ok (.round z.l fn tmps assign body) w := by
      have e : (execOp a.eval { dst := some t, op := .call { callee := .value fv, args := args, argTypes := at' }, type := ty, pos := pos, after := af, guard := none } : Sem Next) = Instr.yield z.l (#[] ++ args.map a.eval ++ #[]) := by
        show (do let d ← (Deferred.ofValue (a.eval fv) (args.map a.eval)); invoke d.target d.args : Sem Next) = _
        rw [hfv]; rfl
      rw [e]
      simpa using hy
    rw [Oper.semAt_eq _ _ _ (by simp), hrun, Oper.uponIn_round]
    refine ⟨fun hdep => by simp [Fw_depth] at hdep, ?_⟩
    have hrd' : RoundIn (Fw cf.ro) (0 - 1) P z.l fn tmps assign body w _ := hrd
    refine hrd'.mono ?_
    rintro e W' ⟨C', ⟨c1, c2, c3, c4, c5⟩, hq⟩
    have hG' : ∀ q ∈ B.G, W'.heap[q.1]? = some q.2 ∧ ¬ ownB s β q.1 := fun q hq => by
      obtain ⟨g1, g2⟩ := B.hG q hq
      have hlt := lt_of_some g1
      refine ⟨(c4 q (by rw [← hB.2.2]; exact hq)).trans ((hs.frame _ hlt g2).trans g1), fun hb => ?_⟩
      rcases (hs.ownB_ok hb).2.2 with g3 | g3
      · omega
      · exact g2 g3
    let B' : Base := { n := B.n, io := B.io, G := B.G, H0 := W'.heap, O0 := ownB s β, A := C', U0 := B.U0, β0 := B.β0, hA := fun b hb => (c5 b hb).2, hG := hG' }
    have hs' : Sim B' β s a.tmps W' := by
      refine hs.mv rfl (c1.trans hs.io) (Nat.le_refl _) (fun _ _ _ => rfl) c2 (fun b hb hn => c3 b hb (fun hc => hn ((hA b).2 hc))) (fun b hb hc => ?_) (fun p k hp hk => .inr ⟨p, k, hp, hk, rfl⟩) hs.us hs.stay
      rcases (c5 b hc).1 with h | h
      · exact (hA b).2 h
      · omega
    have hIJ : ∀ J : (Nat → Prop) → (Nat → Prop) → World → Prop, J C' (ownB s β) W' → IJ z J B' ds := fun J hj => ⟨hI.1, C', _, W', rfl, c1.trans hs.io, hj, fun _ => Iff.rfl, fun _ => Iff.rfl, hX, Nat.le_trans hzw c2⟩
    rcases hq with ⟨rfl, hj⟩ | ⟨rfl, hj⟩
    · exact h1 B' ⟨hB.1, hB.2.1, hB.2.2⟩ ds β (a.put (some t) (.bool true)) W' hds (hIJ _ hj) (hs'.put (by show t < B.n; rw [hB.1]; exact ht) (.d _ _ (.bool _))) l hl
    · exact h2 B' ⟨hB.1, hB.2.1, hB.2.2⟩ ds β (a.put (some t) (.bool false)) W' hds (hIJ _ ⟨_, hj⟩) (hs'.put (by show t < B.n; rw [hB.1]; exact ht) (.d _ _ (.bool _))) l hl
theorem funI_ok {G : List (Nat × Obj)} {f : FuncId} {fn : Func} {c : Code} {caps : List D} (hf : P.funcs[f]? = some fn) (hb : fn.body = some c) (hnm : (fn.name == "runtime.NumGoroutine") = false) (hn : caps.length + 1 ≤ fn.ntmps) (hres : fn.results = #[])
    (h : ∀ z : Itz, z.Ok P G N xs → ARY P ⟨fn.ntmps, none, G, []⟩ (ΦI z N) (II z 0) [.code c] (mk (argsFr 0 (.d (.yl z.l) :: caps.map .d)) [] [])) : ItC P G f caps N xs := by
  refine ⟨enter_run hf hb hnm, fun z hz cvs hsz hcv hJ hG => ?_⟩
  let B : Base := { n := fn.ntmps, io := wio z.w, G := G, H0 := z.w.heap, O0 := fun _ => False, A := z.C0, U0 := [], β0 := fun _ => none, hA := hz.lt, hG := fun q hq => ⟨hG q hq, fun h => h⟩ }
  have hsim : Sim B (fun _ => none) (mk (argsFr 0 (.d (.yl z.l) :: caps.map .d)) [] []) ((#[Value.func (.yield z.l) #[] #[]] ++ cvs) ++ Array.replicate (fn.ntmps - (#[Value.func (.yield z.l) #[] #[]] ++ cvs).size) undef) z.w := by
    have hown : ∀ b, (mk (argsFr 0 (.d (.yl z.l) :: caps.map .d)) [] []).own z.C0 (fun _ => none) b → z.C0 b := by
      rintro b (hb | ⟨p, k, hp, _⟩)
      · exact hb
      · exact absurd rfl hp
    refine { tms := by show (_ : Array Value).size = fn.ntmps; simp; omega, io := rfl, size := Nat.le_refl _, frame := fun _ _ _ => rfl, slots := fun t => ?_, objs := fun p o ho => (by cases ho), blocks := fun p k hp => absurd rfl hp, inj := fun p q k l hp => absurd rfl hp, us := fun _ hx => hx, stay := fun p hp => (by obtain ⟨_, _, _, hx⟩ := hp; cases hx) }
    rw [mk_fr, argsFr_get, if_pos (Nat.zero_le _), Nat.sub_zero]
    cases t with
    | zero =>
      have e : ((#[Value.func (.yield z.l) #[] #[]] ++ cvs) ++ Array.replicate (fn.ntmps - (#[Value.func (.yield z.l) #[] #[]] ++ cvs).size) undef).getD 0 undef = .func (.yield z.l) #[] #[] := by
        simp [Array.getD_eq_getD_getElem?, Array.getElem?_append]
      rw [e]
      exact .d _ _ (.yl _)
    | succ t =>
      cases ht : (caps.map AV.d)[t]? with
      | none => rw [List.getElem?_cons_succ, ht]; exact .un _
      | some x =>
        rw [List.getElem?_cons_succ, ht]
        rw [List.getElem?_map, Option.map_eq_some_iff] at ht
        obtain ⟨d, hd, rfl⟩ := ht
        have hlt : t < cvs.size := by rw [hsz]; exact (List.getElem?_eq_some_iff.1 hd).1
        have e : ((#[Value.func (.yield z.l) #[] #[]] ++ cvs) ++ Array.replicate (fn.ntmps - (#[Value.func (.yield z.l) #[] #[]] ++ cvs).size) undef).getD (t + 1) undef = cvs.getD t undef := by
          have h1 : t + 1 < 1 + cvs.size := by omega
          simp [Array.getD_eq_getD_getElem?, Array.getElem?_append, h1, hlt]
        rw [e]
        exact .d _ _ ((hcv t d hd).mono (fun _ _ _ => rfl) (fun b _ => hown b))
  have hrun := h z hz B ⟨rfl, rfl, rfl⟩ [] (fun _ => none) { tmps := (#[Value.func (.yield z.l) #[] #[]] ++ cvs) ++ Array.replicate (fn.ntmps - (#[Value.func (.yield z.l) #[] #[]] ++ cvs).size) undef, defers := [] } z.w rfl
    ⟨rfl, z.C0, fun _ => False, z.w, rfl, rfl, hJ, fun _ => Iff.rfl, fun _ => Iff.rfl, fun b hb => hb.elim, Nat.le_refl _⟩ hsim
  refine callsIn_of_wp hf hb trivial (wpIn_mono (F := Fence.wide) hrun fun e a' w' hq => ?_)
  obtain ⟨he, hd, hq⟩ := hq
  have hr : (results fn a'.tmps).run P w' = .ok (.tuple #[]) w' := by
    simp [results, hres]
  rcases he with rfl | rfl
  · exact ⟨hd, _, hr, ⟨_, rfl⟩, hq⟩
  · exact ⟨hd, _, hr, ⟨_, rfl⟩, hq⟩
end
attribute [go_sem] yq_normal yq_ret yq_exit_nil yq_exit_code yq_exit_ops yq_exit_eq yq_exit_ne Rrun_ok Rrun_need
end Go.Ab
namespace Go.Ab
structure BExt (B0 B : Base) : Prop where
  n : B.n = B0.n
  io : B.io = B0.io
  G : B.G = B0.G
  U0 : B.U0 = B0.U0
  β0 : B.β0 = B0.β0
  size : B0.H0.size ≤ B.H0.size
  frame : ∀ b, b < B0.H0.size → ¬ B0.O0 b → B.H0[b]? = B0.H0[b]?
  O0 : ∀ b, b < B0.H0.size → B.O0 b → B0.O0 b
  A : ∀ b, B0.A b → B.A b
theorem BExt.refl (B : Base) : BExt B B := ⟨rfl, rfl, rfl, rfl, rfl, Nat.le_refl _, fun _ _ _ => rfl, fun _ _ h => h, fun _ h => h⟩
theorem BExt.trans {A B C : Base} (h : BExt A B) (g : BExt B C) : BExt A C :=
  ⟨g.n.trans h.n, g.io.trans h.io, g.G.trans h.G, g.U0.trans h.U0, g.β0.trans h.β0, Nat.le_trans h.size g.size,
    fun b hb ho => (g.frame b (Nat.lt_of_lt_of_le hb h.size) (fun hc => ho (h.O0 b hb hc))).trans (h.frame b hb ho), fun b hb hc => h.O0 b hb (g.O0 b (Nat.lt_of_lt_of_le hb h.size) hc), fun b hb => g.A b (h.A b hb)⟩
def mkD (D : Nat) : Deferred := { target := .collected D, args := #[] }
structure CI (B0 : Base) (B : Base) (ds : List Deferred) : Prop where
  ext : BExt B0 B
  mark : ∃ Ds : List Nat, ds = Ds.map mkD ∧ Ds.Nodup ∧ ∀ D ∈ Ds, B.H0[D]? = some (.deferred (some [])) ∧ B.A D ∧ B0.H0.size ≤ D ∧ ¬ B.O0 D
def St.fra (s : St) (fr : Nat → AV) : St := { s with fr := fr }
def LK (s0 s : St) : Prop := ∀ p o', nm s0.used p → s.hp p = some o' → ∃ o, s0.hp p = some o ∧ o.like o'
def putP (s : St) : List Nat → List D → St
  | t :: ts, d :: ds => putP (s.put t (.d d)) ts ds
  | _, _ => s
section
variable {P : Program} {cf : Cf}
theorem Sim.putP {B : Base} {β : Name → Option Blk} {w : World} : ∀ (ts : List Nat) (ds : List D) (vs : List Value) (s : St) (tm : Array Value), Sim B β s tm w → (∀ t ∈ ts, t < B.n) → vs.length = ds.length →
    (∀ i d, ds[i]? = some d → Rep w.heap (s.own B.A β) (vs.getD i undef) d) → Sim B β (putP s ts ds) ((ts.zip vs).foldl (fun tm (q : Nat × Value) => tm.setIfInBounds q.1 q.2) tm) w
  | [], ds, vs, s, tm, h, _, _, _ => by cases ds <;> exact h
  | _ :: _, [], [], s, tm, h, _, _, _ => h
  | t :: ts, d :: ds, v :: vs, s, tm, h, ht, hl, hv => by
    refine Sim.putP ts ds vs (s.put t (.d d)) _ (h.put (ht t List.mem_cons_self) (.d _ _ (hv 0 d rfl))) (fun x hx => ht x (List.mem_cons_of_mem _ hx)) (by simpa using hl) (fun i d' hi => ?_)
    exact hv (i + 1) d' hi
def rq (P : Program) (cf : Cf) (Φ : Exit → Act → World → Prop) (B0 : Base) (k : List It) {X : Type} (Iv : X → St) (s0 : St) (e : Exit) (s2 : St) : Prop :=
  match e with
  | .normal => LK s0 s2 ∧ ∃ y τ, Le cf.U τ (s2.fra s0.fr) (Iv y)
  | .exit i => LK s0 s2 ∧ yq P cf Φ (CI B0) k (.exit i) (s2.fra s0.fr)
  | .ret => LK s0 s2 ∧ yq P cf Φ (CI B0) k .ret (s2.fra s0.fr)
  | _ => False
def SS (B : Base) (tm : Array Value) (D L : Nat) (C X : Nat → Prop) (W : World) (s : St) : Prop :=
  ∃ β B', BExt B B' ∧ B'.H0 = W.heap ∧ (∀ b, B'.O0 b ↔ ownB s β b) ∧ (∀ b, B'.A b ↔ (B.A b ∨ X b ∨ b = D ∨ b = L)) ∧ (∀ b, C b ↔ (B.A b ∨ b = D ∨ b = L ∨ ownB s β b)) ∧ Sim B' β s tm W
theorem SS.stp {B : Base} {tm : Array Value} {D L z0 : Nat} {C X X' : Nat → Prop} {W W' : World} {s : St} (h : SS B tm D L C X W s) (hst : Stp W X W' X') (hX : ∀ b, X b → z0 ≤ b) (hz : B.H0.size ≤ z0) (hW : z0 ≤ W.heap.size) (hD : D < W.heap.size) (hL : L < W.heap.size) :
    SS B tm D L C X' W' s := by
  obtain ⟨β, B', hE, hH, hO, hA, hC, hs⟩ := h
  have hlt : ∀ b, B.A b → b < W.heap.size := fun b hb => Nat.lt_of_lt_of_le (B.hA b hb) (by rw [← hH]; exact hE.size)
  have hsame : ∀ b, b < B.H0.size → W'.heap[b]? = W.heap[b]? := fun b hb => hst.same b (by omega) (fun hx => by have := hX b hx; omega)
  have hG : ∀ q ∈ B'.G, W'.heap[q.1]? = some q.2 ∧ ¬ ownB s β q.1 := fun q hq => by
    have h0 := B.hG q (by rw [← hE.G]; exact hq)
    have h1 := B'.hG q hq
    exact ⟨(hsame _ (lt_of_some h0.1)).trans (by rw [← hH]; exact h1.1), fun hb => h1.2 ((hO _).2 hb)⟩
  refine ⟨β, { n := B'.n, io := B'.io, G := B'.G, H0 := W'.heap, O0 := ownB s β, A := fun b => B.A b ∨ X' b ∨ b = D ∨ b = L, U0 := B'.U0, β0 := B'.β0, hA := ?_, hG := hG }, ?_, rfl, fun _ => Iff.rfl, fun _ => Iff.rfl, hC, ?_⟩
  · rintro b (hb | hb | rfl | rfl)
    · exact Nat.lt_of_lt_of_le (hlt b hb) hst.size
    · exact (hst.new b hb).2
    · exact Nat.lt_of_lt_of_le hD hst.size
    · exact Nat.lt_of_lt_of_le hL hst.size
  · refine ⟨hE.n, hE.io, hE.G, hE.U0, hE.β0, Nat.le_trans hE.size (by rw [hH]; exact hst.size), fun b hb ho => ?_, fun b hb ho => hE.O0 b hb ((hO b).2 ho), fun b hb => .inl hb⟩
    exact (hsame b hb).trans ((by rw [hH] : W.heap[b]? = B'.H0[b]?).trans (hE.frame b hb ho))
  · refine hs.mv rfl (hst.io.trans hs.io) (Nat.le_refl _) (fun _ _ _ => rfl) hst.size (fun b hb hn => hst.same b hb (fun hx => hn ((hA b).2 (.inr (.inl hx))))) (fun b hb hc => ?_) (fun p k hp hk => .inr ⟨p, k, hp, hk, rfl⟩) hs.us hs.stay
    rcases hc with hc | hc | hc | hc
    · exact (hA b).2 (.inl hc)
    · rcases (hst.new b hc).1 with h1 | h1
      · exact (hA b).2 (.inr (.inl h1))
      · omega
    · exact (hA b).2 (.inr (.inr (.inl hc)))
    · exact (hA b).2 (.inr (.inr (.inr hc)))
theorem SS.after {B B' : Base} {tm : Array Value} {D L : Nat} {X : Nat → Prop} {W W2 W3 W4 : World} {s0 s1 s2 : St} {β' β1 β2 : Name → Option Blk} {tm2 : Array Value} {B2 : Base}
    (hE : BExt B B') (hH : B'.H0 = W.heap) (hO : ∀ b, B'.O0 b ↔ ownB s0 β' b) (hA : ∀ b, B'.A b ↔ (B.A b ∨ X b ∨ b = D ∨ b = L)) (hs : Sim B' β' s0 tm W)
    (hn2 : B2.n = B'.n) (hio2 : B2.io = B'.io) (hG2 : B2.G = B'.G) (hH2 : B2.H0 = W2.heap) (hO2 : ∀ b, B2.O0 b ↔ ownB s1 β1 b) (hA2 : B2.A = B'.A) (hU2 : B2.U0 = s0.used) (hβ2 : B2.β0 = β')
    (hsz : W.heap.size ≤ W2.heap.size) (h12 : ∀ b, b < W.heap.size → ¬ ownB s0 β' b → b ≠ L → W2.heap[b]? = W.heap[b]?) (hown1 : ∀ b, ownB s1 β1 b → W.heap.size ≤ b ∨ ownB s0 β' b)
    (hs2 : Sim B2 β2 s2 tm2 W3) (hlk : LK s0 s2) (hLz : B.H0.size ≤ L) (h34 : W3.heap.size = W4.heap.size) (hio4 : wio W4 = wio W3) (h4 : ∀ b, b ≠ L → W4.heap[b]? = W3.heap[b]?) :
    (∀ b, b < W.heap.size → ¬ ownB s0 β' b → b ≠ L → W4.heap[b]? = W.heap[b]?) ∧ W.heap.size ≤ W4.heap.size ∧ (∀ b, ownB s2 β2 b → (W.heap.size ≤ b ∨ ownB s0 β' b) ∧ b < W4.heap.size ∧ ¬ B'.A b) ∧
      ∃ B4, BExt B B4 ∧ B4.H0 = W4.heap ∧ (∀ b, B4.O0 b ↔ ownB s2 β2 b) ∧ (∀ b, B4.A b ↔ (B.A b ∨ X b ∨ b = D ∨ b = L)) ∧ Sim B4 β2 (s2.fra s0.fr) tm W4 := by
  have hown2 : ∀ b, ownB s2 β2 b → W.heap.size ≤ b ∨ ownB s0 β' b := fun b hb => by
    rcases (hs2.ownB_ok hb).2.2 with h | h
    · rw [hH2] at h; exact .inl (Nat.le_trans hsz h)
    · exact hown1 b ((hO2 b).1 h)
  have hz3 : W2.heap.size ≤ W3.heap.size := by have := hs2.size; rw [hH2] at this; exact this
  have hsame : ∀ b, b < W.heap.size → ¬ ownB s0 β' b → b ≠ L → W4.heap[b]? = W.heap[b]? := fun b hb hnb hne => by
    have h1 : ¬ ownB s1 β1 b := fun h => by
      rcases hown1 b h with h | h
      · omega
      · exact hnb h
    refine (h4 b hne).trans ((hs2.frame b (by rw [hH2]; omega) (fun h => h1 ((hO2 b).1 h))).trans ?_)
    rw [hH2]; exact h12 b hb hnb hne
  have hsz4 : W.heap.size ≤ W4.heap.size := by omega
  have hG4 : ∀ q ∈ B'.G, W4.heap[q.1]? = some q.2 ∧ ¬ ownB s2 β2 q.1 := fun q hq => by
    obtain ⟨g1, g2⟩ := B'.hG q hq
    have hlt := lt_of_some g1
    have hlt' : q.1 < W.heap.size := by rw [← hH]; exact hlt
    have hq2 := B2.hG q (by rw [hG2]; exact hq)
    have hno : ¬ ownB s2 β2 q.1 := fun hb => by
      rcases hown2 _ hb with h | h
      · omega
      · exact g2 ((hO _).2 h)
    refine ⟨?_, hno⟩
    have h3 : W3.heap[q.1]? = some q.2 := (hs2.frame _ (lt_of_some hq2.1) hq2.2).trans hq2.1
    have hb0 := lt_of_some (B.hG q (by rw [← hE.G]; exact hq)).1
    exact (h4 _ (by omega)).trans h3
  have hltA : ∀ b, B'.A b → b < W4.heap.size := fun b hb => Nat.lt_of_lt_of_le (B'.hA b hb) (by rw [hH]; exact hsz4)
  refine ⟨hsame, hsz4, fun b hb => ⟨hown2 b hb, by have := (hs2.ownB_ok hb).1; omega, by have := (hs2.ownB_ok hb).2.1; rw [hA2] at this; exact this⟩, ?_⟩
  let B4 : Base := { n := B'.n, io := B'.io, G := B'.G, H0 := W4.heap, O0 := ownB s2 β2, A := B'.A, U0 := B'.U0, β0 := B'.β0, hA := hltA, hG := hG4 }
  have hu : ∀ x ∈ s0.used, x ∈ s2.used := fun x hx => hs2.us x (by rw [hU2]; exact hx)
  have hst : ∀ p, nm s0.used p → β2 p = β' p := fun p hp => by rw [← hβ2]; exact hs2.stay p (by rw [hU2]; exact hp)
  have hs4 : Sim B4 β2 s2 tm2 W4 := by
    refine hs2.mv hn2.symm (hio4.trans (hs2.io.trans hio2)) (Nat.le_refl _) (fun _ _ _ => rfl) (by omega) (fun b hb hn => h4 b (fun e => hn (by rw [hA2, hA]; exact .inr (.inr (.inr e))))) (fun b _ hb => by rw [hA2]; exact hb) (fun p k hp hk => .inr ⟨p, k, hp, hk, rfl⟩) (fun x hx => hu x (hs.us x hx)) (fun p hp => ?_)
    have : nm s0.used p := hp.mono hs.us
    exact (hst p this).trans (hs.stay p hp)
  have hown : ∀ b, b < W.heap.size → s2.own B'.A β2 b → s0.own B'.A β' b := by
    rintro b hb (h1 | h1)
    · exact .inl h1
    · rcases hown2 b h1 with h | h
      · omega
      · exact .inr h
  have hr : ∀ v d, Rep W.heap (s0.own B'.A β') v d → Rep W4.heap (s2.own B'.A β2) v d := fun v d hd => hd.mono (fun b hb hlt => hsame b hlt (fun h => hb (.inr h)) (fun e => hb (.inl ((hA b).2 (.inr (.inr (.inr e))))))) hown
  refine ⟨B4, ⟨hE.n, hE.io, hE.G, hE.U0, hE.β0, Nat.le_trans hE.size (by rw [hH]; exact hsz4), fun b hb ho => ?_, fun b hb ho => ?_, fun b hb => (hA b).2 (.inl hb)⟩, rfl, fun _ => Iff.rfl, hA, ?_⟩
  · have hbW : b < W.heap.size := by have := hE.size; rw [hH] at this; omega
    refine (hsame b hbW (fun h => ho (hE.O0 b hb ((hO b).2 h))) (by omega)).trans ?_
    rw [← hE.frame b hb ho, hH]
  · rcases hown2 b ho with h | h
    · have := hE.size; rw [hH] at this; omega
    · exact hE.O0 b hb ((hO b).2 h)
  · exact { hs4 with tms := hs.tms, slots := fun t => (hs.slots t).mono hr hu (fun p hp o' ho => by obtain ⟨o, h1, h2⟩ := hlk p o' hp ho; exact ⟨o, h1, h2, hst p hp⟩) }
theorem SS.mk' {B B4 : Base} {tm : Array Value} {D L : Nat} {X : Nat → Prop} {W4 : World} {s5 : St} {β5 : Name → Option Blk} (hE : BExt B B4) (hH : B4.H0 = W4.heap) (hsub : ∀ b, ownB s5 β5 b → B4.O0 b) (hA : ∀ b, B4.A b ↔ (B.A b ∨ X b ∨ b = D ∨ b = L))
    (hs : Sim B4 β5 s5 tm W4) : SS B tm D L (fun b => B.A b ∨ b = D ∨ b = L ∨ ownB s5 β5 b) X W4 s5 := by
  refine ⟨β5, { n := B4.n, io := B4.io, G := B4.G, H0 := W4.heap, O0 := ownB s5 β5, A := B4.A, U0 := B4.U0, β0 := B4.β0, hA := fun b hb => by rw [← hH]; exact B4.hA b hb, hG := fun q hq => ⟨by rw [← hH]; exact (B4.hG q hq).1, fun hb => (B4.hG q hq).2 (hsub _ hb)⟩ },
    ⟨hE.n, hE.io, hE.G, hE.U0, hE.β0, by show B.H0.size ≤ W4.heap.size; rw [← hH]; exact hE.size, fun b hb ho => ?_, fun b hb ho => hE.O0 b hb (hsub b ho), hE.A⟩, rfl, fun _ => Iff.rfl, hA, fun _ => Iff.rfl, ?_⟩
  · show W4.heap[b]? = _
    rw [← hH]; exact hE.frame b hb ho
  · exact hs.mv rfl hs.io (Nat.le_refl _) (fun _ _ _ => rfl) (Nat.le_refl _) (fun _ _ _ => rfl) (fun _ _ h => h) (fun p k hp hk => .inr ⟨p, k, hp, hk, rfl⟩) hs.us hs.stay
def jumpQ (P : Program) (cf : Cf) (Φ : Exit → Act → World → Prop) (B0 : Base) (k : List It) (c : Code) (s : St) : Prop :=
  (∃ i, c = .exit i ∧ yq P cf Φ (CI B0) k (.exit i) s) ∨ (c = .ret ∧ yq P cf Φ (CI B0) k .ret s)
theorem foldl_zip (ps : List Nat) (vs tm : Array Value) : (ps.toArray.zip vs).foldl (fun tmps (q : Nat × Value) => tmps.setIfInBounds q.1 q.2) tm = (ps.zip vs.toList).foldl (fun tm (q : Nat × Value) => tm.setIfInBounds q.1 q.2) tm := by
  rw [← Array.foldl_toList, Array.toList_zip]
theorem round_ok {n0 : Nat} {G0 : List (Nat × Obj)} {U0 : List Nat} {B0 B : Base} {ps : List Nat} {assign body : Code} {k : List It} {Φ : Exit → Act → World → Prop} {X : Type} {s0 : St} {Iv : X → St} {fn : FuncId} {tm : Array Value} {D L : Nat} {C Xs : Nat → Prop} {W : World} {vs : Array Value}
    {xl : List Ab.D} (hB : (⟨n0, none, G0, U0⟩ : Cf).fits B) (hps : ∀ t ∈ ps, t < n0) (hxl : xl.length = ps.length)
    (hr : run P ⟨n0, some L, G0, s0.used⟩ [.code assign] (fun e s1 => e = .normal ∧ run P ⟨n0, some L, G0, s0.used⟩ [.code body] (rq P ⟨n0, none, G0, U0⟩ Φ B0 k Iv s0) s1) (Ab.putP s0 ps xl))
    (hL : W.heap[L]? = some (.loop { state := .ready, pending := none, fn, tmps := tm, params := ps.toArray, assign, body, defers := D })) (hDL : D ≠ L) (hLz : B.H0.size ≤ L) (hDz : B.H0.size ≤ D) (hD : W.heap[D]? = some (.deferred (some [])))
    (hS : SS B tm D L C Xs W s0) (hvs : vs.size = xl.length) (hrep : ∀ i d, xl[i]? = some d → Rep W.heap (fun b => C b ∨ Xs b) (vs.getD i undef) d) :
    YieldAt Fence.wide 0 P L vs W fun e W' => ∃ C', (wio W' = wio W ∧ W.heap.size ≤ W'.heap.size ∧ (∀ b, b < W.heap.size → ¬ C b → W'.heap[b]? = W.heap[b]?) ∧ (∀ q ∈ G0, W'.heap[q.1]? = W.heap[q.1]?) ∧ ∀ b, C' b → (C b ∨ W.heap.size ≤ b) ∧ b < W'.heap.size) ∧ W'.heap[D]? = some (.deferred (some [])) ∧
      ((e = .returned (.bool true) ∧ W'.heap[L]? = some (.loop { state := .ready, pending := none, fn, tmps := tm, params := ps.toArray, assign, body, defers := D }) ∧ ∃ y, SS B tm D L C' Xs W' (Iv y)) ∨
       (e = .returned (.bool false) ∧ ∃ c s', W'.heap[L]? = some (.loop { state := .done, pending := some c, fn, tmps := tm, params := ps.toArray, assign, body, defers := D }) ∧ jumpQ P ⟨n0, none, G0, U0⟩ Φ B0 k c s' ∧ SS B tm D L C' Xs W' s')) := by
  obtain ⟨β', B', hE, hH, hO, hA, hC, hsx⟩ := hS
  have hLlt := lt_of_some hL
  have hDlt := lt_of_some hD
  refine ⟨fn, _, assign, body, run_yield hL (by simp [hvs, hxl]), roundIn_of_wpIn trivial ?_⟩
  rw [foldl_zip]
  have hGn : ∀ q ∈ B'.G, W.heap[q.1]? = some q.2 ∧ ¬ ownB s0 β' q.1 := fun q hq => ⟨by rw [← hH]; exact (B'.hG q hq).1, fun hb => (B'.hG q hq).2 ((hO _).2 hb)⟩
  let Br1 : Base := { n := B'.n, io := B'.io, G := B'.G, H0 := W.heap, O0 := ownB s0 β', A := B'.A, U0 := s0.used, β0 := β', hA := fun b hb => by rw [← hH]; exact B'.hA b hb, hG := hGn }
  have hs1 : Sim Br1 β' s0 tm W := hsx.mv rfl hsx.io (Nat.le_refl _) (fun _ _ _ => rfl) (Nat.le_refl _) (fun _ _ _ => rfl) (fun _ _ h => h) (fun p k hp hk => .inr ⟨p, k, hp, hk, rfl⟩) (fun _ h => h) (fun _ _ => rfl)
  have hn1 : B'.n = n0 := hE.n.trans hB.1
  have hG1 : B'.G = G0 := hE.G.trans hB.2.2
  have hs1' := hs1.putP ps xl vs.toList s0 tm (fun t ht => by show t < B'.n; rw [hn1]; exact hps t ht) (by simpa using hvs) (fun i d hi => by
    have := hrep i d hi
    rw [show vs.toList.getD i undef = vs.getD i undef by simp [Array.getD_eq_getD_getElem?, List.getD_eq_getElem?_getD]]
    refine this.mono (fun _ _ _ => rfl) (fun b _ hb => ?_)
    rcases hb with hb | hb
    · rcases (hA b).1 hb with h | h | h | h
      · exact .inl ((hC b).2 (.inl h))
      · exact .inr h
      · exact .inl ((hC b).2 (.inr (.inl h)))
      · exact .inl ((hC b).2 (.inr (.inr (.inl h))))
    · exact .inl ((hC b).2 (.inr (.inr (.inr hb)))))
  have hrunA := run_ok hr Br1 ⟨hn1, rfl, hG1⟩ [] β' { tmps := (ps.zip vs.toList).foldl (fun tm (q : Nat × Value) => tm.setIfInBounds q.1 q.2) tm, defers := [] } W rfl hs1'
  refine wpIn_mono hrunA ?_
  rintro e a1 W1 ⟨hd1, s1, β1, ⟨rfl, hrun⟩, hsA⟩
  have hnA : ∀ b, B'.A b → ¬ ownB s0 β' b := fun b hb ho => (hsx.ownB_ok ho).2.1 hb
  have hAL : B'.A L := (hA L).2 (.inr (.inr (.inr rfl)))
  have hAD : B'.A D := (hA D).2 (.inr (.inr (.inl rfl)))
  have hL1 := (hsA.frame L hLlt (hnA L hAL)).trans hL
  have hD1 := (hsA.frame D hDlt (hnA D hAD)).trans hD
  refine ⟨_, run_beginRound hL1 rfl, ?_⟩
  obtain ⟨W2, hW2⟩ : ∃ W2, W1.putObj L (.loop { state := .busy, pending := none, fn, tmps := tm, params := ps.toArray, assign, body, defers := D }) = W2 := ⟨_, rfl⟩
  show body.wpIn _ _ _ _ _ (W1.putObj L (.loop { state := .busy, pending := none, fn, tmps := tm, params := ps.toArray, assign, body, defers := D }))
  rw [hW2]
  have hz12 : W2.heap.size = W1.heap.size := by rw [← hW2]; simp
  have hzW1 : W.heap.size ≤ W1.heap.size := hsA.size
  have h12 : ∀ b, b ≠ L → W2.heap[b]? = W1.heap[b]? := fun b hb => by rw [← hW2]; exact World.putObj_heap_other hb
  have hL2 : W2.heap[L]? = some (.loop { state := .busy, pending := none, fn, tmps := tm, params := ps.toArray, assign, body, defers := D }) := by rw [← hW2]; exact World.putObj_heap_same (by omega)
  have hD2 := (h12 D hDL).trans hD1
  have hio2 : wio W2 = wio W1 := by rw [← hW2]; rfl
  have hqlt : ∀ q ∈ B'.G, q.1 < B.H0.size := fun q hq => lt_of_some (B.hG q (by rw [← hE.G]; exact hq)).1
  have hGB : ∀ q ∈ B'.G, W2.heap[q.1]? = some q.2 ∧ ¬ ownB s1 β1 q.1 := fun q hq => by
    have h0 := hqlt q hq
    have h1 := hGn q hq
    refine ⟨(h12 _ (by omega)).trans ((hsA.frame _ (lt_of_some h1.1) h1.2).trans h1.1), fun hb => ?_⟩
    rcases (hsA.ownB_ok hb).2.2 with h | h
    · have := lt_of_some h1.1
      change W.heap.size ≤ _ at h
      omega
    · exact h1.2 h
  let Br2 : Base := { n := B'.n, io := B'.io, G := B'.G, H0 := W2.heap, O0 := ownB s1 β1, A := B'.A, U0 := s0.used, β0 := β', hA := fun b hb => by have := B'.hA b hb; rw [hH] at this; omega, hG := hGB }
  have hsB : Sim Br2 β1 s1 a1.tmps W2 := hsA.mv rfl (hio2.trans hsA.io) (Nat.le_refl _) (fun _ _ _ => rfl) (by omega) (fun b hb hn => h12 b (fun e => hn (e ▸ hAL))) (fun _ _ h => h) (fun p k hp hk => .inr ⟨p, k, hp, hk, rfl⟩) hsA.us hsA.stay
  have hrunB := run_ok hrun Br2 ⟨hn1, rfl, hG1⟩ [] β1 a1 W2 hd1 hsB
  refine wpIn_mono hrunB ?_
  rintro e a3 W3 ⟨hd3, s2, β2, hq, hs3⟩
  have hL3 := (hs3.frame L (lt_of_some hL2) (fun ho => (hsA.ownB_ok ho).2.1 hAL)).trans hL2
  have hD3 := (hs3.frame D (lt_of_some hD2) (fun ho => (hsA.ownB_ok ho).2.1 hAD)).trans hD2
  have hLlt3 := lt_of_some hL3
  have hrest : ∀ (W4 : World), LK s0 s2 → W3.heap.size = W4.heap.size → wio W4 = wio W3 → (∀ b, b ≠ L → W4.heap[b]? = W3.heap[b]?) →
      (W4.heap[D]? = some (.deferred (some [])) ∧ ∃ B4, BExt B B4 ∧ B4.H0 = W4.heap ∧ (∀ b, B4.O0 b ↔ ownB s2 β2 b) ∧ (∀ b, B4.A b ↔ (B.A b ∨ Xs b ∨ b = D ∨ b = L)) ∧ Sim B4 β2 (s2.fra s0.fr) tm W4) ∧
        ∀ C' : Nat → Prop, (∀ b, C' b → B.A b ∨ b = D ∨ b = L ∨ ownB s2 β2 b) → (wio W4 = wio W ∧ W.heap.size ≤ W4.heap.size ∧ (∀ b, b < W.heap.size → ¬ C b → W4.heap[b]? = W.heap[b]?) ∧ (∀ q ∈ G0, W4.heap[q.1]? = W.heap[q.1]?) ∧ ∀ b, C' b → (C b ∨ W.heap.size ≤ b) ∧ b < W4.heap.size) := by
    intro W4 hlk h34 hio4 h4
    obtain ⟨g1, g2, g3, B4, g4, g5, g6, g7, g8⟩ := SS.after (B2 := Br2) (W2 := W2) hE hH hO hA hsx rfl rfl rfl rfl (fun _ => Iff.rfl) rfl rfl rfl (by omega) (fun b hb hnb hne => (h12 b hne).trans (hsA.frame b hb hnb)) (fun b hb => (hsA.ownB_ok hb).2.2) hs3 hlk hLz h34 hio4 h4
    refine ⟨⟨(h4 D hDL).trans hD3, B4, g4, g5, g6, g7, g8⟩, fun C' hC' => ⟨hio4.trans (hs3.io.trans hsx.io.symm), g2, fun b hb hn => g1 b hb (fun h => hn ((hC b).2 (.inr (.inr (.inr h))))) (fun h => hn ((hC b).2 (.inr (.inr (.inl h))))), fun q hq => ?_, fun b hb => ?_⟩⟩
    · have hq' : q ∈ B'.G := by rw [hG1]; exact hq
      have h0 := hqlt q hq'
      exact g1 _ (lt_of_some (hGn q hq').1) (hGn q hq').2 (by omega)
    · have hBA : ∀ b, B.A b → b < W4.heap.size := fun b hb => by have := B.hA b hb; have := hE.size; rw [hH] at this; omega
      rcases hC' b hb with h | rfl | rfl | h
      · exact ⟨.inl ((hC b).2 (.inl h)), hBA b h⟩
      · exact ⟨.inl ((hC _).2 (.inr (.inl rfl))), by omega⟩
      · exact ⟨.inl ((hC _).2 (.inr (.inr (.inl rfl)))), by omega⟩
      · obtain ⟨h1, h2, _⟩ := g3 b h
        refine ⟨?_, h2⟩
        rcases h1 with h1 | h1
        · exact .inr h1
        · exact .inl ((hC b).2 (.inr (.inr (.inr h1))))
  have hjump : ∀ (c : Code), LK s0 s2 → jumpQ P ⟨n0, none, G0, U0⟩ Φ B0 k c (s2.fra s0.fr) → ∃ v W4, (Instr.endRound L (some c)).run P W3 = .ok v W4 ∧ ∃ C', (wio W4 = wio W ∧ W.heap.size ≤ W4.heap.size ∧ (∀ b, b < W.heap.size → ¬ C b → W4.heap[b]? = W.heap[b]?) ∧ (∀ q ∈ G0, W4.heap[q.1]? = W.heap[q.1]?) ∧ ∀ b, C' b → (C b ∨ W.heap.size ≤ b) ∧ b < W4.heap.size) ∧ W4.heap[D]? = some (.deferred (some [])) ∧
      ((Ending.returned v = .returned (.bool true) ∧ W4.heap[L]? = some (.loop { state := .ready, pending := none, fn, tmps := tm, params := ps.toArray, assign, body, defers := D }) ∧ ∃ y, SS B tm D L C' Xs W4 (Iv y)) ∨
       (Ending.returned v = .returned (.bool false) ∧ ∃ c s', W4.heap[L]? = some (.loop { state := .done, pending := some c, fn, tmps := tm, params := ps.toArray, assign, body, defers := D }) ∧ jumpQ P ⟨n0, none, G0, U0⟩ Φ B0 k c s' ∧ SS B tm D L C' Xs W4 s')) := by
    intro c hlk hj
    obtain ⟨⟨r1, B4, r2, r3, r4, r5, r6⟩, r7⟩ := hrest (W3.putObj L (.loop { state := .done, pending := some c, fn, tmps := tm, params := ps.toArray, assign, body, defers := D })) hlk (by simp) rfl (fun b hb => World.putObj_heap_other hb)
    exact ⟨_, _, run_endRound (some c) hL3, _, r7 _ (fun b hb => hb), r1, .inr ⟨rfl, c, _, World.putObj_heap_same hLlt3, hj, SS.mk' (s5 := s2.fra s0.fr) (β5 := β2) r2 r3 (fun b hb => (r4 b).2 hb) r5 r6⟩⟩
  cases e with
  | normal =>
    obtain ⟨hlk, y, τ, hle⟩ := hq
    obtain ⟨⟨r1, B4, r2, r3, r4, r5, r6⟩, r7⟩ := hrest (W3.putObj L (.loop { state := .ready, pending := none, fn, tmps := tm, params := ps.toArray, assign, body, defers := D })) hlk (by simp) rfl (fun b hb => World.putObj_heap_other hb)
    obtain ⟨β5, hs5, hβ5⟩ := r6.le (τ := τ) (by rw [r2.U0, hB.2.1]; exact hle)
    have hsub : ∀ b, ownB (Iv y) β5 b → ownB s2 β2 b := by
      rintro b ⟨p, k, hp, hk, rfl⟩
      cases ho : (Iv y).hp p with
      | none => exact absurd ho hp
      | some o =>
        refine ⟨τ p, k, ?_, by rw [← hβ5 p hp]; exact hk, rfl⟩
        have := (hle.hp p o ho).1
        intro h
        have h' : (s2.fra s0.fr).hp (τ p) = none := h
        rw [h'] at this; cases this
    exact ⟨_, _, run_endRound none hL3, _, r7 (fun b => B.A b ∨ b = D ∨ b = L ∨ ownB (Iv y) β5 b) (fun b hb => Or.imp id (Or.imp id (Or.imp id (hsub b))) hb), r1, .inl ⟨rfl, World.putObj_heap_same hLlt3, y, SS.mk' r2 r3 (fun b hb => (r4 b).2 (hsub b hb)) r5 hs5⟩⟩
  | exit i => exact hjump (.exit i) hq.1 (.inl ⟨i, rfl, hq.2⟩)
  | ret => exact hjump .ret hq.1 (.inr ⟨rfl, hq.2⟩)
  | goto l => exact hq.elim
  | panic c => exact hq.elim
  | outgrown => exact hq.elim
end
end Go.Ab
namespace Go.Ab
open Go.RowKit
section
variable {P : Program} {cf : Cf}
def asg (P : Program) (cf : Cf) (body : Code) (Q : Exit → St → Prop) (e : Exit) (s1 : St) : Prop := e = .normal ∧ run P cf [.code body] Q s1
theorem asgE {P : Program} {cf : Cf} {body : Code} {Q : Exit → St → Prop} {s1 : St} (h : ∀ E : Eng P cf Q, E.run [.code body] s1) : asg P cf body Q .normal s1 := ⟨rfl, veil h⟩
theorem Y_range {B0 : Base} (hro : cf.ro = none) {f : FuncId} {caps : List D} {N : Nat} {xs : Nat → List D} (hit : ItC P cf.G f caps N xs) {g : Operand} {ps : List Nat} {assign body : Code} {k : List It} {s : St} {Φ : Exit → Act → World → Prop}
    (hev : ev s g = .d (.clo f caps)) {X : Type} (Iv : Nat → X → St) (hps : ∀ t ∈ ps, t < cf.n) (hxs : ∀ n, n < N → (xs n).length = ps.length) (h0 : ∃ x τ, Le cf.U τ s (Iv 0 x))
    (hr : ∀ n x, n < N → ∀ l, run P ⟨cf.n, some l, cf.G, (Iv n x).used⟩ [.code assign] (asg P ⟨cf.n, some l, cf.G, (Iv n x).used⟩ body (rq P cf Φ B0 k (Iv (n + 1)) (Iv n x))) (putP (Iv n x) ps (xs n)))
    (hd : ∀ x, ARY P cf Φ (CI B0) k (Iv N x)) : ARY P cf Φ (CI B0) (.code (.rangeFunc g ps.toArray assign body) :: k) s := by
  obtain ⟨n0, ro, G0, U0⟩ := cf
  simp only at hro
  subst hro
  intro B hB ds β a w hds hCI hs
  refine wpIn_rangeFunc fun fn _ => ?_
  have hg := hs.ev g
  rw [hev] at hg
  obtain ⟨cvs, hsz, hcv, hval⟩ : ∃ cvs : Array Value, cvs.size = caps.length ∧ (∀ i d, caps[i]? = some d → Rep w.heap (s.own B.A β) (cvs.getD i undef) d) ∧ a.eval g = .func (.func f) #[] cvs := by
    have := hg.toD
    generalize a.eval g = v at this
    cases this with
    | clo _ vs _ h1 h2 => exact ⟨vs, h1, h2, rfl⟩
  obtain ⟨W1, hW1⟩ : ∃ W1, (w.alloc (.deferred (some []))).alloc (.loop { state := .ready, pending := none, fn, tmps := a.tmps, params := ps.toArray, assign, body, defers := w.heap.size }) = W1 := ⟨_, rfl⟩
  have hz1 : W1.heap.size = w.heap.size + 2 := by rw [← hW1]; simp
  have hL1 : W1.heap[w.heap.size + 1]? = some (.loop { state := .ready, pending := none, fn, tmps := a.tmps, params := ps.toArray, assign, body, defers := w.heap.size }) := by
    rw [← hW1]
    have := World.alloc_heap_new (w.alloc (.deferred (some []))) (.loop { state := .ready, pending := none, fn, tmps := a.tmps, params := ps.toArray, assign, body, defers := w.heap.size })
    rwa [World.size_alloc] at this
  have hD1 : W1.heap[w.heap.size]? = some (.deferred (some [])) := by
    rw [← hW1]; exact (Below.heap_alloc _ _ _ (by simp)).trans (World.alloc_heap_new w _)
  have hold : ∀ b, b < w.heap.size → W1.heap[b]? = w.heap[b]? := fun b hb => by
    rw [← hW1]; exact (Below.heap_alloc _ _ _ (by simp; omega)).trans (Below.heap_alloc _ _ _ hb)
  have hio1 : wio W1 = wio w := by rw [← hW1]; rfl
  obtain ⟨x0, τ, hle⟩ := h0
  obtain ⟨β0, hs0, hβ0⟩ := hs.le (τ := τ) (by rw [hB.2.1]; exact hle)
  have hBz : B.H0.size ≤ w.heap.size := hs.size
  have hown0 : ∀ b, ownB (Iv 0 x0) β0 b → s.own B.A β b := by
    rintro b ⟨p, k, hp, hk, rfl⟩
    cases ho : (Iv 0 x0).hp p with
    | none => exact absurd ho hp
    | some o =>
      refine .inr ⟨τ p, k, ?_, by rw [← hβ0 p hp]; exact hk, rfl⟩
      rw [(hle.hp p o ho).1]; simp
  -- the caller's side of the rounds
  let D := w.heap.size
  let L := w.heap.size + 1
  let RB : LoopState → Option Code → (Nat → Prop) → World → Prop := fun st pe X W =>
    W.heap[L]? = some (.loop { state := st, pending := pe, fn, tmps := a.tmps, params := ps.toArray, assign, body, defers := D }) ∧ W.heap[D]? = some (.deferred (some [])) ∧ w.heap.size + 2 ≤ W.heap.size ∧ ∀ b, X b → w.heap.size + 2 ≤ b ∧ b < W.heap.size
  obtain ⟨z, hzl, hzw, hzC, hzJ, hzX⟩ : ∃ z : Itz, z.l = L ∧ z.w = W1 ∧ (z.C0 = fun b => B.A b ∨ b = D ∨ b = L ∨ ownB (Iv 0 x0) β0 b) ∧ (z.J = fun n C X W => RB .ready none X W ∧ ∃ x, SS B a.tmps D L C X W (Iv n x)) ∧
      (z.Jx = fun _ C X W => ∃ c s', RB .done (some c) X W ∧ jumpQ P ⟨n0, none, G0, U0⟩ Φ B0 k c s' ∧ SS B a.tmps D L C X W s') := ⟨⟨L, W1, _, _, _⟩, rfl, rfl, rfl, rfl, rfl⟩
  have hRB : ∀ st pe X W X' W', RB st pe X W → Stp W X W' X' → RB st pe X' W' := fun st pe X W X' W' ⟨h1, h2, h3, h4⟩ hst => by
    refine ⟨(hst.same L (lt_of_some h1) (fun hx => by have := (h4 _ hx).1; show False; simp only [L] at this; omega)).trans h1, (hst.same D (lt_of_some h2) (fun hx => by have := (h4 _ hx).1; show False; simp only [D] at this; omega)).trans h2, Nat.le_trans h3 hst.size, fun b hb => ⟨?_, (hst.new b hb).2⟩⟩
    rcases (hst.new b hb).1 with h | h
    · exact (h4 b h).1
    · exact Nat.le_trans h3 h
  have hz : z.Ok P G0 N xs := by
    refine ⟨?_, ?_, ?_, ?_⟩ <;> simp only [hzl, hzw, hzC, hzJ, hzX]
    · rintro b (h | rfl | rfl | h)
      · have := B.hA b h; show b < W1.heap.size; omega
      · show w.heap.size < W1.heap.size; omega
      · show w.heap.size + 1 < W1.heap.size; omega
      · have := hs.own_lt (hown0 b h); show b < W1.heap.size; omega
    · rintro n C X W X' W' ⟨h1, x, h2⟩ hst
      exact ⟨hRB _ _ _ _ _ _ h1 hst, x, h2.stp hst (fun b hb => (h1.2.2.2 b hb).1) (by omega) h1.2.2.1 (lt_of_some h1.2.1) (lt_of_some h1.1)⟩
    · rintro n C X W X' W' ⟨c, s', h1, hj, h2⟩ hst
      exact ⟨c, s', hRB _ _ _ _ _ _ h1 hst, hj, h2.stp hst (fun b hb => (h1.2.2.2 b hb).1) (by omega) h1.2.2.1 (lt_of_some h1.2.1) (lt_of_some h1.1)⟩
    · rintro n C X W vs hn ⟨h1, x, h2⟩ hvs hrep
      obtain ⟨fn', t', as', bd', hy, hrd⟩ := round_ok (B0 := B0) (k := k) (Iv := Iv (n + 1)) (D := D) (L := L) hB hps (hxs n hn) (hr n x hn L) h1.1 (by simp only [D, L]; omega) (by simp only [L]; omega) (by simp only [D]; omega) h1.2.1 h2 hvs hrep
      refine ⟨fn', t', as', bd', hy, hrd.mono ?_⟩
      rintro e W' ⟨C', hc, hD', hq⟩
      have hX : ∀ b, X b → w.heap.size + 2 ≤ b ∧ b < W'.heap.size := fun b hb => ⟨(h1.2.2.2 b hb).1, Nat.lt_of_lt_of_le (h1.2.2.2 b hb).2 hc.2.1⟩
      refine ⟨C', hc, ?_⟩
      rcases hq with ⟨rfl, hl, y, hS⟩ | ⟨rfl, c, s', hl, hj, hS⟩
      · exact .inl ⟨rfl, ⟨hl, hD', Nat.le_trans h1.2.2.1 hc.2.1, hX⟩, y, hS⟩
      · exact .inr ⟨rfl, c, s', ⟨hl, hD', Nat.le_trans h1.2.2.1 hc.2.1, hX⟩, hj, hS⟩
  have hJ0 : z.J 0 z.C0 (fun _ => False) z.w := by
    simp only [hzw, hzC, hzJ]
    refine ⟨⟨hL1, hD1, by show _ ≤ W1.heap.size; omega, fun b hb => hb.elim⟩, x0, ?_⟩
    have hG : ∀ q ∈ B.G, W1.heap[q.1]? = some q.2 ∧ ¬ ownB (Iv 0 x0) β0 q.1 := fun q hq => by
      obtain ⟨g1, g2⟩ := B.hG q hq
      have hlt := lt_of_some g1
      refine ⟨(hold _ (by omega)).trans ((hs.frame _ hlt g2).trans g1), fun hb => ?_⟩
      rcases (hs0.ownB_ok hb).2.2 with h | h
      · omega
      · exact g2 h
    have hA1 : ∀ b, (B.A b ∨ False ∨ b = D ∨ b = L) → b < W1.heap.size := by
      rintro b (h | h | rfl | rfl)
      · have := B.hA b h; omega
      · exact h.elim
      · show w.heap.size < _; omega
      · show w.heap.size + 1 < _; omega
    let B1 : Base := { n := B.n, io := B.io, G := B.G, H0 := W1.heap, O0 := ownB (Iv 0 x0) β0, A := fun b => B.A b ∨ False ∨ b = D ∨ b = L, U0 := B.U0, β0 := B.β0, hG := hG, hA := hA1 }
    refine SS.mk' (B4 := B1) (β5 := β0) ⟨rfl, rfl, rfl, rfl, rfl, by show B.H0.size ≤ W1.heap.size; omega, fun b hb ho => (hold b (by omega)).trans (hs.frame b hb ho), fun b hb ho => ?_, fun b hb => .inl hb⟩ rfl (fun b hb => hb) (fun b => Iff.rfl) ?_
    · rcases (hs0.ownB_ok ho).2.2 with h | h
      · omega
      · exact h
    · refine hs0.mv rfl (hio1.trans hs.io) (Nat.le_refl _) (fun _ _ _ => rfl) (by omega) (fun b hb _ => hold b hb) (fun b hb hc => ?_) (fun p k hp hk => .inr ⟨p, k, hp, hk, rfl⟩) hs0.us hs0.stay
      rcases hc with h | h | h | h
      · exact h
      · exact h.elim
      · simp only [D] at h; omega
      · simp only [L] at h; omega
  have hcaps : ∀ i d, caps[i]? = some d → Rep z.w.heap z.C0 (cvs.getD i undef) d := fun i d hi => (by rw [hzw, hzC]; exact (hcv i d hi).mono (fun b _ hlt => hold b hlt) (fun b hb hc => by
    rcases hc with h | h | h | h
    · exact .inl h
    · simp only [D] at h; omega
    · simp only [L] at h; omega
    · exact hown0 b h))
  have hGz : ∀ q ∈ G0, z.w.heap[q.1]? = some q.2 := fun q hq => by
    obtain ⟨g1, g2⟩ := B.hG q (by rw [hB.2.2]; exact hq)
    have hlt := lt_of_some g1
    rw [hzw]; exact (hold _ (by omega)).trans ((hs.frame _ hlt g2).trans g1)
  have hcall := hit.2 z hz cvs hsz hcaps hJ0 hGz
  rw [hzl, hzw] at hcall
  simp only [hzJ, hzX] at hcall
  refine ⟨L, [mkD D], W1, { target := .fn (.func f) cvs, args := #[.func (.yield L) #[] #[]] }, W1, f, #[.func (.yield L) #[] #[]] ++ cvs, W1, ?_, ?_, fun _ _ => trivial, ?_, fun hdep => by simp [Fw_depth] at hdep, ?_⟩
  · rw [← hW1]; exact run_enterLoop_outer _ _ _ _ _
  · simp only [resolve, hval]
    simp [go_sem]
  · simp [invoke, go_sem, hit.1]
  have hcall' : CallsIn (Fw none) (0 - 1) P f (#[.func (.yield L) #[] #[]] ++ cvs) W1 _ := hcall
  refine hcall'.mono ?_
  rintro e W2 ⟨⟨v, rfl⟩, C, X', hq⟩
  -- behind the loop
  have key : ∀ st pe s', RB st pe X' W2 → SS B a.tmps D L C X' W2 s' → ∃ W4 B5 β5, W4 = W2.putObj L (.loop { state := .exhausted, pending := pe, fn, tmps := a.tmps, params := ps.toArray, assign, body, defers := D }) ∧ CI B0 B5 ([mkD D] ++ a.defers) ∧ (⟨n0, none, G0, U0⟩ : Cf).fits B5 ∧ Sim B5 β5 s' a.tmps W4 := by
    rintro st pe s' ⟨h1, h2, h3, h4⟩ ⟨β', B', hE, hH, hO, hA, hC, hsx⟩
    have hoth : ∀ b, b ≠ L → (W2.putObj L (.loop { state := .exhausted, pending := pe, fn, tmps := a.tmps, params := ps.toArray, assign, body, defers := D })).heap[b]? = W2.heap[b]? := fun b hb => World.putObj_heap_other hb
    have hlt : ∀ b, b < B.H0.size → b ≠ L := fun b hb => by simp only [L]; omega
    have hsz4 : (W2.putObj L (.loop { state := .exhausted, pending := pe, fn, tmps := a.tmps, params := ps.toArray, assign, body, defers := D })).heap.size = W2.heap.size := by simp
    generalize hW4 : W2.putObj L (.loop { state := .exhausted, pending := pe, fn, tmps := a.tmps, params := ps.toArray, assign, body, defers := D }) = W4 at hoth hsz4
    have hio4 : wio W4 = wio W2 := by rw [← hW4]; rfl
    have hG5 : ∀ q ∈ B'.G, W4.heap[q.1]? = some q.2 ∧ ¬ ownB s' β' q.1 := fun q hq => by
      have g0 := lt_of_some (B.hG q (by rw [← hE.G]; exact hq)).1
      have g1 := B'.hG q hq
      exact ⟨(hoth _ (hlt _ g0)).trans (by rw [← hH]; exact g1.1), fun hb => g1.2 ((hO _).2 hb)⟩
    let B5 : Base := { n := B'.n, io := B'.io, G := B'.G, H0 := W4.heap, O0 := ownB s' β', A := B'.A, U0 := B'.U0, β0 := B'.β0, hA := fun b hb => by have := B'.hA b hb; rw [hH] at this; omega, hG := hG5 }
    have hE5 : BExt B B5 := by
      refine ⟨hE.n, hE.io, hE.G, hE.U0, hE.β0, by show B.H0.size ≤ W4.heap.size; omega, fun b hb ho => ?_, fun b hb ho => hE.O0 b hb ((hO b).2 ho), hE.A⟩
      show W4.heap[b]? = _
      rw [hoth b (hlt b hb), ← hH]; exact hE.frame b hb ho
    refine ⟨W4, B5, β', rfl, ⟨hCI.ext.trans hE5, ?_⟩, ⟨hE5.n.trans hB.1, hE5.U0.trans hB.2.1, hE5.G.trans hB.2.2⟩, ?_⟩
    · obtain ⟨Ds, e1, e2, e3⟩ := hCI.mark
      have hAD : B'.A D := (hA D).2 (.inr (.inr (.inl rfl)))
      refine ⟨D :: Ds, by rw [hds, e1]; rfl, List.nodup_cons.2 ⟨fun hm => ?_, e2⟩, fun D' hD' => ?_⟩
      · have := lt_of_some (e3 D hm).1
        simp only [D] at this; omega
      · rcases List.mem_cons.1 hD' with rfl | hm
        · refine ⟨(hoth D (by simp only [D, L]; omega)).trans h2, hAD, Nat.le_trans hCI.ext.size hBz, fun ho => (hsx.ownB_ok ho).2.1 hAD⟩
        · obtain ⟨f1, f2, f3, f4⟩ := e3 D' hm
          have hl := lt_of_some f1
          exact ⟨(hE5.frame D' hl f4).trans f1, hE5.A D' f2, f3, fun ho => f4 (hE5.O0 D' hl ho)⟩
    · exact hsx.mv rfl (hio4.trans hsx.io) (Nat.le_refl _) (fun _ _ _ => rfl) (by omega) (fun b hb hn => hoth b (fun e => hn (e ▸ (hA L).2 (.inr (.inr (.inr rfl)))))) (fun b _ h => h) (fun p k hp hk => .inr ⟨p, k, hp, hk, rfl⟩) hsx.us hsx.stay
  rcases hq with ⟨h1, x, hS⟩ | ⟨n, c, s', h1, hj, hS⟩
  · obtain ⟨W4, B5, β5, e4, hc5, hf5, hs5⟩ := key _ _ _ h1 hS
    refine ⟨none, W4, ?_, ?_⟩
    · rw [e4]; exact run_endLoop h1.1 (by simp)
    · exact hd x B5 hf5 _ β5 { a with defers := [mkD D] ++ a.defers } W4 rfl hc5 hs5
  · obtain ⟨W4, B5, β5, e4, hc5, hf5, hs5⟩ := key _ _ _ h1 hS
    refine ⟨some c, W4, ?_, ?_⟩
    · rw [e4]; exact run_endLoop h1.1 (by simp)
    · rcases hj with ⟨i, rfl, hy⟩ | ⟨rfl, hy⟩
      · exact wpIn_exit (yq_hold' (a := { a with defers := [mkD D] ++ a.defers }) hf5 hc5 rfl hy hs5)
      · exact wpIn_ret (yq_hold' (a := { a with defers := [mkD D] ++ a.defers }) hf5 hc5 rfl hy hs5)
def RH (B0 : Base) (Q : AV → List (Name × Ob) → Prop) (e : Ending) (w : World) : Prop := ∃ v r hp' u' β', e = .returned v ∧ Q r hp' ∧ Sim { B0 with n := 1 } β' (mk [(0, r)] hp' u') #[v] w
def ΦR (P : Program) (fn : Func) (B0 : Base) (Q : AV → List (Name × Ob) → Prop) : Exit → Act → World → Prop := bodyPostM Fence.wide 0 P fn (RH B0 Q)
theorem marks {fn : Func} {tmps : Array Value} {R : Ending → World → Prop} : ∀ (Ds : List Nat) (w : World), Ds.Nodup → (∀ D ∈ Ds, w.heap[D]? = some (.deferred (some []))) →
    (∀ w', w'.heap.size = w.heap.size → wio w' = wio w → (∀ b, b ∉ Ds → w'.heap[b]? = w.heap[b]?) → ∃ v, (results fn tmps).run P w' = .ok v w' ∧ R (.returned v) w') → LeavesInM Fence.wide 0 P fn tmps R (Ds.map mkD) .returning w
  | [], w, _, _, h => h w rfl rfl (fun _ _ => rfl)
  | D :: Ds, w, hn, hd, h => by
    obtain ⟨h1, h2⟩ := List.nodup_cons.1 hn
    have hD := hd D List.mem_cons_self
    refine ⟨by simp, .inl ⟨D, _, rfl, run_takeDeferred hD, marks Ds _ h2 (fun D' hD' => ?_) (fun w' z1 z2 z3 => ?_)⟩⟩
    · have hne : D' ≠ D := fun e => h1 (e ▸ hD')
      exact (World.putObj_heap_other hne).trans (hd D' (List.mem_cons_of_mem _ hD'))
    · refine h w' (by rw [z1]; simp) (z2.trans rfl) (fun b hb => ?_)
      rw [z3 b (fun hm => hb (List.mem_cons_of_mem _ hm))]
      have hne : b ≠ D := fun e => hb (e ▸ List.mem_cons_self)
      exact World.putObj_heap_other hne
theorem CI.back {B0 B : Base} {ds : List Deferred} {β : Name → Option Blk} {s : St} {tm : Array Value} {w : World} (h : CI B0 B ds) (hs : Sim B β s tm w) {fn : Func} {R : Ending → World → Prop}
    (hR : ∀ w', Sim B0 β s tm w' → ∃ v, (results fn tm).run P w' = .ok v w' ∧ R (.returned v) w') : LeavesInM Fence.wide 0 P fn tm R ds .returning w := by
  obtain ⟨Ds, rfl, hn, hd⟩ := h.mark
  refine marks Ds w hn (fun D hD => ?_) (fun w' z1 z2 z3 => hR w' ?_)
  · obtain ⟨f1, f2, f3, f4⟩ := hd D hD
    exact (hs.frame D (lt_of_some f1) f4).trans f1
  · have hz := h.ext.size
    have hz2 := hs.size
    refine hs.mv h.ext.n.symm (z2.trans (hs.io.trans h.ext.io)) (by omega) (fun b hb ho => ?_) (by omega) (fun b hb hna => z3 b (fun hm => hna (hd b hm).2.1)) (fun b _ hb => h.ext.A b hb) (fun p k hp hk => ?_) (by rw [← h.ext.U0]; exact hs.us) (by rw [← h.ext.U0, ← h.ext.β0]; exact hs.stay)
    · rw [z3 b (fun hm => by have := (hd b hm).2.2.1; omega), hs.frame b (by omega) (fun hc => ho (h.ext.O0 b hb hc))]
      exact h.ext.frame b hb ho
    · rcases (hs.blocks p k hp hk).2.2 with g | g
      · exact .inl (by omega)
      · rcases Nat.lt_or_ge k.b B0.H0.size with hlt | hge
        · exact .inr (h.ext.O0 _ hlt g)
        · exact .inl hge
theorem sim_ret {B : Base} {β : Name → Option Blk} {s : St} {tm : Array Value} {w : World} {v : Value} {x : AV} (hsim : Sim B β s tm w) (hv : VR w.heap (s.own B.A β) s.used s.hp β v x) : Sim { B with n := 1 } β (retS s x) #[v] w := by
  refine { tms := rfl, io := hsim.io, size := hsim.size, frame := hsim.frame, slots := fun t => ?_, objs := hsim.objs, blocks := hsim.blocks, inj := hsim.inj, us := hsim.us, stay := hsim.stay }
  show VR w.heap (s.own B.A β) s.used s.hp β _ (if t = 0 then x else .un)
  by_cases ht : t = 0
  · subst ht; rw [if_pos rfl]; exact hv
  · rw [if_neg ht]; exact .un _
theorem X_ret {B0 : Base} {fn : Func} {u : List Nat} {Q : AV → List (Name × Ob) → Prop} {s : St} {e : Exit} (he : e = .ret ∨ e = .normal) (hu : B0.U0 = u) (h : fq P fn.results.toList u Q .ret s) : ARX cf (ΦR P fn { B0 with n := 1 } Q) (CI B0) e s := by
  intro B hB ds β a w hds hc hs
  have : LeavesInM Fence.wide 0 P fn a.tmps (RH { B0 with n := 1 } Q) a.defers .returning w := by
    rw [hds]
    refine hc.back hs (fun w' hs' => ?_)
    obtain ⟨l, v, ⟨r, hp', u', τ, hQ, hle⟩, hr, hv⟩ := run_results hs' fn h
    obtain ⟨β2, hs2, _⟩ := (sim_ret hs' hv).le (τ := τ) (by show Le B0.U0 τ _ _; rw [hu]; exact hle.le)
    exact ⟨v, hr, v, r, hp', u', β2, rfl, hQ, hs2⟩
  rcases he with rfl | rfl <;> exact this
theorem X_retZ {B0 : Base} {fn : Func} {Q : AV → Prop} {s : St} {e : Exit} (he : e = .ret ∨ e = .normal) (hu : B0.U0 = []) (h : pz P fn.results.toList Q .ret s) : ARX cf (ΦR P fn { B0 with n := 1 } fun r hp' => Q r ∧ r.inU [] = true ∧ hp' = []) (CI B0) e s := by
  intro B hB ds β a w hds hc hs
  have : LeavesInM Fence.wide 0 P fn a.tmps (RH { B0 with n := 1 } fun r hp' => Q r ∧ r.inU [] = true ∧ hp' = []) a.defers .returning w := by
    rw [hds]
    refine hc.back hs (fun w' hs' => ?_)
    obtain ⟨l, v, ⟨L, hL, hin, hQ⟩, hr, hv⟩ := run_results hs' fn h
    obtain ⟨s2, hs2, hfr⟩ := frz_slot L _ (sim_ret hs' hv) (Lok_ret (retV l) L s _ rfl hL)
    have hle : LeL ([] : List Nat) id s2 [(0, frzs L (retV l))] [] [] := by
      refine ⟨⟨⟨?_, hin⟩, trivial⟩, trivial, trivial, rfl, trivial⟩
      rw [AV.ren_id id (fun _ => rfl), hfr 0]
      rfl
    obtain ⟨β2, hs3, _⟩ := hs2.le (τ := id) (by show Le B0.U0 id _ _; rw [hu]; exact hle.le)
    exact ⟨v, hr, v, _, _, _, β2, rfl, ⟨hQ, hin, rfl⟩, hs3⟩
  rcases he with rfl | rfl <;> exact this
theorem funR_ok {G : List (Nat × Obj)} {f : FuncId} {fn : Func} {c : Code} {args : List AV} {hp : List (Name × Ob)} {u : List Nat} {Q : AV → List (Name × Ob) → Prop} (hf : P.funcs[f]? = some fn) (hb : fn.body = some c)
    (hnm : (fn.name == "runtime.NumGoroutine") = false) (hn : args.length ≤ fn.ntmps)
    (h : ∀ B0 : Base, B0.U0 = u → ARY P ⟨fn.ntmps, none, G, u⟩ (ΦR P fn { B0 with n := 1 } Q) (CI B0) [.code c] (mk (argsFr 0 args) hp u)) : HCall P G f args hp u Q := by
  refine ⟨enter_run hf hb hnm, fun B β vs w h1 h2 h3 h4 hs => ?_⟩
  have hsz : vs.size = args.length := hs.tms.trans h1
  have hs' : Sim { B with n := fn.ntmps } β (mk (argsFr 0 args) hp u) (vs ++ Array.replicate (fn.ntmps - vs.size) undef) w := by
    refine { hs with tms := by simp; omega, slots := fun t => ?_ }
    have := hs.slots t
    by_cases ht : t < vs.size
    · have e : (vs ++ Array.replicate (fn.ntmps - vs.size) undef).getD t undef = vs.getD t undef := by
        simp [Array.getD_eq_getD_getElem?, Array.getElem?_append, ht]
      rw [e]; exact this
    · have e : (mk (argsFr 0 args) hp u).fr t = .un := by
        rw [mk_fr, argsFr_get, if_pos (Nat.zero_le _), List.getElem?_eq_none (by omega)]; rfl
      rw [e]; exact .un _
  have hrun := h { B with n := fn.ntmps } h3 { B with n := fn.ntmps } ⟨rfl, h3, h4⟩ [] β { tmps := vs ++ Array.replicate (fn.ntmps - vs.size) undef, defers := [] } w rfl ⟨.refl _, [], rfl, List.nodup_nil, fun D hD => by cases hD⟩ hs'
  exact callsIn_of_wp_marks hf hb trivial hrun
theorem LK_mk {s0 : St} {fr : List (Nat × AV)} {hp : List (Name × Ob)} {u : List Nat} (h : ∀ q ∈ hp, nmb s0.used q.1 = true → ∃ o, s0.hp q.1 = some o ∧ o.like q.2) : LK s0 (mk fr hp u) := by
  intro p o' hn ho
  refine h _ (mk_hp_mem ho) ?_
  obtain ⟨a, t, rfl, ha⟩ := hn
  simpa [nmb] using ha
theorem fra_mk (fr fr' : List (Nat × AV)) (hp : List (Name × Ob)) (u u' : List Nat) (hp' : List (Name × Ob)) : (mk fr hp u).fra (mk fr' hp' u').fr = mk fr' hp u := rfl
end
end Go.Ab
namespace Go.Ab
section
variable {P : Program}
theorem HCall.fB {G : List (Nat × Obj)} {f : FuncId} {args : List AV} {hp : List (Name × Ob)} {u : List Nat} {Q Q' : AV → List (Name × Ob) → Prop} (h : HCall P G f args hp u Q) (p : Name) (x : D)
    (hQ : ∀ r hp', Q r hp' → (mk [] hp' []).hp p = some (.box (x.cells.map .d)) ∧ (x.cells.all D.scal) = true ∧ Q' (r.frB p x) ((delA hp' p).map fun q => (q.1, q.2.frB p x))) : HCall P G f args hp u Q' := by
  refine ⟨h.1, fun B β vs W h1 h2 h3 h4 h5 => ?_⟩
  refine (h.2 B β vs W h1 h2 h3 h4 h5).mono ?_
  rintro e w' ⟨v, r, hp', u', β', he, hq, hs⟩
  obtain ⟨g1, g2, g3⟩ := hQ r hp' hq
  have := hs.frB (p := p) (d := x) g1 (List.all_eq_true.1 g2)
  rw [mk_frB] at this
  exact ⟨v, _, _, _, β', he, g3, this⟩
theorem HCall.fA {G : List (Nat × Obj)} {f : FuncId} {args : List AV} {hp : List (Name × Ob)} {u : List Nat} {Q Q' : AV → List (Name × Ob) → Prop} (h : HCall P G f args hp u Q) (p : Name)
    (hQ : ∀ r hp', Q r hp' → ∃ w xs, (mk [] hp' []).hp p = some (.arr w xs) ∧ Q' (r.frz p w xs) ((delA hp' p).map fun q => (q.1, q.2.frz p w xs))) : HCall P G f args hp u Q' := by
  refine ⟨h.1, fun B β vs W h1 h2 h3 h4 h5 => ?_⟩
  refine (h.2 B β vs W h1 h2 h3 h4 h5).mono ?_
  rintro e w' ⟨v, r, hp', u', β', he, hq, hs⟩
  obtain ⟨w, xs, g1, g3⟩ := hQ r hp' hq
  have := hs.frzA (p := p) g1
  rw [mk_frzA] at this
  exact ⟨v, _, _, _, β', he, g3, this⟩
end
section
variable {P : Program} {cf : Cf} {Q : Exit → St → Prop} {s : St} {k : List It}
theorem e_callS (E : Eng P cf Q) {d : Nat} {fv : Operand} {args : Array Operand} {at' : Array TypeId} {ty : TypeId} {pos : String} {af : Array Edge}
    {f : FuncId} {caps : List AV} (σ : Name → Name) (cargs : List AV) (chp : List (Name × Ob)) (cu : List Nat) {Q0 : AV → List (Name × Ob) → Prop} (hc : HCall P cf.G f cargs chp cu Q0)
    (hev : ev s fv = .clo f caps) (hargs : args.toList.map (ev s) ++ caps = renL σ cargs) (hd : d < cf.n ∧ d ∉ s.used) (hcu : inUL cu cargs = true) (hpass : passL σ cu s chp) (hinj : injL σ chp)
    (hk : ∀ r hp', Q0 r hp' → likeM chp hp' ∧ E.run k (aft s σ d chp hp' r)) :
    E.stp { dst := some d, op := .call { callee := .value fv, args := args, argTypes := at' }, type := ty, pos := pos, after := af, guard := none } s k .no := by
  rw [e_stp_no]
  refine call_ok d σ cargs chp cu Q0 hev hargs hcu hd.2 (fun t ht => ?_) hpass hinj hc fun r hp' hr => ?_
  · obtain rfl := Option.some.inj ht
    exact ⟨hd.1, rfl⟩
  · obtain ⟨h1, h2⟩ := hk r hp' hr
    exact ⟨h1, by rw [← E.run_eq]; exact h2⟩
theorem e_thawB (E : Eng P cf Q) {d : Option Nat} {op : Op} {ty : TypeId} {ps : String} {af : Array Edge} (p : Name) (j n : Nat) (w : W) (cs : List AV) (hp : s.hp p = some (.box cs)) (hj : cs[j]? = some (.d .nils)) (hn : n ∉ s.used) {s' : St} (he : (s.add n (.arr w [])).set p (some (.box (cs.set j (.vw [n] 0 0)))) = s')
    (h : E.stp { dst := d, op := op, type := ty, pos := ps, after := af, guard := none } s' k (opR P.ti cf.n op d s')) : E.stp { dst := d, op := op, type := ty, pos := ps, after := af, guard := none } s k .no := by
  subst he
  rw [e_stp_no]
  rw [E.stp_eq] at h
  have h0 := aok_of_stp (o := { dst := d, op := op, type := ty, pos := ps, after := af, guard := none }) rfl h
  intro B hB ds β a w' hds hs
  have h1 := hs.addNone hn none w
  have hpn : p ≠ [n] := nm_ne (hs.objs p _ hp).1 hn
  refine h0 B hB ds _ a w' hds (h1.rebox (cs := cs) (by simpa [St.add, updP, hpn] using hp) (by simp) fun v i x x' hx hx' hv => ?_)
  by_cases e : j = i
  · subst e
    rw [hj] at hx
    cases hx
    rw [List.getElem?_set] at hx'
    simp at hx'
    obtain ⟨_, rfl⟩ := hx'
    exact vw_nils (w := w) ⟨n, [], rfl, List.mem_cons_self⟩ (by simp [St.add, updP]) hv
  · rw [List.getElem?_set_ne e, hx] at hx'
    cases hx'
    exact hv
end
section
variable {P : Program} {cf : Cf} {Q : Exit → St → Prop} {s : St} {k : List It} {κ : Type} [DecidableEq κ] {ke : κ → D} {kv : κ → Value}
end
section
variable {P : Program} {cf : Cf} {ops : Array Oper} {K : St → Ns → Prop} {s : St} {r : List Oper} {ns : Ns}
end
section
variable {P : Program} {cf : Cf} {Φ : Exit → Act → World → Prop} {I : Base → List Deferred → Prop} {k : List It} {s : St}
theorem Y_thawB (p : Name) (j n : Nat) (w : W) (cs : List AV) (hp : s.hp p = some (.box cs)) (hj : cs[j]? = some (.d .nils)) (hn : n ∉ s.used) (h : ARY P cf Φ I k ((s.add n (.arr w [])).set p (some (.box (cs.set j (.vw [n] 0 0)))))) : ARY P cf Φ I k s := by
  intro B hB ds β a w' hds hi hs
  have h1 := hs.addNone hn none w
  have hpn : p ≠ [n] := nm_ne (hs.objs p _ hp).1 hn
  refine h B hB ds _ a w' hds hi (h1.rebox (cs := cs) (by simpa [St.add, updP, hpn] using hp) (by simp) fun v i x x' hx hx' hv => ?_)
  by_cases e : j = i
  · subst e
    rw [hj] at hx
    cases hx
    rw [List.getElem?_set] at hx'
    simp at hx'
    obtain ⟨_, rfl⟩ := hx'
    exact vw_nils (w := w) ⟨n, [], rfl, List.mem_cons_self⟩ (by simp [St.add, updP]) hv
  · rw [List.getElem?_set_ne e, hx] at hx'
    cases hx'
    exact hv
def lkO : Option Ob → Ob → Prop
  | some o, o' => o.like o'
  | none, _ => False
theorem lkO_some (o o' : Ob) : lkO (some o) o' = o.like o' := rfl
def LKL (s0 : St) : List (Name × Ob) → Prop
  | [] => True
  | q :: r => (nmb s0.used q.1 = true → lkO (s0.hp q.1) q.2) ∧ LKL s0 r
theorem LKL_mem {s0 : St} : ∀ {l : List (Name × Ob)}, LKL s0 l → ∀ q ∈ l, nmb s0.used q.1 = true → ∃ o, s0.hp q.1 = some o ∧ o.like q.2
  | [], _, q, h, _ => by cases h
  | _ :: r, h, q, hq, hn => by
    rcases List.mem_cons.1 hq with rfl | hq
    · have := h.1 hn
      cases ho : s0.hp q.1 with
      | none => rw [ho] at this; exact this.elim
      | some o => rw [ho] at this; exact ⟨o, rfl, this⟩
    · exact LKL_mem h.2 q hq hn
theorem rq_mk {B0 : Base} {X : Type} {Iv : X → St} {fr0 fr : List (Nat × AV)} {hp0 hp : List (Name × Ob)} {u0 u : List Nat} {fr' : List (Nat × AV)} {hp' : List (Name × Ob)} {u' : List Nat} (hl : LKL (mk fr0 hp0 u0) hp) (y : X) (τ : Name → Name) (hy : Iv y = mk fr' hp' u') (hle : LeL cf.U τ (mk fr0 hp u) fr' hp' u') :
    rq P cf Φ B0 k Iv (mk fr0 hp0 u0) .normal (mk fr hp u) := ⟨LK_mk (LKL_mem hl), y, τ, by rw [hy]; exact hle.le⟩
theorem putP_cons (s : St) (t : Nat) (ts : List Nat) (d : D) (ds : List D) : putP s (t :: ts) (d :: ds) = putP (s.put t (.d d)) ts ds := rfl
theorem putP_nil (s : St) (ds : List D) : putP s [] ds = s := by cases ds <;> rfl
theorem nbeq_cons (a b : Nat) (l m : List Nat) : ((a :: l) == (b :: m)) = (a == b && l == m) := rfl
theorem nbeq_nn : (([] : List Nat) == []) = true := rfl
theorem nbeq_nc (b : Nat) (m : List Nat) : (([] : List Nat) == b :: m) = false := rfl
theorem nbeq_cn (b : Nat) (m : List Nat) : (b :: m == ([] : List Nat)) = false := rfl
attribute [go_sem] nbeq_cons nbeq_nn nbeq_nc nbeq_cn Bool.false_and Bool.and_false Bool.true_and Bool.and_true Bool.or_self Bool.and_self nilR LKL lkO_some putP_cons putP_nil
end
section
variable {P : Program} {cf : Cf} {ops : Array Oper} {K : St → Ns → Prop} {s : St} {r : List Oper} {ns : Ns}
end
end Go.Ab
namespace Go.Ab
section
variable {P : Program} {cf : Cf} {ops opsP : Array Oper}
theorem tail_any {ro : Option Nat} {Q : Exit → Act → World → Prop} {m : Nat} (haft : ∀ i o, ops[i]? = some o → ∀ e ∈ o.after, Region.binds .any e = true → e.on < i) (htl : ∀ j i, m ≤ j → j < ops.size → i < j → Anc ops j i) :
    ∀ (d j fuel : Nat) (listed : Array Bool) (a : Act) (w : World), j + d = ops.size → m ≤ j → d ≤ fuel → Up ops listed (List.range j) → wpOpsIn (Fw ro) 0 P ops Q (List.range' j d) a w → wpAnyIn (Fw ro) 0 P .any ops Q fuel listed a w := by
  intro d
  induction d with
  | zero =>
    intro j fuel listed a w hj hmj hf hu h
    have hr : Region.ready .any ops listed = [] := by
      apply List.eq_nil_iff_forall_not_mem.2
      intro i hi
      obtain ⟨h0, o, ho, _⟩ := mem_ready.1 hi
      have hlt : i < ops.size := by
        rcases Nat.lt_or_ge i ops.size with hlt | hge
        · exact hlt
        · rw [Array.getElem?_eq_none hge] at ho; cases ho
      have h3 := (hu.mem i hlt).2 (List.mem_range.2 (by omega))
      simp [h3] at h0
    cases fuel with
    | zero => exact ⟨hr, h⟩
    | succ fuel => exact ⟨fun _ => h, fun i hi => by rw [hr] at hi; cases hi⟩
  | succ d ih =>
    intro j fuel listed a w hj hmj hf hu h
    cases fuel with
    | zero => omega
    | succ fuel =>
      have hjl : j < ops.size := by omega
      obtain ⟨o, ho⟩ : ∃ o, ops[j]? = some o := ⟨ops[j], by simp⟩
      have hjr : j ∈ Region.ready .any ops listed := by
        rw [mem_ready]
        refine ⟨?_, o, ho, fun e he hb => ?_⟩
        · have := hu.mem j hjl
          have hl : j < listed.size := by rw [hu.size]; exact hjl
          cases hv : listed[j] with
          | true =>
            have := List.mem_range.1 (this.1 (by simp [hl, hv]))
            omega
          | false => simp [hl, hv]
        · have h2 := haft j o ho e he hb
          have h3 := (hu.mem e.on (by omega)).2 (List.mem_range.2 h2)
          simp [h3]
      refine ⟨fun hr => (by rw [hr] at hjr; cases hjr), fun i hi => ?_⟩
      obtain ⟨h0, oi, hoi, hw⟩ := mem_ready.1 hi
      have hlt : i < ops.size := by
        rcases Nat.lt_or_ge i ops.size with hlt | hge
        · exact hlt
        · rw [Array.getElem?_eq_none hge] at hoi; cases hoi
      have hij : i = j := by
        rcases Nat.lt_trichotomy i j with g | g | g
        · have h3 := (hu.mem i hlt).2 (List.mem_range.2 g)
          simp [h3] at h0
        · exact g
        · have hwL : ∀ e ∈ oi.after, Region.binds .any e = true → e.on ∈ List.range j := fun e he hb => by
            have h1 := hw e he hb
            have h2 := haft i oi hoi e he hb
            refine (hu.mem e.on (by omega)).1 ?_
            have hl : e.on < listed.size := by rw [hu.size]; omega
            simp [hl] at h1
            simp [hl, h1]
          have := List.mem_range.1 (anc_ready hu hoi hwL (htl i j (by omega) hlt g))
          omega
      subst hij
      rw [List.range'_succ, wpOpsIn_cons] at h
      refine wpOpIn_mono (fun a' w' h' => ih (i + 1) fuel _ a' w' (by omega) (by omega) (by omega) ?_ h') h
      refine ⟨by simpa using hu.size, fun x hx => ?_, fun x hx => by have := List.mem_range.1 hx; omega, fun x hx o' ho' e he hb => ?_⟩
      · have hl : i < listed.size := by rw [hu.size]; exact hlt
        by_cases hij : i = x
        · subst hij; simp [hl]
        · rw [Array.getElem?_setIfInBounds_ne hij, hu.mem x hx, List.mem_range, List.mem_range]
          omega
      · have h2 := haft x o' ho' e he hb
        have := List.mem_range.1 hx
        exact List.mem_range.2 (by omega)
variable {ns : Ns} {xs : Nat → AV} {fs : Nat → Fp} {s : St}
theorem anyE2 (hq : chk opsP ns = true) (hns : ∀ i, i < opsP.size → ns.getD i ([], [], []) = fpN (fs i)) {B : Base} (hB : cf.fits B) {ds : List Deferred} {Q : Exit → Act → World → Prop}
    (hlt0 : opsP.size < ops.size) (hpre : ∀ i, i < opsP.size → ops[i]? = opsP[i]?) (hgd : ∀ (i : Nat) (o : Oper), opsP[i]? = some o → o.guard = none)
    (haft : ∀ i o, ops[i]? = some o → ∀ e ∈ o.after, Region.binds .any e = true → e.on < i) (htl : ∀ j i, opsP.size ≤ j → j < ops.size → i < j → Anc ops j i)
    (hall : ∀ j o, opsP[j]? = some o → FactE P cf opsP j o (layE opsP xs fs (List.range' 0 (j - 0)) s) (xs j) (fs j))
    (hK : ∀ β a w, a.defers = ds → Sim B β (layE opsP xs fs (List.range' 0 opsP.size) s) a.tmps w → wpOpsIn (Fw cf.ro) 0 P ops Q (List.range' opsP.size (ops.size - opsP.size)) a w) :
    ∀ (fuel : Nat) (listed listedP : Array Bool) (L : List Nat) (s' : St) (β : Name → Option Blk) (a : Act) (w : World), Up ops listed L → Up opsP listedP L → L.Nodup → ops.size ≤ fuel + L.length → a.defers = ds → OKE opsP xs fs s L s' → Sim B β s' a.tmps w →
      wpAnyIn (Fw cf.ro) 0 P .any ops Q fuel listed a w := by
  intro fuel
  induction fuel with
  | zero =>
    intro listed listedP L s' β a w hu huP hnd hn hds hL hs
    have := nodup_len opsP.size L hnd huP.lt
    omega
  | succ fuel ih =>
    intro listed listedP L s' β a w hu huP hnd hn hds hL hs
    have full : (∀ j, j < opsP.size → j ∈ L) → wpAnyIn (Fw cf.ro) 0 P .any ops Q (fuel + 1) listed a w := by
      intro hfull
      obtain ⟨⟨e1, e2⟩, e3⟩ := sched_fin hq hL huP.lt hfull
      have h1 := hK β a w hds (hs.reuse e1.symm e2.symm e3)
      have hmem : ∀ j, j ∈ L ↔ j < opsP.size := fun j => ⟨huP.lt j, hfull j⟩
      have hlen := nodup_len opsP.size L hnd huP.lt
      refine tail_any haft htl (ops.size - opsP.size) opsP.size (fuel + 1) listed a w (by omega) (Nat.le_refl _) (by omega) ?_ h1
      exact ⟨hu.size, fun j hj => by rw [hu.mem j hj, hmem, List.mem_range], fun j hj => by have := List.mem_range.1 hj; omega, fun j hj o ho e he hb => by
        have := haft j o ho e he hb
        have := List.mem_range.1 hj
        exact List.mem_range.2 (by omega)⟩
    by_cases hfull : ∀ j, j < opsP.size → j ∈ L
    · exact full hfull
    have hmiss : ∃ j, j < opsP.size ∧ j ∉ L := by
      apply Decidable.byContradiction
      intro h
      exact hfull fun j hj => Decidable.byContradiction fun hn => h ⟨j, hj, hn⟩
    obtain ⟨j0, hj0, hj0L⟩ := hmiss
    refine ⟨fun hr => ?_, fun i hi => ?_⟩
    · exfalso
      have key : ∀ j, j < opsP.size → j ∈ L := by
        intro j
        induction j using Nat.strongRecOn with
        | ind j ih2 =>
          intro hlt
          apply Decidable.byContradiction
          intro hn2
          have hjo : j < ops.size := by omega
          obtain ⟨o, ho⟩ : ∃ o, ops[j]? = some o := ⟨ops[j], by simp⟩
          have : j ∈ Region.ready .any ops listed := by
            rw [mem_ready]
            refine ⟨?_, o, ho, fun e he hb => ?_⟩
            · have := hu.mem j hjo
              have hl : j < listed.size := by rw [hu.size]; exact hjo
              cases hv : listed[j] with
              | true => exact absurd (this.1 (by simp [hl, hv])) hn2
              | false => simp [hl, hv]
            · have h2 := haft j o ho e he hb
              have h3 := (hu.mem e.on (by omega)).2 (ih2 e.on h2 (by omega))
              simp [h3]
          rw [hr] at this; cases this
      exact hj0L (key j0 hj0)
    · obtain ⟨h0, o, ho, hw⟩ := mem_ready.1 hi
      have hlt : i < ops.size := by
        rcases Nat.lt_or_ge i ops.size with hlt | hge
        · exact hlt
        · rw [Array.getElem?_eq_none hge] at ho; cases ho
      have hiL : i ∉ L := fun h => by
        have h3 := (hu.mem i hlt).2 h
        simp [h3] at h0
      have hwL : ∀ e ∈ o.after, Region.binds .any e = true → e.on ∈ L := fun e he hb => by
        have h1 := hw e he hb
        have h2 := haft i o ho e he hb
        refine (hu.mem e.on (by omega)).1 ?_
        have hl : e.on < listed.size := by rw [hu.size]; omega
        simp [hl] at h1
        simp [hl, h1]
      have hiP : i < opsP.size := by
        apply Decidable.byContradiction
        intro hge
        exact hj0L (anc_ready hu ho hwL (htl i j0 (by omega) hlt (by omega)))
      have hoP : opsP[i]? = some o := by rw [← hpre i hiP]; exact ho
      have hd : dstOf opsP i = o.dst := by simp [dstOf, hoP]
      have hg := hgd i o hoP
      have hconv : ∀ K a w, wpOpIn (Fw cf.ro) 0 P opsP Q i K a w → wpOpIn (Fw cf.ro) 0 P ops Q i K a w := fun K a w h => by
        simp only [wpOpIn, hoP, ho, Region.wanted, hg, if_true] at h ⊢
        exact h
      refine hconv _ _ _ (wpOpIn_mono (fun a' w' ⟨hd', β', hs'⟩ => ih (listed.setIfInBounds i true) (listedP.setIfInBounds i true) (L ++ [i]) _ β' a' w' ?_ ?_ ?_ ?_ hd' (hd ▸ hL.snoc ?_) hs') ((hall i o hoP).2 _ (sched_agr hq hns huP hL hoP hiL hwL (hall i o hoP).1) B hB ds β a w hds hs Q))
      · refine ⟨by simpa using hu.size, fun j hj => ?_, fun j hj => ?_, fun j hj o' ho' e he hb => ?_⟩
        · have hl : j < listed.size := by rw [hu.size]; exact hj
          by_cases hij : i = j
          · subst hij; simp [hl]
          · rw [Array.getElem?_setIfInBounds_ne hij, hu.mem j hj]
            simp [Ne.symm hij]
        · rcases List.mem_append.1 hj with hj | hj
          · exact hu.lt j hj
          · rw [List.mem_singleton.1 hj]; exact hlt
        · rcases List.mem_append.1 hj with hj | hj
          · exact List.mem_append_left _ (hu.closed j hj o' ho' e he hb)
          · rw [List.mem_singleton.1 hj, ho] at ho'
            cases ho'
            exact List.mem_append_left _ (hwL e he hb)
      · refine ⟨by simpa using huP.size, fun j hj => ?_, fun j hj => ?_, fun j hj o' ho' e he hb => ?_⟩
        · have hl : j < listedP.size := by rw [huP.size]; exact hj
          by_cases hij : i = j
          · subst hij; simp [hl]
          · rw [Array.getElem?_setIfInBounds_ne hij, huP.mem j hj]
            simp [Ne.symm hij]
        · rcases List.mem_append.1 hj with hj | hj
          · exact huP.lt j hj
          · rw [List.mem_singleton.1 hj]; exact hiP
        · rcases List.mem_append.1 hj with hj | hj
          · exact List.mem_append_left _ (huP.closed j hj o' ho' e he hb)
          · rw [List.mem_singleton.1 hj, hoP] at ho'
            cases ho'
            exact List.mem_append_left _ (hwL e he hb)
      · rw [List.nodup_append]
        exact ⟨hnd, by simp, fun x hx y hy => by rw [List.mem_singleton.1 hy]; rintro rfl; exact hiL hx⟩
      · simp only [List.length_append, List.length_singleton]; omega
      · intro k hk p o1 o2 h1 h2
        have hne : i ≠ k := fun e => hiL (e ▸ hk)
        rcases wr_bef hq hns hiP (huP.lt k hk) hne h1 (.inr ⟨o2, h2⟩) with ⟨h3, _⟩ | ⟨_, h4⟩
        · omega
        · exact absurd (anc_closed huP h4 hk) hiL
def tailOk (ops : Array Oper) (m : Nat) : Bool :=
  let A := ancs [] ops.toList
  ((List.range ops.size).all fun i => match ops[i]? with
    | some o => o.after.toList.all fun e => !Region.binds .any e || decide (e.on < i)
    | none => true) &&
  (List.range ops.size).all fun j => decide (j < m) || (List.range j).all fun i => (A.getD j []).contains i
theorem tailOk_aft {m : Nat} (h : tailOk ops m = true) : ∀ i o, ops[i]? = some o → ∀ e ∈ o.after, Region.binds .any e = true → e.on < i := by
  intro i o ho e he hb
  have hi : i < ops.size := by
    rcases Nat.lt_or_ge i ops.size with hlt | hge
    · exact hlt
    · rw [Array.getElem?_eq_none hge] at ho; cases ho
  simp only [tailOk, Bool.and_eq_true] at h
  have h2 := List.all_eq_true.1 h.1 i (List.mem_range.2 hi)
  simp only [ho] at h2
  have h3 := List.all_eq_true.1 h2 e (Array.mem_toList_iff.2 he)
  simpa [hb] using h3
theorem tailOk_anc {m : Nat} (h : tailOk ops m = true) : ∀ j i, m ≤ j → j < ops.size → i < j → Anc ops j i := by
  intro j i hm hj hi
  simp only [tailOk, Bool.and_eq_true] at h
  have h2 := List.all_eq_true.1 h.2 j (List.mem_range.2 hj)
  simp only [Bool.or_eq_true, decide_eq_true_eq] at h2
  have h3 := h2.resolve_left (by omega)
  have h4 := List.all_eq_true.1 h3 i (List.mem_range.2 hi)
  exact ancs_sound (ops := ops) ops.toList [] (fun j => by simp) (fun i k hk => by simp at hk) _ _ (by simpa using h4)
theorem region_xt {id : Nat} {l q : List Oper} {s : St} {k : List It} {Q : Exit → St → Prop} (hm : P.follows .mixedOrders = true) (hq0 : q ≠ []) (hg : (l.all fun o => o.guard.isNone) = true) (ht : tailOk (l ++ q).toArray l.length = true)
    (h : xrun P cf l.toArray (fun s' ns => chk l.toArray ns = true ∧ run P cf (.ops (l ++ q).toArray q :: k) Q s') l s []) : ACk P cf (.region id (l ++ q).toArray true) s k Q := by
  obtain ⟨xs, fs, ⟨hq, hK⟩, hall⟩ := xrun_facts (ops := l.toArray) l 0 s [] (fun j => by simp) h
  intro B hB ds β a w hds hs
  refine wpIn_region_any hm ?_
  have hns : ∀ i, i < l.toArray.size → (([] : Ns) ++ (List.range' 0 l.length).map fun j => fpN (fs j)).getD i ([], [], []) = fpN (fs i) := by
    intro i hi
    have hi : i < l.length := by simpa using hi
    simp [hi]
  have hql : 0 < q.length := List.length_pos_iff.2 hq0
  refine anyE2 (ops := (l ++ q).toArray) (opsP := l.toArray) hq hns hB (ds := ds) (by simp; omega) (fun i hi => ?_) (fun i o ho => ?_) (tailOk_aft ht) (by simpa using tailOk_anc ht) (fun j o ho => hall j o (Nat.zero_le _) ho) (fun β a w hds hs => ?_) _ _ (Array.replicate l.toArray.size false) [] s β a _ ?_ ?_ List.nodup_nil (by simp) hds (.nil _ _ _) (hs.heap_eq rfl rfl)
  · have hi : i < l.length := by simpa using hi
    simp [List.getElem?_append_left, hi]
  · have hi : i < l.length := by
      have := (Array.getElem?_eq_some_iff.1 ho).1
      simpa using this
    have hm2 : o ∈ l := by
      have : l[i]? = some o := by simpa using ho
      exact List.mem_of_getElem? this
    have := List.all_eq_true.1 hg o hm2
    simpa using this
  · refine run_ok hK B hB ds β a w hds (by simpa using hs) _ ?_
    apply List.ext_getElem?
    intro j
    simp only [List.getElem?_map, List.size_toArray, List.length_append]
    by_cases hj : j < q.length
    · rw [List.getElem?_range' (by omega)]
      simp [hj]
    · simp [hj]
  · refine ⟨by simp, fun j hj => ?_, by simp, by simp⟩
    have hj : j < l.length + q.length := by simpa using hj
    simp [hj]
  · refine ⟨by simp, fun j hj => ?_, by simp, by simp⟩
    have hj : j < l.length := by simpa using hj
    simp [hj]
theorem region_xvt (n : Nat) {id : Nat} {l p q : List Oper} {s : St} {k : List It} {Q : Exit → St → Prop} (hm : P.follows .mixedOrders = true) (E0 : Eng P cf Q) (htd : l.take n = p) (hqd : l.drop n = q) (hq0 : q.isEmpty = false) (hg : (p.all fun o => o.guard.isNone) = true) (ht : tailOk l.toArray p.length = true)
    (h : ∀ E : XEng P cf p.toArray (fun s' ns => chk p.toArray ns = true ∧ E0.run (.ops l.toArray q :: k) s'), E.run p s []) : CodeE E0 (.region id l.toArray true) s k := by
  have e0 : p ++ q = l := by rw [← htd, ← hqd]; exact List.take_append_drop n l
  have key := region_xt (P := P) (cf := cf) (id := id) (l := p) (q := q) (s := s) (k := k) (Q := Q) hm (by intro e; rw [e] at hq0; cases hq0) hg (by rw [e0]; exact ht)
  rw [e0] at key
  refine key ?_
  have e : (fun s' ns => chk p.toArray ns = true ∧ E0.run (.ops l.toArray q :: k) s') = fun s' ns => chk p.toArray ns = true ∧ run P cf (.ops l.toArray q :: k) Q s' := by funext s' ns; rw [E0.run_eq]
  obtain ⟨E⟩ := xeng_ex P cf p.toArray (fun s' ns => chk p.toArray ns = true ∧ E0.run (.ops l.toArray q :: k) s')
  have := h E
  rw [E.run_eq, e] at this
  exact this
end
end Go.Ab
namespace Go.Ab
section
variable {P : Program} {cf : Cf}
structure DI (B0 : Base) (g : Nat) (ns : List Name) (B : Base) (ds : List Deferred) : Prop where
  ci : ∃ B1, CI B0 B1 [] ∧ B.n = B1.n ∧ B.io = B1.io ∧ B.H0 = B1.H0 ∧ (∀ b, B.O0 b ↔ B1.O0 b) ∧ B.A = B1.A ∧ (∀ x ∈ B1.U0, x ∈ B.U0) ∧ ∀ p, nm B1.U0 p → B.β0 p = B1.β0 p
  df : ∃ caps : Array Value, ds = [{ target := .fn (.func g) caps, args := #[] }] ∧ caps.size = ns.length ∧ ∀ i p, ns[i]? = some p → nm B.U0 p ∧ (caps.getD i undef).oneCell' = true ∧ ∃ k, B.β0 p = some k ∧ k.o = 0 ∧ caps.getD i undef = .pointer (some ⟨k.b, 0, none⟩)
theorem hold_U {u : List Nat} {Φ : Exit → Act → World → Prop} : ∀ (k : List It), hold P { cf with U := u } Φ k = hold P cf Φ k
  | [] => rfl
  | .code c :: k => by
    funext e a w
    cases e <;> simp only [hold, hold_U k]
  | .ops all r :: k => by
    funext e a w
    cases e <;> simp only [hold, hold_U k]
  | .blk i :: k => by
    funext e a w
    cases e <;> simp only [hold, hold_U k]
theorem Y_defer {B0 : Base} {Φ : Exit → Act → World → Prop} {k : List It} {s : St} {all : Array Oper} {fv : Operand} {at' : Array TypeId} {ty : TypeId} {pos : String} {af : Array Edge} {r : List Oper} {g : Nat} (ns : List Name) (hro : cf.ro = none)
    (hev : ev s fv = .clo g (ns.map fun p => .at p 0)) (hbx : ∀ p ∈ ns, ∃ cs, s.hp p = some (.box cs))
    (h : ARY P { cf with U := s.used } Φ (DI B0 g ns) (.ops all r :: k) s) :
    ARY P cf Φ (fun B ds => CI B0 B ds ∧ ds = []) (.ops all ({ dst := none, op := .defer { callee := .value fv, args := #[], argTypes := at' }, type := ty, pos := pos, after := af, guard := none } :: r) :: k) s := by
  intro B hB ds β a w hds hI hs l hl
  obtain ⟨hI, rfl⟩ := hI
  cases l with
  | nil => simp at hl
  | cons i l =>
    simp only [List.map_cons, List.cons.injEq] at hl
    obtain ⟨hi, hl⟩ := hl
    simp only [wpOpsIn, hi, Region.wanted, if_true]
    have hf := hs.ev fv
    rw [hev] at hf
    obtain ⟨vs, hfv, hvs, hvr⟩ : ∃ vs : Array Value, a.eval fv = .func (.func g) #[] vs ∧ vs.size = ns.length ∧ ∀ i p, ns[i]? = some p → VR w.heap (s.own B.A β) s.used s.hp β (vs.getD i undef) (.at p 0) := by
      generalize a.eval fv = v at hf
      cases hf with
      | clo f vs cs h1 h2 => exact ⟨vs, rfl, by simpa using h1, fun i p hp => h2 i _ (by rw [List.getElem?_map, hp]; rfl)⟩
    refine ⟨fun _ _ => trivial, ?_⟩
    have hrun : (execOp a.eval { dst := none, op := .defer { callee := .value fv, args := #[], argTypes := at' }, type := ty, pos := pos, after := af, guard := none } : Sem Next).run P w = .ok (.defer { target := .fn (.func g) vs, args := #[] }) w := by
      simp only [execOp, resolve, hfv, Deferred.ofValue, Sem.run_bind, Sem.run_pure, Result.andThen_ok, Array.map_empty, Array.append_empty]
    rw [show (Fw cf.ro).round = none by rw [hro]; rfl, Oper.semAt_none, hrun, Oper.uponIn_defer]
    let B' : Base := { n := B.n, io := B.io, G := B.G, H0 := B.H0, O0 := B.O0, A := B.A, U0 := s.used, β0 := β, hA := B.hA, hG := B.hG }
    have hs' : Sim B' β s a.tmps w := hs.mv rfl hs.io hs.size hs.frame (Nat.le_refl _) (fun _ _ _ => rfl) (fun _ _ h => h) (fun p k hp hk => (hs.blocks p k hp hk).2.2) (fun _ h => h) (fun _ _ => rfl)
    rw [← hold_U (u := s.used) k]
    refine h B' ⟨hB.1, rfl, hB.2.2⟩ _ β { a with defers := { target := .fn (.func g) vs, args := #[] } :: a.defers } w (by show _ :: a.defers = _; rw [hds]) ⟨⟨B, hI, rfl, rfl, rfl, fun _ => Iff.rfl, rfl, hs.us, hs.stay⟩, vs, rfl, hvs, fun i p hp => ?_⟩ hs' l hl
    have hv := hvr i p hp
    obtain ⟨cs, hcs⟩ := hbx p (List.mem_of_getElem? hp)
    generalize hx : vs.getD i undef = x at hv
    cases hv with
    | «at» _ _ _ hn h1 h2 =>
      obtain ⟨k, hk, h0, hv⟩ := h2 _ cs hcs
      exact ⟨hn, h1, k, hk, h0, hv⟩
theorem X_retD {B0 : Base} {fn gfn : Func} {g : Nat} {gc : Code} {ns : List Name} {u : List Nat} {Q : AV → List (Name × Ob) → Prop} {s : St} {e : Exit} (he : e = .ret ∨ e = .normal) (hu : B0.U0 = u)
    (hgf : P.funcs[g]? = some gfn) (hgb : gfn.body = some gc) (hnm : (gfn.name == "runtime.NumGoroutine") = false) (hgn : ns.length ≤ gfn.ntmps) (hns : ∀ p ∈ ns, nmb s.used p = true)
    (hg : run P ⟨gfn.ntmps, none, cf.G, s.used⟩ [.code gc] (fun e s2 => (e = .ret ∨ e = .normal) ∧ LK s s2 ∧ RX (resR P s2 gfn.results.toList) (fun _ => True) ∧ fq P fn.results.toList u Q .ret (s2.fra s.fr)) (s.fra (mk (argsFr 0 (ns.map fun p => AV.at p 0)) [] []).fr)) :
    ARX cf (ΦR P fn { B0 with n := 1 } Q) (DI B0 g ns) e s := by
  intro B hB ds β a w hds hI hs
  obtain ⟨⟨B1, hc, i1, i2, i4, i5, i6, i7, i8⟩, caps, rfl, hcs, hcap⟩ := hI
  have hB1G : B1.G = B0.G := hc.ext.G
  have : LeavesInM Fence.wide 0 P fn a.tmps (RH { B0 with n := 1 } Q) a.defers .returning w := by
    rw [hds]
    refine ⟨by simp, .inr ⟨fun h => by simp [Fence.wide] at h, _, _, g, #[] ++ caps, rfl, ?_, fun _ _ => trivial, ?_⟩⟩
    · exact enter_run hgf hgb hnm _ _
    have hGg : ∀ q ∈ B.G, w.heap[q.1]? = some q.2 ∧ ¬ ownB s β q.1 := by
      intro q hq
      obtain ⟨g1, g2⟩ := B.hG q hq
      have hlt := lt_of_some g1
      refine ⟨(hs.frame _ hlt g2).trans g1, fun hb => ?_⟩
      rcases (hs.ownB_ok hb).2.2 with h | h
      · omega
      · exact g2 h
    let Bg : Base := { n := gfn.ntmps, io := B.io, G := B.G, H0 := w.heap, O0 := ownB s β, A := B.A, U0 := s.used, β0 := β, hA := fun b hb => Nat.lt_of_lt_of_le (B.hA b hb) hs.size, hG := hGg }
    have hsg : Sim Bg β (s.fra (mk (argsFr 0 (ns.map fun p => AV.at p 0)) [] []).fr) ((#[] ++ caps) ++ Array.replicate (gfn.ntmps - (#[] ++ caps).size) undef) w := by
      refine { tms := by show (_ : Array Value).size = gfn.ntmps; simp; omega, io := hs.io, size := Nat.le_refl _, frame := fun _ _ _ => rfl, slots := fun t => ?_, objs := hs.objs, blocks := fun p k hp hk => ⟨(hs.blocks p k hp hk).1, (hs.blocks p k hp hk).2.1, .inr ⟨p, k, hp, hk, rfl⟩⟩, inj := hs.inj, us := fun _ h => h, stay := fun _ _ => rfl }
      show VR w.heap (s.own B.A β) s.used s.hp β _ ((mk (argsFr 0 (ns.map fun p => AV.at p 0)) [] []).fr t)
      rw [mk_fr, argsFr_get, if_pos (Nat.zero_le _), Nat.sub_zero, List.getElem?_map]
      cases hp : ns[t]? with
      | none => exact .un _
      | some p =>
        obtain ⟨c1, c2, k, c3, c4, c5⟩ := hcap t p hp
        have hlt : t < caps.size := by rw [hcs]; exact (List.getElem?_eq_some_iff.1 hp).1
        have e : ((#[] ++ caps) ++ Array.replicate (gfn.ntmps - (#[] ++ caps).size) undef).getD t undef = caps.getD t undef := by
          simp [Array.getD_eq_getD_getElem?, Array.getElem?_append, hlt]
        rw [e]
        have hnb := hns p (List.mem_of_getElem? hp)
        exact .at _ _ _ (c1.mono hs.us) c2 fun _ cs _ => ⟨k, (hs.stay p c1).trans c3, c4, c5⟩
    have hrun := run_ok hg Bg ⟨rfl, rfl, hB.2.2⟩ [] β { tmps := (#[] ++ caps) ++ Array.replicate (gfn.ntmps - (#[] ++ caps).size) undef, defers := [] } w rfl hsg
    refine (callsDIn_of_wp (R := fun e w' => ∃ v, e = .returned v ∧ LeavesInM Fence.wide 0 P fn a.tmps (RH { B0 with n := 1 } Q) [] .returning w') hgf hgb trivial (wpIn_mono (F := Fence.wide) hrun fun e2 a2 w2 hq => ?_)).mono ?_
    · obtain ⟨hd2, s2, β2, ⟨he2, hlk, hres, hfq⟩, hs2⟩ := hq
      obtain ⟨_, v2, _, hr2, _⟩ := run_results hs2 gfn hres
      have hown2 : ∀ b, ownB s2 β2 b → w.heap.size ≤ b ∨ ownB s β b := fun b hb => (hs2.ownB_ok hb).2.2
      have hust : ∀ p, nm s.used p → β2 p = β p := fun p hp => hs2.stay p hp
      have hus2 : ∀ x ∈ s.used, x ∈ s2.used := hs2.us
      have hsame : ∀ b, b < w.heap.size → ¬ ownB s β b → w2.heap[b]? = w.heap[b]? := fun b hb hn => hs2.frame b hb hn
      have hz2 : w.heap.size ≤ w2.heap.size := hs2.size
      have hr : ∀ v d, Rep w.heap (s.own B.A β) v d → Rep w2.heap (s2.own B1.A β2) v d := fun v d hd => hd.mono (fun b hb hlt => hsame b hlt (fun h => hb (.inr h))) (by
        rintro b hb (h1 | h1)
        · rw [← i6] at h1; exact .inl h1
        · rcases hown2 b h1 with h | h
          · omega
          · exact .inr h)
      have hs4 : Sim B1 β2 (s2.fra s.fr) a.tmps w2 := by
        refine { tms := hs.tms.trans i1, io := hs2.io.trans i2, size := ?_, frame := fun b hb ho => ?_, slots := fun t => ?_, objs := fun p o ho => ?_, blocks := fun p k hp hk => ?_, inj := hs2.inj, us := fun x hx => hus2 x (hs.us x (i7 x hx)), stay := fun p hp => ?_ }
        · rw [← i4]; exact Nat.le_trans hs.size hz2
        · rw [← i4] at hb ⊢
          have ho' : ¬ B.O0 b := fun h => ho ((i5 b).1 h)
          refine (hsame b (Nat.lt_of_lt_of_le hb hs.size) (fun h => ?_)).trans (hs.frame b hb ho')
          rcases (hs.ownB_ok h).2.2 with h | h
          · omega
          · exact ho' h
        · exact (hs.slots t).mono hr hus2 (fun p hp o' ho => by obtain ⟨o, h1, h2⟩ := hlk p o' hp ho; exact ⟨o, h1, h2, hust p hp⟩)
        · have := hs2.objs p o ho
          rw [← i6]
          exact this
        · obtain ⟨b1, b2, b3⟩ := hs2.blocks p k hp hk
          refine ⟨b1, by rw [← i6]; exact b2, ?_⟩
          rw [← i4]
          rcases b3 with b3 | b3
          · have h3 : w.heap.size ≤ k.b := b3
            have := hs.size
            exact .inl (by omega)
          · rcases (hs.ownB_ok b3).2.2 with h | h
            · exact .inl h
            · exact .inr ((i5 _).1 h)
        · have hp' : nm B.U0 p := hp.mono i7
          exact (hust p (hp'.mono hs.us)).trans ((hs.stay p hp').trans (i8 p hp))
      have hlv : LeavesInM Fence.wide 0 P fn a.tmps (RH { B0 with n := 1 } Q) [] .returning w2 := by
        refine hc.back hs4 (fun w' hs' => ?_)
        obtain ⟨l, v, ⟨r, hp', u', τ, hQ, hle⟩, hr, hv⟩ := run_results hs' fn hfq
        obtain ⟨β3, hs3, _⟩ := (sim_ret hs' hv).le (τ := τ) (by show Le B0.U0 τ _ _; rw [hu]; exact hle.le)
        exact ⟨v, hr, v, r, hp', u', β3, rfl, hQ, hs3⟩
      rcases he2 with rfl | rfl
      · exact ⟨hd2, v2, hr2, v2, rfl, hlv⟩
      · exact ⟨hd2, v2, hr2, v2, rfl, hlv⟩
    · rintro e u' w' ⟨rfl, v, rfl, hl⟩
      exact hl
  rcases he with rfl | rfl <;> exact this
theorem ARX.le {Φ : Exit → Act → World → Prop} {I J : Base → List Deferred → Prop} {e : Exit} {s : St} (h : ARX cf Φ I e s) (hj : ∀ B ds, J B ds → I B ds) : ARX cf Φ J e s := fun B hB ds β a w h1 h2 h3 => h B hB ds β a w h1 (hj B ds h2) h3
theorem X_retD0 {B0 : Base} {fn : Func} {u : List Nat} {Q : AV → List (Name × Ob) → Prop} {s : St} {e : Exit} (he : e = .ret ∨ e = .normal) (hu : B0.U0 = u) (h : fq P fn.results.toList u Q .ret s) :
    ARX cf (ΦR P fn { B0 with n := 1 } Q) (fun B ds => CI B0 B ds ∧ ds = []) e s := (X_ret he hu h).le fun _ _ h => h.1
theorem funD_ok {G : List (Nat × Obj)} {f : FuncId} {fn : Func} {c : Code} {args : List AV} {hp : List (Name × Ob)} {u : List Nat} {Q : AV → List (Name × Ob) → Prop} (hf : P.funcs[f]? = some fn) (hb : fn.body = some c)
    (hnm : (fn.name == "runtime.NumGoroutine") = false) (hn : args.length ≤ fn.ntmps)
    (h : ∀ B0 : Base, B0.U0 = u → ARY P ⟨fn.ntmps, none, G, u⟩ (ΦR P fn { B0 with n := 1 } Q) (fun B ds => CI B0 B ds ∧ ds = []) [.code c] (mk (argsFr 0 args) hp u)) : HCall P G f args hp u Q := by
  refine ⟨enter_run hf hb hnm, fun B β vs w h1 h2 h3 h4 hs => ?_⟩
  have hsz : vs.size = args.length := hs.tms.trans h1
  have hs' : Sim { B with n := fn.ntmps } β (mk (argsFr 0 args) hp u) (vs ++ Array.replicate (fn.ntmps - vs.size) undef) w := by
    refine { hs with tms := by simp; omega, slots := fun t => ?_ }
    have := hs.slots t
    by_cases ht : t < vs.size
    · have e : (vs ++ Array.replicate (fn.ntmps - vs.size) undef).getD t undef = vs.getD t undef := by
        simp [Array.getD_eq_getD_getElem?, Array.getElem?_append, ht]
      rw [e]; exact this
    · have e : (mk (argsFr 0 args) hp u).fr t = .un := by
        rw [mk_fr, argsFr_get, if_pos (Nat.zero_le _), List.getElem?_eq_none (by omega)]; rfl
      rw [e]; exact .un _
  have hrun := h { B with n := fn.ntmps } h3 { B with n := fn.ntmps } ⟨rfl, h3, h4⟩ [] β { tmps := vs ++ Array.replicate (fn.ntmps - vs.size) undef, defers := [] } w rfl ⟨⟨.refl _, [], rfl, List.nodup_nil, fun D hD => by cases hD⟩, rfl⟩ hs'
  exact callsIn_of_wp_marks hf hb trivial hrun
end
end Go.Ab
namespace Go.Ab
structure Trk (W0 : World) (C0 X0 C X : Nat → Prop) (W : World) : Prop where
  io : wio W = wio W0
  size : W0.heap.size ≤ W.heap.size
  same : ∀ b, b < W0.heap.size → ¬ C0 b → ¬ X0 b → W.heap[b]? = W0.heap[b]?
  c : ∀ b, b < W0.heap.size → C b → C0 b
  x : ∀ b, b < W0.heap.size → X b → X0 b
theorem Trk.stp {W0 W W' : World} {C0 X0 C X X' : Nat → Prop} (h : Trk W0 C0 X0 C X W) (g : Stp W X W' X') : Trk W0 C0 X0 C X' W' :=
  ⟨g.io.trans h.io, Nat.le_trans h.size g.size, fun b hb h1 h2 => (g.same b (Nat.lt_of_lt_of_le hb h.size) (fun hx => h2 (h.x b hb hx))).trans (h.same b hb h1 h2), h.c, fun b hb hx => by
    rcases (g.new b hx).1 with h1 | h1
    · exact h.x b hb h1
    · have := h.size; omega⟩
def Itz.trk (z : Itz) (W0 : World) (C0 X0 : Nat → Prop) : Itz :=
  { l := z.l, w := z.w, C0 := z.C0, J := fun n C X W => z.J n C X W ∧ Trk W0 C0 X0 C X W, Jx := fun n C X W => z.Jx n C X W ∧ Trk W0 C0 X0 C X W }
theorem Itz.Ok.trk {P : Program} {G : List (Nat × Obj)} {N : Nat} {xs : Nat → List D} {z : Itz} (h : z.Ok P G N xs) (W0 : World) (C0 X0 : Nat → Prop) : (z.trk W0 C0 X0).Ok P G N xs := by
  refine ⟨h.lt, fun n C X W X' W' hj hs => ⟨h.stab n C X W X' W' hj.1 hs, hj.2.stp hs⟩, fun n C X W X' W' hj hs => ⟨h.stabx n C X W X' W' hj.1 hs, hj.2.stp hs⟩, fun n C X W vs hn hj hv hr => ?_⟩
  refine (h.round n C X W vs hn hj.1 hv hr).mono ?_
  rintro e W' ⟨C', hc, hq⟩
  have ht : Trk W0 C0 X0 C' X W' := by
    obtain ⟨c1, c2, c3, c4, c5⟩ := hc
    refine ⟨c1.trans hj.2.io, Nat.le_trans hj.2.size c2, fun b hb h1 h2 => (c3 b (Nat.lt_of_lt_of_le hb hj.2.size) (fun hx => h1 (hj.2.c b hb hx))).trans (hj.2.same b hb h1 h2), fun b hb hx => ?_, hj.2.x⟩
    rcases (c5 b hx).1 with g | g
    · exact hj.2.c b hb g
    · have := hj.2.size; omega
  refine ⟨C', hc, ?_⟩
  rcases hq with ⟨h1, h2⟩ | ⟨h1, h2⟩
  · exact .inl ⟨h1, h2, ht⟩
  · exact .inr ⟨h1, h2, ht⟩
section
variable {P : Program} {cf : Cf} {G : List (Nat × Obj)} {N : Nat} {xs : Nat → List D} {z : Itz} {k : List It} {s : St}
end
end Go.Ab
namespace Go.Ab
section
variable {P : Program} {cf : Cf} {Q : Exit → St → Prop} {s : St} {k : List It} {B : Base} {β : Name → Option Blk} {tm : Array Value} {w : World}
theorem Sim.toArr (h : Sim B β s tm w) {p : Name} {t d : Nat} {ds : List D} (hd : d ∉ s.used) (hp : s.hp p = some (.box (ds.map .d))) (hsc : ∀ x ∈ ds, x.scal = true) (h0 : 0 < ds.length) (ht : s.fr t = .at p 0) :
    ∃ β', Sim B β' (((s.set p none).add d (.arr none ds)).put t (.el [d] 0 0)) tm w := by
  obtain ⟨k, c, e, hk, hk0, hc, hz, hl, h1, hcs⟩ := (h.objs p _ hp).2
  have hsl := h.slots t
  rw [ht] at hsl
  have hv : tm.getD t undef = .pointer (some ⟨k.b, 0, none⟩) := by
    generalize tm.getD t undef = v at hsl
    cases hsl with
    | «at» _ _ _ _ _ hx =>
      obtain ⟨k', hk', _, rfl⟩ := hx _ _ hp
      rw [hk] at hk'; cases hk'
      rfl
  have hlen : c.size = ds.length := by rw [hl]; simp
  have hs := h.renew hd hp hk none none ds 0 (w' := w) rfl rfl (fun _ _ => rfl) (fun _ => ⟨c, e, hc, hz, by simp only [wd]; omega, fun x hx => hsc x hx, fun i x j y hi hj => by
    have hx := hsc x (List.mem_of_getElem? hi)
    have hxy : j = 0 ∧ y = x := by
      cases x <;> simp [D.scal] at hx <;> (cases j <;> simp [D.cells] at hj <;> simp [hj])
    obtain ⟨rfl, rfl⟩ := hxy
    have := (hcs i (.d y) (by rw [List.getElem?_map, hi]; rfl)).toD
    simpa [wd] using this⟩)
  refine ⟨_, hs.setv ?_⟩
  rw [hv]
  refine .el _ _ _ _ ⟨d, [], rfl, List.mem_cons_self⟩ rfl fun ty' wf xs hx => ?_
  have : (some (Ob.arr none ds)) = some (.arrT ty' wf xs) := by rw [← hx]; simp [St.add, St.set, updP]
  cases this
  exact ⟨h0, ⟨k.b, 0, k.z⟩, by simp [updP], by simp⟩
theorem c_arr (E : Eng P cf Q) {c : Code} (p : Name) (t d : Nat) (ds : List D) (hd : d ∉ s.used) (hp : s.hp p = some (.box (ds.map .d))) (hsc : (ds.all D.scal) = true) (h0 : 0 < ds.length) (ht : s.fr t = .at p 0)
    (h : CodeE E c (((s.set p none).add d (.arr none ds)).put t (.el [d] 0 0)) k) : CodeE E c s k := by
  intro B hB ds' β a w' hds hs
  obtain ⟨β', hs'⟩ := hs.toArr hd hp (List.all_eq_true.1 hsc) h0 ht
  exact h B hB ds' β' a w' hds hs'
def cpyL (zs xs : List D) (off len : Nat) : List D := zs.take off ++ (xs.take (Nat.min xs.length len) ++ zs.drop (off + Nat.min xs.length len))
theorem cpyL_len {zs xs : List D} {off len : Nat} (h : off + len ≤ zs.length) : (cpyL zs xs off len).length = zs.length := by
  have h1 : Nat.min xs.length len ≤ len := Nat.min_le_right _ _
  have h2 : Nat.min xs.length len ≤ xs.length := Nat.min_le_left _ _
  unfold cpyL
  obtain ⟨m, hm⟩ : ∃ m, m = Nat.min xs.length len := ⟨_, rfl⟩
  rw [← hm] at h1 h2 ⊢
  simp only [List.length_append, List.length_take, List.length_drop]
  omega
theorem cpyL_get {zs xs : List D} {off len m : Nat} (hm : Nat.min xs.length len = m) (h : off + len ≤ zs.length) (i : Nat) : (cpyL zs xs off len)[i]? = if i < off then zs[i]? else if i < off + m then xs[i - off]? else zs[i]? := by
  have h1 : Nat.min xs.length len ≤ len := Nat.min_le_right _ _
  have h2 : Nat.min xs.length len ≤ xs.length := Nat.min_le_left _ _
  unfold cpyL
  rw [hm] at h1 h2 ⊢
  by_cases c1 : i < off
  · rw [if_pos c1, List.getElem?_append_left (by simp; omega), List.getElem?_take_of_lt c1]
  rw [if_neg c1, List.getElem?_append_right (by simp; omega), List.length_take, Nat.min_eq_left (by omega)]
  by_cases c2 : i < off + m
  · rw [if_pos c2, List.getElem?_append_left (by simp; omega), List.getElem?_take_of_lt (by omega)]
  · rw [if_neg c2, List.getElem?_append_right (by simp; omega), List.length_take, Nat.min_eq_left h2, List.getElem?_drop]
    congr 1; omega
theorem row_get {c1 c : Array Value} {o q m : Nat} (hq : q + m ≤ c1.size) (ho : o + m ≤ c.size) (i : Nat) : (c1.toList.take q ++ (c.extract o (o + m)).toList ++ c1.toList.drop (q + m)).toArray.getD i undef = if i < q then c1.getD i undef else if i < q + m then c.getD (o + (i - q)) undef else c1.getD i undef := by
  have hcl : (c.extract o (o + m)).toList.length = m := by simp; omega
  rw [Array.getD_eq_getD_getElem?, List.getElem?_toArray]
  by_cases h1 : i < q
  · rw [if_pos h1, List.append_assoc, List.getElem?_append_left (by simp; omega), List.getElem?_take_of_lt h1]
    simp [Array.getD_eq_getD_getElem?]
  rw [if_neg h1]
  by_cases h2 : i < q + m
  · rw [if_pos h2, List.getElem?_append_left (by rw [List.length_append, hcl, List.length_take]; simp; omega), List.getElem?_append_right (by simp; omega), List.length_take, Array.length_toList, Nat.min_eq_left (by omega)]
    rw [Array.getElem?_toList, Array.getElem?_extract, if_pos (by omega)]
    simp [Array.getD_eq_getD_getElem?]
  · rw [if_neg h2, List.getElem?_append_right (by rw [List.length_append, hcl, List.length_take]; simp; omega), List.length_append, hcl, List.length_take, Array.length_toList, Nat.min_eq_left (by omega), List.getElem?_drop]
    rw [show q + m + (i - (q + m)) = i by omega]
    simp [Array.getD_eq_getD_getElem?]
theorem e_copy (E : Eng P cf Q) {x y : Operand} {d : Nat} {dT sT e0 : Nat} {ty : TypeId} {pos : String} {af : Array Edge} {p : Name} {off len : Nat} {zs xs : List D} (hd : d < cf.n) (hk : (P.ti dT).k = .slice e0) (hw : (P.ti e0).isW none = true)
    (hx : ev s x = .vw p off len) (hp : s.hp p = some (.arr none zs)) (hy : ev s y = .d (.sl none xs)) (h : E.run k ((s.set p (some (.arr none (cpyL zs xs off len)))).put d (.d (.int .i64 (Nat.min xs.length len : Nat))))) :
    E.stp { dst := some d, op := .call { callee := .builtin .copy, args := #[x, y], argTypes := #[dT, sT] }, type := ty, pos := pos, after := af, guard := none } s k .no := by
  rw [e_stp_no]
  rw [E.run_eq] at h
  intro B hB ds β a w hds hs Q'
  obtain ⟨hg, hwd, _⟩ := isW_spec hw
  have hu := ti_slice hk
  have hsz : (P.info? e0).map (·.size) = some 1 := by
    obtain ⟨i, _, hi, _, _, hsz, _⟩ := ti_good hg
    rw [hi]
    simp only [Option.map_some, Option.some.injEq]
    rw [← hsz, ← hwd]; rfl
  have hvx := hs.ev x
  rw [hx] at hvx
  have hvy := (hs.ev y)
  rw [hy] at hvy
  obtain ⟨ay, capy, hay, _, hcy⟩ := hvy.toD.sl_inv
  generalize hax : a.eval x = vx at hvx
  cases hvx with
  | vw _ _ _ _ hn h1' hx' =>
  obtain ⟨hle, a0, cap, rfl, hx''⟩ := hx' _ _ _ hp
  have hexec : ∀ v w', (Builtin.copy_ #[dT, sT] ty #[.slice a0 len cap, .slice ay xs.length capy]).run P w = .ok v w' → (execOp a.eval { dst := some d, op := .call { callee := .builtin .copy, args := #[x, y], argTypes := #[dT, sT] }, type := ty, pos := pos, after := af, guard := none }).run P w = .ok (.value v) w' := by
    intro v w' hr
    simp [execOp, resolve, invoke, builtin, hax, hay, hr, Result.andThen]
  by_cases hn0 : Nat.min xs.length len = 0
  · have hr := run_copy_none (P := P) w dT sT ty e0 a0 ay len cap xs.length capy hu hsz hn0
    have hzs : cpyL zs xs off len = zs := by simp [cpyL, hn0]
    have hself : s.set p (some (.arr none (cpyL zs xs off len))) = s := by
      rw [hzs]
      cases s
      simp only [St.set, St.mk.injEq, true_and, and_true]
      funext q
      by_cases e : q = p
      · subst e; simp [updP]; exact hp.symm
      · simp [updP, e]
    rw [hself, hn0] at h
    exact wpIn_of_run (v := goInt 0) (by simp) (hexec _ _ hr) (.inl rfl) ⟨hds, _, β, run_ok h, hs.put (by rw [hB.1]; exact hd) (.d _ _ (.int _ _))⟩
  · have hne : xs ≠ [] := by rintro rfl; exact hn0 (Nat.min_eq_left (Nat.zero_le _))
    obtain ⟨b, o, c, e, fz, rfl, hb, hbn, hzz, hok, hrep⟩ := hcy hne
    have hle2 : Nat.min xs.length len ≤ len := Nat.min_le_right _ _
    have hle3 : Nat.min xs.length len ≤ xs.length := Nat.min_le_left _ _
    rcases hx'' with ⟨hl0, _⟩ | ⟨k0, hk0, rfl, hcap, hkz⟩
    · omega
    rcases (hs.objs p _ hp).2 with ⟨hq, _⟩ | ⟨k1, c1, e1, hk1, hc1, hz1, hl1, hw1, hcs1⟩
    · rw [hk0] at hq; cases hq
    rw [hk0] at hk1; cases hk1
    simp only [wd, Nat.mul_one] at hzz hkz hl1
    generalize hm : Nat.min xs.length len = m at *
    have hcl : (c.extract o (o + m)).toList.length = m := by simp; omega
    have hget : ∀ j, j < m → (c.extract o (o + m)).toList[j]? = some (c.getD (o + j) undef) := fun j hj => by
      have h2 : o + j < c.size := by omega
      rw [Array.getElem?_toList, Array.getElem?_extract, if_pos (by omega)]
      simp [Array.getD_eq_getD_getElem?, h2]
    have hel : ∀ j, j < m → ∃ x, xs[j]? = some x ∧ x.scal = true ∧ Rep w.heap (s.own B.A β) (c.getD (o + j) undef) x := fun j hj => by
      have h2 : j < xs.length := by omega
      refine ⟨xs[j], by simp [h2], hok _ (List.getElem_mem h2), ?_⟩
      have h3 : (xs[j]).scal = true := hok _ (List.getElem_mem h2)
      have := hrep j xs[j] 0 xs[j] (by simp [h2]) (by cases hq : xs[j] <;> rw [hq] at h3 <;> simp [D.scal] at h3 <;> rfl)
      simpa [wd] using this
    have hr := run_copy_row (P := P) w dT sT ty e0 k0.b (k0.o + off * wd none) len cap ⟨b, o, none⟩ xs.length capy c1 e1 (c.extract o (o + m)).toList hu hsz hc1 (by rw [hcl, ← hm]) (fun j v hv => by
        have hj : j < m := by have := (List.getElem?_eq_some_iff.1 hv).1; rw [hcl] at this; exact this
        rw [hget j hj] at hv
        have h2 : o + j < c.size := by omega
        rw [addr_add]
        simp [World.cell?, hb, h2, Array.getD_eq_getD_getElem?] at hv ⊢
        exact hv) (by rw [hcl]; simp only [wd, Nat.mul_one]; omega) (fun v hv => by
        obtain ⟨j, hj⟩ := List.mem_iff_getElem?.1 hv
        have hj' : j < m := by have := (List.getElem?_eq_some_iff.1 hj).1; rw [hcl] at this; exact this
        rw [hget j hj'] at hj
        obtain ⟨x, _, hx1, hx2⟩ := hel j hj'
        cases hj
        exact hx2.oneCell hx1)
    rw [hcl] at hr
    obtain ⟨hsim, _⟩ := hs.modify (p := p) (ob' := .arr none (cpyL zs xs off len)) hp ⟨⟨rfl, rfl⟩, by rw [cpyL_len hle]; exact Nat.le_refl _⟩ (w' := w.setRow k0.b (List.take (k0.o + off * wd none) c1.toList ++ (c.extract o (o + m)).toList ++ List.drop (k0.o + off * wd none + m) c1.toList).toArray) rfl (by simp) (fun b hb => setRow_other w k0.b b _ (hb k0 hk0)) (fun _ hrr => .inr ⟨k0, _, e1, hk0, setRow_heap w k0.b c1 _ e1 (0, 0) hc1, (by simp only [List.size_toArray, List.length_append, hcl, List.length_take, List.length_drop, Array.length_toList, wd, Nat.mul_one]; omega), (by rw [cpyL_len hle]; simpa [wd] using hl1), (fun x hx => by
        unfold cpyL at hx
        rcases List.mem_append.1 hx with hx | hx
        · exact hw1 _ (List.mem_of_mem_take hx)
        rcases List.mem_append.1 hx with hx | hx
        · exact hok _ (List.mem_of_mem_take hx)
        · exact hw1 _ (List.mem_of_mem_drop hx)), fun i x j d hi hj => by
        have hsx : x.scal = true := by
          unfold cpyL at hi
          have hx := List.mem_of_getElem? hi
          rcases List.mem_append.1 hx with hx | hx
          · exact hw1 _ (List.mem_of_mem_take hx)
          rcases List.mem_append.1 hx with hx | hx
          · exact hok _ (List.mem_of_mem_take hx)
          · exact hw1 _ (List.mem_of_mem_drop hx)
        have hxy : j = 0 ∧ d = x := by
          cases x <;> simp [D.scal] at hsx <;> (cases j <;> simp [D.cells] at hj <;> simp [hj])
        obtain ⟨rfl, rfl⟩ := hxy
        have hwd1 : off * wd none = off := by simp [wd]
        rw [show k0.o + i * wd none + 0 = k0.o + i by simp [wd], row_get (by omega) (by omega)]
        rw [cpyL_get hm hle] at hi
        have old : ∀ x, zs[i]? = some x → x.scal = true → Rep _ _ (c1.getD (k0.o + i) undef) x := fun x hz hsx => by
          have := hcs1 i x 0 x hz (by cases x <;> simp [D.scal] at hsx <;> rfl)
          rw [show k0.o + i * wd none + 0 = k0.o + i by simp [wd]] at this
          exact hrr _ _ this
        by_cases g1 : i < off
        · rw [if_pos g1] at hi
          rw [if_pos (by omega)]
          exact old _ hi hsx
        rw [if_neg g1] at hi
        rw [if_neg (by omega)]
        by_cases g2 : i < off + m
        · rw [if_pos g2] at hi
          rw [if_pos (by omega)]
          obtain ⟨y, hy1, _, hy2⟩ := hel (i - off) (by omega)
          rw [hi] at hy1
          cases hy1
          rw [show k0.o + i - (k0.o + off * wd none) = i - off by omega]
          exact hrr _ _ hy2
        · rw [if_neg g2] at hi
          rw [if_neg (by omega)]
          exact old _ hi hsx⟩)
    exact wpIn_of_run (v := goInt m) (by simp) (hexec _ _ hr) (.inl rfl) ⟨hds, _, β, run_ok h, hsim.put (by rw [hB.1]; exact hd) (.d _ _ (.int _ _))⟩
end
section
variable {P : Program} {cf : Cf} {Q : Exit → St → Prop} {s : St} {k : List It}
theorem e_nilsl (E : Eng P cf Q) {o : Oper} (t : Nat) (wf : W) (ht : s.fr t = .d .nils) (h : E.stp o (s.put t (.d (.sl wf []))) k .no) : E.stp o s k .no := by
  rw [e_stp_no] at h ⊢
  intro B hB ds β a w hds hs Q'
  refine h B hB ds β a w hds (hs.setv ?_) Q'
  have hv := hs.slots t
  rw [ht] at hv
  rw [hv.nils]
  exact .d _ _ (.sl0 _ _ _)
end
theorem HCall.sub {P : Program} {G : List (Nat × Obj)} {f : FuncId} {args args' : List AV} {hp : List (Name × Ob)} {u : List Nat} {Q : AV → List (Name × Ob) → Prop} (hl : args.length = args'.length)
    (hr : ∀ (i : Nat) x y, args[i]? = some x → args'[i]? = some y → x = y ∨ ∃ wf, x = .d .nils ∧ y = .d (.sl wf [])) (h : HCall P G f args' hp u Q) : HCall P G f args hp u Q := by
  refine ⟨h.1, fun B β vs w h1 h2 h3 h4 h5 => h.2 B β vs w (h1.trans hl) h2 h3 h4 { tms := h5.tms, io := h5.io, size := h5.size, frame := h5.frame, slots := fun t => ?_, objs := h5.objs, blocks := h5.blocks, inj := h5.inj, us := h5.us, stay := h5.stay }⟩
  have hv := h5.slots t
  rw [mk_fr, argsFr_get, if_pos (Nat.zero_le _), Nat.sub_zero] at hv ⊢
  show VR w.heap ((mk (argsFr 0 args) hp u).own B.A β) u _ β _ _
  cases hx : args[t]? with
  | none =>
    rw [List.getElem?_eq_none (by rw [← hl]; exact List.getElem?_eq_none_iff.1 hx)]
    exact .un _
  | some x =>
    have hlt := (List.getElem?_eq_some_iff.1 hx).1
    have hy : args'[t]? = some args'[t] := List.getElem?_eq_getElem (by omega)
    rw [hx] at hv
    rw [hy]
    rcases hr t _ _ hx hy with e | ⟨wf, e1, e2⟩
    · rw [← e]; exact hv
    · rw [e1] at hv
      rw [e2]
      have := VR.nils hv
      rw [this]
      exact .d _ _ (.sl0 _ _ _)
theorem HP.sub {P : Program} {G : List (Nat × Obj)} {f : FuncId} {args args' : List D} {Q : AV → Prop} (hl : args.length = args'.length)
    (hr : ∀ (i : Nat) x y, args[i]? = some x → args'[i]? = some y → x = y ∨ ∃ wf, x = .nils ∧ y = .sl wf []) (h : HP P G f args' Q) : HP P G f args Q := by
  refine HCall.sub (by simpa using hl) (fun i x y hx hy => ?_) h
  rw [List.getElem?_map] at hx hy
  obtain ⟨a, ha, rfl⟩ := Option.map_eq_some_iff.1 hx
  obtain ⟨b, hb, rfl⟩ := Option.map_eq_some_iff.1 hy
  rcases hr i a b ha hb with e | ⟨wf, e1, e2⟩
  · exact .inl (by rw [e])
  · exact .inr ⟨wf, by rw [e1], by rw [e2]⟩
theorem opE_min (tf : Nat → TI) (dd : Option Nat) (s : St) (x y t) : opE tf (.call { callee := .builtin .min, args := #[x, y], argTypes := t }) dd s = (opV tf (.call { callee := .builtin .min, args := #[x, y], argTypes := t }) s).bind fun x => .ok (x, ef0) := opE_call' rfl
theorem opE_max (tf : Nat → TI) (dd : Option Nat) (s : St) (x y t) : opE tf (.call { callee := .builtin .max, args := #[x, y], argTypes := t }) dd s = (opV tf (.call { callee := .builtin .max, args := #[x, y], argTypes := t }) s).bind fun x => .ok (x, ef0) := opE_call' rfl
attribute [go_sem] opE_min opE_max
end Go.Ab
namespace Go.Ab
section
variable {P : Program} {cf : Cf} {Q : Exit → St → Prop} {s : St} {k : List It} {B : Base} {β : Name → Option Blk} {tm : Array Value} {w : World}
theorem Sim.dropW (h : Sim B β s tm w) {p : Name} {ob : Ob} {k : Blk} (hp : s.hp p = some ob) (hk : β p = some k) {w' : World} (hio : wio w' = wio w) (hsz : w'.heap.size = w.heap.size) (hw : ∀ b, b ≠ k.b → w'.heap[b]? = w.heap[b]?) : Sim B β (s.set p none) tm w' := by
  have hsub : ∀ q o, (s.set p none).hp q = some o → q ≠ p ∧ s.hp q = some o := by
    intro q o ho
    by_cases e : q = p
    · subst e; simp [St.set, updP] at ho
    · exact ⟨e, by simpa [St.set, updP, e] using ho⟩
  have hne : ∀ q, (s.set p none).hp q ≠ none → s.hp q ≠ none := by
    intro q hq e
    cases ho : (s.set p none).hp q with
    | none => exact hq ho
    | some o => rw [(hsub q o ho).2] at e; cases e
  have hr : ∀ v d, Rep w.heap (s.own B.A β) v d → Rep w'.heap ((s.set p none).own B.A β) v d := fun v d hd => hd.mono (fun b hb _ => hw b fun e => hb (.inr ⟨p, k, by rw [hp]; simp, hk, e.symm⟩)) (by
    rintro b _ (hA | ⟨q, k, hq, hk, e⟩)
    · exact .inl hA
    · exact .inr ⟨q, k, hne q hq, hk, e⟩)
  have hst : ∀ q, nm s.used q → Stays s.hp (s.set p none).hp β β q := fun q _ o' ho' => ⟨o', (hsub q o' ho').2, Ob.like_refl _, rfl⟩
  refine { tms := h.tms, io := hio.trans h.io, size := by rw [hsz]; exact h.size, frame := fun b hb hn => ?_, slots := fun i => (h.slots i).mono hr (fun _ h => h) hst, objs := ?_, blocks := fun q k hq hk => (by rw [hsz]; exact h.blocks q k (hne q hq) hk),
           inj := fun q q' k l hq hq' hk hl e => h.inj q q' k l (hne q hq) (hne q' hq') hk hl e, us := h.us, stay := h.stay }
  · rw [hw b ?_]
    · exact h.frame b hb hn
    · intro e
      obtain ⟨_, _, h3⟩ := h.blocks p k (by rw [hp]; simp) hk
      rcases h3 with h3 | h3
      · omega
      · exact hn (e ▸ h3)
  · intro q o ho
    obtain ⟨hqp, ho'⟩ := hsub q o ho
    obtain ⟨h1, h2⟩ := h.objs q o ho'
    exact ⟨h1, h2.mono hr (fun _ h => h) hst rfl fun l hl => hw l.b fun e => hqp (h.inj q p l k (by rw [ho']; simp) (by rw [hp]; simp) hl hk e)⟩
theorem e_thawT (E : Eng P cf Q) {o : Oper} (p : Name) (j n : Nat) (ty tg : Option Nat) (w : W) (cs : List AV) (hp : s.hp p = some (.boxT ty cs)) (hj : cs[j]? = some (.d .nils)) (hn : n ∉ s.used) (h : E.stp o ((s.add n (.arrT tg w [])).set p (some (.boxT ty (cs.set j (.vw [n] 0 0))))) k .no) : E.stp o s k .no := by
  rw [e_stp_no] at h ⊢
  intro B hB ds β a w' hds hs Q'
  have h1 := hs.addNone hn tg w
  have hpn : p ≠ [n] := nm_ne (hs.objs p _ hp).1 hn
  refine h B hB ds (updP β [n] none) a w' hds (h1.rebox (cs := cs) (by simpa [St.add, updP, hpn] using hp) (by simp) fun v i x x' hx hx' hv => ?_) Q'
  by_cases e : j = i
  · subst e
    rw [hj] at hx
    cases hx
    rw [List.getElem?_set_self (List.getElem?_eq_some_iff.1 hj).1] at hx'
    cases hx'
    have := hv.toD
    cases this
    exact .vw _ _ _ _ ⟨n, [], rfl, List.mem_cons_self⟩ rfl fun ty' w' xs hx => by
      have : some (Ob.arrT tg w []) = some (.arrT ty' w' xs) := by rw [← hx]; simp [St.add, updP]
      cases this
      exact ⟨Nat.le_refl _, none, 0, rfl, .inl ⟨rfl, rfl⟩⟩
  · rw [List.getElem?_set_ne e, hx] at hx'
    cases hx'
    exact hv
theorem e_appendT (E : Eng P cf Q) {d t e : Nat} {x y : Operand} {ty : TypeId} {pos : String} {af : Array Edge} (tg : Option Nat) (p q : Name) (xs ys : List D) (hk : (P.ti t).k = .slice e) (hz : (P.ti e).zOk = true) (hw : (P.ti e).isW (P.ti e).w = true) (hew : (P.ti e).w = none)
    (htg : tg.getD e = e) (hd : d < cf.n ∧ d ∉ s.used) (hx : ev s x = .vw p 0 xs.length) (hp : s.hp p = some (.arrT tg none xs)) (hy : ev s y = .vw q 0 ys.length) (hq : s.hp q = some (.arr none ys)) (hl : (xs.length + ys.length) * (P.ti e).by1 ≤ 140737488355328)
    (h : E.run k (((s.set p none).add d (.arrT tg none (xs ++ ys))).put d (.vw [d] 0 (xs.length + ys.length)))) :
    E.stp { dst := some d, op := .call { callee := .builtin .append, args := #[x, y], argTypes := #[t, t] }, type := ty, pos := pos, after := af, guard := none } s k .no := by
  rw [e_stp_no]
  rw [E.run_eq] at h
  intro B hB ds β a w hds hs Q'
  have hvx := hs.ev x
  have hvy := hs.ev y
  rw [hx] at hvx
  rw [hy] at hvy
  have key := appendT_sound (P := P) (t := t) hs hvx hvy hk hz hw ty (some d) tg htg
  have e1 : appendT tg B.n (P.ti e) (some d) s (.vw p 0 xs.length) (.vw q 0 ys.length) = .need ((xs.length + ys.length) * (P.ti e).by1 ≤ 140737488355328) (.ok (((s.set p none).add d (.arrT tg none (xs ++ ys))).put d (.vw [d] 0 (xs.length + ys.length)))) := by
    unfold appendT
    have hlo : listOf (P.ti e).w s.hp (.vw q 0 ys.length) = some ys := by simp [listOf, hq, hew]
    rw [hlo]
    simp only [hp]
    rw [if_pos ⟨trivial, hew.symm⟩]
    have hd2 : d < B.n ∧ d ∉ (s.set p none).used := ⟨by rw [hB.1]; exact hd.1, hd.2⟩
    unfold newR
    simp only
    rw [if_pos hd2]
    simp
  rw [e1] at key
  obtain ⟨dd, v, w', β', hdd, hrun, hsim⟩ := key hl
  cases hdd
  exact wpIn_of_run (v := v) (by simp) (by simp [execOp, resolve, invoke, builtin, hrun]) (.inl rfl) ⟨hds, _, β', run_ok h, hsim⟩
end
section
variable {P : Program} {cf : Cf} {Q : Exit → St → Prop} {s : St} {k : List It}
theorem aok_pure {o : Oper} {d : Nat} {x : AV} (hd : o.dst = some d) (hdn : d < cf.n) (hnd : ∀ c, o.op ≠ .defer c)
    (hrun : ∀ (B : Base) (β : Name → Option Blk) (a : Act) (w : World), Sim B β s a.tmps w → ∃ v, (execOp a.eval o).run P w = .ok (.value v) w ∧ VR w.heap (s.own B.A β) s.used s.hp β v x) (h : run P cf k Q (s.put d x)) : AOk P cf o s k Q := by
  intro B hB ds β a w hds hs Q'
  obtain ⟨v, h1, h2⟩ := hrun B β a w hs
  refine wpIn_of_run (v := v) hnd h1 (.inl rfl) ?_
  rw [hd]
  exact ⟨hds, _, β, run_ok h, hs.put (by rw [hB.1]; exact hdn) h2⟩
theorem e_pure (E : Eng P cf Q) {o : Oper} {d : Nat} {x : AV} (hd : o.dst = some d) (hdn : d < cf.n) (hnd : ∀ c, o.op ≠ .defer c)
    (hrun : ∀ (B : Base) (β : Name → Option Blk) (a : Act) (w : World), Sim B β s a.tmps w → ∃ v, (execOp a.eval o).run P w = .ok (.value v) w ∧ VR w.heap (s.own B.A β) s.used s.hp β v x) (h : E.run k (s.put d x)) : E.stp o s k .no := by
  rw [e_stp_no]
  rw [E.run_eq] at h
  exact aok_pure hd hdn hnd hrun h
theorem ti_ptr {t e : Nat} (h : (P.ti t).k = .ptr e) : P.underlying t = some (.pointer e) := by
  obtain ⟨i, d, _, hd, hk, _⟩ := ti_good (P := P) (t := t) (by rw [h]; rfl)
  rw [h] at hk
  cases d <;> simp [tk] at hk
  rw [hd, hk]
def nilA (hp : Name → Option Ob) : AV → Option Bool
  | .d .nilp => some true
  | .d (.ptr _) => some false
  | .at p _ => match hp p with
    | some (.boxT _ _) => some false
    | _ => none
  | _ => none
theorem nilA_sound {H : Array Obj} {own : Nat → Prop} {used : List Nat} {hp : Name → Option Ob} {β : Name → Option Blk} {v : Value} {x : AV} {b : Bool} (h : VR H own used hp β v x) (hn : nilA hp x = some b) : ∃ ad, v = .pointer ad ∧ ad.isNone = b := by
  cases x with
  | d z =>
    cases z <;> simp [nilA] at hn
    · subst hn
      have := h.toD
      cases this; exact ⟨none, rfl, rfl⟩
    · subst hn
      have := h.toD
      cases this; exact ⟨_, rfl, rfl⟩
  | «at» p c =>
    simp only [nilA] at hn
    split at hn
    · rename_i ty cs ho
      cases hn
      cases h with
      | «at» _ _ _ _ _ hx =>
        obtain ⟨k, _, _, rfl⟩ := hx _ _ ho
        exact ⟨_, rfl, rfl⟩
    · cases hn
  | _ => simp [nilA] at hn
theorem e_pnil (E : Eng P cf Q) {t e : TypeId} {x : Operand} {yt : TypeId} {dst : Nat} {ty : TypeId} {ps : String} {af : Array Edge} (b : Bool) (hk : (P.ti t).k = .ptr e) (hd : dst < cf.n) (hx : nilA s.hp (ev s x) = some b) (h : E.run k (s.put dst (.d (.bool b)))) :
    E.stp { dst := some dst, op := .binOp .eql t x (.const (.pointer none)) yt, type := ty, pos := ps, after := af, guard := none } s k .no := by
  refine e_pure E rfl hd (by simp) (fun B β a w hs => ⟨.bool b, ?_, .d _ _ (.bool _)⟩) h
  obtain ⟨ad, hv, rfl⟩ := nilA_sound (hs.ev x) hx
  have hu := ti_ptr hk
  refine run_bin_val ?_ ?_
  · rw [hv]; rfl
  · rw [hv]
    exact run_eql_pointer_nil w t ad (by rw [hu]; simp [Program.pointee, hu])
theorem run_neq_ptr_same {tp te : TypeId} {j : TypeInfo} (w : World) (a : Addr) (hp : P.underlying tp = some (.pointer te)) (hte : P.info? te = some j) : (binOp .neq tp (.pointer (some a)) (.pointer (some a))).run P w = .ok (.bool false) w := by
  have h : ∀ d : Nat, (Op.equalIn (d + 1) tp (.pointer (some a)) (.pointer (some a))).run P w = .ok true w := fun d => by
    simp [Op.equalIn, run_underlying hp, sizeOf, typeInfo, hte, run_sameAddr_same]
  simp only [binOp]
  simp [Op.equal, Op.maxDepth, h 9999]
theorem e_pself (E : Eng P cf Q) {t e : TypeId} {x y : Operand} {yt : TypeId} {dst : Nat} {ty : TypeId} {ps : String} {af : Array Edge} (p : Name) (c : Nat) (hk : (P.ti t).k = .ptr e) (he : (P.info? e).isSome = true) (hd : dst < cf.n) (hx : ev s x = .at p c) (hy : ev s y = .at p c) (hp : (match s.hp p with | some (.boxT _ _) => true | _ => false) = true)
    (h : E.run k (s.put dst (.d (.bool false)))) : E.stp { dst := some dst, op := .binOp .neq t x y yt, type := ty, pos := ps, after := af, guard := none } s k .no := by
  refine e_pure E rfl hd (by simp) (fun B β a w hs => ⟨.bool false, ?_, .d _ _ (.bool _)⟩) h
  split at hp
  rotate_left
  · cases hp
  rename_i ty' cs ho
  obtain ⟨k, hkk⟩ : ∃ k : Blk, ∀ v, VR w.heap (s.own B.A β) s.used s.hp β v (.at p c) → v = .pointer (some ⟨k.b, c, none⟩) := by
    obtain ⟨k, _, _, hk, _⟩ := (hs.objs p _ ho).2
    refine ⟨k, fun v hv => ?_⟩
    cases hv with
    | «at» _ _ _ _ _ hx =>
      obtain ⟨k', hk', _, rfl⟩ := hx _ _ ho
      rw [hk] at hk'; cases hk'; rfl
  have h1 := hkk _ (hx ▸ hs.ev x)
  have h2 := hkk _ (hy ▸ hs.ev y)
  obtain ⟨j, hj⟩ := Option.isSome_iff_exists.1 he
  refine run_bin_val ?_ ?_
  · rw [h1, h2]; rfl
  · rw [h1, h2]
    exact run_neq_ptr_same w _ (ti_ptr hk) hj
theorem at_run {B : Base} {β : Name → Option Blk} {tm : Array Value} {w : World} (hs : Sim B β s tm w) {p : Name} {t : Nat} {cs : List AV} (hp : s.hp p = some (.boxT (some t) cs)) : ∃ k : Blk, (∀ v c, VR w.heap (s.own B.A β) s.used s.hp β v (.at p c) → v = .pointer (some ⟨k.b, c, none⟩)) ∧ w.shape? k.b = some (t, cs.length) := by
  obtain ⟨k, c, e, hk, _, hc, _, hl, _⟩ := (hs.objs p _ hp).2
  refine ⟨k, fun v c hv => ?_, by simp [World.shape?, hc, hl]⟩
  cases hv with
  | «at» _ _ _ _ _ hx =>
    obtain ⟨k', hk', _, rfl⟩ := hx _ _ hp
    rw [hk] at hk'; cases hk'; rfl
theorem e_toU (E : Eng P cf Q) {a' b' e : TypeId} {x : Operand} {dst : Nat} {ty : TypeId} {ps : String} {af : Array Edge} (p : Name) (c t : Nat) (cs : List AV) (hk : (P.ti a').k = .ptr e) (hu : P.underlying b' = some .unsafePointer) (he : (P.info? e).any (fun j => j.size != 0) = true) (hd : dst < cf.n) (hx : ev s x = .at p c)
    (hp : s.hp p = some (.boxT (some t) cs)) (hc : c < cs.length) (h : E.run k (s.put dst (.at p c))) : E.stp { dst := some dst, op := .convert a' b' x, type := ty, pos := ps, after := af, guard := none } s k .no := by
  refine e_pure E (x := .at p c) rfl hd (by simp) (fun B β a w hs => ⟨a.eval x, ?_, hx ▸ hs.ev x⟩) h
  obtain ⟨k, hkk, hsh⟩ := at_run hs hp
  have h1 := hkk _ _ (hx ▸ hs.ev x)
  rw [Option.any_eq_true] at he
  obtain ⟨j, hj, hj0⟩ := he
  have := Lib.run_to_unsafe (P := P) w (src := a') (dst := b') (⟨k.b, c, none⟩ : Addr) (ti_ptr hk) hu hj (by simpa using hj0) hsh hc
  simp [execOp, h1, this]
theorem e_ofU (E : Eng P cf Q) {a' b' e : TypeId} {x : Operand} {dst : Nat} {ty : TypeId} {ps : String} {af : Array Edge} (p : Name) (c t : Nat) (cs : List AV) (hk : (P.ti b').k = .ptr e) (hu : P.underlying a' = some .unsafePointer) (he : (P.info? e).isSome = true) (hd : dst < cf.n) (hx : ev s x = .at p c)
    (hp : s.hp p = some (.boxT (some t) cs)) (m : Nat) (hm : cs.length = m) (hl : liesAt P P.depth t (m / P.cellsOf t) c e 1 = true) (h : E.run k (s.put dst (.at p c))) : E.stp { dst := some dst, op := .convert a' b' x, type := ty, pos := ps, after := af, guard := none } s k .no := by
  refine e_pure E (x := .at p c) rfl hd (by simp) (fun B β a w hs => ⟨a.eval x, ?_, hx ▸ hs.ev x⟩) h
  obtain ⟨k, hkk, hsh⟩ := at_run hs hp
  have h1 := hkk _ _ (hx ▸ hs.ev x)
  obtain ⟨j, hj⟩ := Option.isSome_iff_exists.1 he
  rw [hm] at hsh
  have := Lib.run_from_unsafe (P := P) w (src := a') (dst := b') (⟨k.b, c, none⟩ : Addr) hu (ti_ptr hk) hj hsh hl
  simp [execOp, h1, this]
theorem e_noesc (E : Eng P cf Q) {fv x : Operand} {at' : Array TypeId} {dst : Nat} {ty : TypeId} {ps : String} {af : Array Edge} (f : FuncId) (y : AV) (hr : ∀ v w, (callFunc f #[v]).run P w = .ok (.value v) w) (hd : dst < cf.n) (hf : ev s fv = .clo f []) (hx : ev s x = y) (h : E.run k (s.put dst y)) :
    E.stp { dst := some dst, op := .call { callee := .value fv, args := #[x], argTypes := at' }, type := ty, pos := ps, after := af, guard := none } s k .no := by
  refine e_pure E (x := y) rfl hd (by simp) (fun B β a w hs => ⟨a.eval x, ?_, hx ▸ hs.ev x⟩) h
  have hf' := hs.ev fv
  rw [hf] at hf'
  generalize hfv : a.eval fv = fval at hf'
  cases hf' with
  | clo _ cvs _ hcs hcv =>
  have hc0 : cvs = #[] := Array.eq_empty_of_size_eq_zero (by simpa using hcs)
  subst hc0
  have e : (execOp a.eval { dst := some dst, op := .call { callee := .value fv, args := #[x], argTypes := at' }, type := ty, pos := ps, after := af, guard := none } : Sem Next) = callFunc f (#[] ++ #[x].map a.eval ++ #[]) := by
    show (do let d ← (Deferred.ofValue (a.eval fv) (#[x].map a.eval)); invoke d.target d.args : Sem Next) = _
    rw [hfv]; rfl
  rw [e]
  simpa using hr (a.eval x) w
theorem aok_ext {fv : Operand} {args : Array Operand} {at' : Array TypeId} {dst : Nat} {ty : TypeId} {ps : String} {af : Array Edge} {g : Option (Nat × Bool)} (f : FuncId) (ds : List D) (vs : List Value) (r : D) (v : Value) (hv : vals ds = some vs) (hrv : r.val = some v) (hr : ∀ w, (callFunc f vs.toArray).run P w = .ok (.value v) w) (hd : dst < cf.n) (hf : ev s fv = .clo f [])
    (hx : args.toList.map (ev s) = ds.map .d) (h : run P cf k Q (s.put dst (.d r))) : AOk P cf { dst := some dst, op := .call { callee := .value fv, args := args, argTypes := at' }, type := ty, pos := ps, after := af, guard := g } s k Q := by
  refine aok_pure (x := .d r) rfl hd (by simp) (fun B β a w hs => ⟨v, ?_, .d _ _ (D.val_rep hrv)⟩) h
  have hf' := hs.ev fv
  rw [hf] at hf'
  generalize hfv : a.eval fv = fval at hf'
  cases hf' with
  | clo _ cvs _ hcs hcv =>
  have hc0 : cvs = #[] := Array.eq_empty_of_size_eq_zero (by simpa using hcs)
  subst hc0
  have e : (execOp a.eval { dst := some dst, op := .call { callee := .value fv, args := args, argTypes := at' }, type := ty, pos := ps, after := af, guard := g } : Sem Next) = callFunc f (#[] ++ args.map a.eval ++ #[]) := by
    show (do let d ← (Deferred.ofValue (a.eval fv) (args.map a.eval)); invoke d.target d.args : Sem Next) = _
    rw [hfv]; rfl
  have e2 : #[] ++ args.map a.eval ++ #[] = vs.toArray := by
    obtain ⟨g1, g2⟩ := vals_get hv
    have hsz : args.size = ds.length := by have := congrArg List.length hx; simpa using this
    apply Array.ext
    · simp [hsz, g1]
    · intro i hi hi'
      have hia : i < args.size := by simpa using hi
      have hid : i < ds.length := by omega
      have h1 : (args.toList.map (ev s))[i]? = (ds.map AV.d)[i]? := by rw [hx]
      simp only [List.getElem?_map, Array.getElem?_toList, Array.getElem?_eq_getElem hia, List.getElem?_eq_getElem hid, Option.map_some, Option.some.injEq] at h1
      have h2 := hs.ev args[i]
      rw [h1] at h2
      have h3 := h2.toD.val (g2 i _ (List.getElem?_eq_getElem hid) ▸ List.getElem?_eq_getElem (by omega : i < vs.length))
      simpa using h3
  rw [e, e2]
  exact hr w
theorem e_ext (E : Eng P cf Q) {fv : Operand} {args : Array Operand} {at' : Array TypeId} {dst : Nat} {ty : TypeId} {ps : String} {af : Array Edge} (f : FuncId) (ds : List D) (vs : List Value) (r : D) (v : Value) (hv : vals ds = some vs) (hrv : r.val = some v) (hr : ∀ w, (callFunc f vs.toArray).run P w = .ok (.value v) w) (hd : dst < cf.n) (hf : ev s fv = .clo f [])
    (hx : args.toList.map (ev s) = ds.map .d) (h : E.run k (s.put dst (.d r))) : E.stp { dst := some dst, op := .call { callee := .value fv, args := args, argTypes := at' }, type := ty, pos := ps, after := af, guard := none } s k .no := by
  rw [e_stp_no]
  rw [E.run_eq] at h
  exact aok_ext f ds vs r v hv hrv hr hd hf hx h
end
end Go.Ab
namespace Go.Ab
theorem liesAt_off {P : Program} {e : TypeId} (hc : P.cellsOf e = 1) (count o n : Nat) (hn : o + n ≤ count) : liesAt P P.depth e count o e n = true := by
  have hd : P.depth = (2 * (P.types.size + Made.depth) + 1) + 1 := rfl
  rw [hd]
  simp only [liesAt, Bool.or_eq_true]
  left
  rw [hd]
  simp [rowAt, hc, hn, sameLayout, Nat.mod_one]
theorem run_unsafeString_off {P : Program} (w : World) (pt it ty e : TypeId) (hp : P.underlying pt = some (.pointer e)) (hc : P.cellsOf e = 1) (g o cells : Nat) (hsh : w.shape? g = some (e, cells)) (l : List UInt8) (h0 : l ≠ []) (hn : o + l.length ≤ cells) (h63 : l.length ≤ 9223372036854775807)
    (hcell : ∀ j x, l[j]? = some x → w.cell? ((⟨g, o, none⟩ : Addr).add j) = some (.int .u8 x.toNat)) :
    (Builtin.unsafeString_ #[pt, it] ty #[.pointer (some ⟨g, o, none⟩), .int .i64 l.length]).run P w = .ok (.string ⟨l.toArray⟩) (w.freeze ⟨g, o, none⟩ l.length) := by
  have hl : l.length ≠ 0 := by simpa using h0
  have hlb := Lib.run_loadBytes (P := P) w l ⟨g, o, none⟩ .empty hcell
  have hlies := liesAt_off (P := P) hc (cells / P.cellsOf e) o l.length (by rw [hc]; simpa using hn)
  have h63' : ¬ (9223372036854775807 : Int) < (l.length : Int) := by omega
  have hdef : Builtin.unsafeString_ #[pt, it] ty #[.pointer (some ⟨g, o, none⟩), .int .i64 l.length] =
      (do
        let n ← asInt (.int .i64 l.length)
        if n < 0 then runtimePanic (.error "unsafe.String: len out of range")
        if n > IntKind.i64.max then unsupported (.unsafePointer "String: a length above the largest int")
        if n = 0 then pure (.string .empty)
        else if ← variablesAt ⟨g, o, none⟩ (← elemOf pt) n.toNat then do
          let s ← loadBytes ⟨g, o, none⟩ .empty n.toNat
          freeze ⟨g, o, none⟩ n.toNat
          pure (.string s)
        else unsupported (.unsafePointer "String: not so many bytes at ptr")) := rfl
  rw [hdef]
  have hmax : IntKind.i64.max = 9223372036854775807 := rfl
  have hneg : ¬ (l.length : Int) < 0 := by omega
  simp [asInt, asIntOf, hmax, h63', hneg, hl, variablesAt, hsh, elemOf, run_underlying hp, hlies, hlb]
def byD (c : UInt8) : D := .int .u8 (c.toNat : Nat)
section
variable {P : Program} {cf : Cf} {Q : Exit → St → Prop} {s : St} {k : List It}
theorem aok_sldN {d : Nat} {x : Operand} {at' : Array TypeId} {ty : TypeId} {pos : String} {af : Array Edge} {g : Option (Nat × Bool)} (hd : d < cf.n) (hx : ev s x = .d .nils) (h : run P cf k Q (s.put d (.d .nilp))) :
    AOk P cf { dst := some d, op := .call { callee := .builtin .unsafeSliceData, args := #[x], argTypes := at' }, type := ty, pos := pos, after := af, guard := g } s k Q := by
  refine aok_pure rfl hd (by simp) (fun B β a w hs => ⟨.pointer none, ?_, .d _ _ .nilp⟩) h
  have hv := hs.ev x
  rw [hx] at hv
  have hv := hv.nils
  simp [execOp, resolve, invoke, builtin, hv, Lib.run_unsafeSliceData_nil]
theorem aok_sld {d : Nat} {x : Operand} {at' : Array TypeId} {ty : TypeId} {pos : String} {af : Array Edge} {g : Option (Nat × Bool)} (p : Name) (tg : Option Nat) (w0 : W) (xs : List D) (l : Nat) (hd : d < cf.n) (hx : ev s x = .vw p 0 l) (hp : s.hp p = some (.arrT tg w0 xs)) (hl : 0 < l) (h : run P cf k Q (s.put d (.el p 0 0))) :
    AOk P cf { dst := some d, op := .call { callee := .builtin .unsafeSliceData, args := #[x], argTypes := at' }, type := ty, pos := pos, after := af, guard := g } s k Q := by
  refine aok_pure rfl hd (by simp) (fun B β a w hs => ?_) h
  have hv := hs.ev x
  rw [hx] at hv
  generalize hax : a.eval x = vx at hv
  cases hv with
  | vw _ _ _ _ hn h1 hx' =>
    obtain ⟨hle, a0, cap, rfl, hc⟩ := hx' _ _ _ hp
    rcases hc with ⟨h0, _⟩ | ⟨k, hk, rfl, hcap, hz⟩
    · omega
    · refine ⟨.pointer (some ⟨k.b, k.o + 0 * wd w0, none⟩), ?_, .el _ _ _ _ hn rfl fun ty' w' xs' hp' => ?_⟩
      · obtain ⟨oo, hoo⟩ : ∃ oo, k.o + 0 * wd w0 = oo := ⟨_, rfl⟩
        rw [hoo] at hax ⊢
        have := Lib.run_unsafeSliceData_row (P := P) w at' ty ⟨k.b, oo, none⟩ l cap (by omega)
        simp [execOp, resolve, invoke, builtin, hax, this]
      · rw [hp] at hp'; cases hp'
        exact ⟨by omega, k, hk, rfl⟩
theorem e_ustr0 (E : Eng P cf Q) {d pt it : Nat} {x y : Operand} {ty : TypeId} {pos : String} {af : Array Edge} (hd : d < cf.n) (hx : ev s x = .d .nilp) (hy : ev s y = .d (.int .i64 0)) (h : E.run k (s.put d (.d (.str [])))) :
    E.stp { dst := some d, op := .call { callee := .builtin .unsafeString, args := #[x, y], argTypes := #[pt, it] }, type := ty, pos := pos, after := af, guard := none } s k .no := by
  rw [e_stp_no]
  rw [E.run_eq] at h
  refine aok_pure rfl hd (by simp) (fun B β a w hs => ⟨.string .empty, ?_, .d _ _ (.str [])⟩) h
  have hv := hs.ev x
  rw [hx] at hv
  have hv := hv.toD
  have hw := hs.ev y
  rw [hy] at hw
  have hw := hw.int
  generalize hax : a.eval x = vx at hv
  cases hv
  have := Lib.run_unsafeString_none (P := P) w pt it ty none
  simp [execOp, resolve, invoke, builtin, hax, hw, this]
theorem e_ustr (E : Eng P cf Q) {d pt it e : Nat} {x y : Operand} {ty : TypeId} {pos : String} {af : Array Edge} (p : Name) (l : List UInt8) (hd : d < cf.n) (hpt : P.underlying pt = some (.pointer e)) (hc : P.cellsOf e = 1) (h0 : l ≠ []) (h63 : l.length ≤ 9223372036854775807)
    (hx : ev s x = .el p 0 0) (hp : s.hp p = some (.arrT (some e) none (l.map byD))) (hy : ev s y = .d (.int .i64 l.length)) (h : E.run k ((s.set p none).put d (.d (.str l)))) :
    E.stp { dst := some d, op := .call { callee := .builtin .unsafeString, args := #[x, y], argTypes := #[pt, it] }, type := ty, pos := pos, after := af, guard := none } s k .no := by
  rw [e_stp_no]
  rw [E.run_eq] at h
  intro B hB ds β a w hds hs Q'
  have hv := hs.ev x
  rw [hx] at hv
  have hw := hs.ev y
  rw [hy] at hw
  have hw := hw.int
  generalize hax : a.eval x = vx at hv
  cases hv with
  | el _ _ _ _ hn h1 hx' =>
  obtain ⟨hlt, k0, hk, rfl⟩ := hx' _ _ _ hp
  rcases (hs.objs p _ hp).2 with ⟨_, h0'⟩ | ⟨k1, c, e', hk1, hh, hz, hl, hok, hrep⟩
  · simp at h0'; exact absurd h0' h0
  rw [hk] at hk1
  cases hk1
  simp only [wd, Nat.mul_one, List.length_map] at hl
  have hsh : w.shape? k0.b = some (e, c.size) := by simp [World.shape?, hh]
  have hcell : ∀ j x, l[j]? = some x → w.cell? ((⟨k0.b, k0.o + 0 * wd none + 0, none⟩ : Addr).add j) = some (.int .u8 x.toNat) := fun j x hj => by
    have hjl := (List.getElem?_eq_some_iff.1 hj).1
    have h2 := hrep j (byD x) 0 (byD x) (by simp [hj]) rfl
    have h3 : k0.o + j < c.size := by omega
    rw [show k0.o + j * wd none + 0 = k0.o + j by simp [wd]] at h2
    simp only [Array.getD_eq_getD_getElem?, Array.getElem?_eq_getElem h3, Option.getD_some] at h2
    have h4 : c[k0.o + j] = .int .u8 x.toNat := by
      generalize c[k0.o + j] = v at h2
      cases h2; rfl
    rw [addr_add]
    simp [World.cell?, hh, wd, h3, h4]
  have hrun := run_unsafeString_off (P := P) w pt it ty e hpt hc k0.b (k0.o + 0 * wd none + 0) c.size hsh l h0 (by simp [wd]; omega) h63 hcell
  obtain ⟨oo, hoo⟩ : ∃ oo, k0.o + 0 * wd none + 0 = oo := ⟨_, rfl⟩
  rw [hoo] at hrun hax
  refine wpIn_of_run (v := .string ⟨l.toArray⟩) (w' := w.freeze ⟨k0.b, oo, none⟩ l.length) (by simp) (by simp [execOp, resolve, invoke, builtin, hax, hw, hrun]) (.inl rfl) ⟨hds, _, β, run_ok h, ?_⟩
  refine Sim.put (hs.dropW hp hk (w' := w.freeze ⟨k0.b, oo, none⟩ l.length) ?_ ?_ fun b hb => ?_) (by rw [hB.1]; exact hd) (.d _ _ (.str l))
  · unfold World.freeze; split <;> rfl
  · unfold World.freeze; split <;> simp
  · unfold World.freeze
    split
    · rfl
    · simp only [Array.getElem?_modify]
      rw [if_neg (fun e => hb e.symm)]
section
variable {ops : Array Oper} {K : St → Ns → Prop} {r : List Oper} {ns : Ns}
theorem x_nilc (E : XEng P cf ops K) {d : Nat} {x : Operand} {ty : TypeId} {pos : String} {af : Array Edge} (p : Name) (c : Nat) (ty' : Option Nat) (cs : List AV) (hd : d < cf.n) (hx : ev s x = .at p c) (hp : s.hp p = some (.boxT ty' cs)) (h : E.run r (s.put d (.at p c)) (ns ++ [([p], [], [])])) :
    E.stp { dst := some d, op := .nilCheck x, type := ty, pos := pos, after := af, guard := none } r s ns .no := by
  refine x_leaf E (x := .at p c) [p] (fun t ht => by rw [Option.mem_def, Option.some.injEq] at ht; rw [← ht]; exact hd) (fun s' hh he => ?_) h
  have h1 : ev s' x = .at p c := (he x (by simp [Op.operands])).trans hx
  have h2 : s'.hp p = some (.boxT ty' cs) := (hh p (by simp)).trans hp
  refine aok_of_stp (o := { dst := some d, op := .nilCheck x, type := ty, pos := pos, after := af, guard := none }) rfl ?_
  have h3 : opR P.ti cf.n (.nilCheck x) (some d) s' = .ok (s'.put d (.at p c)) := by
    unfold opR nilR
    simp only [h1, h2]
    simp [R.bind, putR, hd]
  unfold stp
  simp only [h3, R.run]
  rw [run_nil]; rfl
theorem x_sldN (E : XEng P cf ops K) {d : Nat} {x : Operand} {at' : Array TypeId} {ty : TypeId} {pos : String} {af : Array Edge} {g : Option (Nat × Bool)} (hd : d < cf.n) (hx : ev s x = .d .nils) (h : E.run r (s.put d (.d .nilp)) (ns ++ [([], [], [])])) :
    E.stp { dst := some d, op := .call { callee := .builtin .unsafeSliceData, args := #[x], argTypes := at' }, type := ty, pos := pos, after := af, guard := g } r s ns .no := by
  refine x_leaf E (x := .d .nilp) [] (fun t ht => by rw [Option.mem_def, Option.some.injEq] at ht; rw [← ht]; exact hd) (fun s' _ he => ?_) h
  exact aok_sldN hd ((he x (by simp [Op.operands, Call.operands])).trans hx) (by rw [run_nil]; rfl)
theorem x_sld (E : XEng P cf ops K) {d : Nat} {x : Operand} {at' : Array TypeId} {ty : TypeId} {pos : String} {af : Array Edge} {g : Option (Nat × Bool)} (p : Name) (tg : Option Nat) (w0 : W) (xs : List D) (l : Nat) (hd : d < cf.n) (hx : ev s x = .vw p 0 l) (hp : s.hp p = some (.arrT tg w0 xs)) (hl : 0 < l)
    (h : E.run r (s.put d (.el p 0 0)) (ns ++ [([p], [], [])])) :
    E.stp { dst := some d, op := .call { callee := .builtin .unsafeSliceData, args := #[x], argTypes := at' }, type := ty, pos := pos, after := af, guard := g } r s ns .no := by
  refine x_leaf E (x := .el p 0 0) [p] (fun t ht => by rw [Option.mem_def, Option.some.injEq] at ht; rw [← ht]; exact hd) (fun s' hh he => ?_) h
  exact aok_sld p tg w0 xs l hd ((he x (by simp [Op.operands, Call.operands])).trans hx) ((hh p (by simp)).trans hp) hl (by rw [run_nil]; rfl)
end
end
theorem opE_nilCheck (tf : Nat → TI) (dd : Option Nat) (s : St) (x : Operand) : opE tf (.nilCheck x) dd s = .no := rfl
attribute [go_sem] opE_nilCheck
end Go.Ab
namespace Go.Ab
section
variable {P : Program} {F : Fence} {n : Nat} {ops : Array Oper} {Q Q' : Exit → Act → World → Prop}
theorem wpIn_monoQ {o : Oper} {a : Act} {w : World} {K K' : Act → World → Prop} (h : ∀ a w, K a w → K' a w) (hq : ∀ e a w, Q e a w → Q' e a w) (hh : o.wpIn F n P a w K Q) : o.wpIn F n P a w K' Q' := by
  unfold Oper.wpIn at *
  refine ⟨hh.1, ?_⟩
  have hh := hh.2
  generalize (o.semAt F.round a.eval).run P w = r at *
  cases r with
  | ok x w' =>
    cases x <;> simp only [Oper.uponIn] at hh ⊢ <;>
      first
        | exact h _ _ hh
        | exact ⟨hh.1, CallsIn.mono hh.2 (fun e w'' he => by cases e <;> first | exact h _ _ he | exact hq _ _ _ he | exact he.elim fun a he => he.elim fun w he => ⟨a, w, hq _ _ _ he⟩ | exact he)⟩
        | exact ⟨hh.1, RowsIn.mono hh.2 (fun _ _ he => h _ _ he)⟩
        | exact ⟨hh.1, RoundIn.mono hh.2 (fun e w'' he => by cases e <;> first | exact h _ _ he | exact hq _ _ _ he | exact he.elim fun a he => he.elim fun w he => ⟨a, w, hq _ _ _ he⟩ | exact he)⟩
  | halt x w' => cases x <;> simp only [Oper.uponIn] at hh ⊢ <;> first | exact hq _ _ _ hh | exact hh
theorem wpOpsIn_monoQ (hq : ∀ e a w, Q e a w → Q' e a w) : ∀ (l : List Nat) (a : Act) (w : World), wpOpsIn F n P ops Q l a w → wpOpsIn F n P ops Q' l a w
  | [], _, _, h => hq _ _ _ h
  | i :: r, a, w, h => by
    simp only [wpOpsIn] at h ⊢
    split
    · rename_i hn
      simp only [hn] at h
      exact wpOpsIn_monoQ hq r a w h
    · rename_i o ho
      simp only [ho] at h
      split
      · rename_i hw
        simp only [hw, if_true] at h
        exact wpIn_monoQ (fun a w => wpOpsIn_monoQ hq r a w) hq h
      · rename_i hw
        simp only [hw] at h
        exact ⟨h.1, wpOpsIn_monoQ hq r _ w h.2⟩
end
section
variable {P : Program} {cf : Cf} {Φ : Exit → Act → World → Prop} {I : Base → List Deferred → Prop} {k : List It} {s : St}
theorem Y_rest {all : Array Oper} {r : List Oper} (h : ∀ E : Eng P cf (yq P cf Φ I k), E.run [.ops all r] s) : ARY P cf Φ I (.ops all r :: k) s := by
  have h1 : run P cf [.ops all r] (yq P cf Φ I k) s := veil h
  intro B hB ds β a w hds hI hs l hl
  have h2 := run_ok h1 B hB ds β a w hds hs l hl
  exact wpOpsIn_monoQ (fun _ _ _ hq => yq_hold hB hI hq) l a w h2
theorem rq_ret {B0 : Base} {X : Type} {Iv : X → St} {fr0 fr : List (Nat × AV)} {hp0 hp : List (Name × Ob)} {u0 u : List Nat} (hl : LKL (mk fr0 hp0 u0) hp) (h : ARX cf Φ (CI B0) .ret (mk fr0 hp u)) : rq P cf Φ B0 k Iv (mk fr0 hp0 u0) .ret (mk fr hp u) := ⟨LK_mk (LKL_mem hl), h⟩
end
end Go.Ab
namespace Go.Ab
theorem wl_app (p : Name) : ∀ (a b : List (Name × Option Ob)), wl (a ++ b) p = match wl b p with | some v => some v | none => wl a p
  | [], b => by cases h : wl b p <;> simp [wl, h]
  | q :: r, b => by
    rw [List.cons_append, wl, wl_app p r b]
    cases wl b p <;> simp [wl]
theorem wl_rev (p : Name) (z : Option Ob) : ∀ l : List (Name × Option Ob), (wl l.reverse p).getD z = lkA z l p
  | [] => rfl
  | q :: r => by
    rw [List.reverse_cons, wl_app, lkA_cons]
    by_cases h : p = q.1
    · simp [wl, h]
    · simp only [wl, if_neg h]
      exact wl_rev p z r
def wrO (d : Nat) (chp hp' : List (Name × Ob)) : List (Name × Option Ob) := ((hp'.map fun x : Name × Ob => (aftN id d chp x.1, some (x.2.ren (aftN id d chp)))) ++ chp.map fun x : Name × Ob => (x.1, none)).reverse
theorem wrO_names (d : Nat) (chp hp' : List (Name × Ob)) : (wrO d chp hp').map (fun x => x.1) = ((hp'.map fun x : Name × Ob => aftN id d chp x.1) ++ chp.map fun x : Name × Ob => x.1).reverse := by
  unfold wrO
  rw [List.map_reverse, List.map_append, List.map_map, List.map_map]
  rfl
attribute [go_sem] wrO_names List.reverse_cons List.reverse_nil
theorem lkA_app {α β : Type} [DecidableEq α] (z : β) (i : α) : ∀ a b : List (α × β), lkA z (a ++ b) i = lkA (lkA z b i) a i
  | [], _ => rfl
  | q :: r, b => by rw [List.cons_append, lkA_cons, lkA_cons, lkA_app z i r b]
theorem aft_go (s : St) (d : Nat) (chp hp' : List (Name × Ob)) (r : AV) : aft s id d chp hp' r = s.go (some d) (r.ren (aftN id d chp)) ⟨wrO d chp hp', [d]⟩ := by
  refine st_ext (funext fun q => ?_) rfl fun t => rfl
  show lkA (lkA (s.hp q) (chp.map fun x => (x.1, none)) q) _ q = (wl (wrO d chp hp') q).getD (s.hp q)
  unfold wrO
  rw [wl_rev, lkA_app]
section
variable {P : Program} {cf : Cf} {ops : Array Oper} {K : St → Ns → Prop} {r : List Oper} {s : St} {ns : Ns}
theorem x_callO (E : XEng P cf ops K) {d : Nat} {fv : Operand} {args : Array Operand} {at' : Array TypeId} {ty : TypeId} {pos : String} {af : Array Edge} {g : Option (Nat × Bool)}
    {f : FuncId} {caps : List AV} (cargs : List AV) (chp : List (Name × Ob)) (cu : List Nat) (x : AV) (hp' : List (Name × Ob)) (hc : HCall P cf.G f cargs chp cu (fun y h => y = x ∧ h = hp'))
    (hev : ev s fv = .clo f caps) (hargs : args.toList.map (ev s) ++ caps = cargs) (hd : d < cf.n ∧ d ∉ s.used) (hcu : inUL cu cargs = true) (hpass : passL id cu s chp) (hinj : injL id chp)
    (hl : likeM chp hp') (hk : E.run r (aft s id d chp hp' x) (ns ++ [(chp.map (·.1), (wrO d chp hp').map (·.1), [d])])) :
    E.stp { dst := some d, op := .call { callee := .value fv, args := args, argTypes := at' }, type := ty, pos := pos, after := af, guard := g } r s ns .no := by
  rw [E.stp_eq]
  refine ⟨x.ren (aftN id d chp), (chp.map (·.1), ⟨wrO d chp hp', [d]⟩), fun s' hu hh he B hB ds' β a w hds hs Q' => ?_, fun y hy => ?_, hd.1, ?_⟩
  · have hm : ∀ y, y = fv ∨ y ∈ args → ev s' y = ev s y := fun y hy => he y (by
      simp only [Op.operands, Call.operands]
      rcases hy with rfl | hy <;> simp_all)
    have hpass' : passL id cu s' chp := by
      have : ∀ l : List (Name × Ob), (∀ q ∈ l, q.1 ∈ chp.map (·.1)) → passL id cu s l → passL id cu s' l := by
        intro l
        induction l with
        | nil => intros; trivial
        | cons q r ih =>
          intro hq h
          refine ⟨⟨?_, h.1.2⟩, ih (fun x hx => hq x (List.mem_cons_of_mem _ hx)) h.2⟩
          rw [show s'.hp (id q.1) = s.hp (id q.1) from hh _ (hq q List.mem_cons_self)]
          exact h.1.1
      exact this chp (fun q hq => List.mem_map.2 ⟨q, hq, rfl⟩) hpass
    have hok : AOk P cf { dst := some d, op := .call { callee := .value fv, args := args, argTypes := at' }, type := ty, pos := pos, after := af, guard := g } s' [] (fun _ s2 => s2 = aft s' id d chp hp' x) := by
      refine call_ok d id cargs chp cu _ ((hm fv (.inl rfl)).trans hev) ?_ hcu (hu d (by simp)) (fun t ht => ?_) hpass' hinj hc fun y h hr => ?_
      · rw [evs_cg (s := s) (s' := s') fun y hy => hm y (.inr (by simpa using hy)), hargs, renL_id']
      · obtain rfl := Option.some.inj ht
        exact ⟨hd.1, rfl⟩
      · obtain ⟨rfl, rfl⟩ := hr
        exact ⟨hl, by rw [run_nil]; rfl⟩
    refine Oper.wpIn_mono ?_ (hok B hB ds' β a w hds hs Q')
    rintro a' w' ⟨hd', s2, β', hrun, hs2⟩
    obtain ⟨_, s3, β3, rfl, hs3⟩ := hrun B hB ds' β' a' w' hd' hs2
    exact ⟨hd', β3, by rw [← aft_go]; exact hs3⟩
  · obtain rfl := List.mem_singleton.1 hy
    exact hd.2
  · rw [← E.run_eq, ← aft_go]
    exact hk
theorem sl_cell {H : Array Obj} {own : Nat → Prop} {v : Value} {wf : W} {l : List D} (h : Rep H own v (.sl wf l)) : v.oneCell' = true := by
  generalize hz : D.sl wf l = d at h
  cases h <;> first | rfl | cases hz
theorem vr_sl_cell {H : Array Obj} {own : Nat → Prop} {us : List Nat} {hp : Name → Option Ob} {β : Name → Option Blk} {v : Value} {wf : W} {l : List D} (h : VR H own us hp β v (.d (.sl wf l))) : v.oneCell' = true := by
  cases h with
  | d _ _ h => exact sl_cell h
theorem x_callF (E : XEng P cf ops K) {t : Nat} (u : Nat) (p : Name) (wf : W) (xs : List D) {off len : Nat} {fv : Operand} {args : Array Operand} {at' : Array TypeId} {ty : TypeId} {pos : String} {af : Array Edge} {gg : Option (Nat × Bool)}
    {f : FuncId} {caps : List AV} {ds : List D} {x : AV} (hc : HP P cf.G f ds (fun r => r = x)) (hfv : ∀ s, ev s fv = .clo f caps) (hp : s.hp p = some (.arr wf xs)) (hev : s.fr u = .vw p off len) (hu : (t == u) = false) (hin : Operand.tmp u ∈ args)
    (hargs : args.toList.map (ev (s.put u (.d (.sl wf ((xs.drop off).take len))))) ++ caps = ds.map .d) (hdst : t < cf.n) (hk : E.run r ((s.set p none).put t x) (ns ++ [([p], [p], [])])) :
    E.stp { dst := some t, op := .call { callee := .value fv, args := args, argTypes := at' }, type := ty, pos := pos, after := af, guard := gg } r s ns .no := by
  have htu : ¬ t = u := by simpa using hu
  have hgo : ∀ s : St, (s.set p none).put t x = s.go (some t) x ⟨[(p, none)], []⟩ := fun s => by unfold St.go; rw [eff_set]; rfl
  rw [E.stp_eq]
  refine ⟨x, ([p], ⟨[(p, none)], []⟩), fun s' _ hh he => ?_, fun y hy => (by cases hy), hdst, ?_⟩
  · have hm : ∀ y, y ∈ args → ev s' y = ev s y := fun y hy => he y (by
      simp only [Op.operands, Call.operands]
      simp_all)
    have hp' : s'.hp p = some (.arr wf xs) := (hh p (by simp)).trans hp
    have hev' : s'.fr u = .vw p off len := (hm (.tmp u) hin).trans hev
    obtain ⟨y, hy⟩ : ∃ y, y = AV.d (.sl wf ((xs.drop off).take len)) := ⟨_, rfl⟩
    rw [← hy] at hargs
    have hargs' : args.toList.map (ev ((s'.set p none).put u y)) ++ caps = ds.map .d := by
      rw [← hargs]
      congr 1
      refine List.map_congr_left fun z hz => ?_
      have h0 := hm z (by simpa using hz)
      cases z with
      | tmp i =>
        by_cases e : i = u
        · subst e
          show ((s'.set p none).put i _).fr i = (s.put i _).fr i
          simp [St.put, updN]
        · have h0' : s'.fr i = s.fr i := h0
          show ((s'.set p none).put u _).fr i = (s.put u _).fr i
          simp [St.put, St.set, updN, e, h0']
      | _ => rfl
    have h1 := callP_ok (k := []) (Q := fun _ s2 => s2 = ((s'.set p none).put u y).put t x) (dst := some t) (fv := fv) (args := args) (at' := at') (ty := ty) (pos := pos) (af := af) (g := gg) hc
      (hfv _) hargs' (fun y hy => by rw [Option.mem_def, Option.some.injEq] at hy; rw [← hy]; exact hdst) (fun r hr => by subst hr; rw [run_nil]; rfl)
    intro B hB ds' β a w hds hs Q'
    have hs0 := hs.drop p
    have hs1 : Sim B β ((s'.set p none).put u y) a.tmps w := hs0.setv (by
      have := (hs.frz hp').slots u
      rw [show (s'.frz p wf xs).fr u = (s'.fr u).frz p wf xs from rfl, hev', AV.frz, if_pos rfl, ← hy] at this
      exact this)
    refine Oper.wpIn_mono ?_ (h1 B hB ds' β a w hds hs1 Q')
    rintro a' w' ⟨hd', s2, β', hrun, hs2⟩
    obtain ⟨_, s3, β3, rfl, hs3⟩ := hrun B hB ds' β' a' w' hd' hs2
    refine ⟨hd', β3, ?_⟩
    rw [← hgo]
    have hv := hs3.slots u
    have e1 : (((s'.set p none).put u y).put t x).fr u = y := by simp [St.put, updN, Ne.symm htu, fun h : u = t => htu h.symm]
    rw [e1, hy] at hv
    have hnm := (hs.objs p _ hp').1
    have e2 : ((s'.set p none).put t x) = (((s'.set p none).put u y).put t x).put u (.vw p off len) := by
      refine st_ext' (fun _ => rfl) rfl fun i => ?_
      simp only [St.put, St.set, updN]
      by_cases h1 : i = u
      · subst h1
        have h3 : ¬ i = t := fun h => htu h.symm
        simp [h3, hev']
      · simp [h1]
    have h5 := hs3.setv (t := u) (x := .vw p off len) (.vw _ _ _ _ hnm (by
      exact vr_sl_cell hv) (fun ty w xs h => by
        have h : updP s'.hp p none p = some _ := h
        simp [updP] at h))
    rw [e2]
    exact h5
  · rw [← E.run_eq, ← hgo]
    exact hk
end
end Go.Ab
namespace Go.Ab
section
variable {P : Program} {cf : Cf} {ops : Array Oper} {K : St → Ns → Prop} {r : List Oper} {s : St} {ns : Ns}
theorem x_mkS (E : XEng P cf ops K) {d t e n : Nat} {x y : Operand} {ty : TypeId} {pos : String} {af : Array Edge} {z : D} (ht : (P.ti t).k = .slice e) (hz : (P.ti e).zero = some z) (hw : ((P.ti e).isW (P.ti e).w && okWb (P.ti e).w z) = true)
    (hx : ev s x = .d (.int .i64 n)) (hy : ev s y = .d (.int .i64 n)) (hb : (n : Int) * (P.ti e).by' ≤ 140737488355328 ∧ (n : Int) ≤ 140737488355328) (hd : d < cf.n ∧ d ∉ s.used)
    (hk : E.run r ((s.add d (.arr (P.ti e).w (List.replicate n z))).put d (.vw [d] 0 n)) (ns ++ [([], [[d]], [d])])) :
    E.stp { dst := some d, op := .makeSlice t x y, type := ty, pos := pos, after := af, guard := none } r s ns .no := by
  have hgo : ∀ s' : St, (s'.add d (.arr (P.ti e).w (List.replicate n z))).put d (.vw [d] 0 n) = s'.go (some d) (.vw [d] 0 n) ⟨[([d], some (.arr (P.ti e).w (List.replicate n z)))], [d]⟩ := fun s' => by unfold St.go; rw [eff_add]; rfl
  rw [E.stp_eq]
  refine ⟨.vw [d] 0 n, ([], ⟨[([d], some (.arr (P.ti e).w (List.replicate n z)))], [d]⟩), fun s' hu hh he B hB ds' β a w hds hs Q' => ?_, fun q hq => ?_, hd.1, ?_⟩
  · have h1 : ev s' x = .d (.int .i64 n) := (he x (by simp [Op.operands])).trans hx
    have h2 : ev s' y = .d (.int .i64 n) := (he y (by simp [Op.operands])).trans hy
    have hok : AOk P cf { dst := some d, op := .makeSlice t x y, type := ty, pos := pos, after := af, guard := none } s' [] (fun _ s2 => s2 = (s'.add d (.arr (P.ti e).w (List.replicate n z))).put d (.vw [d] 0 n)) := by
      refine aok_of_stp (o := { dst := some d, op := .makeSlice t x y, type := ty, pos := pos, after := af, guard := none }) rfl ?_
      have h3 : opR P.ti cf.n (.makeSlice t x y) (some d) s' = .need (0 ≤ (n : Int) ∧ (n : Int) ≤ n ∧ (n : Int) * (P.ti e).by' ≤ 140737488355328 ∧ (n : Int) ≤ 140737488355328) (.ok ((s'.add d (.arr (P.ti e).w (List.replicate n z))).put d (.vw [d] 0 n))) := by
        unfold opR makeSliceR newR
        simp only [h1, h2, ht, hz, hw]
        have hdu : d < cf.n ∧ d ∉ s'.used := ⟨hd.1, hu d (by simp)⟩
        simp [hdu.1, hdu.2]
      show stp P cf (opR P.ti cf.n (.makeSlice t x y) (some d) s') _ s' [] _
      rw [h3, stp_need, stp_ok, run_nil]
      exact ⟨⟨by omega, Int.le_refl _, hb⟩, rfl⟩
    refine Oper.wpIn_mono ?_ (hok B hB ds' β a w hds hs Q')
    rintro a' w' ⟨hd', s2, β', hrun, hs2⟩
    obtain ⟨_, s3, β3, rfl, hs3⟩ := hrun B hB ds' β' a' w' hd' hs2
    exact ⟨hd', β3, by rw [← hgo]; exact hs3⟩
  · obtain rfl := List.mem_singleton.1 hq
    exact hd.2
  · rw [← E.run_eq, ← hgo]
    exact hk
end
end Go.Ab
namespace Go.Ab
section
variable {P : Program} {cf : Cf} {Q : Exit → St → Prop} {s : St} {k : List It}
theorem run_bounds3 (n cap : Nat) (h : n ≤ cap) (w : World) : (Instr.sliceBounds true n cap none (some (.int .i64 n)) (some (.int .i64 n))).run P w = .ok (0, n, n) w := by
  have hb : ∀ code, (Instr.sliceBound (.int .i64 (n : Int)) cap code).run P w = .ok n w := fun code => by
    have := run_bound (P := P) .i64 (n : Int) cap code (by omega) (by omega) w
    simpa using this
  have hc : ∀ code, (Instr.sliceBound (.int .i64 (n : Int)) n code).run P w = .ok n w := fun code => by
    have := run_bound (P := P) .i64 (n : Int) n code (by omega) (by omega) w
    simpa using this
  simp [Instr.sliceBounds, hb, hc]
theorem e_slx (E : Eng P cf Q) {d t e : Nat} {x h m : Operand} {ty : TypeId} {pos : String} {af : Array Edge} {wf : W} {xs : List D} (hk : (P.ti t).k = .slice e) (hw : (P.ti e).isW wf = true) (hd : d < cf.n)
    (hx : ev s x = .d (.sl wf xs)) (hh : ev s h = .d (.int .i64 xs.length)) (hm : ev s m = .d (.int .i64 xs.length)) (hr : E.run k (s.put d (.d (.slx wf xs)))) :
    E.stp { dst := some d, op := .slice t x none (some h) (some m), type := ty, pos := pos, after := af, guard := none } s k .no := by
  refine e_pure E rfl hd (fun c hc => by cases hc) (fun B β a w hs => ?_) hr
  have hvx := hs.ev x
  have hvh := hs.ev h
  have hvm := hs.ev m
  rw [hx] at hvx
  rw [hh] at hvh
  rw [hm] at hvm
  obtain ⟨hg, hwd, _⟩ := isW_spec hw
  have hu := ti_slice hk
  have hrep := hvx.toD
  obtain ⟨a0, cap, hxv, hcap, hdd⟩ := hrep.sl_inv
  have hb := run_bounds3 (P := P) xs.length cap hcap w
  have e1 : (Instr.sliceAt t (a.eval x) none (some (a.eval h)) (some (a.eval m))).run P w = .ok (.slice a0 xs.length xs.length) w := by
    rw [hxv, hvh.int, hvm.int]
    have e2 : Option.map (fun x : Addr => x.add 0) a0 = a0 := by
      cases a0 with
      | none => rfl
      | some q => cases q; simp [Addr.add]
    simp only [Instr.sliceAt, Instr.slice, Sem.run_bind, run_underlying hu, Result.andThen_ok, hb, run_sizeOf hg, Sem.run_pure, Nat.sub_zero]
    simp only [Nat.zero_mul, e2, ite_self]
  refine ⟨.slice a0 xs.length xs.length, by simp [execOp, e1], .d _ _ (.slx _ _ _ ?_ ⟨a0, rfl⟩)⟩
  by_cases h0 : xs = []
  · subst h0
    exact .sl0 _ _ _
  · obtain ⟨b', o, c, e', fz, rfl, hb', hn, hz, hok, hc⟩ := hdd h0
    exact .sl b' o xs.length c e' fz wf xs hb' hn (Nat.le_refl _) hz hok hc
theorem e_appx (E : Eng P cf Q) {d t e : Nat} {x y : Operand} {ty : TypeId} {pos : String} {af : Array Edge} {xs ys : List D} (hk : (P.ti t).k = .slice e) (hz : (P.ti e).zOk = true) (hw : (P.ti e).isW (P.ti e).w = true)
    (hd : d < cf.n ∧ d ∉ s.used) (hx : ev s x = .d (.slx (P.ti e).w xs)) (hy : listOf (P.ti e).w s.hp (ev s y) = some ys) (h0 : 0 < ys.length) (hl : (xs.length + ys.length) * (P.ti e).by1 ≤ 140737488355328)
    (h : E.run k ((s.add d (.arr (P.ti e).w (xs ++ ys))).put d (.vw [d] 0 (xs.length + ys.length)))) :
    E.stp { dst := some d, op := .call { callee := .builtin .append, args := #[x, y], argTypes := #[t, t] }, type := ty, pos := pos, after := af, guard := none } s k .no := by
  rw [e_stp_no]
  rw [E.run_eq] at h
  intro B hB ds β a w hds hs Q'
  have hvx := hs.ev x
  have hvy := hs.ev y
  rw [hx] at hvx
  obtain ⟨hg, hwd, _⟩ := isW_spec hw
  obtain ⟨z, hz, hzl⟩ : ∃ z, (P.ti e).z = some z ∧ z.length = (P.ti e).sz := by
    unfold TI.zOk at hz
    split at hz
    · rename_i z h1; exact ⟨z, h1, by simpa using hz⟩
    · cases hz
  obtain ⟨zv, hr, hm, it, hi, hiz, his, hib⟩ := zero_run hz
  have hu := ti_slice hk
  have hby : (xs.length + ys.length) * it.bytes ≤ 140737488355328 ∧ xs.length + ys.length ≤ 140737488355328 := by
    unfold TI.by1 at hl
    rw [hib]
    split at hl
    · rename_i h0; rw [h0]; simp at hl ⊢; exact hl
    · exact ⟨hl, Nat.le_trans (Nat.le_mul_of_pos_right _ (by omega)) hl⟩
  have hrep := hvx.toD
  obtain ⟨hsl, a0, hxv⟩ : Rep w.heap (s.own B.A β) (a.eval x) (.sl (P.ti e).w xs) ∧ ∃ a0, a.eval x = .slice a0 xs.length xs.length := by
    generalize a.eval x = v at hrep
    cases hrep with
    | slx _ _ _ h1 h2 => exact ⟨h1, h2⟩
  obtain ⟨olds, hsx⟩ := listOf_sound (P := P) hs (y := .d (.sl (P.ti e).w xs)) (.d _ _ hsl) (wf := (P.ti e).w) (ys := xs) (by simp [listOf])
  obtain ⟨news, hsy⟩ := listOf_sound (P := P) hs hvy hy
  obtain ⟨nc, hnc, hrun⟩ := run_append_grow' (P := P) (t := t) hu hi hiz ty (by rw [his, hwd]) hsx hsy hxv (by omega) hby.1 hby.2
  obtain ⟨r1, r2⟩ := rows_append hsx hsy (Builtin.zeroCells zv.cells (nc - (xs.length + ys.length)))
  have hzs : zv.cells.size = wd (P.ti e).w := by
    have := (mapM_zd (H := w.heap) (own := s.own B.A β) hm).1
    simp at this; omega
  have hsz : (olds.toArray ++ news.toArray ++ Builtin.zeroCells zv.cells (nc - (xs.length + ys.length))).size = nc * wd (P.ti e).w := by
    simp only [Array.size_append, List.size_toArray, hsx.size, hsy.size, size_zeroCells, hzs, ← Nat.add_mul]; congr 1; omega
  have hdn : d < B.n := by rw [hB.1]; exact hd.1
  have hnew := newArr_sound (hs.heap_eq (w' := w.drew) rfl rfl) hdn hd.2 (c := olds.toArray ++ news.toArray ++ Builtin.zeroCells zv.cells (nc - (xs.length + ys.length))) (wf := (P.ti e).w) (xs := xs ++ ys) (cap := nc) (by simpa using hnc)
    (by rw [hsz]; exact Nat.le_refl _) r1 (fun i x j d hi hj => r2 i x j d hi hj) e none rfl
  obtain ⟨β', hsim⟩ := hnew
  rw [List.length_append] at hsim
  exact wpIn_of_run (v := .slice (some ⟨w.heap.size, 0, none⟩) (xs.length + ys.length) nc) (by simp) (by simp [execOp, resolve, invoke, builtin, hrun]) (.inl rfl) ⟨hds, _, β', run_ok h, hsim⟩
end
end Go.Ab
namespace Go.Ab
section
variable {P : Program} {cf : Cf} {k : List It} {s : St} {Φ : Exit → Act → World → Prop} {I : Base → List Deferred → Prop}
theorem gd_yielded {B : Base} {β : Name → Option Blk} {tm : Array Value} {w : World} {all : Array Oper} {j gt : Nat} {gb : Bool} (hs : Sim B β s tm w) (hj : (all[j]?).bind (·.dst) = some gt) (hgt : s.fr gt = .d (.bool gb)) : yielded all tm j = some gb := by
  have hv := hs.slots gt
  rw [hgt] at hv
  have hb := hv.bool
  have hlt : gt < tm.size := by
    rcases Nat.lt_or_ge gt tm.size with hlt | hge
    · exact hlt
    · simp [Array.getD_eq_getD_getElem?, Array.getElem?_eq_none hge] at hb; cases hb
  simp [Array.getD_eq_getD_getElem?, hlt] at hb
  simp [yielded, hj, Array.getElem?_eq_getElem hlt, hb]
theorem Y_opG {all : Array Oper} {o : Oper} {r : List Oper} {j gt : Nat} {gb : Bool} (hg : o.guard = some (j, gb)) (hj : (all[j]?).bind (·.dst) = some gt) (hgt : s.fr gt = .d (.bool gb)) (h : (opR P.ti cf.n o.op o.dst s).run (fun s' => ARY P cf Φ I (.ops all r :: k) s') False) : ARY P cf Φ I (.ops all (o :: r) :: k) s := by
  intro B hB ds β a w hds hI hs l hl
  cases l with
  | nil => simp at hl
  | cons i l =>
    simp only [List.map_cons, List.cons.injEq] at hl
    obtain ⟨hi, hl⟩ := hl
    have hw : Region.wanted o (yielded all a.tmps) = true := by simp [Region.wanted, hg, gd_yielded hs hj hgt]
    simp only [wpOpsIn, hi, hw, if_true]
    rw [← hB.1] at h
    rcases opR_sound hs h with hz | ⟨nx, v, w', s', β', hrun, hnx, hf, hs'⟩
    · exact hz.elim
    · have hnd : ∀ c, o.op ≠ .defer c := by
        intro c hc
        have : ∃ d w2, (execOp a.eval o).run P w = .ok (.defer d) w2 ∨ ∃ h w2, (execOp a.eval o).run P w = .halt h w2 := by
          simp only [execOp, hc, Sem.run_bind]
          cases (resolve a.eval c o.type).run P w with
          | ok d w2 => exact ⟨d, w2, .inl rfl⟩
          | halt hh w2 => exact ⟨default, w2, .inr ⟨hh, w2, rfl⟩⟩
        obtain ⟨d, w2, h1 | ⟨hh, w3, h1⟩⟩ := this
        · rw [hrun] at h1; cases h1; rcases hnx with h2 | ⟨h2, _⟩ <;> cases h2
        · rw [hrun] at h1; cases h1
      refine wpIn_of_run hnd hrun hnx (hf B hB ds β' _ w' ?_ hI hs' l hl)
      cases o.dst <;> exact hds
end
section
variable {P : Program} {cf : Cf} {N : Nat} {xs : Nat → List D} {z : Itz} {k : List It} {s : St}
theorem Y_yieldG (hz : z.Ok P cf.G N xs) {Φ : Exit → Act → World → Prop} {n t : Nat} {all : Array Oper} {fv : Operand} {args : Array Operand} {at' : Array TypeId} {ty : TypeId} {pos : String} {af : Array Edge} {r : List Oper} {j gt : Nat} {gb : Bool} (hj : (all[j]?).bind (·.dst) = some gt) (hgt : s.fr gt = .d (.bool gb))
    (hn : n < N) (ht : t < cf.n) (hev : ev s fv = .d (.yl z.l)) (hargs : args.toList.map (ev s) = (xs n).map .d)
    (h1 : ARY P cf Φ (II z (n + 1)) (.ops all r :: k) (s.put t (.d (.bool true)))) (h2 : ARY P cf Φ (IX z) (.ops all r :: k) (s.put t (.d (.bool false)))) :
    ARY P cf Φ (II z n) (.ops all ({ dst := some t, op := .call { callee := .value fv, args := args, argTypes := at' }, type := ty, pos := pos, after := af, guard := some (j, gb) } :: r) :: k) s := by
  intro B hB ds β a w hds hI hs l hl
  cases l with
  | nil => simp at hl
  | cons i l =>
    simp only [List.map_cons, List.cons.injEq] at hl
    obtain ⟨hi, hl⟩ := hl
    have hw : (yielded all a.tmps j == some gb) = true := by rw [gd_yielded hs hj hgt]; simp
    simp only [wpOpsIn, hi, Region.wanted, hw, if_true]
    obtain ⟨C, X, W0, hW0, hJ, hst, hA, hX, hzw⟩ := IJ.stp hI hs
    have hJ' := hz.stab _ _ _ _ _ _ hJ hst
    have hf := hs.ev fv
    rw [hev] at hf
    have hfv : a.eval fv = .func (.yield z.l) #[] #[] := by
      have := hf.toD
      generalize a.eval fv = v at this
      cases this; rfl
    have hlen : args.size = (xs n).length := by simpa using congrArg List.length hargs
    have hrd := hz.round n C (ownB s β) w (args.map a.eval) hn hJ' (by simpa using hlen) (fun j d hj => by
      have hx : (args.toList.map (ev s))[j]? = some (.d d) := by rw [hargs, List.getElem?_map, hj]; rfl
      have := (calls_list hs args.toList j _ hx).toD
      rw [show (args.map a.eval).getD j undef = (args.toList.map a.eval).toArray.getD j undef by simp [Array.getD_eq_getD_getElem?]]
      refine this.mono (fun _ _ _ => rfl) (fun b _ hb => ?_)
      rcases hb with hb | hb
      · exact .inl ((hA b).2 hb)
      · exact .inr hb)
    obtain ⟨fn, tmps, assign, body, hy, hrd⟩ := hrd
    refine ⟨fun _ _ => trivial, ?_⟩
    have hrun : (execOp a.eval { dst := some t, op := .call { callee := .value fv, args := args, argTypes := at' }, type := ty, pos := pos, after := af, guard := some (j, gb) } : Sem Next).run P w = .ok (.round z.l fn tmps assign body) w := by
      have e : (execOp a.eval { dst := some t, op := .call { callee := .value fv, args := args, argTypes := at' }, type := ty, pos := pos, after := af, guard := some (j, gb) } : Sem Next) = Instr.yield z.l (#[] ++ args.map a.eval ++ #[]) := by
        show (do let d ← (Deferred.ofValue (a.eval fv) (args.map a.eval)); invoke d.target d.args : Sem Next) = _
        rw [hfv]; rfl
      rw [e]
      simpa using hy
    rw [Oper.semAt_eq _ _ _ (by simp), hrun, Oper.uponIn_round]
    refine ⟨fun hdep => by simp [Fw_depth] at hdep, ?_⟩
    have hrd' : RoundIn (Fw cf.ro) (0 - 1) P z.l fn tmps assign body w _ := hrd
    refine hrd'.mono ?_
    rintro e W' ⟨C', ⟨c1, c2, c3, c4, c5⟩, hq⟩
    have hG' : ∀ q ∈ B.G, W'.heap[q.1]? = some q.2 ∧ ¬ ownB s β q.1 := fun q hq => by
      obtain ⟨g1, g2⟩ := B.hG q hq
      have hlt := lt_of_some g1
      refine ⟨(c4 q (by rw [← hB.2.2]; exact hq)).trans ((hs.frame _ hlt g2).trans g1), fun hb => ?_⟩
      rcases (hs.ownB_ok hb).2.2 with g3 | g3
      · omega
      · exact g2 g3
    let B' : Base := { n := B.n, io := B.io, G := B.G, H0 := W'.heap, O0 := ownB s β, A := C', U0 := B.U0, β0 := B.β0, hA := fun b hb => (c5 b hb).2, hG := hG' }
    have hs' : Sim B' β s a.tmps W' := by
      refine hs.mv rfl (c1.trans hs.io) (Nat.le_refl _) (fun _ _ _ => rfl) c2 (fun b hb hn => c3 b hb (fun hc => hn ((hA b).2 hc))) (fun b hb hc => ?_) (fun p k hp hk => .inr ⟨p, k, hp, hk, rfl⟩) hs.us hs.stay
      rcases (c5 b hc).1 with h | h
      · exact (hA b).2 h
      · omega
    have hIJ : ∀ J : (Nat → Prop) → (Nat → Prop) → World → Prop, J C' (ownB s β) W' → IJ z J B' ds := fun J hj => ⟨hI.1, C', _, W', rfl, c1.trans hs.io, hj, fun _ => Iff.rfl, fun _ => Iff.rfl, hX, Nat.le_trans hzw c2⟩
    rcases hq with ⟨rfl, hj⟩ | ⟨rfl, hj⟩
    · exact h1 B' ⟨hB.1, hB.2.1, hB.2.2⟩ ds β (a.put (some t) (.bool true)) W' hds (hIJ _ hj) (hs'.put (by show t < B.n; rw [hB.1]; exact ht) (.d _ _ (.bool _))) l hl
    · exact h2 B' ⟨hB.1, hB.2.1, hB.2.2⟩ ds β (a.put (some t) (.bool false)) W' hds (hIJ _ ⟨_, hj⟩) (hs'.put (by show t < B.n; rw [hB.1]; exact ht) (.d _ _ (.bool _))) l hl
end
end Go.Ab
namespace Go.Ab
section
variable {P : Program} {cf : Cf} {Q : Exit → St → Prop} {s : St} {k : List It}
theorem e_nild (E : Eng P cf Q) {d : Nat} {x : Operand} {ty : TypeId} {pos : String} {af : Array Edge} {v : D} (hd : d < cf.n) (hx : ev s x = .d (.ptr v)) (h : E.run k (s.put d (.d (.ptr v)))) :
    E.stp { dst := some d, op := .nilCheck x, type := ty, pos := pos, after := af, guard := none } s k .no := by
  refine e_pure E (x := .d (.ptr v)) rfl hd (by simp) (fun B β a w hs => ⟨a.eval x, ?_, hx ▸ hs.ev x⟩) h
  have hv := hs.ev x
  rw [hx] at hv
  have hr := hv.toD
  have he : ∀ y, a.eval x = y → (∃ ad, y = .pointer (some ad)) → (execOp a.eval { dst := some d, op := .nilCheck x, type := ty, pos := pos, after := af, guard := none }).run P w = .ok (.value y) w := by
    rintro y hy ⟨ad, rfl⟩
    simp [execOp, hy]
  refine he _ rfl ?_
  generalize a.eval x = y at hr
  cases hr
  exact ⟨_, rfl⟩
end
end Go.Ab
namespace Go.Ab
inductive Fz where
  | A (p : Name) (w : W) (xs : List D)
  | B (p : Name) (d : D)
def Fz.nm : Fz → Name
  | .A p _ _ => p
  | .B p _ => p
def St.fz (s : St) : Fz → St
  | .A p w xs => s.frzA p w xs
  | .B p d => s.frB p d
def Fz.ok (s : St) : Fz → Prop
  | .A p w xs => s.hp p = some (.arr w xs)
  | .B p d => s.hp p = some (.box (d.cells.map .d)) ∧ (d.cells.all D.scal) = true
def St.fzL (s : St) : List Fz → St
  | [] => s
  | q :: L => (s.fz q).fzL L
def FzOk (s : St) : List Fz → Prop
  | [] => True
  | q :: L => q.ok s ∧ FzOk (s.fz q) L
theorem fzL_nil (s : St) : s.fzL [] = s := rfl
theorem fzL_A (s : St) (p : Name) (w : W) (xs : List D) (L : List Fz) : s.fzL (.A p w xs :: L) = (s.frzA p w xs).fzL L := rfl
theorem fzL_B (s : St) (p : Name) (d : D) (L : List Fz) : s.fzL (.B p d :: L) = (s.frB p d).fzL L := rfl
theorem fzOk_nil (s : St) : FzOk s [] = True := rfl
theorem fzOk_A (s : St) (p : Name) (w : W) (xs : List D) (L : List Fz) : FzOk s (.A p w xs :: L) = (s.hp p = some (.arr w xs) ∧ FzOk (s.frzA p w xs) L) := rfl
theorem fzOk_B (s : St) (p : Name) (d : D) (L : List Fz) : FzOk s (.B p d :: L) = ((s.hp p = some (.box (d.cells.map .d)) ∧ (d.cells.all D.scal) = true) ∧ FzOk (s.frB p d) L) := rfl
theorem fzL_sim {B : Base} {β : Name → Option Blk} {tm : Array Value} {w : World} : ∀ (L : List Fz) (s : St), Sim B β s tm w → FzOk s L → Sim B β (s.fzL L) tm w
  | [], _, h, _ => h
  | .A p wf xs :: L, s, h, hl => by
    rw [fzOk_A] at hl
    exact fzL_sim L _ (h.frzA hl.1) hl.2
  | .B p d :: L, s, h, hl => by
    rw [fzOk_B] at hl
    exact fzL_sim L _ (h.frB hl.1.1 fun x hx => by simpa using List.all_eq_true.1 hl.1.2 x hx) hl.2
def St.noO (s : St) : St := { s with hp := fun _ => none }
theorem ev_noO (s : St) (x : Operand) : ev s.noO x = ev s x := by cases x <;> rfl
theorem Sim.noO {B : Base} {β : Name → Option Blk} {s : St} {tm : Array Value} {w : World} (h : Sim B β s tm w) : Sim B β s.noO tm w := by
  have hr : ∀ v d, Rep w.heap (s.own B.A β) v d → Rep w.heap (s.noO.own B.A β) v d := fun v d hd => hd.mono (fun _ _ _ => rfl) (by
    rintro b _ (hA | ⟨q, k, hq, _⟩)
    · exact .inl hA
    · exact absurd rfl hq)
  exact { tms := h.tms, io := h.io, size := h.size, frame := h.frame, slots := fun i => VR.mono hr (fun _ h => h) (fun q _ o' ho' => (by cases ho')) (h.slots i), objs := fun q o' ho' => (by cases ho'), blocks := fun q k hq _ => absurd rfl hq, inj := fun q q' k k' hq _ => absurd rfl hq, us := h.us, stay := h.stay }
section
variable {P : Program} {cf : Cf} {Q : Exit → St → Prop} {s : St} {k : List It}
theorem callG_ok {dst : Option Nat} {fv : Operand} {args : Array Operand} {at' : Array TypeId} {ty : TypeId} {pos : String} {af : Array Edge} {g : Option (Nat × Bool)}
    (L : List Fz) (hL : FzOk s L) {f : FuncId} {caps : List AV} {ds : List D} {Q0 : AV → Prop} (hc : HP P cf.G f ds Q0) (hflat : ∀ r, Q0 r → r.flat = true)
    (hev : ev (s.fzL L) fv = .clo f caps) (hargs : args.toList.map (ev (s.fzL L)) ++ caps = ds.map .d) (hdst : ∀ t ∈ dst, t < cf.n) (hk : ∀ r, Q0 r → run P cf k Q (s.putO dst r)) :
    AOk P cf { dst := dst, op := .call { callee := .value fv, args := args, argTypes := at' }, type := ty, pos := pos, after := af, guard := g } s k Q := by
  intro B hB ds' β a w hds h Q'
  obtain ⟨d, hd⟩ := fresh_nat s.used
  refine ⟨fun _ _ => trivial, ?_⟩
  have h' := (fzL_sim L s h hL).noO
  rw [← ev_noO] at hev
  rw [show args.toList.map (ev (s.fzL L)) = args.toList.map (ev (s.fzL L).noO) from List.map_congr_left fun y _ => (ev_noO _ y).symm] at hargs
  obtain ⟨s', hs'⟩ : ∃ s', s' = (s.fzL L).noO := ⟨_, rfl⟩
  have hno : ∀ p, s'.hp p = none := fun p => by rw [hs']; rfl
  rw [← hs'] at h' hev hargs
  have hf := h'.ev fv
  rw [hev] at hf
  generalize hfv : a.eval fv = fval at hf
  cases hf with
  | clo _ cvs _ hcs hcv =>
  have hrun : ∀ vs, vs = (args.toList.map a.eval).toArray ++ cvs → (execOp a.eval { dst := dst, op := .call { callee := .value fv, args := args, argTypes := at' }, type := ty, pos := pos, after := af, guard := g }).run P w = .ok (.enter f vs) w := by
    intro vs hvs
    have e : (execOp a.eval { dst := dst, op := .call { callee := .value fv, args := args, argTypes := at' }, type := ty, pos := pos, after := af, guard := g } : Sem Next) = callFunc f (#[] ++ args.map a.eval ++ cvs) := by
      show (do let d ← (Deferred.ofValue (a.eval fv) (args.map a.eval)); invoke d.target d.args : Sem Next) = _
      rw [hfv]; rfl
    rw [e, ← hc.1 vs w, hvs]
    congr 2
    apply Array.ext'
    simp
  rw [Oper.semAt_eq _ _ _ (by simp), hrun _ rfl, Oper.uponIn_enter]
  refine ⟨fun hdep => by simp [Fw_depth] at hdep, ?_⟩
  have hlen : (ds.map AV.d).length = args.size + caps.length := by
    have := congrArg List.length hargs
    simpa using this.symm
  have hvs : ((args.toList.map a.eval).toArray ++ cvs).size = (ds.map AV.d).length := by simp [hcs] at hlen ⊢; omega
  have hv : ∀ (i : Nat) x, (ds.map AV.d)[i]? = some x → VR w.heap (s'.own B.A β) s'.used s'.hp β (((args.toList.map a.eval).toArray ++ cvs).getD i undef) (x.ren id) := by
    intro i x hi
    rw [AV.ren_id id (fun _ => rfl)]
    have hx := hi
    rw [← hargs] at hx
    by_cases hlt : i < args.size
    · have hx' : (args.toList.map (ev s'))[i]? = some x := by rw [← hx, List.getElem?_append_left (by simpa using hlt)]
      have := calls_list h' args.toList i _ hx'
      rw [show ((args.toList.map a.eval).toArray ++ cvs).getD i undef = (args.toList.map a.eval).toArray.getD i undef by simp [Array.getD_eq_getD_getElem?, Array.getElem?_append, hlt]]
      exact this
    · have hx' : caps[i - args.size]? = some x := by rw [← hx, List.getElem?_append_right (by simpa using Nat.le_of_not_lt hlt)]; simp
      have := hcv _ _ hx'
      rw [show ((args.toList.map a.eval).toArray ++ cvs).getD i undef = cvs.getD (i - args.size) undef by simp [Array.getD_eq_getD_getElem?, Array.getElem?_append, hlt]]
      exact this
  have hcall := enterB_ok (P := P) h h' (fun p o ho => by rw [hno p] at ho; cases ho) (Q0 := fun r hp' => Q0 r ∧ r.inU [] = true ∧ hp' = []) (σ := id) (d := d) hd (chp := []) (cu := []) trivial trivial (inUL_d _ _) hvs hv (by rw [hB.2.2]; exact hc) (fun r hp' hq => ⟨hflat r hq.1, by rw [hq.2.2]; rfl⟩)
  have hcall' : CallsIn (Fw cf.ro) (0 - 1) P f ((args.toList.map a.eval).toArray ++ cvs) w _ := hcall
  refine hcall'.mono ?_
  rintro e w' ⟨v, rfl, r, hp', ⟨hQ, hru, rfl⟩, hl⟩
  obtain ⟨β2, hs2, hv2⟩ := hl trivial
  rw [AV.ren_none _ r hru] at hv2
  have hru' := AV.inU_none s.used r hru
  refine ⟨by cases dst <;> exact hds, s.putO dst r, ?_⟩
  cases dst with
  | none =>
    obtain ⟨β3, h3⟩ := h.unuse hs2 rfl (t0 := 0) (x0 := s.fr 0) (fun _ => .inr rfl) rfl (h.slots 0).inU
    exact ⟨β3, run_ok (hk r hQ), h3⟩
  | some t =>
    have h2 := hs2.put (t := t) (by rw [hB.1]; exact hdst t rfl) hv2
    obtain ⟨β3, h3⟩ := h.unuse h2 rfl (t0 := t) (x0 := r) (fun u => by
      by_cases e : u = t
      · exact .inl e
      · exact .inr (by show updN _ _ _ _ = _; simp [updN, e])) (by show updN _ _ _ _ = _; simp [updN]) hru'
    exact ⟨β3, run_ok (hk r hQ), h3⟩
theorem e_callG (E : Eng P cf Q) {dst : Option Nat} {fv : Operand} {args : Array Operand} {at' : Array TypeId} {ty : TypeId} {pos : String} {af : Array Edge}
    (L : List Fz) {f : FuncId} {caps : List AV} {ds : List D} {Q0 : AV → Prop} (hc : HP P cf.G f ds Q0) (hflat : ∀ r, Q0 r → r.flat = true) (hL : FzOk s L)
    (hev : ev (s.fzL L) fv = .clo f caps) (hargs : args.toList.map (ev (s.fzL L)) ++ caps = ds.map .d) (hdst : ∀ t ∈ dst, t < cf.n) (hk : ∀ r, Q0 r → E.run k (s.putO dst r)) :
    E.stp { dst := dst, op := .call { callee := .value fv, args := args, argTypes := at' }, type := ty, pos := pos, after := af, guard := none } s k .no := by
  rw [e_stp_no]
  exact callG_ok L hL hc hflat hev hargs hdst fun r hr => by rw [← E.run_eq]; exact hk r hr
section
variable {ops : Array Oper} {K : St → Ns → Prop} {r : List Oper} {ns : Ns}
structure Alike (ns : List Name) (ts : List Nat) (s s' : St) : Prop where
  hp : ∀ p ∈ ns, s'.hp p = s.hp p
  fr : ∀ t ∈ ts, s'.fr t = s.fr t
theorem Alike.fz {ns : List Name} {ts : List Nat} {s s' : St} (h : Alike ns ts s s') (q : Fz) : Alike ns ts (s.fz q) (s'.fz q) := by
  cases q with
  | A p w xs =>
    refine ⟨fun x hx => ?_, fun t ht => ?_⟩
    · show (updP s'.hp p none x).map _ = (updP s.hp p none x).map _
      unfold updP
      split
      · rfl
      · rw [h.hp x hx]
    · show (s'.fr t).frz p w xs = (s.fr t).frz p w xs
      rw [h.fr t ht]
  | B p d =>
    refine ⟨fun x hx => ?_, fun t ht => ?_⟩
    · show (updP s'.hp p none x).map _ = (updP s.hp p none x).map _
      unfold updP
      split
      · rfl
      · rw [h.hp x hx]
    · show (s'.fr t).frB p d = (s.fr t).frB p d
      rw [h.fr t ht]
theorem Alike.ok {ns : List Name} {ts : List Nat} : ∀ {L : List Fz} {s s' : St}, Alike ns ts s s' → (∀ q ∈ L, q.nm ∈ ns) → FzOk s L → FzOk s' L
  | [], _, _, _, _, _ => trivial
  | .A p w xs :: L, s, s', h, hn, hl => by
    rw [fzOk_A] at hl ⊢
    exact ⟨(h.hp p (hn (.A p w xs) List.mem_cons_self)).trans hl.1, Alike.ok (h.fz (.A p w xs)) (fun q hq => hn q (List.mem_cons_of_mem _ hq)) hl.2⟩
  | .B p d :: L, s, s', h, hn, hl => by
    rw [fzOk_B] at hl ⊢
    exact ⟨⟨(h.hp p (hn (.B p d) List.mem_cons_self)).trans hl.1.1, hl.1.2⟩, Alike.ok (h.fz (.B p d)) (fun q hq => hn q (List.mem_cons_of_mem _ hq)) hl.2⟩
theorem Alike.fzL {ns : List Name} {ts : List Nat} : ∀ (L : List Fz) {s s' : St}, Alike ns ts s s' → Alike ns ts (s.fzL L) (s'.fzL L)
  | [], _, _, h => h
  | q :: L, _, _, h => Alike.fzL L (h.fz q)
end
end
attribute [go_sem] fzL_nil fzL_A fzL_B fzOk_nil fzOk_A fzOk_B Fz.nm
end Go.Ab
namespace Go.Ab
variable {P : Program} {cf : Cf} {Φ : Exit → Act → World → Prop} {I : Base → List Deferred → Prop} {k : List It} {s : St}
def cutq (P : Program) (cf : Cf) (Φ : Exit → Act → World → Prop) (I : Base → List Deferred → Prop) (k : List It) {X : Type} (S : X → St) (e : Exit) (s : St) : Prop :=
  match e with
  | .normal => ∃ x τ, Le cf.U τ s (S x)
  | e => yq P cf Φ I k e s
theorem cutq_ret {X : Type} (S : X → St) : cutq P cf Φ I k S .ret s = ARX cf Φ I .ret s := rfl
theorem Y_cut {X : Type} (S : X → St) {c : Code} (h1 : ∀ E : Eng P cf (cutq P cf Φ I k S), E.run [.code c] s) (h2 : ∀ x, ARY P cf Φ I k (S x)) : ARY P cf Φ I (.code c :: k) s :=
  fun B hB ds β a w hds hI hs => wpIn_mono (run_ok (veil h1) B hB ds β a w hds hs) fun e a' w' hq => by
    obtain ⟨hd, s', β', hq, hs'⟩ := hq
    cases e with
    | normal =>
      obtain ⟨x, τ, hle⟩ := hq
      obtain ⟨β2, hs2, _⟩ := hs'.le (τ := τ) (by rw [hB.2.1]; exact hle)
      exact yq_hold' (s := S x) (e := .normal) hB hI hd (h2 x) hs2
    | ret => exact yq_hold' (e := .ret) hB hI hd hq hs'
    | exit i => exact yq_hold' (e := .exit i) hB hI hd hq hs'
    | goto l => exact hq.elim
    | panic c => exact hq.elim
    | outgrown => exact hq.elim
theorem Y_cut1 (fr : List (Nat × AV)) (hp : List (Name × Ob)) (u : List Nat) {c : Code} (h1 : ∀ E : Eng P cf (cutq P cf Φ I k fun _ : Unit => mk fr hp u), E.run [.code c] s) (h2 : ARY P cf Φ I k (mk fr hp u)) : ARY P cf Φ I (.code c :: k) s := Y_cut _ h1 fun _ => h2
theorem cut_le {fr : List (Nat × AV)} {hp : List (Name × Ob)} {u : List Nat} (τ : Name → Name) (h : LeL cf.U τ s fr hp u) : cutq P cf Φ I k (fun _ : Unit => mk fr hp u) .normal s := ⟨(), τ, h.le⟩
attribute [go_sem] cutq_ret
end Go.Ab
namespace Go.Ab
section
variable {P : Program} {cf : Cf} {ops : Array Oper} {K : St → Ns → Prop} {r : List Oper} {s : St} {ns : Ns}
theorem x_box (E : XEng P cf ops K) {d t : Nat} {x : Operand} {ty : TypeId} {pos : String} {af : Array Edge} {cs : List AV} (hx : cellsA (ev s x) = some cs) (hd : d < cf.n ∧ d ∉ s.used)
    (hk : E.run r ((s.add d (.box cs)).put d (.at [d] 0)) (ns ++ [([], [[d]], [d])])) :
    E.stp { dst := some d, op := .box t x, type := ty, pos := pos, after := af, guard := none } r s ns .no := by
  have hgo : ∀ s' : St, (s'.add d (.box cs)).put d (.at [d] 0) = s'.go (some d) (.at [d] 0) ⟨[([d], some (.box cs))], [d]⟩ := fun s' => by unfold St.go; rw [eff_add]; rfl
  rw [E.stp_eq]
  refine ⟨.at [d] 0, ([], ⟨[([d], some (.box cs))], [d]⟩), fun s' hu hh he B hB ds' β a w hds hs Q' => ?_, fun q hq => ?_, hd.1, ?_⟩
  · have h1 : cellsA (ev s' x) = some cs := by rw [he x (by simp [Op.operands])]; exact hx
    have hok : AOk P cf { dst := some d, op := .box t x, type := ty, pos := pos, after := af, guard := none } s' [] (fun _ s2 => s2 = (s'.add d (.box cs)).put d (.at [d] 0)) := by
      refine aok_of_stp (o := { dst := some d, op := .box t x, type := ty, pos := pos, after := af, guard := none }) rfl ?_
      have h3 : opR P.ti cf.n (.box t x) (some d) s' = .ok ((s'.add d (.box cs)).put d (.at [d] 0)) := by
        unfold opR newR
        simp only [h1]
        have hdu : d < cf.n ∧ d ∉ s'.used := ⟨hd.1, hu d (by simp)⟩
        simp [hdu.1, hdu.2]
      show stp P cf (opR P.ti cf.n (.box t x) (some d) s') _ s' [] _
      rw [h3, stp_ok, run_nil]
    refine Oper.wpIn_mono ?_ (hok B hB ds' β a w hds hs Q')
    rintro a' w' ⟨hd', s2, β', hrun, hs2⟩
    obtain ⟨_, s3, β3, rfl, hs3⟩ := hrun B hB ds' β' a' w' hd' hs2
    exact ⟨hd', β3, by rw [← hgo]; exact hs3⟩
  · obtain rfl := List.mem_singleton.1 hq
    exact hd.2
  · rw [← E.run_eq, ← hgo]
    exact hk
end
end Go.Ab
