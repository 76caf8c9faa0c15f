/-
  The generic layer, part 14: 'run' is sound. (with the parts that follow it)
-/
import Derived.Test.YtjoneaifakonjaaDoorB4
import Derived.Test.YtjoneaifakonjaaDoorA5
import Derived.OrdersIn
import Derived.LoopNIn
set_option linter.all false
/-! ### The generic layer, part 14: 'run' is sound. -/
namespace Go.Ab
section
variable {P : Program} {cf : Cf} {ro : Option Nat}

theorem Fw_fn (f : FuncId) : (Fw ro).fn f := trivial
theorem Fw_depth : (Fw ro).depth = none := rfl

theorem Sim.setv {B : Base} {β : Name → Option Blk} {s : St} {tm : Array Value} {w : World} (h : Sim B β s tm w) {t : Nat} {x : AV} (hv : VR w.heap (s.own B.A β) s.used s.hp β (tm.getD t undef) x) : Sim B β (s.put t x) tm w := by
  refine { h with slots := fun i => ?_ }
  show VR w.heap (s.own B.A β) s.used s.hp β _ (updN s.fr t x i)
  unfold updN
  split
  · rename_i e; rw [e]; exact hv
  · exact h.slots i

/-- A step that is done, at the machine. -/
theorem wpIn_of_run {o : Oper} {a : Act} {w w' : World} {nx : Next} {v : Value} (hnd : ∀ c, o.op ≠ .defer c) (hrun : (execOp a.eval o).run P w = .ok nx w') (hnx : nx = .value v ∨ nx = .skip ∧ v = undef)
    {next : Act → World → Prop} {Q : Exit → Act → World → Prop} (h : next (a.put o.dst v) w') : o.wpIn (Fw cf.ro) 0 P a w next Q := by
  refine ⟨fun _ _ => trivial, ?_⟩
  rw [Oper.semAt_eq _ _ _ hnd, hrun]
  rcases hnx with rfl | ⟨rfl, rfl⟩ <;> exact h

theorem hold_ret (Q : Exit → Act → World → Prop) : ∀ (k : List It) (a : Act) (w : World), Q .ret a w → hold P cf Q k .ret a w
  | [], _, _, h => h
  | .code _ :: k, a, w, h => hold_ret Q k a w h
  | .ops _ _ :: k, a, w, h => hold_ret Q k a w h
  | .blk _ :: k, a, w, h => hold_ret Q k a w h
theorem hold_exit_none (Q : Exit → Act → World → Prop) (i : Nat) : ∀ (k : List It) (a : Act) (w : World), exitK i k = none → Q (.exit i) a w → hold P cf Q k (.exit i) a w
  | [], _, _, _, h => h
  | .code _ :: k, a, w, hk, h => hold_exit_none Q i k a w hk h
  | .ops _ _ :: k, a, w, hk, h => hold_exit_none Q i k a w hk h
  | .blk j :: k, a, w, hk, h => by
    simp only [exitK] at hk
    split at hk
    · cases hk
    · rename_i hj
      simp only [hold, if_neg (fun e : i = j => hj e.symm)]
      exact hold_exit_none Q i k a w hk h
theorem hold_exit_some (Q : Exit → Act → World → Prop) (i : Nat) : ∀ (k k' : List It) (a : Act) (w : World), exitK i k = some k' → hold P cf Q k' .normal a w → hold P cf Q k (.exit i) a w
  | [], _, _, _, hk, _ => by cases hk
  | .code _ :: k, k', a, w, hk, h => hold_exit_some Q i k k' a w hk h
  | .ops _ _ :: k, k', a, w, hk, h => hold_exit_some Q i k k' a w hk h
  | .blk j :: k, k', a, w, hk, h => by
    simp only [exitK] at hk
    split at hk
    · rename_i hj; cases hk; subst hj
      simp only [hold, if_true]; exact h
    · rename_i hj
      simp only [hold, if_neg (fun e : i = j => hj e.symm)]
      exact hold_exit_some Q i k k' a w hk h

theorem hold_then (Q : Exit → Act → World → Prop) (c : Code) (k : List It) : ∀ e a w, hold P cf Q (.code c :: k) e a w → Exit.then (c.wpIn (Fw cf.ro) 0 P (hold P cf Q k)) (hold P cf Q k) e a w := by
  intro e a w h; cases e <;> exact h
theorem hold_block (Q : Exit → Act → World → Prop) (i : Nat) (k : List It) : ∀ e a w, hold P cf Q (.blk i :: k) e a w → Exit.inBlock i (hold P cf Q k) e a w := by
  intro e a w h; cases e <;> exact h

/-- One operation, and the rest. -/
theorem ops_step {B : Base} {ds : List Deferred} {β : Name → Option Blk} {a : Act} {w : World} {s : St} {o : Oper} {all : Array Oper} {r : List Oper} {k : List It} {Q : Exit → St → Prop} (hB : cf.fits B) (hds : a.defers = ds) (h : Sim B β s a.tmps w)
    (ih : ∀ s', run P cf (.ops all r :: k) Q s' → ARun P cf (.ops all r :: k) Q s') {i : Nat} {l : List Nat} (hl : l.map (all[·]?) = r.map some) (hi : all[i]? = some o)
    (hw : Region.wanted o (yielded all a.tmps) = true) {o' : Oper} (ho' : o' = { o with guard := none })
    (hr : (opR P.ti cf.n o.op o.dst s).run (fun s' => run P cf (.ops all r :: k) Q s') (AOk P cf o s (.ops all r :: k) Q) ∨ (opR P.ti cf.n o.op o.dst s).run (fun s' => run P cf (.ops all r :: k) Q s') (AOk P cf o' s (.ops all r :: k) Q)) :
    wpOpsIn (Fw cf.ro) 0 P all (hold P cf (lift B ds Q) k) (i :: l) a w := by
  simp only [wpOpsIn, hi, hw, if_true]
  have done : ∀ a' w', (a'.defers = ds ∧ ∃ s' β', ARun P cf (.ops all r :: k) Q s' ∧ Sim B β' s' a'.tmps w') → wpOpsIn (Fw cf.ro) 0 P all (hold P cf (lift B ds Q) k) l a' w' := by
    rintro a' w' ⟨hd', s', β', hA, hs⟩
    exact hA B hB ds β' a' w' hd' hs l hl
  have does : Does P B o a w (fun s' => run P cf (.ops all r :: k) Q s') → o.wpIn (Fw cf.ro) 0 P a w (wpOpsIn (Fw cf.ro) 0 P all (hold P cf (lift B ds Q) k) l) (hold P cf (lift B ds Q) k) := by
    rintro ⟨nx, v, w', s', β', hrun, hnx, hf, hs⟩
    have hnd : ∀ c, o.op ≠ .defer c := by
      intro c hc
      have : ∃ d w2, (execOp a.eval o).run P w = .ok (.defer d) w2 ∨ ∃ h w2, (execOp a.eval o).run P w = .halt h w2 := by
        simp only [execOp, hc, Sem.run_bind]
        cases (resolve a.eval c o.type).run P w with
        | ok d w2 => exact ⟨d, w2, .inl rfl⟩
        | halt hh w2 => exact ⟨default, w2, .inr ⟨hh, w2, rfl⟩⟩
      obtain ⟨d, w2, h1 | ⟨hh, w3, h1⟩⟩ := this
      · rw [hrun] at h1; cases h1; rcases hnx with h2 | ⟨h2, _⟩ <;> cases h2
      · rw [hrun] at h1; cases h1
    refine wpIn_of_run hnd hrun hnx (done _ _ ⟨?_, s', β', ih s' hf, hs⟩)
    cases o.dst <;> exact hds
  rcases hr with hr | hr
  · rw [← hB.1] at hr
    rcases opR_sound h hr with hz | hd
    · exact Oper.wpIn_mono done (hz B hB ds β a w hds h _)
    · exact does hd
  · rw [← hB.1] at hr
    rcases opR_sound h hr with hz | hd
    · subst ho'
      exact Oper.wpIn_mono done (hz B hB ds β a w hds h (hold P cf (lift B ds Q) k))
    · exact does hd

theorem run_sound : ∀ (N : Nat) (k : List It) (Q : Exit → St → Prop) (s : St), kmsz k ≤ N → run P cf k Q s → ARun P cf k Q s := by
  intro N
  induction N with
  | zero =>
    intro k Q s hN hr
    cases k with
    | nil =>
      rw [run] at hr
      exact fun B hB ds β a w hds h => ⟨hds, s, β, hr, h⟩
    | cons i k => simp only [kmsz] at hN; have := i.msz_pos; omega
  | succ N ih =>
    intro k Q s hN hr
    cases k with
    | nil =>
      rw [run] at hr
      exact fun B hB ds β a w hds h => ⟨hds, s, β, hr, h⟩
    | cons i k =>
      have go : ∀ k' s', kmsz k' ≤ N → run P cf k' Q s' → ARun P cf k' Q s' := fun k' s' hk' => ih k' Q s' hk'
      simp only [kmsz] at hN
      cases i with
      | blk i =>
        simp only [It.msz] at hN
        rw [run] at hr
        exact fun B hB ds β a w hds h => go k s (by omega) hr B hB ds β a w hds h
      | ops all r =>
        simp only [It.msz] at hN
        cases r with
        | nil =>
          rw [run] at hr
          intro B hB ds β a w hds h l hl
          have : l = [] := by simpa using hl
          subst this
          exact go k s (by simp at hN; omega) hr B hB ds β a w hds h
        | cons o r =>
          simp only [List.length_cons] at hN
          have hgo : ∀ s', run P cf (.ops all r :: k) Q s' → ARun P cf (.ops all r :: k) Q s' := fun s' => go _ s' (by simp only [kmsz, It.msz]; omega)
          intro B hB ds β a w hds h l hl
          cases l with
          | nil => simp at hl
          | cons i l =>
            simp only [List.map_cons, List.cons.injEq] at hl
            obtain ⟨hi, hl⟩ := hl
            rw [run] at hr
            cases hg : o.guard with
            | none =>
              rw [hg] at hr
              exact ops_step hB hds h hgo hl hi (by simp [Region.wanted, hg]) rfl (.inl hr)
            | some q =>
              obtain ⟨j, want⟩ := q
              rw [hg] at hr
              simp only at hr
              split at hr
              · rename_i t b hgv
                obtain ⟨oj, hj, hjd, hjt⟩ : ∃ oj, all[j]? = some oj ∧ oj.dst = some t ∧ s.fr t = .d (.bool b) := by
                  unfold guardV at hgv
                  split at hgv
                  · rename_i oj hj
                    simp only [Option.map_eq_some_iff, Prod.mk.injEq] at hgv
                    obtain ⟨t', ht', rfl, hv⟩ := hgv
                    exact ⟨oj, hj, ht', hv⟩
                  · cases hgv
                have hv := h.slots t
                rw [hjt] at hv
                have hb := hv.bool
                have hlt : t < a.tmps.size := by
                  rcases Nat.lt_or_ge t a.tmps.size with hlt | hge
                  · exact hlt
                  · simp [Array.getD_eq_getD_getElem?, Array.getElem?_eq_none hge] at hb; cases hb
                have hy : yielded all a.tmps j = some b := by
                  simp [yielded, hj, hjd, Array.getElem?_eq_getElem hlt]
                  simp [Array.getD_eq_getD_getElem?, hlt] at hb
                  rw [hb]
                by_cases hbw : b = want
                · have hs' : Sim B β (s.put t (.d (.bool want))) a.tmps w := h.setv (by rw [← hbw]; exact hv)
                  exact ops_step hB hds hs' hgo hl hi (by simp [Region.wanted, hg, hy, hbw]) rfl (.inr (hr.1 hbw))
                · have hbn : b = !want := by cases b <;> cases want <;> simp_all
                  have hs' : Sim B β (s.put t (.d (.bool (!want)))) a.tmps w := h.setv (by rw [← hbn]; exact hv)
                  have hnw : Region.wanted o (yielded all a.tmps) = false := by simp [Region.wanted, hg, hy, hbw]
                  simp only [wpOpsIn, hi, hnw, Bool.false_eq_true, if_false]
                  refine ⟨fun _ _ => trivial, ?_⟩
                  rcases putR_ok (hr.2 hbn) with hz | ⟨hd, hf⟩
                  · exact hz.elim
                  · refine hgo _ hf B hB ds β (a.put o.dst undef) w ?_ (hs'.putd (by rw [hB.1]; exact hd) (.tup #[] [] rfl (by simp))) l hl
                    cases o.dst <;> exact hds
              · rename_i t hgv
                obtain ⟨oj, hj, hjd, hjt⟩ : ∃ oj, all[j]? = some oj ∧ oj.dst = some t ∧ s.fr t = .tup [] := by
                  unfold guardV at hgv
                  split at hgv
                  · rename_i oj hj
                    simp only [Option.map_eq_some_iff, Prod.mk.injEq] at hgv
                    obtain ⟨t', ht', rfl, hv⟩ := hgv
                    exact ⟨oj, hj, ht', hv⟩
                  · cases hgv
                have hv := h.slots t
                rw [hjt] at hv
                have hy : yielded all a.tmps j = none := by
                  rcases Nat.lt_or_ge t a.tmps.size with hlt | hge
                  · have hb : a.tmps.getD t undef = .tuple #[] := by
                      generalize a.tmps.getD t undef = v at hv
                      cases hv with
                      | tup vs _ hs _ =>
                        have : vs = #[] := Array.eq_empty_of_size_eq_zero hs
                        rw [this]
                    simp [Array.getD_eq_getD_getElem?, hlt] at hb
                    simp [yielded, hj, hjd, Array.getElem?_eq_getElem hlt, hb]
                  · simp [yielded, hj, hjd, Array.getElem?_eq_none hge]
                have hnw : Region.wanted o (yielded all a.tmps) = false := by simp [Region.wanted, hg, hy]
                simp only [wpOpsIn, hi, hnw, Bool.false_eq_true, if_false]
                refine ⟨fun _ _ => trivial, ?_⟩
                rcases putR_ok hr with hz | ⟨hd, hf⟩
                · exact hz.elim
                · refine hgo _ hf B hB ds β (a.put o.dst undef) w ?_ (h.putd (by rw [hB.1]; exact hd) (.tup #[] [] rfl (by simp))) l hl
                  cases o.dst <;> exact hds
              · exact hr.elim
      | code c =>
        simp only [It.msz] at hN
        have hpos := msz_pos c
        cases c with
        | skip =>
          rw [run] at hr
          exact fun B hB ds β a w hds h => wpIn_skip (go k s (by omega) hr B hB ds β a w hds h)
        | region id ops draw =>
          cases draw with
          | false =>
            rw [run] at hr
            intro B hB ds β a w hds h
            refine wpIn_region ?_
            refine go (.ops ops ops.toList :: k) s (by simp only [kmsz, It.msz, msz] at hN ⊢; omega) hr B hB ds β a w hds h _ ?_
            apply List.ext_getElem?
            intro j
            simp only [List.getElem?_map, Array.getElem?_toList]
            by_cases hj : j < ops.size
            · simp [hj]
            · simp [hj]
          | true => rw [run] at hr; exact hr
        | seq x y =>
          rw [run] at hr
          intro B hB ds β a w hds h
          have := go (.code x :: .code y :: k) s (by simp only [kmsz, It.msz, msz] at hN ⊢; omega) hr B hB ds β a w hds h
          exact wpIn_seq (wpIn_mono this (hold_then _ y k))
        | cond c x y =>
          rw [run] at hr
          intro B hB ds β a w hds h
          split at hr
          · rename_i t ht
            have hc := h.ev c
            rw [ht] at hc
            refine wpIn_cond hc.bool ?_
            cases t with
            | true => exact go (.code x :: k) s (by simp only [kmsz, It.msz, msz] at hN ⊢; omega) (hr.1 rfl) B hB ds β a w hds h
            | false => exact go (.code y :: k) s (by simp only [kmsz, It.msz, msz] at hN ⊢; omega) (hr.2 rfl) B hB ds β a w hds h
          · exact hr.elim
        | block i x =>
          rw [run] at hr
          intro B hB ds β a w hds h
          have := go (.code x :: .blk i :: k) s (by simp only [kmsz, It.msz, msz] at hN ⊢; omega) hr B hB ds β a w hds h
          exact wpIn_block (wpIn_mono this (hold_block _ i k))
        | exit i =>
          rw [run] at hr
          intro B hB ds β a w hds h
          refine wpIn_exit ?_
          split at hr
          · rename_i k' hk'
            have hle := exitK_le _ _ _ hk'
            exact hold_exit_some _ i k k' a w hk' (go k' s (by omega) hr B hB ds β a w hds h)
          · rename_i hk'
            exact hold_exit_none _ i k a w hk' ⟨hds, s, β, hr, h⟩
        | ret =>
          rw [run] at hr
          exact fun B hB ds β a w hds h => wpIn_ret (hold_ret _ k a w ⟨hds, s, β, hr, h⟩)
        | loop c => rw [run] at hr; exact hr; all_goals simp
        | rangeFunc f p as b => rw [run] at hr; exact hr; all_goals simp
        | scope c => rw [run] at hr; exact hr; all_goals simp
        | label l => rw [run] at hr; exact hr; all_goals simp
        | goto l => rw [run] at hr; exact hr; all_goals simp
        | refuse y => rw [run] at hr; exact hr; all_goals simp

theorem run_ok {k : List It} {Q : Exit → St → Prop} {s : St} (h : run P cf k Q s) : ARun P cf k Q s := run_sound (kmsz k) k Q s (Nat.le_refl _) h
end
end Go.Ab
/-! ### The generic layer, part 15: names turned; a lesser state; loops. -/
namespace Go.Ab

mutual
def AV.ren (τ : Name → Name) : AV → AV
  | .un => .un
  | .d x => .d x
  | .vw p o l => .vw (τ p) o l
  | .bx p c => .bx (τ p) c
  | .el p i c => .el (τ p) i c
  | .mp p => .mp (τ p)
  | .it p => .it (τ p)
  | .agg cs => .agg (renL τ cs)
  | .tup cs => .tup (renL τ cs)
  | .clo f cs => .clo f (renL τ cs)
def renL (τ : Name → Name) : List AV → List AV
  | [] => []
  | x :: r => x.ren τ :: renL τ r
end
def Ob.ren (τ : Name → Name) : Ob → Ob
  | .arr w xs => .arr w xs
  | .box cs => .box (renL τ cs)
  | .map es => .map es
  | .siter s i => .siter s i
  | .miter m c es => .miter m c es
/-- Are all names that are held among those whose heads are listed? -/
def nmb (used : List Nat) : Name → Bool
  | [] => false
  | h :: _ => used.contains h
mutual
def AV.inU (u : List Nat) : AV → Bool
  | .un => true
  | .d _ => true
  | .vw p _ _ => nmb u p
  | .bx p _ => nmb u p
  | .el p _ _ => nmb u p
  | .mp p => nmb u p
  | .it p => nmb u p
  | .agg cs => inUL u cs
  | .tup cs => inUL u cs
  | .clo _ cs => inUL u cs
def inUL (u : List Nat) : List AV → Bool
  | [] => true
  | x :: r => x.inU u && inUL u r
end
def Ob.inU (u : List Nat) : Ob → Bool
  | .box cs => inUL u cs
  | _ => true

theorem nmb_nm {u : List Nat} {p : Name} (h : nmb u p = true) : nm u p := by
  cases p with
  | nil => cases h
  | cons a t => exact ⟨a, t, rfl, by simpa [nmb] using h⟩
theorem renL_length (τ : Name → Name) : ∀ l : List AV, (renL τ l).length = l.length
  | [] => rfl
  | _ :: r => by simp [renL, renL_length τ r]
theorem renL_get (τ : Name → Name) : ∀ (l : List AV) (i : Nat), (renL τ l)[i]? = (l[i]?).map (AV.ren τ)
  | [], i => by simp [renL]
  | x :: r, 0 => by simp [renL]
  | x :: r, i + 1 => by simp [renL, renL_get τ r i]
theorem inUL_get {u : List Nat} : ∀ {l : List AV}, inUL u l = true → ∀ (i : Nat) (x : AV), l[i]? = some x → x.inU u = true
  | [], _, i, x, h => by simp at h
  | y :: r, h, 0, x, hx => by simp [inUL] at h hx; subst hx; exact h.1
  | y :: r, h, i + 1, x, hx => by simp only [inUL, Bool.and_eq_true] at h; exact inUL_get h.2 i x (by simpa using hx)

section
variable {H : Array Obj} {own own' : Nat → Prop} {used used' : List Nat} {hp hp' : Name → Option Ob} {β β' : Name → Option Blk}

/-- What holds under the turned names holds under the old ones. -/
theorem VR.ren {τ : Name → Name} (hr : ∀ v d, Rep H own v d → Rep H own' v d) (hob : ∀ p o, hp' p = some o → hp (τ p) = some (o.ren τ) ∧ β' p = β (τ p)) :
    ∀ {v : Value} {y : AV}, VR H own used hp β v y → ∀ x : AV, y = x.ren τ → x.inU used' = true → VR H own' used' hp' β' v x := by
  intro v y h
  induction h with
  | un v => intro x e hu; cases x <;> simp [AV.ren] at e; exact .un v
  | d v z h => intro x e hu; cases x <;> simp [AV.ren] at e; subst e; exact .d v _ (hr v _ h)
  | vw v p off len hn h1 h =>
    intro x e hu; cases x <;> simp [AV.ren] at e
    obtain ⟨rfl, rfl, rfl⟩ := e
    refine .vw v _ _ _ (nmb_nm hu) h1 fun w xs hx => ?_
    obtain ⟨ho, hb⟩ := hob _ _ hx
    rw [hb]; exact h w xs ho
  | bx v p c hn h1 h =>
    intro x e hu; cases x <;> simp [AV.ren] at e
    obtain ⟨rfl, rfl⟩ := e
    refine .bx v _ _ (nmb_nm hu) h1 fun cs hx => ?_
    obtain ⟨ho, hb⟩ := hob _ _ hx
    rw [hb]; exact h _ ho
  | el v p i c hn h1 h =>
    intro x e hu; cases x <;> simp [AV.ren] at e
    obtain ⟨rfl, rfl, rfl⟩ := e
    refine .el v _ _ _ (nmb_nm hu) h1 fun w xs hx => ?_
    obtain ⟨ho, hb⟩ := hob _ _ hx
    rw [hb]; exact h w xs ho
  | mp v p hn h1 h =>
    intro x e hu; cases x <;> simp [AV.ren] at e
    subst e
    refine .mp v _ (nmb_nm hu) h1 fun es hx => ?_
    obtain ⟨ho, hb⟩ := hob _ _ hx
    rw [hb]; exact h _ ho
  | its v p hn h1 h h' =>
    intro x e hu; cases x <;> simp [AV.ren] at e
    subst e
    refine .its v _ (nmb_nm hu) h1 (fun s i hx => ?_) (fun m c i hx => ?_)
    · obtain ⟨ho, hb⟩ := hob _ _ hx
      rw [hb]; exact h _ _ ho
    · obtain ⟨ho, hb⟩ := hob _ _ hx
      rw [hb]; exact h' _ _ _ ho
  | agg vs cs hs hc h0 ih =>
    intro x e hu; cases x <;> simp [AV.ren] at e
    subst e
    rename_i ds
    refine .agg vs ds (by rw [hs, renL_length]) hc fun i x hi => ih i _ (by rw [renL_get, hi]; rfl) x rfl (inUL_get hu i x hi)
  | tup vs cs hs h0 ih =>
    intro x e hu; cases x <;> simp [AV.ren] at e
    subst e
    rename_i ds
    refine .tup vs ds (by rw [hs, renL_length]) fun i x hi => ih i _ (by rw [renL_get, hi]; rfl) x rfl (inUL_get hu i x hi)
  | clo f vs cs hs h0 ih =>
    intro x e hu; cases x <;> simp [AV.ren] at e
    obtain ⟨rfl, rfl⟩ := e
    rename_i ds
    refine .clo _ vs ds (by rw [hs, renL_length]) fun i x hi => ih i _ (by rw [renL_get, hi]; rfl) x rfl (inUL_get hu i x hi)

theorem OR.ren {τ : Name → Name} (hr : ∀ v d, Rep H own v d → Rep H own' v d) (hob : ∀ p o, hp' p = some o → hp (τ p) = some (o.ren τ) ∧ β' p = β (τ p)) {p : Name} {o : Ob} (hb : β' p = β (τ p)) (hu : o.inU used' = true)
    (h : OR H own used hp β (τ p) (o.ren τ)) : OR H own' used' hp' β' p o := by
  cases o with
  | arr w xs =>
    rcases h with ⟨h1, h2⟩ | ⟨k, c, e, hk, hc, hz, hl, hw, h⟩
    · exact .inl ⟨hb.trans h1, h2⟩
    · exact .inr ⟨k, c, e, hb.trans hk, hc, hz, hl, hw, fun i x j d hi hj => hr _ _ (h i x j d hi hj)⟩
  | box cs =>
    obtain ⟨k, c, e, hk, ho, hc, hz, hl, h1, h⟩ := h
    refine ⟨k, c, e, hb.trans hk, ho, hc, hz, by rw [hl, renL_length], h1, fun j x hj => ?_⟩
    exact (h j (x.ren τ) (by rw [renL_get, hj]; rfl)).ren hr hob x rfl (inUL_get hu j x hj)
  | map es =>
    obtain ⟨k, ents, clock, hk, hc, hz, h⟩ := h
    refine ⟨k, ents, clock, hb.trans hk, hc, hz, fun i x hi => ?_⟩
    obtain ⟨en, h1, h2, h3⟩ := h i x hi
    exact ⟨en, h1, hr _ _ h2, hr _ _ h3⟩
  | siter s pos =>
    obtain ⟨k, hk, hc⟩ := h
    exact ⟨k, hb.trans hk, hc⟩
  | miter _ _ _ =>
    obtain ⟨k, b, since, seen, last, hk, hc, hm, hi⟩ := h
    exact ⟨k, b, since, seen, last, hb.trans hk, hc, hr _ _ hm, hi⟩
end

/-- A lesser state, under other names: what it says, the other one says. U: names that must stay. -/
structure Le (U : List Nat) (τ : Name → Name) (s s2 : St) : Prop where
  fr : ∀ t, s2.fr t = .un ∨ s.fr t = (s2.fr t).ren τ ∧ (s2.fr t).inU s2.used = true
  hp : ∀ p o, s2.hp p = some o → s.hp (τ p) = some (o.ren τ) ∧ o.inU s2.used = true ∧ nm s2.used p
  inj : ∀ p q, s2.hp p ≠ none → s2.hp q ≠ none → τ p = τ q → p = q
  us : ∀ x ∈ U, x ∈ s2.used
  stay : ∀ p, nm U p → s2.hp p ≠ none → τ p = p

theorem Sim.le {B : Base} {β : Name → Option Blk} {s s2 : St} {tm : Array Value} {w : World} {τ : Name → Name} (h : Sim B β s tm w) (hle : Le B.U0 τ s s2) : ∃ β2, Sim B β2 s2 tm w ∧ ∀ p, s2.hp p ≠ none → β2 p = β (τ p) := by
  have key : ∃ β2 : Name → Option Blk, (∀ p, s2.hp p ≠ none → β2 p = β (τ p)) ∧ ∀ p, s2.hp p = none → β2 p = β p := by
    refine ⟨fun p => if (s2.hp p).isSome then β (τ p) else β p, fun p hp => ?_, fun p hp => ?_⟩
    · cases h : s2.hp p with
      | none => exact absurd h hp
      | some o => simp [h]
    · simp [hp]
  obtain ⟨β2, hb, hb'⟩ := key
  have hob : ∀ p o, s2.hp p = some o → s.hp (τ p) = some (o.ren τ) ∧ β2 p = β (τ p) := fun p o hp => ⟨(hle.hp p o hp).1, hb p (by rw [hp]; simp)⟩
  have hown : ∀ b, s2.own B.A β2 b → s.own B.A β b := by
    rintro b (hA | ⟨p, k, hp, hk, rfl⟩)
    · exact .inl hA
    · cases ho : s2.hp p with
      | none => exact absurd ho hp
      | some o =>
        obtain ⟨h1, h2⟩ := hob p o ho
        exact .inr ⟨τ p, k, by rw [h1]; simp, by rw [← h2]; exact hk, rfl⟩
  have hr : ∀ v d, Rep w.heap (s.own B.A β) v d → Rep w.heap (s2.own B.A β2) v d := fun v d hd => hd.mono (fun _ _ _ => rfl) (fun b _ => hown b)
  refine ⟨β2, { tms := h.tms, io := h.io, size := h.size, frame := h.frame, slots := fun i => ?_, objs := fun p o hp => ?_, blocks := fun p k hp hk => ?_, inj := fun p q k l hp hq hk hl e => ?_, us := hle.us, stay := fun p hp => ?_ }, hb⟩
  · rcases hle.fr i with e | ⟨e, hu⟩
    · rw [e]; exact .un _
    · exact (h.slots i).ren hr hob _ e hu
  · obtain ⟨h1, h2, h3⟩ := hle.hp p o hp
    exact ⟨h3, OR.ren hr hob (hb p (by rw [hp]; simp)) h2 (h.objs _ _ h1).2⟩
  · rw [hb p hp] at hk
    cases ho : s2.hp p with
    | none => exact absurd ho hp
    | some o => exact h.blocks (τ p) k (by rw [(hle.hp p o ho).1]; simp) hk
  · rw [hb p hp] at hk; rw [hb q hq] at hl
    have live : ∀ p, s2.hp p ≠ none → s.hp (τ p) ≠ none := fun p hp => by
      cases ho : s2.hp p with
      | none => exact absurd ho hp
      | some o => rw [(hle.hp p o ho).1]; simp
    exact hle.inj p q hp hq (h.inj _ _ k l (live p hp) (live q hq) hk hl e)
  · cases ho : s2.hp p with
    | none => rw [hb' p ho]; exact h.stay p hp
    | some o =>
      have hpn : s2.hp p ≠ none := by rw [ho]; simp
      rw [hb p hpn, hle.stay p hp hpn]; exact h.stay p hp

/-! ### What is asked of a written state, as a list of facts -/
def tau (l : List (Name × Name)) (p : Name) : Name := lkA p l p
def frL (τ : Name → Name) (u : List Nat) (s : St) : List (Nat × AV) → Prop
  | [] => True
  | q :: r => (s.fr q.1 = q.2.ren τ ∧ q.2.inU u = true) ∧ frL τ u s r
def hpL (τ : Name → Name) (u : List Nat) (s : St) : List (Name × Ob) → Prop
  | [] => True
  | q :: r => (s.hp (τ q.1) = some (q.2.ren τ) ∧ q.2.inU u = true ∧ nmb u q.1 = true) ∧ hpL τ u s r
def injL (τ : Name → Name) : List (Name × Ob) → Prop
  | [] => True
  | q :: r => (∀ x ∈ r, τ q.1 ≠ τ x.1) ∧ injL τ r
def stayL (U : List Nat) (τ : Name → Name) : List (Name × Ob) → Prop
  | [] => True
  | q :: r => (nmb U q.1 = true → τ q.1 = q.1) ∧ stayL U τ r
def LeL (U : List Nat) (τ : Name → Name) (s : St) (fr : List (Nat × AV)) (hp : List (Name × Ob)) (u : List Nat) : Prop :=
  frL τ u s fr ∧ hpL τ u s hp ∧ injL τ hp ∧ (U.all fun x => u.contains x) = true ∧ stayL U τ hp

theorem lkA_mem {α β : Type} [DecidableEq α] {z : β} : ∀ {l : List (α × β)} {i : α}, lkA z l i = z ∨ (i, lkA z l i) ∈ l
  | [], i => .inl rfl
  | q :: r, i => by
    simp only [lkA]
    split
    · rename_i e; subst e; exact .inr List.mem_cons_self
    · rcases lkA_mem (z := z) (l := r) (i := i) with h | h
      · exact .inl h
      · exact .inr (List.mem_cons_of_mem _ h)
theorem frL_mem {τ : Name → Name} {u : List Nat} {s : St} : ∀ {l : List (Nat × AV)}, frL τ u s l → ∀ q ∈ l, s.fr q.1 = q.2.ren τ ∧ q.2.inU u = true
  | [], _, q, h => by simp at h
  | _ :: r, h, q, hq => by
    rcases List.mem_cons.1 hq with rfl | hq
    · exact h.1
    · exact frL_mem h.2 q hq
theorem hpL_mem {τ : Name → Name} {u : List Nat} {s : St} : ∀ {l : List (Name × Ob)}, hpL τ u s l → ∀ q ∈ l, s.hp (τ q.1) = some (q.2.ren τ) ∧ q.2.inU u = true ∧ nmb u q.1 = true
  | [], _, q, h => by simp at h
  | _ :: r, h, q, hq => by
    rcases List.mem_cons.1 hq with rfl | hq
    · exact h.1
    · exact hpL_mem h.2 q hq
theorem injL_mem {τ : Name → Name} : ∀ {l : List (Name × Ob)}, injL τ l → ∀ q ∈ l, ∀ r ∈ l, τ q.1 = τ r.1 → q.1 = r.1
  | [], _, q, h, _, _, _ => by simp at h
  | a :: l, h, q, hq, r, hr, e => by
    rcases List.mem_cons.1 hq with h1 | h1 <;> rcases List.mem_cons.1 hr with h2 | h2
    · rw [h1, h2]
    · rw [h1] at e; exact absurd e (h.1 r h2)
    · rw [h2] at e; exact absurd e.symm (h.1 q h1)
    · exact injL_mem h.2 q h1 r h2 e
theorem stayL_mem {U : List Nat} {τ : Name → Name} : ∀ {l : List (Name × Ob)}, stayL U τ l → ∀ q ∈ l, nmb U q.1 = true → τ q.1 = q.1
  | [], _, q, h, _ => by simp at h
  | _ :: r, h, q, hq, hn => by
    rcases List.mem_cons.1 hq with rfl | hq
    · exact h.1 hn
    · exact stayL_mem h.2 q hq hn
theorem mk_hp_mem {fr : List (Nat × AV)} {hp : List (Name × Ob)} {u : List Nat} {p : Name} {o : Ob} (h : (mk fr hp u).hp p = some o) : (p, o) ∈ hp := by
  have := lkA_mem (z := (none : Option Ob)) (l := hp.map fun q => (q.1, some q.2)) (i := p)
  have e : lkA none (hp.map fun q => (q.1, some q.2)) p = some o := h
  rw [e] at this
  rcases this with h | h
  · cases h
  · obtain ⟨q, hq, e⟩ := List.mem_map.1 h
    cases e; exact hq
theorem LeL.le {U : List Nat} {τ : Name → Name} {s : St} {fr : List (Nat × AV)} {hp : List (Name × Ob)} {u : List Nat} (h : LeL U τ s fr hp u) : Le U τ s (mk fr hp u) := by
  obtain ⟨h1, h2, h3, h4, h5⟩ := h
  have live : ∀ p, (mk fr hp u).hp p ≠ none → ∃ o, (p, o) ∈ hp := fun p hp' => by
    cases ho : (mk fr hp u).hp p with
    | none => exact absurd ho hp'
    | some o => exact ⟨o, mk_hp_mem ho⟩
  refine ⟨fun t => ?_, fun p o hp' => ?_, fun p q hp' hq' e => ?_, fun x hx => ?_, fun p hp' hl => ?_⟩
  · rcases lkA_mem (z := AV.un) (l := fr) (i := t) with e | hm
    · exact .inl e
    · exact .inr (frL_mem h1 _ hm)
  · obtain ⟨a, b, c⟩ := hpL_mem h2 _ (mk_hp_mem hp')
    exact ⟨a, b, nmb_nm c⟩
  · obtain ⟨o, ho⟩ := live p hp'
    obtain ⟨o', ho'⟩ := live q hq'
    exact injL_mem h3 _ ho _ ho' e
  · have := List.all_eq_true.1 h4 x hx
    show x ∈ u
    simpa using this
  · obtain ⟨o, ho⟩ := live p hl
    refine stayL_mem h5 _ ho ?_
    obtain ⟨a, t, rfl, ha⟩ := hp'
    simpa [nmb] using ha

/-! ### Loops -/
section
variable {P : Program} {cf : Cf}

/-- How a round may be left. -/
def lq (P : Program) (cf : Cf) (next : St → Prop) (k : List It) (Q : Exit → St → Prop) (e : Exit) (s : St) : Prop :=
  match e with
  | .normal => next s
  | .exit i => goK P cf (exitK i k) i Q s
  | .ret => Q .ret s
  | _ => False
theorem lq_normal (next : St → Prop) (k : List It) (Q : Exit → St → Prop) (s : St) : lq P cf next k Q .normal s = next s := rfl
theorem lq_exit (next : St → Prop) (k : List It) (Q : Exit → St → Prop) (s : St) (i : Nat) : lq P cf next k Q (.exit i) s = goK P cf (exitK i k) i Q s := rfl
theorem lq_ret (next : St → Prop) (k : List It) (Q : Exit → St → Prop) (s : St) : lq P cf next k Q .ret s = Q .ret s := rfl

/-- A loop: at each round's head stands I x for some x; each round lowers μ. -/
theorem loop_ok {X : Type} (I : X → St) (μ : X → Nat) {c : Code} {s : St} {k : List It} {Q : Exit → St → Prop}
    (h0 : ∃ x τ, Le cf.U τ s (I x))
    (hr : ∀ x, run P cf [.code c] (lq P cf (fun s' => ∃ y, μ y < μ x ∧ ∃ τ, Le cf.U τ s' (I y)) k Q) (I x)) : ACk P cf (.loop c) s k Q := by
  have key : ∀ N x, μ x < N → ∀ (B : Base), cf.fits B → ∀ ds β a w, a.defers = ds → Sim B β (I x) a.tmps w → Code.roundsIn (Fw cf.ro) 0 P c (hold P cf (lift B ds Q) k) N a w := by
    intro N
    induction N with
    | zero => intro x hx; omega
    | succ N ih =>
      intro x hx B hB ds β a w hds h
      rw [roundsIn_succ]
      refine wpIn_mono (run_ok (hr x) B hB ds β a w hds h) fun e a' w' hq => ?_
      obtain ⟨hd', s', β', hq, hs⟩ := hq
      cases e with
      | normal =>
        obtain ⟨y, hy, τ, hle⟩ := hq
        obtain ⟨β2, hs2, _⟩ := hs.le (τ := τ) (by rw [hB.2.1]; exact hle)
        exact ih y (by omega) B hB ds β2 a' w' hd' hs2
      | exit i =>
        unfold lq goK at hq
        show hold P cf (lift B ds Q) k (.exit i) a' w'
        simp only at hq
        split at hq
        · rename_i k' hk'
          exact hold_exit_some _ i k k' a' w' hk' (run_ok hq B hB ds β' a' w' hd' hs)
        · rename_i hk'
          exact hold_exit_none _ i k a' w' hk' ⟨hd', s', β', hq, hs⟩
      | ret => exact hold_ret _ k a' w' ⟨hd', s', β', hq, hs⟩
      | goto l => exact hq.elim
      | panic c => exact hq.elim
      | outgrown => exact hq.elim
  obtain ⟨x, τ, hle⟩ := h0
  intro B hB ds β a w hds h
  obtain ⟨β2, hs2, _⟩ := h.le (τ := τ) (by rw [hB.2.1]; exact hle)
  exact wpIn_loop_rounds (μ x + 1) (key _ x (Nat.lt_succ_self _) B hB ds β2 a w hds hs2)

/-- A lesser state may stand for the state anywhere. -/
theorem AOk.le {o : Oper} {s s2 : St} {k : List It} {Q : Exit → St → Prop} {τ : Name → Name} (hle : Le cf.U τ s s2) (h : AOk P cf o s2 k Q) : AOk P cf o s k Q :=
  fun B hB ds β a w hds hs Q' => let ⟨β2, hs2, _⟩ := hs.le (τ := τ) (by rw [hB.2.1]; exact hle); h B hB ds β2 a w hds hs2 Q'
theorem ACk.le {c : Code} {s s2 : St} {k : List It} {Q : Exit → St → Prop} {τ : Name → Name} (hle : Le cf.U τ s s2) (h : ACk P cf c s2 k Q) : ACk P cf c s k Q :=
  fun B hB ds β a w hds hs => let ⟨β2, hs2, _⟩ := hs.le (τ := τ) (by rw [hB.2.1]; exact hle); h B hB ds β2 a w hds hs2
end
end Go.Ab
/-! ### The generic layer, part 16: functions and calls. -/
namespace Go.Ab

def argsFr : Nat → List AV → List (Nat × AV)
  | _, [] => []
  | i, x :: r => (i, x) :: argsFr (i + 1) r

/-- A function's contract, by values: called with such arguments, where such objects lie, it hands back r and leaves the objects hp' with Q r hp'. u: the heads of the objects' names. -/
def HCall (P : Program) (G : List (Nat × Obj)) (f : FuncId) (args : List AV) (hp : List (Name × Ob)) (u : List Nat) (Q : AV → List (Name × Ob) → Prop) : Prop :=
  (∀ vs w, (callFunc f vs).run P w = .ok (.enter f vs) w) ∧
  ∀ (B : Base) (β : Name → Option Blk) (vs : Array Value) (w : World), B.n = args.length → B.H0 = w.heap → B.U0 = u → B.G = G → Sim B β (mk (argsFr 0 args) hp u) vs w →
    CallsIn Fence.wide 0 P f vs w fun e w' => ∃ v r hp' u' β', e = .returned v ∧ Q r hp' ∧ Sim { B with n := 1 } β' (mk [(0, r)] hp' u') #[v] w'

theorem HCall.mono {P : Program} {G : List (Nat × Obj)} {f : FuncId} {args : List AV} {hp : List (Name × Ob)} {u : List Nat} {Q Q' : AV → List (Name × Ob) → Prop} (h : HCall P G f args hp u Q) (hq : ∀ r hp', Q r hp' → Q' r hp') : HCall P G f args hp u Q' :=
  ⟨h.1, fun B β vs w h1 h2 h3 h4 h5 => (h.2 B β vs w h1 h2 h3 h4 h5).mono fun _ _ ⟨v, r, hp', u', β', he, hQ, hs⟩ => ⟨v, r, hp', u', β', he, hq _ _ hQ, hs⟩⟩

theorem argsFr_get : ∀ (l : List AV) (i t : Nat), lkA AV.un (argsFr i l) t = if i ≤ t then (l[t - i]?).getD .un else .un
  | [], i, t => by simp [argsFr, lkA]
  | x :: r, i, t => by
    simp only [argsFr, lkA, argsFr_get r (i + 1) t]
    by_cases h1 : t = i
    · subst h1; simp
    · rw [if_neg h1]
      by_cases h2 : i + 1 ≤ t
      · rw [if_pos h2, if_pos (by omega), show t - i = (t - (i + 1)) + 1 by omega, List.getElem?_cons_succ]
      · rw [if_neg h2, if_neg (by omega)]

/-! ### A function's body -/
def resR (P : Program) (s : St) : List ResultVar → R (List AV)
  | [] => .ok []
  | .tmp t :: r => (resR P s r).bind fun l => .ok (s.fr t :: l)
  | .cell p ty :: r => (loadR (P.ti ty) s.hp (s.fr p)).bind fun x => (resR P s r).bind fun l => .ok (x :: l)
def retV : List AV → AV
  | [x] => x
  | l => .tup l
def RX {α : Type} : R α → (α → Prop) → Prop
  | .ok a, φ => φ a
  | .need p r, φ => p ∧ RX r φ
  | .no, _ => False
/-- The state in which only a result is held. -/
def retS (s : St) (x : AV) : St := { s with fr := fun t => if t = 0 then x else .un }
/-- What is asked where the body is left. -/
def fq (P : Program) (rs : List ResultVar) (u : List Nat) (Q : AV → List (Name × Ob) → Prop) (e : Exit) (s : St) : Prop :=
  match e with
  | .ret => RX (resR P s rs) fun l => ∃ r hp' u' τ, Q r hp' ∧ LeL u τ (retS s (retV l)) [(0, r)] hp' u'
  | .normal => RX (resR P s rs) fun l => ∃ r hp' u' τ, Q r hp' ∧ LeL u τ (retS s (retV l)) [(0, r)] hp' u'
  | _ => False

section
variable {P : Program}

/-- One result, as the machine takes it. -/
def oneRes (tm : Array Value) : ResultVar → Sem Value
  | .tmp t => pure (tm.getD t undef)
  | .cell a t => do loadVar t (← asAddr (tm.getD a undef))
theorem RX.RV {α : Type} {φ ψ : α → Prop} : ∀ {r : R α}, RX r φ → RV r ψ → ∃ a, φ a ∧ ψ a
  | .ok a, h, g => ⟨a, h, g⟩
  | .need _ _, h, g => RX.RV h.2 (g h.1)
  | .no, h, _ => h.elim

theorem resR_sound {B : Base} {β : Name → Option Blk} {s : St} {tm : Array Value} {w : World} (h : Sim B β s tm w) : ∀ (rs : List ResultVar),
    RV (resR P s rs) fun l => ∃ vs : List Value, (rs.mapM (oneRes tm)).run P w = .ok vs w ∧ vs.length = l.length ∧
      ∀ (i : Nat) x, l[i]? = some x → VR w.heap (s.own B.A β) s.used s.hp β (vs.getD i undef) x
  | [] => ⟨[], by simp, rfl, by simp⟩
  | .tmp t :: r => RV.bind (fun l ⟨vs, h1, h2, h3⟩ => ⟨tm.getD t undef :: vs, by simp [List.mapM_cons, oneRes, h1], by simp [h2], fun i x hi => by
      cases i with
      | zero => simp at hi; subst hi; exact h.slots t
      | succ i => simpa using h3 i x (by simpa using hi)⟩) (resR_sound h r)
  | .cell p ty :: r => RV.bind (fun y ⟨v, hv, hy⟩ => RV.bind (fun l ⟨vs, h1, h2, h3⟩ => ⟨v :: vs, by
      have : (oneRes tm (.cell p ty)).run P w = .ok v w := by
        show (do loadVar ty (← asAddr (tm.getD p undef)) : Sem Value).run P w = .ok v w
        cases hp : tm.getD p undef with
        | pointer a =>
          cases a with
          | none => rw [hp] at hv; simp [Instr.loadAt, Instr.sureAddr] at hv
          | some a => rw [hp] at hv; simpa only [Instr.loadAt, Instr.sureAddr, asAddr, Sem.run_bind, Sem.run_pure, Result.andThen_ok] using hv
        | _ => rw [hp] at hv; simp [Instr.loadAt, Instr.sureAddr] at hv
      simp [List.mapM_cons, this, h1], by simp [h2], fun i x hi => by
      cases i with
      | zero => simp at hi; subst hi; exact hy
      | succ i => simpa using h3 i x (by simpa using hi)⟩) (resR_sound h r)) (load_sound (P := P) (t := ty) h (h.slots p))

theorem run_results {B : Base} {β : Name → Option Blk} {s : St} {tm : Array Value} {w : World} (h : Sim B β s tm w) (fn : Func) {φ : List AV → Prop} (hr : RX (resR P s fn.results.toList) φ) :
    ∃ l v, φ l ∧ (results fn tm).run P w = .ok v w ∧ VR w.heap (s.own B.A β) s.used s.hp β v (retV l) := by
  obtain ⟨l, hφ, vs, h1, h2, h3⟩ := RX.RV hr (resR_sound (P := P) h fn.results.toList)
  refine ⟨l, (if vs.length = 1 then vs.getD 0 undef else .tuple vs.toArray), hφ, ?_, ?_⟩
  · have hm : (fn.results.mapM (oneRes tm)).run P w = .ok vs.toArray w := by
      rw [Array.mapM_eq_mapM_toList]
      simp only [Sem.run_map, h1, Result.andThen_ok]
    have e : results fn tm = (do let vs ← fn.results.mapM (oneRes tm); pure (if h : vs.size = 1 then vs[0] else .tuple vs)) := by
      unfold results
      have : (fun x : ResultVar => match x with | .tmp t => (pure (tm.getD t undef) : Sem Value) | .cell a t => do loadVar t (← asAddr (tm.getD a undef))) = oneRes tm := by
        funext x; cases x <;> rfl
      rw [← this]; rfl
    rw [e, Sem.run_bind, hm]
    simp only [Result.andThen_ok, Sem.run_pure, List.size_toArray]
    by_cases hl : vs.length = 1
    · match vs, hl with
      | [v], _ => simp
    · rw [if_neg hl]; simp [hl]
  · match l, h2, h3 with
    | [x], h2, h3 =>
      simp only [List.length_cons, List.length_nil] at h2
      rw [if_pos h2]
      exact h3 0 x rfl
    | [], h2, h3 =>
      rw [if_neg (by rw [h2]; simp)]
      exact .tup _ _ (by simpa using h2) (fun i x hi => by simp at hi)
    | x :: y :: r, h2, h3 =>
      rw [if_neg (by rw [h2]; simp)]
      refine .tup _ _ (by simpa using h2) (fun i z hi => ?_)
      have := h3 i z hi
      simpa [Array.getD_eq_getD_getElem?, List.getD_eq_getElem?_getD] using this

theorem Fw_none : Fw none = Fence.wide := rfl

/-- A function's contract out of its body's run. -/
theorem fun_ok {G : List (Nat × Obj)} {f : FuncId} {fn : Func} {c : Code} {args : List AV} {hp : List (Name × Ob)} {u : List Nat} {Q : AV → List (Name × Ob) → Prop} (hf : P.funcs[f]? = some fn) (hb : fn.body = some c)
    (he : ∀ vs w, (callFunc f vs).run P w = .ok (.enter f vs) w) (hn : args.length ≤ fn.ntmps)
    {Q0 : Exit → St → Prop} (hQ0 : ∀ e s, Q0 e s → fq P fn.results.toList u Q e s)
    (h : run P ⟨fn.ntmps, none, G, u⟩ [.code c] Q0 (mk (argsFr 0 args) hp u)) : HCall P G f args hp u Q := by
  refine ⟨he, fun B β vs w h1 h2 h3 h4 hs => ?_⟩
  have hsz : vs.size = args.length := hs.tms.trans h1
  have hs' : Sim { B with n := fn.ntmps } β (mk (argsFr 0 args) hp u) (vs ++ Array.replicate (fn.ntmps - vs.size) undef) w := by
    refine { hs with tms := by simp; omega, slots := fun t => ?_ }
    have := hs.slots t
    by_cases ht : t < vs.size
    · have e : (vs ++ Array.replicate (fn.ntmps - vs.size) undef).getD t undef = vs.getD t undef := by
        simp [Array.getD_eq_getD_getElem?, Array.getElem?_append, ht]
      rw [e]; exact this
    · have e : (mk (argsFr 0 args) hp u).fr t = .un := by
        rw [mk_fr, argsFr_get, if_pos (Nat.zero_le _), List.getElem?_eq_none (by omega)]; rfl
      rw [e]; exact .un _
  have hrun := run_ok h { B with n := fn.ntmps } ⟨rfl, h3, h4⟩ [] β { tmps := vs ++ Array.replicate (fn.ntmps - vs.size) undef, defers := [] } w rfl hs'
  refine callsIn_of_wp hf hb trivial (wpIn_mono (F := Fence.wide) hrun fun e a' w' hq => ?_)
  obtain ⟨hd, s', β', hq, hsim⟩ := hq
  have hq := hQ0 _ _ hq
  have fin : RX (resR P s' fn.results.toList) (fun l => ∃ r hp' u' τ, Q r hp' ∧ LeL u τ (retS s' (retV l)) [(0, r)] hp' u') →
      a'.defers = [] ∧ ∃ v, (results fn a'.tmps).run P w' = .ok v w' ∧ ∃ v' r hp' u' β', Ending.returned v = .returned v' ∧ Q r hp' ∧ Sim { B with n := 1 } β' (mk [(0, r)] hp' u') #[v'] w' := by
    intro hx
    obtain ⟨l, v, ⟨r, hp', u', τ, hQ, hle⟩, hr, hv⟩ := run_results hsim fn hx
    have hret : Sim { B with n := 1 } β' (retS s' (retV l)) #[v] w' := by
      refine { tms := rfl, io := hsim.io, size := hsim.size, frame := hsim.frame, slots := fun t => ?_, objs := hsim.objs, blocks := hsim.blocks, inj := hsim.inj, us := hsim.us, stay := hsim.stay }
      show VR w'.heap (s'.own B.A β') s'.used s'.hp β' _ (if t = 0 then retV l else .un)
      by_cases ht : t = 0
      · subst ht; rw [if_pos rfl]; exact hv
      · rw [if_neg ht]; exact .un _
    obtain ⟨β2, hs2, _⟩ := hret.le (τ := τ) (by show Le B.U0 τ _ _; rw [h3]; exact hle.le)
    exact ⟨hd, v, hr, v, r, hp', u', β2, rfl, hQ, hs2⟩
  cases e with
  | normal => exact fin hq
  | ret => exact fin hq
  | exit i => exact hq.elim
  | goto l => exact hq.elim
  | panic c => exact hq.elim
  | outgrown => exact hq.elim

/-! ### Calls -/
/-- Lookups through turned names. -/
theorem lkA_map {α β γ : Type} [DecidableEq α] [DecidableEq β] (σ : α → β) (g : γ → Option Ob) {l : List (α × γ)} (hσ : ∀ p q, σ p = σ q → p = q) (z : Option Ob) (p : α) (h : ∀ q ∈ l, q.1 ≠ p) : lkA z (l.map fun q => (σ q.1, g q.2)) (σ p) = z := by
  induction l with
  | nil => rfl
  | cons q r ih =>
    simp only [List.map_cons, lkA]
    rw [if_neg (fun e => h q List.mem_cons_self (hσ _ _ e).symm)]
    exact ih fun x hx => h x (List.mem_cons_of_mem _ hx)

/-- The state behind a call: the objects that were handed in are as hp' says; what is new bears the temporary's name ahead. -/
def aftN (σ : Name → Name) (d : Nat) (chp : List (Name × Ob)) (p : Name) : Name := if chp.any (fun q => q.1 == p) then σ p else d :: p
def aft (s : St) (σ : Name → Name) (d : Nat) (chp hp' : List (Name × Ob)) (r : AV) : St :=
  { fr := updN s.fr d (r.ren (aftN σ d chp)), used := d :: s.used,
    hp := fun q => lkA (lkA (s.hp q) (chp.map fun x => (σ x.1, none)) q) (hp'.map fun x => (aftN σ d chp x.1, some (x.2.ren (aftN σ d chp)))) q }

def likeL (chp hp' : List (Name × Ob)) : Prop := ∀ p o o', (mk [] chp []).hp p = some o → (mk [] hp' []).hp p = some o' → o.like o'

theorem VR.ren' {H : Array Obj} {own own' : Nat → Prop} {used used' : List Nat} {hp hp' : Name → Option Ob} {β β' : Name → Option Blk} {σ : Name → Name} (hr : ∀ v d, Rep H own v d → Rep H own' v d)
    (hu : ∀ p, nm used p → nm used' (σ p)) (hob : ∀ p, nm used p → ∀ o', hp' (σ p) = some o' → ∃ o, hp p = some o ∧ o' = o.ren σ ∧ β' (σ p) = β p) :
    ∀ {v : Value} {x : AV}, VR H own used hp β v x → VR H own' used' hp' β' v (x.ren σ) := by
  intro v x h
  induction h with
  | un v => exact .un v
  | d v z h => exact .d v _ (hr v _ h)
  | vw v p off len hn h1 h =>
    refine .vw v _ _ _ (hu p hn) h1 fun w xs hx => ?_
    obtain ⟨o, ho, e, hb⟩ := hob p hn _ hx
    cases o <;> simp [Ob.ren] at e
    obtain ⟨rfl, rfl⟩ := e
    rw [hb]; exact h _ _ ho
  | bx v p c hn h1 h =>
    refine .bx v _ _ (hu p hn) h1 fun cs hx => ?_
    obtain ⟨o, ho, e, hb⟩ := hob p hn _ hx
    cases o <;> simp [Ob.ren] at e
    rw [hb]; exact h _ ho
  | el v p i c hn h1 h =>
    refine .el v _ _ _ (hu p hn) h1 fun w xs hx => ?_
    obtain ⟨o, ho, e, hb⟩ := hob p hn _ hx
    cases o <;> simp [Ob.ren] at e
    obtain ⟨rfl, rfl⟩ := e
    rw [hb]; exact h _ _ ho
  | mp v p hn h1 h =>
    refine .mp v _ (hu p hn) h1 fun es hx => ?_
    obtain ⟨o, ho, e, hb⟩ := hob p hn _ hx
    cases o <;> simp [Ob.ren] at e
    rw [hb]; exact h _ ho
  | its v p hn h1 h h' =>
    refine .its v _ (hu p hn) h1 (fun s i hx => ?_) (fun m c i hx => ?_)
    · obtain ⟨o, ho, e, hb⟩ := hob p hn _ hx
      cases o <;> simp [Ob.ren] at e
      rw [hb]; exact h _ _ ho
    · obtain ⟨o, ho, e, hb⟩ := hob p hn _ hx
      cases o <;> simp [Ob.ren] at e
      rw [hb]; exact h' _ _ _ ho
  | agg vs cs hs hc h0 ih => 
    refine .agg vs _ (by rw [hs, renL_length]) hc fun i x hi => ?_
    rw [renL_get, Option.map_eq_some_iff] at hi
    obtain ⟨y, hy, rfl⟩ := hi
    exact ih i y hy
  | tup vs cs hs h0 ih => 
    refine .tup vs _ (by rw [hs, renL_length]) fun i x hi => ?_
    rw [renL_get, Option.map_eq_some_iff] at hi
    obtain ⟨y, hy, rfl⟩ := hi
    exact ih i y hy
  | clo f vs cs hs h0 ih => 
    refine .clo f vs _ (by rw [hs, renL_length]) fun i x hi => ?_
    rw [renL_get, Option.map_eq_some_iff] at hi
    obtain ⟨y, hy, rfl⟩ := hi
    exact ih i y hy

theorem OR.ren' {H : Array Obj} {own own' : Nat → Prop} {used used' : List Nat} {hp hp' : Name → Option Ob} {β β' : Name → Option Blk} {σ : Name → Name} (hr : ∀ v d, Rep H own v d → Rep H own' v d)
    (hu : ∀ p, nm used p → nm used' (σ p)) (hob : ∀ p, nm used p → ∀ o', hp' (σ p) = some o' → ∃ o, hp p = some o ∧ o' = o.ren σ ∧ β' (σ p) = β p) {p : Name} {o : Ob} (hb : β' (σ p) = β p) (h : OR H own used hp β p o) :
    OR H own' used' hp' β' (σ p) (o.ren σ) := by
  cases o with
  | arr w xs =>
    rcases h with ⟨h1, h2⟩ | ⟨k, c, e, hk, hc, hz, hl, hw, h⟩
    · exact .inl ⟨hb.trans h1, h2⟩
    · exact .inr ⟨k, c, e, hb.trans hk, hc, hz, hl, hw, fun i x j d hi hj => hr _ _ (h i x j d hi hj)⟩
  | box cs =>
    obtain ⟨k, c, e, hk, ho, hc, hz, hl, h1, h⟩ := h
    refine ⟨k, c, e, hb.trans hk, ho, hc, hz, by rw [hl, renL_length], h1, fun j x hj => ?_⟩
    rw [renL_get, Option.map_eq_some_iff] at hj
    obtain ⟨y, hy, rfl⟩ := hj
    exact (h j y hy).ren' hr hu hob
  | map es =>
    obtain ⟨k, ents, clock, hk, hc, hz, h⟩ := h
    refine ⟨k, ents, clock, hb.trans hk, hc, hz, fun i x hi => ?_⟩
    obtain ⟨en, h1, h2, h3⟩ := h i x hi
    exact ⟨en, h1, hr _ _ h2, hr _ _ h3⟩
  | siter s pos =>
    obtain ⟨k, hk, hc⟩ := h
    exact ⟨k, hb.trans hk, hc⟩
  | miter _ _ _ =>
    obtain ⟨k, b, since, seen, last, hk, hc, hm, hi⟩ := h
    exact ⟨k, b, since, seen, last, hb.trans hk, hc, hr _ _ hm, hi⟩
end
end Go.Ab
/-! ### The generic layer, part 17: the rule for calls. -/
namespace Go.Ab

/-- What is handed in: its objects lie in the caller's state under turned names. -/
def passL (σ : Name → Name) (u : List Nat) (s : St) : List (Name × Ob) → Prop
  | [] => True
  | q :: r => (s.hp (σ q.1) = some (q.2.ren σ) ∧ q.2.inU u = true ∧ nmb u q.1 = true) ∧ passL σ u s r
theorem passL_mem {σ : Name → Name} {u : List Nat} {s : St} : ∀ {l : List (Name × Ob)}, passL σ u s l → ∀ q ∈ l, s.hp (σ q.1) = some (q.2.ren σ) ∧ q.2.inU u = true ∧ nmb u q.1 = true
  | [], _, q, h => by simp at h
  | _ :: r, h, q, hq => by
    rcases List.mem_cons.1 hq with rfl | hq
    · exact h.1
    · exact passL_mem h.2 q hq

/-- Objects that stay are of the same make. -/
def likeM (chp : List (Name × Ob)) : List (Name × Ob) → Prop
  | [] => True
  | q :: r => (match lkA none (chp.map fun x => (x.1, some x.2)) q.1 with
      | some o => o.like q.2
      | none => True) ∧ likeM chp r
theorem likeM_mem {chp : List (Name × Ob)} : ∀ {l : List (Name × Ob)}, likeM chp l → ∀ q ∈ l, ∀ o, lkA none (chp.map fun x => (x.1, some x.2)) q.1 = some o → o.like q.2
  | [], _, q, h, _, _ => by simp at h
  | a :: r, h, q, hq, o, ho => by
    rcases List.mem_cons.1 hq with rfl | hq
    · have := h.1; rw [ho] at this; exact this
    · exact likeM_mem h.2 q hq o ho

theorem lkS {l : List (Name × Ob)} {p : Name} {o : Ob} (h : lkA none (l.map fun x => (x.1, some x.2)) p = some o) : (p, o) ∈ l := mk_hp_mem (fr := []) (u := []) h
theorem lkS_any {l : List (Name × Ob)} {p : Name} (h : l.any (fun q => q.1 == p) = true) : ∃ o, lkA none (l.map fun x => (x.1, some x.2)) p = some o := by
  induction l with
  | nil => simp at h
  | cons q r ih =>
    simp only [List.map_cons, lkA]
    by_cases e : p = q.1
    · exact ⟨q.2, by rw [if_pos e]⟩
    · rw [if_neg e]
      refine ih ?_
      simp only [List.any_cons, Bool.or_eq_true, beq_iff_eq] at h
      exact h.resolve_left fun h => e h.symm
theorem any_lkS {l : List (Name × Ob)} {p : Name} {o : Ob} (h : lkA none (l.map fun x => (x.1, some x.2)) p = some o) : l.any (fun q => q.1 == p) = true :=
  List.any_eq_true.2 ⟨_, lkS h, by simp⟩
/-- A lookup among turned names, under a turned name. -/
theorem lk_turn (f : Name → Name) (g : Ob → Ob) (z : Option Ob) (p : Name) : ∀ (l : List (Name × Ob)), (∀ q ∈ l, f q.1 = f p → q.1 = p) →
    lkA z (l.map fun x => (f x.1, some (g x.2))) (f p) = match lkA none (l.map fun x => (x.1, some x.2)) p with
      | some o => some (g o)
      | none => z
  | [], _ => rfl
  | q :: r, h => by
    simp only [List.map_cons, lkA]
    by_cases e : p = q.1
    · rw [if_pos (by rw [e]), if_pos e]
    · rw [if_neg (fun e' => e (h q List.mem_cons_self e'.symm).symm), if_neg e]
      exact lk_turn f g z p r fun x hx => h x (List.mem_cons_of_mem _ hx)
theorem lk_none (f : Name → Name) (z : Option Ob) (q : Name) : ∀ (l : List (Name × Ob)), lkA z (l.map fun x => (f x.1, (none : Option Ob))) q = if (l.any fun x => f x.1 == q) = true then none else z
  | [] => rfl
  | x :: r => by
    rw [List.map_cons, lkA_cons, List.any_cons, lk_none f z q r]
    by_cases e : q = f x.1
    · rw [if_pos e, if_pos]; subst e; simp
    · have h2 : (f x.1 == q) = false := by
        rw [beq_eq_false_iff_ne]; exact fun h => e h.symm
      rw [if_neg e, h2, Bool.false_or]
theorem lk_miss (f : Name → Name) (g : Ob → Ob) (z : Option Ob) (q : Name) : ∀ (l : List (Name × Ob)), (∀ x ∈ l, f x.1 ≠ q) → lkA z (l.map fun x => (f x.1, some (g x.2))) q = z
  | [], _ => rfl
  | x :: r, h => by
    simp only [List.map_cons, lkA]
    rw [if_neg (fun e => h x List.mem_cons_self e.symm)]
    exact lk_miss f g z q r fun y hy => h y (List.mem_cons_of_mem _ hy)

section
variable {P : Program} {cf : Cf}

set_option maxHeartbeats 1000000 in
/-- The state behind a call stands. -/
theorem aft_sim {B : Base} {β : Name → Option Blk} {s : St} {tm : Array Value} {w w' : World} (h : Sim B β s tm w) {σ : Name → Name} {d : Nat} (hd : d ∉ s.used) {chp hp' : List (Name × Ob)} {cu u' : List Nat}
    (hpass : passL σ cu s chp) (hinj : injL σ chp) {A' O0' : Nat → Prop} {G' : List (Nat × Obj)} {βc : Name → Option Blk} (hβc : ∀ p, chp.any (fun q => q.1 == p) = true → βc p = β (σ p))
    (hO : ∀ b, O0' b ↔ ∃ p k, chp.any (fun q => q.1 == p) = true ∧ β (σ p) = some k ∧ k.b = b) (hA : ∀ b, A' b ↔ s.own B.A β b ∧ ¬ O0' b) (hA' : ∀ b, A' b → b < w.heap.size) (hG' : ∀ q ∈ G', w.heap[q.1]? = some q.2 ∧ ¬ O0' q.1)
    {r : AV} {β' : Name → Option Blk} {v : Value} (hlike : likeM chp hp')
    (hs : Sim { n := 1, io := B.io, G := G', H0 := w.heap, O0 := O0', A := A', U0 := cu, β0 := βc, hA := hA', hG := hG' } β' (mk [(0, r)] hp' u') #[v] w') :
    ∃ β2, (Sim B β2 { aft s σ d chp hp' r with fr := s.fr } tm w' ∧ VR w'.heap ((aft s σ d chp hp' r).own B.A β2) (d :: s.used) (aft s σ d chp hp' r).hp β2 v (r.ren (aftN σ d chp))) := by
  obtain ⟨τ, hτ⟩ : ∃ τ, aftN σ d chp = τ := ⟨_, rfl⟩
  obtain ⟨s2, hs2⟩ : ∃ s2, aft s σ d chp hp' r = s2 := ⟨_, rfl⟩
  have hτp : ∀ p, chp.any (fun q => q.1 == p) = true → τ p = σ p := fun p hp => by rw [← hτ]; simp only [aftN]; rw [if_pos hp]
  have hτn : ∀ p, ¬ chp.any (fun q => q.1 == p) = true → τ p = d :: p := fun p hp => by rw [← hτ]; simp only [aftN]; rw [if_neg hp]
  have hlive : ∀ p, chp.any (fun q => q.1 == p) = true → ∃ o, (p, o) ∈ chp ∧ s.hp (σ p) = some (o.ren σ) ∧ nm s.used (σ p) ∧ nmb cu p = true := by
    intro p hp
    obtain ⟨o, ho⟩ := lkS_any hp
    obtain ⟨h1, h2, h3⟩ := passL_mem hpass _ (lkS ho)
    exact ⟨o, lkS ho, h1, (h.objs _ _ h1).1, h3⟩
  have hσd : ∀ p l, chp.any (fun q => q.1 == p) = true → σ p ≠ d :: l := by
    intro p l hp e
    obtain ⟨_, _, _, ⟨a, t, e2, ha⟩, _⟩ := hlive p hp
    rw [e] at e2; cases e2; exact hd ha
  have hτinj : ∀ p q, τ p = τ q → p = q := by
    intro p q e
    by_cases hp : chp.any (fun q => q.1 == p) = true <;> by_cases hq : chp.any (fun x => x.1 == q) = true
    · rw [hτp p hp, hτp q hq] at e
      obtain ⟨o, ho, _⟩ := hlive p hp
      obtain ⟨o', ho', _⟩ := hlive q hq
      exact injL_mem hinj _ ho _ ho' e
    · rw [hτp p hp, hτn q hq] at e; exact absurd e (hσd p q hp)
    · rw [hτn p hp, hτp q hq] at e; exact absurd e.symm (hσd q p hq)
    · rw [hτn p hp, hτn q hq] at e; exact (List.cons.inj e).2
  -- where the names lie now
  have hhp : ∀ p, s2.hp (τ p) = (lkA none (hp'.map fun x => (x.1, some x.2)) p).map (Ob.ren τ) := by
    intro p
    rw [← hs2]
    show lkA (lkA (s.hp (τ p)) (chp.map fun x => (σ x.1, none)) (τ p)) (hp'.map fun x => (aftN σ d chp x.1, some (x.2.ren (aftN σ d chp)))) (τ p) = _
    rw [hτ, lk_turn τ (Ob.ren τ) _ p hp' (fun q _ e => hτinj _ _ e), lk_none]
    cases lkA none (hp'.map fun x => (x.1, some x.2)) p with
    | some o => rfl
    | none =>
      simp only [Option.map_none]
      split
      · rfl
      · rename_i hno
        by_cases hp : chp.any (fun q => q.1 == p) = true
        · exfalso
          apply hno
          obtain ⟨o, ho, _⟩ := hlive p hp
          exact List.any_eq_true.2 ⟨_, ho, by simp [hτp p hp]⟩
        · rw [hτn p hp]
          cases hsd : s.hp (d :: p) with
          | none => rfl
          | some o =>
            obtain ⟨a, t, e, ha⟩ := (h.objs _ _ hsd).1
            cases e; exact absurd ha hd
  have hho : ∀ q, nm s.used q → (∀ p, chp.any (fun x => x.1 == p) = true → σ p ≠ q) → s2.hp q = s.hp q := by
    intro q hq hne
    rw [← hs2]
    show lkA (lkA (s.hp q) (chp.map fun x => (σ x.1, none)) q) (hp'.map fun x => (aftN σ d chp x.1, some (x.2.ren (aftN σ d chp)))) q = _
    rw [hτ, lk_miss τ (Ob.ren τ) _ q hp', lk_none, if_neg]
    · intro ha
      obtain ⟨x, hx, e⟩ := List.any_eq_true.1 ha
      exact hne x.1 (List.any_eq_true.2 ⟨x, hx, by simp⟩) (by simpa using e)
    · intro x _ e
      by_cases hp : chp.any (fun q => q.1 == x.1) = true
      · rw [hτp _ hp] at e; exact hne _ hp e
      · rw [hτn _ hp] at e
        obtain ⟨a, t, e2, ha⟩ := hq
        rw [← e] at e2; cases e2; exact hd ha
  have hlive2 : ∀ q o, s2.hp q = some o → (∃ p o', q = τ p ∧ lkA none (hp'.map fun x => (x.1, some x.2)) p = some o' ∧ o = o'.ren τ) ∨ (nm s.used q ∧ (∀ p, chp.any (fun x => x.1 == p) = true → σ p ≠ q) ∧ s.hp q = some o) := by
    intro q o ho
    by_cases hq : ∃ p, τ p = q
    · obtain ⟨p, rfl⟩ := hq
      rw [hhp] at ho
      obtain ⟨o', ho', rfl⟩ := Option.map_eq_some_iff.1 ho
      exact .inl ⟨p, o', rfl, ho', rfl⟩
    · have hne : ∀ p, chp.any (fun x => x.1 == p) = true → σ p ≠ q := fun p hp e => hq ⟨p, by rw [hτp p hp]; exact e⟩
      have hsq : s.hp q = some o := by
        rw [← hs2] at ho
        have ho : lkA (lkA (s.hp q) (chp.map fun x => (σ x.1, none)) q) (hp'.map fun x => (aftN σ d chp x.1, some (x.2.ren (aftN σ d chp)))) q = some o := ho
        rw [hτ, lk_miss τ (Ob.ren τ) _ q hp' (fun x _ e => hq ⟨_, e⟩), lk_none] at ho
        split at ho
        · cases ho
        · exact ho
      exact .inr ⟨(h.objs _ _ hsq).1, hne, hsq⟩
  -- the blocks
  obtain ⟨β2, hβn, hβo⟩ : ∃ β2 : Name → Option Blk, (∀ p, lkA none (hp'.map fun x => (x.1, some x.2)) p ≠ none → β2 (τ p) = β' p) ∧ ∀ q, nm s.used q → β2 q = β q := by
    refine ⟨fun q => match q with | a :: t => if a = d then β' t else β (a :: t) | [] => β [], fun p hp => ?_, fun q hq => ?_⟩
    · by_cases hc : chp.any (fun q => q.1 == p) = true
      · rw [hτp p hc]
        obtain ⟨o, ho, h1, ⟨a, t, e, ha⟩, h3⟩ := hlive p hc
        have hst := hs.stay p (nmb_nm h3)
        rw [e]
        have had : a ≠ d := fun e2 => hd (e2 ▸ ha)
        simp only [if_neg had]
        rw [← e, hst]
        exact (hβc p hc).symm
      · rw [hτn p hc]; simp
    · obtain ⟨a, t, rfl, ha⟩ := hq
      have had : a ≠ d := fun e2 => hd (e2 ▸ ha)
      simp [had]
  have hO0 : ∀ b, O0' b → b < w.heap.size ∧ ¬ B.A b ∧ (B.H0.size ≤ b ∨ B.O0 b) ∧ s.own B.A β b := by
    intro b hb
    obtain ⟨p, k, hp, hk, rfl⟩ := (hO b).1 hb
    obtain ⟨o, _, h1, _⟩ := hlive p hp
    obtain ⟨g1, g2, g3⟩ := h.blocks (σ p) k (by rw [h1]; simp) hk
    exact ⟨g1, g2, g3, .inr ⟨σ p, k, by rw [h1]; simp, hk, rfl⟩⟩
  have hmk : ∀ p o, lkA none (hp'.map fun x => (x.1, some x.2)) p = some o → (mk [(0, r)] hp' u').hp p = some o := fun p o h => h
  have hnewb : ∀ p o k, lkA none (hp'.map fun x => (x.1, some x.2)) p = some o → β' p = some k → k.b < w'.heap.size ∧ ¬ A' k.b ∧ (w.heap.size ≤ k.b ∨ O0' k.b) := fun p o k hp hk =>
    hs.blocks p k (by rw [hmk p o hp]; simp) hk
  have hotherb : ∀ q o k, s.hp q = some o → (∀ p, chp.any (fun x => x.1 == p) = true → σ p ≠ q) → β q = some k → k.b < w.heap.size ∧ ¬ O0' k.b ∧ A' k.b := by
    intro q o k hq hne hk
    obtain ⟨g1, g2, g3⟩ := h.blocks q k (by rw [hq]; simp) hk
    have hno : ¬ O0' k.b := by
      intro hb
      obtain ⟨p, l, hp, hl, e⟩ := (hO _).1 hb
      obtain ⟨o', _, h1, _⟩ := hlive p hp
      exact hne p hp (h.inj (σ p) q l k (by rw [h1]; simp) (by rw [hq]; simp) hl hk e)
    exact ⟨g1, hno, (hA _).2 ⟨.inr ⟨q, k, by rw [hq]; simp, hk, rfl⟩, hno⟩⟩
  have hframe : ∀ b, b < w.heap.size → ¬ O0' b → w'.heap[b]? = w.heap[b]? := fun b hb hn => hs.frame b hb hn
  have hsize : w.heap.size ≤ w'.heap.size := hs.size
  have hown2 : ∀ b, b < w.heap.size → s2.own B.A β2 b → s.own B.A β b := by
    rintro b hb (hB | ⟨q, k, hq, hk, rfl⟩)
    · exact .inl hB
    · cases ho : s2.hp q with
      | none => exact absurd ho hq
      | some o =>
        rcases hlive2 q o ho with ⟨p, o', rfl, hp, rfl⟩ | ⟨hn, hne, hsq⟩
        · rw [hβn p (by rw [hp]; simp)] at hk
          obtain ⟨_, _, g⟩ := hnewb p o' k hp hk
          rcases g with g | g
          · omega
          · exact (hO0 _ g).2.2.2
        · rw [hβo q hn] at hk
          exact .inr ⟨q, k, by rw [hsq]; simp, hk, rfl⟩
  have hownc : ∀ b, s2.own B.A β2 b → (mk [(0, r)] hp' u').own A' β' b := by
    rintro b hb
    rcases hb with hB | ⟨q, k, hq, hk, rfl⟩
    · exact .inl ((hA b).2 ⟨.inl hB, fun hb' => (hO0 b hb').2.1 hB⟩)
    · cases ho : s2.hp q with
      | none => exact absurd ho hq
      | some o =>
        rcases hlive2 q o ho with ⟨p, o', rfl, hp, rfl⟩ | ⟨hn, hne, hsq⟩
        · rw [hβn p (by rw [hp]; simp)] at hk
          exact .inr ⟨p, k, by rw [hmk p o' hp]; simp, hk, rfl⟩
        · rw [hβo q hn] at hk
          exact .inl (hotherb q o k hsq hne hk).2.2
  have hr1 : ∀ v d, Rep w.heap (s.own B.A β) v d → Rep w'.heap (s2.own B.A β2) v d := fun v d hd => hd.mono (fun b hb hlt => hframe b hlt fun hO => hb (hO0 b hO).2.2.2) hown2
  have hr2 : ∀ v d, Rep w'.heap ((mk [(0, r)] hp' u').own A' β') v d → Rep w'.heap (s2.own B.A β2) v d := fun v d hd => hd.mono (fun _ _ _ => rfl) (fun b _ => hownc b)
  have hus2 : s2.used = d :: s.used := by rw [← hs2]; rfl
  have hu1 : ∀ x ∈ s.used, x ∈ s2.used := fun x hx => by rw [hus2]; exact List.mem_cons_of_mem _ hx
  have hst : ∀ q, nm s.used q → Stays s.hp s2.hp β β2 q := by
    intro q hq o ho
    rcases hlive2 q o ho with ⟨p, o', rfl, hp, rfl⟩ | ⟨hn, hne, hsq⟩
    · by_cases hc : chp.any (fun x => x.1 == p) = true
      · obtain ⟨o1, ho1⟩ := lkS_any hc
        have hl := likeM_mem hlike _ (lkS hp) o1 ho1
        obtain ⟨g1, _, _⟩ := passL_mem hpass _ (lkS ho1)
        refine ⟨o1.ren σ, by rw [hτp p hc]; exact g1, ?_, hβo _ hq⟩
        cases o1 <;> cases o' <;> first | exact hl | exact hl.elim
      · rw [hτn p hc] at hq
        obtain ⟨a, t, e, ha⟩ := hq
        cases e; exact absurd ha hd
    · exact ⟨o, hsq, Ob.like_refl _, hβo q hn⟩
  have hum : ∀ p, nm u' p → nm s2.used (τ p) := by
    intro p _
    rw [hus2]
    by_cases hc : chp.any (fun x => x.1 == p) = true
    · rw [hτp p hc]
      obtain ⟨_, _, _, ⟨a, t, e, ha⟩, _⟩ := hlive p hc
      exact ⟨a, t, e, List.mem_cons_of_mem _ ha⟩
    · rw [hτn p hc]; exact ⟨d, p, rfl, List.mem_cons_self⟩
  have hob : ∀ p, nm u' p → ∀ o', s2.hp (τ p) = some o' → ∃ o, (mk [(0, r)] hp' u').hp p = some o ∧ o' = o.ren τ ∧ β2 (τ p) = β' p := by
    intro p _ o' ho
    rw [hhp] at ho
    obtain ⟨o, ho', rfl⟩ := Option.map_eq_some_iff.1 ho
    exact ⟨o, hmk p o ho', rfl, hβn p (by rw [ho']; simp)⟩
  refine ⟨β2, ?_⟩
  rw [hτ, hs2]
  refine ⟨{ tms := h.tms, io := hs.io, size := Nat.le_trans h.size hsize, frame := fun b hb hn => ?_, slots := fun i => (h.slots i).mono hr1 hu1 hst, objs := fun q o ho => ?_, blocks := fun q k hq hk => ?_, inj := fun q q' k l hq hq' hk hl e => ?_, us := fun x hx => hu1 x (h.us x hx), stay := fun p hp => ?_ }, ?_⟩
  · rw [hframe b (Nat.lt_of_lt_of_le hb h.size) fun hO => ?_]
    · exact h.frame b hb hn
    · rcases (hO0 b hO).2.2.1 with g | g
      · omega
      · exact hn g
  · have ho : s2.hp q = some o := ho
    rcases hlive2 q o ho with ⟨p, o', rfl, hp, rfl⟩ | ⟨hn, hne, hsq⟩
    · obtain ⟨g1, g2⟩ := hs.objs p o' (hmk p o' hp)
      exact ⟨hum p g1, g2.ren' hr2 hum hob (hβn p (by rw [hp]; simp))⟩
    · obtain ⟨g1, g2⟩ := h.objs q o hsq
      exact ⟨g1.mono hu1, g2.mono hr1 hu1 hst (hβo q hn) fun k hk => hframe k.b (hotherb q o k hsq hne hk).1 (hotherb q o k hsq hne hk).2.1⟩
  · have hq : s2.hp q ≠ none := hq
    cases ho : s2.hp q with
    | none => exact absurd ho hq
    | some o =>
      rcases hlive2 q o ho with ⟨p, o', rfl, hp, rfl⟩ | ⟨hn, hne, hsq⟩
      · rw [hβn p (by rw [hp]; simp)] at hk
        obtain ⟨g1, g2, g3⟩ := hnewb p o' k hp hk
        rcases g3 with g3 | g3
        · exact ⟨g1, fun hB => by have := Nat.lt_of_lt_of_le (B.hA _ hB) h.size; omega, .inl (Nat.le_trans h.size g3)⟩
        · obtain ⟨_, k2, k3, _⟩ := hO0 _ g3
          exact ⟨g1, k2, k3⟩
      · rw [hβo q hn] at hk
        obtain ⟨g1, g2, g3⟩ := h.blocks q k (by rw [hsq]; simp) hk
        exact ⟨Nat.lt_of_lt_of_le g1 hsize, g2, g3⟩
  · have hq : s2.hp q ≠ none := hq
    have hq' : s2.hp q' ≠ none := hq'
    cases ho : s2.hp q with
    | none => exact absurd ho hq
    | some o =>
      cases ho' : s2.hp q' with
      | none => exact absurd ho' hq'
      | some o2 =>
        rcases hlive2 q o ho with ⟨p, o', rfl, hp, rfl⟩ | ⟨hn, hne, hsq⟩ <;> rcases hlive2 q' o2 ho' with ⟨p2, o3, rfl, hp2, rfl⟩ | ⟨hn2, hne2, hsq2⟩
        · rw [hβn p (by rw [hp]; simp)] at hk; rw [hβn p2 (by rw [hp2]; simp)] at hl
          rw [hs.inj p p2 k l (by rw [hmk p o' hp]; simp) (by rw [hmk p2 o3 hp2]; simp) hk hl e]
        · rw [hβn p (by rw [hp]; simp)] at hk; rw [hβo _ hn2] at hl
          exact absurd (e ▸ (hotherb _ _ l hsq2 hne2 hl).2.2) (hnewb p o' k hp hk).2.1
        · rw [hβo _ hn] at hk; rw [hβn p2 (by rw [hp2]; simp)] at hl
          exact absurd (e ▸ (hotherb _ _ k hsq hne hk).2.2) (hnewb p2 o3 l hp2 hl).2.1
        · rw [hβo _ hn] at hk; rw [hβo _ hn2] at hl
          exact h.inj q q' k l (by rw [hsq]; simp) (by rw [hsq2]; simp) hk hl e
  · rw [hβo p (hp.mono h.us)]; exact h.stay p hp
  · have := hs.slots 0
    have := this.ren' hr2 hum hob
    rw [hus2] at this
    exact this
end
end Go.Ab
