/-
  The generic layer, part 14: 'run' is sound.
-/
import Derived.Test.YtmplpdjddjiioaaDoorB4
import Derived.OrdersIn
namespace Go.Ab
section
variable {P : Program} {cf : Cf} {ro : Option Nat}

theorem Fw_fn (f : FuncId) : (Fw ro).fn f := trivial
theorem Fw_depth : (Fw ro).depth = none := rfl

theorem Sim.setv {B : Base} {β : Name → Option Blk} {s : St} {tm : Array Value} {w : World} (h : Sim B β s tm w) {t : Nat} {x : AV} (hv : VR w.heap (s.own B.A β) s.used s.hp β (tm.getD t undef) x) : Sim B β (s.put t x) tm w := by
  refine { h with slots := fun i => ?_ }
  show VR w.heap (s.own B.A β) s.used s.hp β _ (updN s.fr t x i)
  unfold updN
  split
  · rename_i e; rw [e]; exact hv
  · exact h.slots i

/-- A step that is done, at the machine. -/
theorem wpIn_of_run {o : Oper} {a : Act} {w w' : World} {nx : Next} {v : Value} (hnd : ∀ c, o.op ≠ .defer c) (hrun : (execOp a.eval o).run P w = .ok nx w') (hnx : nx = .value v ∨ nx = .skip ∧ v = undef)
    {next : Act → World → Prop} {Q : Exit → Act → World → Prop} (h : next (a.put o.dst v) w') : o.wpIn (Fw cf.ro) 0 P a w next Q := by
  refine ⟨fun _ _ => trivial, ?_⟩
  rw [Oper.semAt_eq _ _ _ hnd, hrun]
  rcases hnx with rfl | ⟨rfl, rfl⟩ <;> exact h

theorem hold_ret (Q : Exit → Act → World → Prop) : ∀ (k : List It) (a : Act) (w : World), Q .ret a w → hold P cf Q k .ret a w
  | [], _, _, h => h
  | .code _ :: k, a, w, h => hold_ret Q k a w h
  | .ops _ _ :: k, a, w, h => hold_ret Q k a w h
  | .blk _ :: k, a, w, h => hold_ret Q k a w h
theorem hold_exit_none (Q : Exit → Act → World → Prop) (i : Nat) : ∀ (k : List It) (a : Act) (w : World), exitK i k = none → Q (.exit i) a w → hold P cf Q k (.exit i) a w
  | [], _, _, _, h => h
  | .code _ :: k, a, w, hk, h => hold_exit_none Q i k a w hk h
  | .ops _ _ :: k, a, w, hk, h => hold_exit_none Q i k a w hk h
  | .blk j :: k, a, w, hk, h => by
    simp only [exitK] at hk
    split at hk
    · cases hk
    · rename_i hj
      simp only [hold, if_neg (fun e : i = j => hj e.symm)]
      exact hold_exit_none Q i k a w hk h
theorem hold_exit_some (Q : Exit → Act → World → Prop) (i : Nat) : ∀ (k k' : List It) (a : Act) (w : World), exitK i k = some k' → hold P cf Q k' .normal a w → hold P cf Q k (.exit i) a w
  | [], _, _, _, hk, _ => by cases hk
  | .code _ :: k, k', a, w, hk, h => hold_exit_some Q i k k' a w hk h
  | .ops _ _ :: k, k', a, w, hk, h => hold_exit_some Q i k k' a w hk h
  | .blk j :: k, k', a, w, hk, h => by
    simp only [exitK] at hk
    split at hk
    · rename_i hj; cases hk; subst hj
      simp only [hold, if_true]; exact h
    · rename_i hj
      simp only [hold, if_neg (fun e : i = j => hj e.symm)]
      exact hold_exit_some Q i k k' a w hk h

theorem hold_then (Q : Exit → Act → World → Prop) (c : Code) (k : List It) : ∀ e a w, hold P cf Q (.code c :: k) e a w → Exit.then (c.wpIn (Fw cf.ro) 0 P (hold P cf Q k)) (hold P cf Q k) e a w := by
  intro e a w h; cases e <;> exact h
theorem hold_block (Q : Exit → Act → World → Prop) (i : Nat) (k : List It) : ∀ e a w, hold P cf Q (.blk i :: k) e a w → Exit.inBlock i (hold P cf Q k) e a w := by
  intro e a w h; cases e <;> exact h

/-- One operation, and the rest. -/
theorem ops_step {B : Base} {ds : List Deferred} {β : Name → Option Blk} {a : Act} {w : World} {s : St} {o : Oper} {all : Array Oper} {r : List Oper} {k : List It} {Q : Exit → St → Prop} (hB : cf.fits B) (hds : a.defers = ds) (h : Sim B β s a.tmps w)
    (ih : ∀ s', run P cf (.ops all r :: k) Q s' → ARun P cf (.ops all r :: k) Q s') {i : Nat} {l : List Nat} (hl : l.map (all[·]?) = r.map some) (hi : all[i]? = some o)
    (hw : Region.wanted o (yielded all a.tmps) = true) {o' : Oper} (ho' : o' = { o with guard := none })
    (hr : (opR P.ti cf.n o.op o.dst s).run (fun s' => run P cf (.ops all r :: k) Q s') (AOk P cf o s (.ops all r :: k) Q) ∨ (opR P.ti cf.n o.op o.dst s).run (fun s' => run P cf (.ops all r :: k) Q s') (AOk P cf o' s (.ops all r :: k) Q)) :
    wpOpsIn (Fw cf.ro) 0 P all (hold P cf (lift B ds Q) k) (i :: l) a w := by
  simp only [wpOpsIn, hi, hw, if_true]
  have done : ∀ a' w', (a'.defers = ds ∧ ∃ s' β', ARun P cf (.ops all r :: k) Q s' ∧ Sim B β' s' a'.tmps w') → wpOpsIn (Fw cf.ro) 0 P all (hold P cf (lift B ds Q) k) l a' w' := by
    rintro a' w' ⟨hd', s', β', hA, hs⟩
    exact hA B hB ds β' a' w' hd' hs l hl
  have does : Does P B o a w (fun s' => run P cf (.ops all r :: k) Q s') → o.wpIn (Fw cf.ro) 0 P a w (wpOpsIn (Fw cf.ro) 0 P all (hold P cf (lift B ds Q) k) l) (hold P cf (lift B ds Q) k) := by
    rintro ⟨nx, v, w', s', β', hrun, hnx, hf, hs⟩
    have hnd : ∀ c, o.op ≠ .defer c := by
      intro c hc
      have : ∃ d w2, (execOp a.eval o).run P w = .ok (.defer d) w2 ∨ ∃ h w2, (execOp a.eval o).run P w = .halt h w2 := by
        simp only [execOp, hc, Sem.run_bind]
        cases (resolve a.eval c o.type).run P w with
        | ok d w2 => exact ⟨d, w2, .inl rfl⟩
        | halt hh w2 => exact ⟨default, w2, .inr ⟨hh, w2, rfl⟩⟩
      obtain ⟨d, w2, h1 | ⟨hh, w3, h1⟩⟩ := this
      · rw [hrun] at h1; cases h1; rcases hnx with h2 | ⟨h2, _⟩ <;> cases h2
      · rw [hrun] at h1; cases h1
    refine wpIn_of_run hnd hrun hnx (done _ _ ⟨?_, s', β', ih s' hf, hs⟩)
    cases o.dst <;> exact hds
  rcases hr with hr | hr
  · rw [← hB.1] at hr
    rcases opR_sound h hr with hz | hd
    · exact Oper.wpIn_mono done (hz B hB ds β a w hds h _)
    · exact does hd
  · rw [← hB.1] at hr
    rcases opR_sound h hr with hz | hd
    · subst ho'
      exact Oper.wpIn_mono done (hz B hB ds β a w hds h (hold P cf (lift B ds Q) k))
    · exact does hd

theorem run_sound : ∀ (N : Nat) (k : List It) (Q : Exit → St → Prop) (s : St), kmsz k ≤ N → run P cf k Q s → ARun P cf k Q s := by
  intro N
  induction N with
  | zero =>
    intro k Q s hN hr
    cases k with
    | nil =>
      rw [run] at hr
      exact fun B hB ds β a w hds h => ⟨hds, s, β, hr, h⟩
    | cons i k => simp only [kmsz] at hN; have := i.msz_pos; omega
  | succ N ih =>
    intro k Q s hN hr
    cases k with
    | nil =>
      rw [run] at hr
      exact fun B hB ds β a w hds h => ⟨hds, s, β, hr, h⟩
    | cons i k =>
      have go : ∀ k' s', kmsz k' ≤ N → run P cf k' Q s' → ARun P cf k' Q s' := fun k' s' hk' => ih k' Q s' hk'
      simp only [kmsz] at hN
      cases i with
      | blk i =>
        simp only [It.msz] at hN
        rw [run] at hr
        exact fun B hB ds β a w hds h => go k s (by omega) hr B hB ds β a w hds h
      | ops all r =>
        simp only [It.msz] at hN
        cases r with
        | nil =>
          rw [run] at hr
          intro B hB ds β a w hds h l hl
          have : l = [] := by simpa using hl
          subst this
          exact go k s (by simp at hN; omega) hr B hB ds β a w hds h
        | cons o r =>
          simp only [List.length_cons] at hN
          have hgo : ∀ s', run P cf (.ops all r :: k) Q s' → ARun P cf (.ops all r :: k) Q s' := fun s' => go _ s' (by simp only [kmsz, It.msz]; omega)
          intro B hB ds β a w hds h l hl
          cases l with
          | nil => simp at hl
          | cons i l =>
            simp only [List.map_cons, List.cons.injEq] at hl
            obtain ⟨hi, hl⟩ := hl
            rw [run] at hr
            cases hg : o.guard with
            | none =>
              rw [hg] at hr
              exact ops_step hB hds h hgo hl hi (by simp [Region.wanted, hg]) rfl (.inl hr)
            | some q =>
              obtain ⟨j, want⟩ := q
              rw [hg] at hr
              simp only at hr
              split at hr
              · rename_i t b hgv
                obtain ⟨oj, hj, hjd, hjt⟩ : ∃ oj, all[j]? = some oj ∧ oj.dst = some t ∧ s.fr t = .d (.bool b) := by
                  unfold guardV at hgv
                  split at hgv
                  · rename_i oj hj
                    simp only [Option.map_eq_some_iff, Prod.mk.injEq] at hgv
                    obtain ⟨t', ht', rfl, hv⟩ := hgv
                    exact ⟨oj, hj, ht', hv⟩
                  · cases hgv
                have hv := h.slots t
                rw [hjt] at hv
                have hb := hv.bool
                have hlt : t < a.tmps.size := by
                  rcases Nat.lt_or_ge t a.tmps.size with hlt | hge
                  · exact hlt
                  · simp [Array.getD_eq_getD_getElem?, Array.getElem?_eq_none hge] at hb; cases hb
                have hy : yielded all a.tmps j = some b := by
                  simp [yielded, hj, hjd, Array.getElem?_eq_getElem hlt]
                  simp [Array.getD_eq_getD_getElem?, hlt] at hb
                  rw [hb]
                by_cases hbw : b = want
                · have hs' : Sim B β (s.put t (.d (.bool want))) a.tmps w := h.setv (by rw [← hbw]; exact hv)
                  exact ops_step hB hds hs' hgo hl hi (by simp [Region.wanted, hg, hy, hbw]) rfl (.inr (hr.1 hbw))
                · have hbn : b = !want := by cases b <;> cases want <;> simp_all
                  have hs' : Sim B β (s.put t (.d (.bool (!want)))) a.tmps w := h.setv (by rw [← hbn]; exact hv)
                  have hnw : Region.wanted o (yielded all a.tmps) = false := by simp [Region.wanted, hg, hy, hbw]
                  simp only [wpOpsIn, hi, hnw, Bool.false_eq_true, if_false]
                  refine ⟨fun _ _ => trivial, ?_⟩
                  rcases putR_ok (hr.2 hbn) with hz | ⟨hd, hf⟩
                  · exact hz.elim
                  · refine hgo _ hf B hB ds β (a.put o.dst undef) w ?_ (hs'.putd (by rw [hB.1]; exact hd) (.tup #[] [] rfl (by simp))) l hl
                    cases o.dst <;> exact hds
              · rename_i t hgv
                obtain ⟨oj, hj, hjd, hjt⟩ : ∃ oj, all[j]? = some oj ∧ oj.dst = some t ∧ s.fr t = .tup [] := by
                  unfold guardV at hgv
                  split at hgv
                  · rename_i oj hj
                    simp only [Option.map_eq_some_iff, Prod.mk.injEq] at hgv
                    obtain ⟨t', ht', rfl, hv⟩ := hgv
                    exact ⟨oj, hj, ht', hv⟩
                  · cases hgv
                have hv := h.slots t
                rw [hjt] at hv
                have hy : yielded all a.tmps j = none := by
                  rcases Nat.lt_or_ge t a.tmps.size with hlt | hge
                  · have hb : a.tmps.getD t undef = .tuple #[] := by
                      generalize a.tmps.getD t undef = v at hv
                      cases hv with
                      | tup vs _ hs _ =>
                        have : vs = #[] := Array.eq_empty_of_size_eq_zero hs
                        rw [this]
                    simp [Array.getD_eq_getD_getElem?, hlt] at hb
                    simp [yielded, hj, hjd, Array.getElem?_eq_getElem hlt, hb]
                  · simp [yielded, hj, hjd, Array.getElem?_eq_none hge]
                have hnw : Region.wanted o (yielded all a.tmps) = false := by simp [Region.wanted, hg, hy]
                simp only [wpOpsIn, hi, hnw, Bool.false_eq_true, if_false]
                refine ⟨fun _ _ => trivial, ?_⟩
                rcases putR_ok hr with hz | ⟨hd, hf⟩
                · exact hz.elim
                · refine hgo _ hf B hB ds β (a.put o.dst undef) w ?_ (h.putd (by rw [hB.1]; exact hd) (.tup #[] [] rfl (by simp))) l hl
                  cases o.dst <;> exact hds
              · exact hr.elim
      | code c =>
        simp only [It.msz] at hN
        have hpos := msz_pos c
        cases c with
        | skip =>
          rw [run] at hr
          exact fun B hB ds β a w hds h => wpIn_skip (go k s (by omega) hr B hB ds β a w hds h)
        | region id ops draw =>
          cases draw with
          | false =>
            rw [run] at hr
            intro B hB ds β a w hds h
            refine wpIn_region ?_
            refine go (.ops ops ops.toList :: k) s (by simp only [kmsz, It.msz, msz] at hN ⊢; omega) hr B hB ds β a w hds h _ ?_
            apply List.ext_getElem?
            intro j
            simp only [List.getElem?_map, Array.getElem?_toList]
            by_cases hj : j < ops.size
            · simp [hj]
            · simp [hj]
          | true => rw [run] at hr; exact hr
        | seq x y =>
          rw [run] at hr
          intro B hB ds β a w hds h
          have := go (.code x :: .code y :: k) s (by simp only [kmsz, It.msz, msz] at hN ⊢; omega) hr B hB ds β a w hds h
          exact wpIn_seq (wpIn_mono this (hold_then _ y k))
        | cond c x y =>
          rw [run] at hr
          intro B hB ds β a w hds h
          split at hr
          · rename_i t ht
            have hc := h.ev c
            rw [ht] at hc
            refine wpIn_cond hc.bool ?_
            cases t with
            | true => exact go (.code x :: k) s (by simp only [kmsz, It.msz, msz] at hN ⊢; omega) (hr.1 rfl) B hB ds β a w hds h
            | false => exact go (.code y :: k) s (by simp only [kmsz, It.msz, msz] at hN ⊢; omega) (hr.2 rfl) B hB ds β a w hds h
          · exact hr.elim
        | block i x =>
          rw [run] at hr
          intro B hB ds β a w hds h
          have := go (.code x :: .blk i :: k) s (by simp only [kmsz, It.msz, msz] at hN ⊢; omega) hr B hB ds β a w hds h
          exact wpIn_block (wpIn_mono this (hold_block _ i k))
        | exit i =>
          rw [run] at hr
          intro B hB ds β a w hds h
          refine wpIn_exit ?_
          split at hr
          · rename_i k' hk'
            have hle := exitK_le _ _ _ hk'
            exact hold_exit_some _ i k k' a w hk' (go k' s (by omega) hr B hB ds β a w hds h)
          · rename_i hk'
            exact hold_exit_none _ i k a w hk' ⟨hds, s, β, hr, h⟩
        | ret =>
          rw [run] at hr
          exact fun B hB ds β a w hds h => wpIn_ret (hold_ret _ k a w ⟨hds, s, β, hr, h⟩)
        | loop c => rw [run] at hr; exact hr; all_goals simp
        | rangeFunc f p as b => rw [run] at hr; exact hr; all_goals simp
        | scope c => rw [run] at hr; exact hr; all_goals simp
        | label l => rw [run] at hr; exact hr; all_goals simp
        | goto l => rw [run] at hr; exact hr; all_goals simp
        | refuse y => rw [run] at hr; exact hr; all_goals simp

theorem run_ok {k : List It} {Q : Exit → St → Prop} {s : St} (h : run P cf k Q s) : ARun P cf k Q s := run_sound (kmsz k) k Q s (Nat.le_refl _) h
end
end Go.Ab
