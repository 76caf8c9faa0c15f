/-
  The generic layer, part 24: loops under the veil, where all that is carried are plain values.
-/
import Derived.Test.YtmplpdjddjiioaaDoorC6
namespace Go.Ab
/-- Such slots hold such values. -/
def frE (s : St) : List (Nat × AV) → Prop
  | [] => True
  | q :: r => s.fr q.1 = q.2 ∧ q.2.inU [] = true ∧ frE s r
theorem frE_mem {s : St} : ∀ {l : List (Nat × AV)}, frE s l → ∀ q ∈ l, s.fr q.1 = q.2 ∧ q.2.inU [] = true
  | [], _, q, h => by simp at h
  | _ :: r, h, q, hq => by
    rcases List.mem_cons.1 hq with rfl | hq
    · exact ⟨h.1, h.2.1⟩
    · exact frE_mem h.2.2 q hq
theorem le_flat {s : St} {fr : List (Nat × AV)} (h : frE s fr) : Le [] id s (mk fr [] []) where
  fr := fun t => by
    rcases lkA_mem (z := AV.un) (l := fr) (i := t) with e | hm
    · exact .inl e
    · obtain ⟨h1, h2⟩ := frE_mem h _ hm
      exact .inr ⟨by rw [AV.ren_id id (fun _ => rfl)]; exact h1, h2⟩
  hp := fun p o ho => by cases ho
  inj := fun p q hp => by exact absurd rfl hp
  us := fun x hx => by cases hx
  stay := fun p hp => by obtain ⟨a, t, _, ha⟩ := hp; cases ha
section
variable {P : Program} {cf : Cf}
theorem lq_exit_x (next : St → Prop) (k : List It) (Q : Exit → St → Prop) (s : St) (i : Nat) : lq P cf next k Q (.exit i) s = xk P cf i k Q s := rfl
/-- A loop, what stands behind a round said anyhow. -/
theorem loopN_ok {X : Type} (I : X → St) (μ : X → Nat) (next : X → St → Prop) {c : Code} {s : St} {k : List It} {Q : Exit → St → Prop}
    (h0 : ∃ x τ, Le cf.U τ s (I x))
    (hn : ∀ x s', next x s' → ∃ y, μ y < μ x ∧ ∃ τ, Le cf.U τ s' (I y)) (hr : ∀ x, run P cf [.code c] (lq P cf (next x) k Q) (I x)) : ACk P cf (.loop c) s k Q := by
  have key : ∀ N x, μ x < N → ∀ (B : Base), cf.fits B → ∀ ds β a w, a.defers = ds → Sim B β (I x) a.tmps w → Code.roundsIn (Fw cf.ro) 0 P c (hold P cf (lift B ds Q) k) N a w := by
    intro N
    induction N with
    | zero => intro x hx; omega
    | succ N ih =>
      intro x hx B hB ds β a w hds h
      rw [roundsIn_succ]
      refine wpIn_mono (run_ok (hr x) B hB ds β a w hds h) fun e a' w' hq => ?_
      obtain ⟨hd', s', β', hq, hs⟩ := hq
      cases e with
      | normal =>
        obtain ⟨y, hy, τ, hle⟩ := hn x s' hq
        obtain ⟨β2, hs2, _⟩ := hs.le (τ := τ) (by rw [hB.2.1]; exact hle)
        exact ih y (by omega) B hB ds β2 a' w' hd' hs2
      | exit i =>
        unfold lq goK at hq
        show hold P cf (lift B ds Q) k (.exit i) a' w'
        simp only at hq
        split at hq
        · rename_i k' hk'
          exact hold_exit_some _ i k k' a' w' hk' (run_ok hq B hB ds β' a' w' hd' hs)
        · rename_i hk'
          exact hold_exit_none _ i k a' w' hk' ⟨hd', s', β', hq, hs⟩
      | ret => exact hold_ret _ k a' w' ⟨hd', s', β', hq, hs⟩
      | goto l => exact hq.elim
      | panic c => exact hq.elim
      | outgrown => exact hq.elim
  obtain ⟨x, τ, hle⟩ := h0
  intro B hB ds β a w hds h
  obtain ⟨β2, hs2, _⟩ := h.le (τ := τ) (by rw [hB.2.1]; exact hle)
  exact wpIn_loop_rounds (μ x + 1) (key _ x (Nat.lt_succ_self _) B hB ds β2 a w hds hs2)

/-- A loop whose rounds carry plain values alone. -/
theorem loopP_ok {X : Type} (I : X → List (Nat × AV)) (μ : X → Nat) {c : Code} {s : St} {k : List It} {Q : Exit → St → Prop} (hU : cf.U = []) (x0 : X) (h0 : frE s (I x0))
    (hr : ∀ x, run P cf [.code c] (lq P cf (fun s' => ∃ y, μ y < μ x ∧ frE s' (I y)) k Q) (mk (I x) [] [])) : ACk P cf (.loop c) s k Q :=
  loopN_ok (fun x => mk (I x) [] []) μ _ ⟨x0, id, by rw [hU]; exact le_flat h0⟩ (fun x s' ⟨y, hy, h⟩ => ⟨y, hy, id, by rw [hU]; exact le_flat h⟩) hr
end
attribute [go_sem] frE lq_normal lq_exit_x lq_ret xk_nil xk_code xk_ops xk_eq xk_ne
end Go.Ab
