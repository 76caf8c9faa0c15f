/-
  The generic layer, part 22: from a contract by values to the machine's call.
-/
import Derived.Test.YtmplpdjddjiioaaDoorC4
import Derived.Below
namespace Go.Ab
section
variable {P : Program}

theorem calls_of_HP {G : List (Nat × Obj)} {f : FuncId} {ds : List D} {Q : AV → Prop} (h : HP P G f ds Q) {W : World} (hG : ∀ q ∈ G, W.heap[q.1]? = some q.2) {vs : Array Value} (hs : vs.size = ds.length)
    (hr : ∀ (i : Nat) d, ds[i]? = some d → Rep W.heap (fun _ => False) (vs.getD i undef) d) :
    Calls P f vs W fun e W' => ∃ v r, e = .returned v ∧ Q r ∧ Ext W W' ∧ ∃ u hp β own, VR W'.heap own u hp β v r := by
  have hno : ∀ (fr : List (Nat × AV)) (u : List Nat) (β : Name → Option Blk) (b : Nat), ¬ (mk fr [] u).own (fun _ => False) β b := by
    rintro fr u β b (hb | ⟨p, k, hp, _⟩)
    · exact hb
    · exact hp rfl
  have hsim : Sim { n := ds.length, io := wio W, G := G, H0 := W.heap, O0 := fun _ => False, A := fun _ => False, U0 := [], β0 := fun _ => none, hA := fun _ hb => hb.elim, hG := fun q hq => ⟨hG q hq, fun hb => hb⟩ }
      (fun _ => none) (mk (argsFr 0 (ds.map .d)) [] []) vs W := by
    refine { tms := hs, io := rfl, size := Nat.le_refl _, frame := fun _ _ _ => rfl, slots := fun t => ?_, objs := fun p o ho => (by cases ho), blocks := fun p k hp => (by exact absurd rfl hp), inj := fun p q k l hp => (by exact absurd rfl hp), us := fun x hx => (by cases hx), stay := fun p hp => rfl }
    rw [mk_fr, argsFr_get, if_pos (Nat.zero_le _), Nat.sub_zero, List.getElem?_map]
    cases hd : ds[t]? with
    | none => exact .un _
    | some d => exact .d _ _ ((hr t d hd).mono (fun _ _ _ => rfl) (fun b _ hb => (hno _ _ _ b hb).elim))
  have hgo := fun h1 h2 h3 h4 => h.2 _ _ vs W h1 h2 h3 h4 hsim
  refine (callsIn_wide.1 (hgo (by simp) rfl rfl rfl)).mono ?_
  rintro e W' ⟨v, r, hp', u', β', rfl, ⟨hQ, _, rfl⟩, hs2⟩
  refine ⟨v, r, rfl, hQ, ⟨hs2.io, hs2.size, fun b hb => hs2.frame b hb (fun h => h)⟩, _, _, _, _, hs2.slots 0⟩

theorem Ext.below {W W' : World} (h : Ext W W') (ht : W'.tape = W.tape) : RowKit.Below W.heap.size W W' := by
  have hio := h.io
  simp only [wio, Prod.mk.injEq] at hio
  exact ⟨hio.1, ht, hio.2, h.size, h.old⟩
theorem Ext.frame {W W' : World} (h : Ext W W') (may : MemPlace → Prop) : W.keptBut W' may := by
  have hio := h.io
  simp only [wio, Prod.mk.injEq] at hio
  refine ⟨hio.1, hio.2, fun i hi => ?_⟩
  rw [h.old i hi]
  split <;> simp_all
end
end Go.Ab
