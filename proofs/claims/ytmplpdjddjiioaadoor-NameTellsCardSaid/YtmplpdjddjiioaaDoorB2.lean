/-
  The generic layer, part 11: each step is sound: stores, append, make.
-/
import Derived.Test.YtmplpdjddjiioaaDoorB1
namespace Go.Ab
theorem okWb_ok {w : W} {d : D} (h : okWb w d = true) : okW w d := by
  cases w with
  | none => exact h
  | some n => cases d <;> simp [okWb] at h; exact ⟨h.1, h.2⟩

section
variable {P : Program} {B : Base} {β : Name → Option Blk} {s : St} {tm : Array Value} {w : World} {t : Nat}

theorem run_storeVar (hg : (P.ti t).k.isBad = false) {w : World} {b o : Nat} {c : Array Value} {e : TypeId} (hb : w.heap[b]? = some (.cells c e (0, 0))) {v : Value} (hs : v.cells.size = (P.ti t).sz) (hz : o + v.cells.size ≤ c.size) (h1 : ∀ u ∈ v.cells, u.oneCell' = true) :
    (storeVar t ⟨b, o, none⟩ v).run P w = .ok () (w.setRow b (splice c.toList o v.cells.toList).toArray) := by
  have := run_storeCells_at (P := P) b o e v.cells.toList 0 c w hb (by simpa using hz) (by simpa using h1)
  simp only [Nat.add_zero, Array.length_toList] at this
  simp only [storeVar, Sem.run_bind, run_sizeOf hg, Result.andThen_ok, ne_eq, hs, not_true_eq_false, if_false]
  simp only [hs] at this
  simp only [this, splice, Array.length_toList, hs]
  simp [List.append_assoc]

theorem store_sound (h : Sim B β s tm w) {xv yv : Value} {x y : AV} (hx : VR w.heap (s.own B.A β) s.used s.hp β xv x) (hy : VR w.heap (s.own B.A β) s.used s.hp β yv y) :
    RV (storeR (P.ti t) s x y) fun s' => ∃ w', (Instr.storeAt t xv yv).run P w = .ok () w' ∧ Sim B β s' tm w' := by
  unfold storeR
  split
  · rename_i p c
    split <;> try trivial
    rename_i cs hp
    split <;> try trivial
    rename_i vs hvs
    split <;> try trivial
    rename_i hcond
    obtain ⟨hg, hlen, hle⟩ := hcond
    have hcr := CR.of_cells hvs hy
    cases hx with
    | «at» _ _ _ hn h1 hx =>
      obtain ⟨k, hk, hk0, rfl⟩ := hx cs hp
      obtain ⟨k', c', e, hk', _, hc, hz, hl, h1', hcs⟩ := (h.objs p _ hp).2
      rw [hk] at hk'; cases hk'
      have hsz : yv.cells.size = (P.ti t).sz := by have := hcr.1; simp at this; omega
      have hfit : c + yv.cells.size ≤ c'.size := by omega
      have hrun := run_storeVar (P := P) (t := t) hg hc (o := c) hsz hfit (fun u hu => hcr.2.1 u (by simpa using hu))
      refine ⟨_, by simpa [Instr.storeAt, Instr.sureAddr] using hrun, ?_⟩
      have hbox : CR w.heap (s.own B.A β) s.used s.hp β c'.toList cs := ⟨by simpa using hl, by simpa using h1', fun i x hi => by
        have := hcs i x hi
        simpa [Array.getD_eq_getD_getElem?, List.getD_eq_getElem?_getD] using this⟩
      have hnew := hbox.splice hcr (c := c) (by simpa using hfit)
      refine (h.modify (p := p) hp (ob' := .box (splice cs c vs)) trivial (w' := w.setRow k.b _) rfl (by simp) (fun b hb => setRow_other w k.b b _ (hb k hk)) (fun hv _ => ?_)).1
      refine ⟨k, _, e, hk, hk0, setRow_heap w k.b c' _ e (0, 0) hc, ?_, ?_, ?_, fun j x hj => ?_⟩
      · simp; rw [splice_length _ _ _ (by simpa using hfit)]; simpa using hz
      · simpa using hnew.1
      · intro v hv'; exact hnew.2.1 v (by simpa using hv')
      · have := hv _ _ (hnew.2.2 j x hj)
        simpa [Array.getD_eq_getD_getElem?, List.getD_eq_getElem?_getD] using this
  · rename_i p j c
    split <;> try trivial
    rename_i wf xs y' hp
    split <;> try trivial
    rename_i ys hys
    have hrep : Rep w.heap (s.own B.A β) yv y' := hy.toD
    cases hx with
    | el _ _ _ _ hn h1 hx =>
      obtain ⟨hj, k, hk, rfl⟩ := hx wf xs hp
      rcases (h.objs p _ hp).2 with ⟨h0, h0'⟩ | ⟨k', c', e, hk', hc, hz, hl, hw, hcs⟩
      · rw [h0'] at hj; simp at hj
      · rw [hk] at hk'; cases hk'
        have hget : xs[j]? = some (xs.getD j .nilp) := by simp [List.getD_eq_getElem?_getD, hj]
        have hok := hw _ (List.mem_of_getElem? hget)
        have hlej : j * wd wf + wd wf ≤ xs.length * wd wf := by
          have := Nat.mul_le_mul_right (wd wf) (Nat.succ_le_of_lt hj); rwa [Nat.succ_mul] at this
        -- what is stored over which cells
        obtain ⟨z, hz1, hys', hcells, hg, hfit, hsz⟩ : ∃ z, okW wf z ∧ ys = xs.set j z ∧ (∀ i, z.cells[i]? = if c ≤ i ∧ i < c + yv.cells.size then y'.cells[i - c]? else (xs.getD j .nilp).cells[i]?) ∧
            (P.ti t).k.isBad = false ∧ c + yv.cells.size ≤ wd wf ∧ yv.cells.size = (P.ti t).sz := by
          obtain ⟨c1, c2, c3, c4⟩ := cells_len hrep
          unfold storeEl at hys
          split at hys
          · cases hys
          rename_i hg
          have hg : (P.ti t).k.isBad = false := by simpa using hg
          split at hys
          · rename_i hcond
            simp only [Bool.and_eq_true, beq_iff_eq] at hcond
            obtain ⟨⟨hw1, hw2⟩, rfl⟩ := hcond
            cases hys
            obtain ⟨_, hwd, _⟩ := isW_spec hw1
            have hoky := okWb_ok hw2
            rw [okW_len hoky] at c1
            refine ⟨y', hoky, rfl, fun i => ?_, hg, by omega, by omega⟩
            by_cases hi : i < wd wf
            · rw [if_pos (by omega)]; simp
            · rw [if_neg (by omega), List.getElem?_eq_none (by rw [okW_len hoky]; omega), List.getElem?_eq_none (by rw [okW_len hok]; omega)]
          · split at hys
            · cases hys
            · split at hys <;> try cases hys
              rename_i cs hcs'
              split at hys <;> try cases hys
              rename_i hcond
              obtain ⟨hsc, hlt, hs1⟩ := hcond
              have e1 : y'.cells = [y'] := by cases y' <;> first | rfl | simp [D.scal] at hsc
              rw [e1] at c1
              simp at c1
              rw [hcs'] at hok
              have hlen : cs.length = wd wf := okW_len hok
              have hok2 : okW wf (.agg (cs.set c y')) := by
                cases wf with
                | none => simp [okW, D.scal] at hok
                | some n =>
                  refine ⟨by simpa using hok.1, fun d hd => ?_⟩
                  rcases List.mem_or_eq_of_mem_set hd with hd | rfl
                  · exact hok.2 d hd
                  · exact hsc
              refine ⟨_, hok2, rfl, fun i => ?_, hg, by omega, by omega⟩
              rw [hcs', c1, e1]
              simp only [D.cells, List.getElem?_set]
              by_cases hi : c = i
              · subst hi; simp [hlt]
              · rw [if_neg hi, if_neg (by omega)]
        obtain ⟨c1, c2, c3, c4⟩ := cells_len hrep
        have hfit' : k.o + j * wd wf + c + yv.cells.size ≤ c'.size := by omega
        have hrun := run_storeVar (P := P) (t := t) hg hc (o := k.o + j * wd wf + c) hsz hfit' c2
        refine ⟨_, by simpa [Instr.storeAt, Instr.sureAddr] using hrun, ?_⟩
        subst hys'
        refine (h.modify (p := p) hp (ob' := .arr wf (xs.set j z)) ⟨rfl, by simp⟩ (w' := w.setRow k.b _) rfl (by simp) (fun b hb => setRow_other w k.b b _ (hb k hk)) (fun _ hr => ?_)).1
        have hsp := splice_length c'.toList (k.o + j * wd wf + c) yv.cells.toList (by simpa using hfit')
        refine .inr ⟨k, _, e, hk, setRow_heap w k.b c' _ e (0, 0) hc, by simp; rw [hsp]; simpa using hz, by simpa using hl, fun x hx => ?_, fun i x m d hi hm => ?_⟩
        · rcases List.mem_or_eq_of_mem_set hx with hx | rfl
          · exact hw x hx
          · exact hz1
        · have hgetc : ((splice c'.toList (k.o + j * wd wf + c) yv.cells.toList).toArray).getD (k.o + i * wd wf + m) undef =
              if k.o + j * wd wf + c ≤ k.o + i * wd wf + m ∧ k.o + i * wd wf + m < k.o + j * wd wf + c + yv.cells.size then yv.cells.getD (k.o + i * wd wf + m - (k.o + j * wd wf + c)) undef else c'.getD (k.o + i * wd wf + m) undef := by
            have := splice_get c'.toList (k.o + j * wd wf + c) yv.cells.toList (by simpa using hfit') (k.o + i * wd wf + m)
            simp only [Array.getElem?_toList, Array.length_toList] at this
            simp only [Array.getD_eq_getD_getElem?, List.getElem?_toArray, this]
            split <;> rfl
          rw [hgetc]
          rw [List.getElem?_set] at hi
          split at hi
          · rename_i hji
            subst hji
            simp at hi; obtain ⟨_, rfl⟩ := hi
            rw [hcells m] at hm
            by_cases hcm : c ≤ m ∧ m < c + yv.cells.size
            · rw [if_pos hcm] at hm
              rw [if_pos (by omega), show k.o + j * wd wf + m - (k.o + j * wd wf + c) = m - c by omega]
              exact hr _ _ (c4 _ d hm)
            · rw [if_neg hcm] at hm
              rw [if_neg (by omega)]
              exact hr _ _ (hcs j _ m d hget hm)
          · rename_i hji
            have hxo := hw x (List.mem_of_getElem? hi)
            have hml : m < wd wf := by rw [← okW_len hxo]; exact (List.getElem?_eq_some_iff.1 hm).1
            have hne : ¬ (k.o + j * wd wf + c ≤ k.o + i * wd wf + m ∧ k.o + i * wd wf + m < k.o + j * wd wf + c + yv.cells.size) := by
              rcases Nat.lt_or_gt_of_ne hji with hlt | hgt
              · have : j * wd wf + wd wf ≤ i * wd wf := by rw [← Nat.succ_mul]; exact Nat.mul_le_mul_right _ hlt
                omega
              · have : i * wd wf + wd wf ≤ j * wd wf := by rw [← Nat.succ_mul]; exact Nat.mul_le_mul_right _ hgt
                omega
            rw [if_neg hne]
            exact hr _ _ (hcs i x m d hi hm)
  · trivial
end
end Go.Ab
