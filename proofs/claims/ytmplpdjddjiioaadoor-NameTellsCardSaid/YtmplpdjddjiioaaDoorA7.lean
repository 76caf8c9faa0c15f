/-
  The generic layer, part 7: each step is sound: loads, addresses, numbers.
-/
import Derived.Test.YtmplpdjddjiioaaDoorA6
import Derived.Laws.Strings2
namespace Go.Ab

/-- If all that is asked holds, the result is such. -/
def RV {α : Type} : R α → (α → Prop) → Prop
  | .ok x, φ => φ x
  | .need p r, φ => p → RV r φ
  | .no, _ => True
theorem RV.mono {α : Type} {φ ψ : α → Prop} (h : ∀ x, φ x → ψ x) : ∀ {r : R α}, RV r φ → RV r ψ
  | .ok _, hr => h _ hr
  | .need _ _, hr => fun hp => RV.mono h (hr hp)
  | .no, _ => trivial
theorem RV.bind {α β : Type} {φ : α → Prop} {ψ : β → Prop} {f : α → R β} (hf : ∀ x, φ x → RV (f x) ψ) : ∀ {r : R α}, RV r φ → RV (r.bind f) ψ
  | .ok _, hr => hf _ hr
  | .need _ _, hr => fun hp => RV.bind hf (hr hp)
  | .no, _ => trivial
theorem RV.ofO {α : Type} {φ : α → Prop} {o : Option α} (h : ∀ x, o = some x → φ x) : RV (R.ofO o) φ := by
  cases o with
  | none => trivial
  | some x => exact h x rfl
theorem RV.run {φ : St → Prop} {f : St → Prop} {z : Prop} : ∀ {r : R St}, RV r φ → r.run f z → z ∨ ∃ s, φ s ∧ f s
  | .ok _, hr, h => .inr ⟨_, hr, h⟩
  | .need _ _, hr, h => RV.run (hr h.1) h.2
  | .no, _, h => .inl h

section
variable {P : Program} {t : Nat}
theorem addr_add (b o n : Nat) : (⟨b, o, none⟩ : Addr).add n = ⟨b, o + n, none⟩ := by unfold Addr.add; split <;> simp_all

theorem run_loadVar_agg (hg : (P.ti t).k.isBad = false) (ha : (P.ti t).k.agg = true) {w : World} {b o : Nat} {c : Array Value} {e : TypeId} {fz : Nat × Nat}
    (hb : w.heap[b]? = some (.cells c e fz)) (hz : o + (P.ti t).sz ≤ c.size) :
    (loadVar t ⟨b, o, none⟩).run P w = .ok (.agg ((c.toList.drop o).take (P.ti t).sz).toArray) w := by
  have hl : ((c.toList.drop o).take (P.ti t).sz).length = (P.ti t).sz := by simp; omega
  have := run_loadCells_list (P := P) w ⟨b, o, none⟩ ((c.toList.drop o).take (P.ti t).sz) (fun j v hv => by
    rw [addr_add, cell_of_row w b (o + j) c e fz hb]
    rw [List.getElem?_take] at hv
    split at hv
    · simpa using hv
    · cases hv)
  rw [hl] at this
  simp [loadVar, run_isAgg hg, ha, run_sizeOf hg, this]
theorem run_loadVar_one (hg : (P.ti t).k.isBad = false) (ha : (P.ti t).k.agg = false) {w : World} {b o : Nat} {c : Array Value} {e : TypeId} {fz : Nat × Nat}
    (hb : w.heap[b]? = some (.cells c e fz)) {v : Value} (hv : c[o]? = some v) : (loadVar t ⟨b, o, none⟩).run P w = .ok v w := by
  have hc : w.cell? ⟨b, o, none⟩ = some v := by rw [cell_of_row w b o c e fz hb, hv]
  simp [loadVar, run_isAgg hg, ha, hc]

theorem getD_of {α : Type} {c : Array α} {i : Nat} {z : α} (h : i < c.size) : c[i]? = some (c.getD i z) := by simp [Array.getD_eq_getD_getElem?, h]

/-- A part of a datum that lies there is read. -/
theorem part_sound {H : Array Obj} {own : Nat → Prop} {w : World} (hw : w.heap = H) {b o c0 : Nat} {c : Array Value} {e : TypeId} {fz : Nat × Nat} (hb : H[b]? = some (.cells c e fz)) {d y : D}
    (hz : o + d.cells.length ≤ c.size) (hsc : ∀ x ∈ d.cells, x.scal = true) (h : ∀ j x, d.cells[j]? = some x → Rep H own (c.getD (o + j) undef) x) (hp : partD (P.ti t) d c0 = some y) :
    ∃ v, (loadVar t ⟨b, o + c0, none⟩).run P w = .ok v w ∧ Rep H own v y := by
  subst hw
  unfold partD at hp
  by_cases hg : (P.ti t).k.isBad = true
  · simp [hg] at hp
  · have hg : (P.ti t).k.isBad = false := by simpa using hg
    simp only [hg, Bool.false_eq_true, if_false] at hp
    have one : ∀ y', d.cells[c0]? = some y' → (P.ti t).k.agg = false → ∃ v, (loadVar t ⟨b, o + c0, none⟩).run P w = .ok v w ∧ Rep w.heap own v y' := by
      intro y' hy ha
      have hlt : c0 < d.cells.length := (List.getElem?_eq_some_iff.1 hy).1
      exact ⟨_, run_loadVar_one hg ha hb (getD_of (z := undef) (show o + c0 < c.size by omega)), h c0 y' hy⟩
    cases d with
    | agg cs =>
      simp only at hp
      by_cases ha : (P.ti t).k.agg = true
      · simp only [ha, if_true] at hp
        split at hp
        · rename_i hle
          cases hp
          simp only [D.cells] at hz hsc h
          refine ⟨_, run_loadVar_agg hg ha hb (by omega), .agg _ _ (by simp; omega) (fun x hx => hsc x (List.mem_of_mem_drop (List.mem_of_mem_take hx))) (fun i x hi => ?_)⟩
          rw [List.getElem?_take] at hi
          split at hi
          · rename_i hlt
            rw [List.getElem?_drop] at hi
            have := h (c0 + i) x hi
            have hlt2 : c0 + i < cs.length := (List.getElem?_eq_some_iff.1 hi).1
            have e1 : ((c.toList.drop (o + c0)).take (P.ti t).sz).toArray.getD i undef = c.getD (o + (c0 + i)) undef := by
              simp [Array.getD_eq_getD_getElem?, hlt, Nat.add_assoc]
            rw [e1]; exact this
          · cases hi
        · cases hp
      · have ha : (P.ti t).k.agg = false := by simpa using ha
        simp only [ha, Bool.false_eq_true, if_false] at hp
        exact one y hp ha
    | _ =>
      simp only at hp
      by_cases ha : (P.ti t).k.agg = true
      · simp [ha] at hp
      · have ha : (P.ti t).k.agg = false := by simpa using ha
        simp only [ha, Bool.false_eq_true, if_false] at hp
        split at hp
        · rename_i h0
          cases hp; subst h0
          exact one _ rfl ha
        · cases hp
end

section
variable {P : Program} {B : Base} {β : Name → Option Blk} {s : St} {tm : Array Value} {w : World} {t : Nat}

theorem partC_sound (_h : Sim B β s tm w) {b c0 : Nat} {c : Array Value} {e : TypeId} {fz : Nat × Nat} (hb : w.heap[b]? = some (.cells c e fz)) {cs : List AV} (hl : c.size = cs.length) (h1 : ∀ v ∈ c, v.oneCell' = true)
    (hc : ∀ (j : Nat) x, cs[j]? = some x → VR w.heap (s.own B.A β) s.used s.hp β (c.getD j undef) x) :
    RV (partC (P.ti t) cs c0) fun y => ∃ v, (loadVar t ⟨b, c0, none⟩).run P w = .ok v w ∧ VR w.heap (s.own B.A β) s.used s.hp β v y := by
  unfold partC
  by_cases hg : (P.ti t).k.isBad = true
  · simp [hg, RV]
  · have hg : (P.ti t).k.isBad = false := by simpa using hg
    simp only [hg, Bool.false_eq_true, if_false]
    by_cases ha : (P.ti t).k.agg = true
    · simp only [ha, if_true]
      split
      · rename_i hle
        refine ⟨_, run_loadVar_agg hg ha hb (by omega), mkAgg_rep (by simp; omega) (fun v hv => h1 v ?_) (fun i v x hv hx => ?_)⟩
        · have := List.mem_of_mem_drop (List.mem_of_mem_take hv); simpa using this
        · rw [List.getElem?_take] at hv hx
          split at hv
          · rename_i hlt
            rw [if_pos hlt] at hx
            rw [List.getElem?_drop] at hv hx
            have := hc _ x hx
            have e1 : c.getD (c0 + i) undef = v := by
              simp only [Array.getElem?_toList] at hv
              simp [Array.getD_eq_getD_getElem?, hv]
            rwa [e1] at this
          · cases hv
      · trivial
    · have ha : (P.ti t).k.agg = false := by simpa using ha
      simp only [ha, Bool.false_eq_true, if_false]
      refine RV.ofO fun x hx => ?_
      have hlt : c0 < cs.length := (List.getElem?_eq_some_iff.1 hx).1
      exact ⟨_, run_loadVar_one hg ha hb (getD_of (z := undef) (by omega)), hc c0 x hx⟩

theorem okW_len {w : W} {x : D} (h : okW w x) : x.cells.length = wd w := by
  cases w with
  | none => cases x <;> first | rfl | simp [okW, D.scal] at h
  | some n => cases x <;> first | exact h.1 | exact h.elim
theorem okW_scal {w : W} {x : D} (h : okW w x) : ∀ y ∈ x.cells, y.scal = true := by
  cases w with
  | none => cases x <;> first | simp [okW, D.scal] at h; done | (intro y hy; simp [D.cells] at hy; subst hy; rfl)
  | some n => cases x <;> first | exact h.2 | exact h.elim

theorem load_sound (h : Sim B β s tm w) {xv : Value} {x : AV} (hx : VR w.heap (s.own B.A β) s.used s.hp β xv x) :
    RV (loadR (P.ti t) s.hp x) fun y => ∃ v, (Instr.loadAt t xv).run P w = .ok v w ∧ VR w.heap (s.own B.A β) s.used s.hp β v y := by
  unfold loadR
  split
  · rename_i p c
    split
    · rename_i cs hp
      cases hx with
      | «at» _ _ _ _ _ hx =>
        obtain ⟨k, hk, hk0, rfl⟩ := hx cs hp
        obtain ⟨k', c', e, hk', _, hc, hz, hl, h1, hcs⟩ := (h.objs p _ hp).2
        rw [hk] at hk'; cases hk'
        exact (partC_sound (P := P) (t := t) h hc hl h1 hcs (c0 := c)).mono fun y ⟨v, hr, hv⟩ => ⟨v, by simpa [Instr.loadAt, Instr.sureAddr] using hr, hv⟩
    · trivial
  · rename_i p j c
    split
    · rename_i wf xs hp
      cases hx with
      | el _ _ _ _ _ _ hx =>
        obtain ⟨hj, k, hk, rfl⟩ := hx wf xs hp
        refine RV.ofO fun y hy => ?_
        simp only [Option.map_eq_some_iff] at hy
        obtain ⟨d, hd, rfl⟩ := hy
        rcases (h.objs p _ hp).2 with ⟨h0, h0'⟩ | ⟨k', c', e, hk', hc, hz, hl, hw, hcs⟩
        · rw [h0'] at hj; simp at hj
        · rw [hk] at hk'; cases hk'
          have hget : xs[j]? = some (xs.getD j .nilp) := by simp [List.getD_eq_getElem?_getD, hj]
          have hmem : xs.getD j .nilp ∈ xs := List.mem_of_getElem? hget
          have hok := hw _ hmem
          have hle : j * wd wf + wd wf ≤ xs.length * wd wf := by
            have := Nat.mul_le_mul_right (wd wf) (Nat.succ_le_of_lt hj); rwa [Nat.succ_mul] at this
          obtain ⟨v, hr, hv⟩ := part_sound (P := P) (t := t) (own := s.own B.A β) (w := w) rfl hc (o := k.o + j * wd wf) (c0 := c) (d := xs.getD j .nilp) (y := d)
            (by rw [okW_len hok]; omega) (okW_scal hok) (fun i x hi => hcs j _ i x hget hi) hd
          exact ⟨v, by simpa [Instr.loadAt, Instr.sureAddr] using hr, .d _ _ hv⟩
    · trivial
  · rename_i d
    refine RV.ofO fun y hy => ?_
    simp only [Option.map_eq_some_iff] at hy
    obtain ⟨d', hd, rfl⟩ := hy
    cases hx.toD with
    | ptr b o c e fz d hb hn hz hsc hc =>
      obtain ⟨v, hr, hv⟩ := part_sound (P := P) (t := t) (own := s.own B.A β) (w := w) rfl hb (o := o) (c0 := 0) hz hsc hc hd
      exact ⟨v, by simpa [Instr.loadAt, Instr.sureAddr] using hr, .d _ _ hv⟩
  · trivial

/-! ### Addresses -/
theorem sz_good {t : Nat} (h : ¬ (P.ti t).sz = 0) : (P.ti t).k.isBad = false := by
  unfold Program.ti at h ⊢
  split
  · rename_i i d _ _
    cases d <;> rfl
  · rename_i hne
    split at h
    · rename_i i d hi hd; exact absurd hd (hne i d hi)
    · simp at h
theorem run_fieldAt {fs : List (Nat × Nat)} (hk : (P.ti t).k = .struct fs) {f o tt : Nat} (hf : fs[f]? = some (o, tt)) (hs : ¬ (P.ti tt).sz = 0) (b c : Nat) (w : World) :
    (Instr.fieldAt t (.pointer (some ⟨b, c, none⟩)) f).run P w = .ok (.pointer (some ⟨b, c + o, none⟩)) w := by
  obtain ⟨fl, hu, rfl⟩ := ti_struct hk
  simp only [List.getElem?_map, Option.map_eq_some_iff, Prod.mk.injEq] at hf
  obtain ⟨fd, hfd, rfl, rfl⟩ := hf
  have hfd' : fl[f]? = some fd := by simpa using hfd
  simp [Instr.fieldAt, run_underlying hu, hfd', Instr.sureAddr, fieldPlace, run_sizeOf (sz_good hs), hs, addr_add]

theorem fieldAddr_sound {xv : Value} {x : AV} {f : Nat} (hx : VR w.heap (s.own B.A β) s.used s.hp β xv x) :
    RV (fieldAddrR (P.ti t) P.ti s.hp x f) fun y => ∃ v, (Instr.fieldAt t xv f).run P w = .ok v w ∧ VR w.heap (s.own B.A β) s.used s.hp β v y := by
  unfold fieldAddrR
  split <;> try trivial
  rename_i fs hk
  split <;> try trivial
  rename_i o tt hf
  split <;> try trivial
  rename_i hs
  split
  · rename_i p c
    split <;> try trivial
    rename_i cs hp
    cases hx with
    | «at» _ _ _ hn h1 hx =>
      obtain ⟨k, hk', hk0, rfl⟩ := hx _ hp
      exact ⟨_, run_fieldAt hk hf hs _ _ w, .at _ _ _ hn rfl fun cs' hp' => ⟨k, hk', hk0, rfl⟩⟩
  · rename_i p j c
    split <;> try trivial
    rename_i wf xs hp
    cases hx with
    | el _ _ _ _ hn h1 hx =>
      obtain ⟨hj, k, hk', rfl⟩ := hx _ _ hp
      refine ⟨_, run_fieldAt hk hf hs _ _ w, .el _ _ _ _ hn rfl fun w' xs' hp' => ?_⟩
      rw [hp] at hp'; cases hp'
      exact ⟨hj, k, hk', by rw [Nat.add_assoc]⟩
  · rename_i cs
    refine RV.ofO fun y hy => ?_
    simp only [Option.map_eq_some_iff] at hy
    obtain ⟨d, hd, rfl⟩ := hy
    cases hx.toD with
    | ptr b o' c e fz d' hb hn hz hsc hc =>
      refine ⟨_, run_fieldAt hk hf hs _ _ w, .d _ _ ?_⟩
      simp only [D.cells] at hz hsc hc
      unfold partD at hd
      split at hd
      · cases hd
      · simp only at hd
        split at hd
        · split at hd
          · rename_i hle
            cases hd
            refine .ptr b (o' + o) c e fz _ hb hn (by simp [D.cells]; omega) (fun x hx' => hsc x (List.mem_of_mem_drop (List.mem_of_mem_take hx'))) (fun i x hi => ?_)
            simp only [D.cells] at hi
            rw [List.getElem?_take] at hi
            split at hi
            · rw [List.getElem?_drop] at hi
              have := hc _ x hi
              rwa [← Nat.add_assoc] at this
            · cases hi
          · cases hd
        · have hlt : o < cs.length := (List.getElem?_eq_some_iff.1 hd).1
          have hsd := hsc d (List.mem_of_getElem? hd)
          have e1 : d.cells = [d] := by cases d <;> first | rfl | simp [D.scal] at hsd
          refine .ptr b (o' + o) c e fz d hb hn (by rw [e1]; simp; omega) (by rw [e1]; simpa using hsd) (fun i x hi => ?_)
          rw [e1] at hi
          cases i with
          | zero => simp at hi; subst hi; exact hc _ _ hd
          | succ i => simp at hi
  · trivial

theorem run_indexAt {e : Nat} (hk : (P.ti t).k = .slice e) (hg : (P.ti e).k.isBad = false) (b o : Nat) (len cap : Nat) (kd : IntKind) (n : Int) (h0 : 0 ≤ n) (h1 : n < len) (w : World) :
    (Instr.indexAt t (.slice (some ⟨b, o, none⟩) len cap) (.int kd n)).run P w = .ok (.pointer (some ⟨b, o + n.toNat * (P.ti e).sz, none⟩)) w := by
  have hu := ti_slice hk
  simp [Instr.indexAt, asIntOf, run_underlying hu, h0, h1, run_sizeOf hg, addr_add]

theorem isW_spec {i : TI} {w : W} (h : i.isW w = true) : i.k.isBad = false ∧ wd w = i.sz ∧ w = i.w := by
  unfold TI.isW at h
  simp only [Bool.and_eq_true, Bool.not_eq_true'] at h
  cases w with
  | none => simp at h; exact ⟨h.1, by simp [wd, h.2.2], by simp [TI.w, h.2.1]⟩
  | some n => simp at h; exact ⟨h.1, by simp [wd, h.2.2], by simp [TI.w, h.2.1, h.2.2]⟩

theorem indexAddr_sound {xv jv : Value} {x j : AV} (hx : VR w.heap (s.own B.A β) s.used s.hp β xv x) (hj : VR w.heap (s.own B.A β) s.used s.hp β jv j) :
    RV (indexAddrR (P.ti t) P.ti s.hp x j) fun y => ∃ v, (Instr.indexAt t xv jv).run P w = .ok v w ∧ VR w.heap (s.own B.A β) s.used s.hp β v y := by
  unfold indexAddrR
  split
  · rename_i e p o l kd n hk
    split <;> try trivial
    rename_i wf xs hp
    split <;> try trivial
    rename_i hw
    obtain ⟨hg, hwd, _⟩ := isW_spec hw
    rintro ⟨h0, h1⟩
    obtain rfl := hj.int
    cases hx with
    | vw _ _ _ _ hn h1' hx =>
      obtain ⟨hle, a, cap, rfl, hx'⟩ := hx _ _ hp
      rcases hx' with ⟨hl0, _⟩ | ⟨k, hk', rfl, hcap, hz⟩
      · omega
      · refine ⟨_, run_indexAt hk hg _ _ _ _ _ n h0 h1 w, .el _ _ _ _ hn rfl fun w' xs' hp' => ?_⟩
        rw [hp] at hp'; cases hp'
        refine ⟨by omega, k, hk', ?_⟩
        rw [hwd, Nat.add_mul, Nat.add_assoc]; rfl
  · rename_i e wf xs kd n hk
    split <;> try trivial
    rename_i hw
    obtain ⟨hg, hwd, _⟩ := isW_spec hw
    rintro ⟨h0, h1⟩
    obtain rfl := hj.int
    cases hx.toD with
    | sl0 a cap _ => simp at h1; omega
    | sl b o cap c e' fz _ _ hb hn hcap hz hok hc =>
      have hlt : n.toNat < xs.length := by omega
      have hget : xs[n.toNat]? = some (xs.getD n.toNat .nilp) := by simp [List.getD_eq_getElem?_getD, hlt]
      have hmem : xs.getD n.toNat .nilp ∈ xs := List.mem_of_getElem? hget
      have ho := hok _ hmem
      have hle : n.toNat * wd wf + wd wf ≤ xs.length * wd wf := by
        have := Nat.mul_le_mul_right (wd wf) (Nat.succ_le_of_lt hlt); rwa [Nat.succ_mul] at this
      refine ⟨_, run_indexAt hk hg _ _ _ _ _ n h0 h1 w, .d _ _ (.ptr b _ c e' fz _ hb hn ?_ (okW_scal ho) fun i x hi => ?_)⟩
      · rw [okW_len ho, ← hwd]; omega
      · rw [← hwd]; exact hc _ _ i x hget hi
  · trivial

theorem bs_get (l : List UInt8) (n : Nat) (h : n < l.length) : (⟨l.toArray⟩ : ByteArray)[n]? = some (l.getD n 0) := by
  have h2 : n < (⟨l.toArray⟩ : ByteArray).size := by simpa [ByteArray.size] using h
  rw [ByteArray.getElem?_lt' _ _ h2]
  simp [ByteArray.getElem_eq_getElem_data, List.getD_eq_getElem?_getD, h]

theorem index_sound {xv jv : Value} {x j : AV} (hx : VR w.heap (s.own B.A β) s.used s.hp β xv x) (hj : VR w.heap (s.own B.A β) s.used s.hp β jv j) :
    RV (indexR (P.ti t) x j) fun y => ∃ v, (Instr.index t xv jv).run P w = .ok v w ∧ VR w.heap (s.own B.A β) s.used s.hp β v y := by
  unfold indexR
  split
  · rename_i l kd n hk
    rintro ⟨h0, h1⟩
    obtain rfl := hj.int
    obtain rfl := hx.str
    have hget := bs_get l n.toNat (by omega)
    exact ⟨_, by simp [Instr.index, asIntOf, run_underlying (ti_str hk), h0, hget], .d _ _ (.int _ _)⟩
  · trivial

theorem Rep.sl_inv {H : Array Obj} {own : Nat → Prop} {v : Value} {wf : W} {xs : List D} (h : Rep H own v (.sl wf xs)) : ∃ a cap, v = .slice a xs.length cap ∧ xs.length ≤ cap ∧
    (xs ≠ [] → ∃ b o c e fz, a = some ⟨b, o, none⟩ ∧ H[b]? = some (.cells c e fz) ∧ ¬ own b ∧ o + xs.length * wd wf ≤ c.size ∧ (∀ x ∈ xs, okW wf x) ∧
      ∀ i x j d, xs[i]? = some x → x.cells[j]? = some d → Rep H own (c.getD (o + i * wd wf + j) undef) d) := by
  cases h with
  | sl0 a cap _ => exact ⟨a, cap, rfl, Nat.zero_le _, fun h => absurd rfl h⟩
  | sl b o cap c e fz _ _ hb hn hcap hz hok hc => exact ⟨_, cap, rfl, hcap, fun _ => ⟨b, o, c, e, fz, rfl, hb, hn, hz, hok, hc⟩⟩

theorem loI_sound {n m : Int} {xo : Option AV} {vo : Option Value} (hx : ∀ x, xo = some x → ∃ v, vo = some v ∧ VR w.heap (s.own B.A β) s.used s.hp β v x) (hn : xo = none → vo = none) (h : loI n xo = some m) :
    (vo = none ∧ m = n) ∨ ∃ k, vo = some (.int k m) := by
  unfold loI at h
  split at h
  · cases h; exact .inl ⟨hn rfl, rfl⟩
  · cases h
    obtain ⟨v, rfl, hv⟩ := hx _ rfl
    obtain rfl := hv.int
    exact .inr ⟨_, rfl⟩
  · cases h

theorem run_bound (k : IntKind) (i : Int) (y : Nat) (code : BoundsCode) (h0 : 0 ≤ i) (h1 : i ≤ y) (w : World) : (Instr.sliceBound (.int k i) y code).run P w = .ok i.toNat w := by
  simp [Instr.sliceBound, asIntOf, h0, h1]

theorem run_bounds (isSlice : Bool) (len cap : Nat) (lo hi : Option Value) (a b : Int) (hlo : (lo = none ∧ a = 0) ∨ ∃ k, lo = some (.int k a)) (hhi : (hi = none ∧ b = len) ∨ ∃ k, hi = some (.int k b))
    (h0 : 0 ≤ a) (h1 : a ≤ b) (h2 : b ≤ cap) (w : World) : (Instr.sliceBounds isSlice len cap lo hi none).run P w = .ok (a.toNat, b.toNat, cap) w := by
  have hb : ∀ k code, (Instr.sliceBound (.int k b) cap code).run P w = .ok b.toNat w := fun k code => run_bound k b cap code (by omega) h2 w
  have ha : ∀ k code, (Instr.sliceBound (.int k a) b.toNat code).run P w = .ok a.toNat w := fun k code => run_bound k a _ code h0 (by omega) w
  rcases hlo with ⟨rfl, rfl⟩ | ⟨k1, rfl⟩ <;> rcases hhi with ⟨rfl, rfl⟩ | ⟨k2, rfl⟩ <;> simp only [Instr.sliceBounds]
  · simp
  · simp [hb]
  · have := ha k1; simp at this; simp [this]
  · simp [hb, ha]

theorem slice_sound {xv : Value} {x : AV} {lo hi : Option AV} {lov hiv : Option Value} (hx : VR w.heap (s.own B.A β) s.used s.hp β xv x)
    (hlo : ∀ x, lo = some x → ∃ v, lov = some v ∧ VR w.heap (s.own B.A β) s.used s.hp β v x) (hlo' : lo = none → lov = none)
    (hhi : ∀ x, hi = some x → ∃ v, hiv = some v ∧ VR w.heap (s.own B.A β) s.used s.hp β v x) (hhi' : hi = none → hiv = none) :
    RV (sliceR (P.ti t) P.ti s.hp x lo hi) fun y => ∃ v, (Instr.sliceAt t xv lov hiv none).run P w = .ok v w ∧ VR w.heap (s.own B.A β) s.used s.hp β v y := by
  unfold sliceR
  split
  · rename_i l hk
    split <;> try trivial
    rename_i a b ha hb
    rintro ⟨h0, h1, h2⟩
    obtain rfl := hx.str
    have hu := ti_str hk
    have hr := run_bounds (P := P) false l.length l.length lov hiv a b (loI_sound hlo hlo' ha) (loI_sound hhi hhi' hb) h0 h1 h2 w
    refine ⟨.string ⟨((l.drop a.toNat).take (b.toNat - a.toNat)).toArray⟩, ?_, .d _ _ (.str _)⟩
    have hsz : (⟨l.toArray⟩ : ByteArray).size = l.length := by simp [ByteArray.size]
    simp only [Instr.sliceAt, Instr.slice, Sem.run_bind, run_underlying hu, Result.andThen_ok, Option.isSome_none, Bool.false_eq_true, if_false, hsz, hr, Sem.run_pure, ByteArray.extract_mk]
  · rename_i e wf xs hk
    split <;> try trivial
    rename_i hw
    obtain ⟨hg, hwd, _⟩ := isW_spec hw
    split <;> try trivial
    rename_i a b ha hb
    rintro ⟨h0, h1, h2⟩
    have hu := ti_slice hk
    obtain ⟨a0, cap, rfl, hcap, hd⟩ := hx.toD.sl_inv
    have hr := run_bounds (P := P) true xs.length cap lov hiv a b (loI_sound hlo hlo' ha) (loI_sound hhi hhi' hb) h0 h1 (by omega) w
    refine ⟨.slice (if cap = a.toNat then a0 else a0.map (·.add (a.toNat * (P.ti e).sz))) (b.toNat - a.toNat) (cap - a.toNat), ?_, .d _ _ ?_⟩
    · simp [Instr.sliceAt, run_underlying hu, Instr.slice, hr, run_sizeOf hg]
    · have hlen : ((xs.drop a.toNat).take (b.toNat - a.toNat)).length = b.toNat - a.toNat := by simp; omega
      by_cases hz0 : b.toNat - a.toNat = 0
      · have : (xs.drop a.toNat).take (b.toNat - a.toNat) = [] := by rw [hz0]; simp
        rw [this, hz0]; exact .sl0 _ _ _
      · have hne : cap ≠ a.toNat := by omega
        rw [if_neg hne]
        obtain ⟨b', o, c, e', fz, rfl, hb', hn, hz, hok, hc⟩ := hd (by rintro rfl; simp at h2; omega)
        have hle : a.toNat * wd wf + (b.toNat - a.toNat) * wd wf ≤ xs.length * wd wf := by
          rw [← Nat.add_mul]; exact Nat.mul_le_mul_right _ (by omega)
        have e1 : (some (⟨b', o, none⟩ : Addr)).map (·.add (a.toNat * (P.ti e).sz)) = some ⟨b', o + a.toNat * wd wf, none⟩ := by simp [addr_add, hwd]
        rw [e1]
        have := Rep.sl (H := w.heap) (own := s.own B.A β) b' (o + a.toNat * wd wf) (cap - a.toNat) c e' fz wf ((xs.drop a.toNat).take (b.toNat - a.toNat)) hb' hn (by rw [hlen]; omega)
          (by rw [hlen]; omega) (fun x hx' => hok x (List.mem_of_mem_drop (List.mem_of_mem_take hx'))) (fun i x j d hi hj => by
            rw [List.getElem?_take] at hi
            split at hi
            · rw [List.getElem?_drop] at hi
              have := hc _ x j d hi hj
              rwa [show o + a.toNat * wd wf + i * wd wf + j = o + (a.toNat + i) * wd wf + j by rw [Nat.add_mul]; omega]
            · cases hi)
        rwa [hlen] at this
  · rename_i e p off n hk
    split <;> try trivial
    rename_i wf xs hp
    split <;> try trivial
    rename_i hw
    obtain ⟨hg, hwd, _⟩ := isW_spec hw
    split <;> try trivial
    rename_i a b ha hb
    rintro ⟨h0, h1, h2⟩
    have hu := ti_slice hk
    cases hx with
    | vw _ _ _ _ hn h1' hx =>
      obtain ⟨hle, a0, cap, rfl, hx'⟩ := hx _ _ hp
      have hcap : n ≤ cap := by
        rcases hx' with ⟨rfl, rfl⟩ | ⟨k, _, _, h, _⟩
        · exact Nat.le_refl _
        · exact h
      have hr := run_bounds (P := P) true n cap lov hiv a b (loI_sound hlo hlo' ha) (loI_sound hhi hhi' hb) h0 h1 (by omega) w
      refine ⟨.slice (if cap = a.toNat then a0 else a0.map (·.add (a.toNat * (P.ti e).sz))) (b.toNat - a.toNat) (cap - a.toNat), ?_, .vw _ _ _ _ hn rfl fun w' xs' hp' => ?_⟩
      · simp [Instr.sliceAt, run_underlying hu, Instr.slice, hr, run_sizeOf hg]
      · rw [hp] at hp'; cases hp'
        refine ⟨by omega, _, _, rfl, ?_⟩
        by_cases hc0 : cap = a.toNat
        · exact .inl ⟨by omega, by omega⟩
        · rw [if_neg hc0]
          rcases hx' with ⟨rfl, rfl⟩ | ⟨k, hk', rfl, h3, h4⟩
          · exact absurd (by omega) hc0
          · refine .inr ⟨k, hk', ?_, by omega, ?_⟩
            · simp [addr_add, hwd, Nat.add_mul]; omega
            · rw [show off + a.toNat + (cap - a.toNat) = off + cap by omega]; exact h4
  · rename_i e hk
    split <;> try trivial
    rename_i hg
    have hg : (P.ti e).k.isBad = false := by simpa using hg
    split <;> try trivial
    rename_i a b ha hb
    rintro ⟨rfl, rfl⟩
    obtain rfl := hx.nils
    have hr := run_bounds (P := P) true 0 0 lov hiv 0 0 (loI_sound hlo hlo' ha) (loI_sound hhi hhi' hb) (by omega) (by omega) (by omega) w
    exact ⟨.slice none 0 0, by simp [Instr.sliceAt, run_underlying (ti_slice hk), Instr.slice, hr, run_sizeOf hg], .d _ _ .nils⟩
  · trivial
end
end Go.Ab
