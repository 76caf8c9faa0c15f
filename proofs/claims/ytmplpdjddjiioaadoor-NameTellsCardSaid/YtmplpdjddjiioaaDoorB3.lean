/-
  The generic layer, part 12: each step is sound: append, make; all steps.
-/
import Derived.Test.YtmplpdjddjiioaaDoorB2
namespace Go.Ab
section
variable {P : Program} {B : Base} {β : Name → Option Blk} {s : St} {tm : Array Value} {w : World} {t : Nat}

/-- A slice's cells, as append reads them. -/
structure Seg (P : Program) (H : Array Obj) (own : Nat → Prop) (wf : W) (v : Value) (xs : List D) (news : List Value) : Prop where
  len : ∃ a cap, v = .slice a xs.length cap
  size : news.length = xs.length * wd wf
  one : ∀ u ∈ news, u.oneCell' = true
  ok : ∀ x ∈ xs, okW wf x
  rep : ∀ i x j d, xs[i]? = some x → x.cells[j]? = some d → Rep H own (news.getD (i * wd wf + j) undef) d
  run : ∀ w' : World, w'.heap = H → (Builtin.firstCells (wd wf) xs.length v).run P w' = .ok news.toArray w'

theorem seg_nil {H own} {wf : W} {a : Option Addr} {cap : Nat} : Seg P H own wf (.slice a 0 cap) [] [] := by
  refine ⟨⟨a, cap, rfl⟩, by simp, by simp, by simp, by simp, fun w' _ => ?_⟩
  cases a with
  | none => simp [Builtin.firstCells]
  | some a => simp [Builtin.firstCells, loadCells, loadCellsFrom]

theorem cells_one {H : Array Obj} {own : Nat → Prop} {c : Array Value} {o : Nat} {wf : W} {xs : List D} (hok : ∀ x ∈ xs, okW wf x)
    (h : ∀ i x j d, xs[i]? = some x → x.cells[j]? = some d → Rep H own (c.getD (o + i * wd wf + j) undef) d) : ∀ m, m < xs.length * wd wf → (c.getD (o + m) undef).oneCell' = true := by
  intro m hm
  have hw : 0 < wd wf := by rcases Nat.eq_zero_or_pos (wd wf) with h0 | h0
                            · rw [h0] at hm; simp at hm
                            · exact h0
  have hi : m / wd wf < xs.length := by rw [Nat.div_lt_iff_lt_mul hw]; exact hm
  have hget : xs[m / wd wf]? = some xs[m / wd wf] := List.getElem?_eq_getElem hi
  have hx := hok _ (List.getElem_mem hi)
  have hj : m % wd wf < (xs[m / wd wf]).cells.length := by rw [okW_len hx]; exact Nat.mod_lt _ hw
  have hr := h _ _ _ _ hget (List.getElem?_eq_getElem hj)
  have := hr.oneCell (okW_scal hx _ (List.getElem_mem hj))
  rwa [Nat.add_assoc, Nat.mul_comm, Nat.div_add_mod] at this

theorem seg_block {b o cap : Nat} {c : Array Value} {e : TypeId} {fz : Nat × Nat} {own : Nat → Prop} {wf : W} {xs : List D} (hb : w.heap[b]? = some (.cells c e fz)) (hz : o + xs.length * wd wf ≤ c.size) (hok : ∀ x ∈ xs, okW wf x)
    (h : ∀ i x j d, xs[i]? = some x → x.cells[j]? = some d → Rep w.heap own (c.getD (o + i * wd wf + j) undef) d) :
    Seg P w.heap own wf (.slice (some ⟨b, o, none⟩) xs.length cap) xs ((c.toList.drop o).take (xs.length * wd wf)) := by
  have hl : ((c.toList.drop o).take (xs.length * wd wf)).length = xs.length * wd wf := by simp; omega
  have hg : ∀ m, m < xs.length * wd wf → ((c.toList.drop o).take (xs.length * wd wf)).getD m undef = c.getD (o + m) undef := by
    intro m hm
    simp [List.getD_eq_getElem?_getD, Array.getD_eq_getD_getElem?, hm]
  refine ⟨⟨_, cap, rfl⟩, hl, fun u hu => ?_, hok, fun i x j d hi hj => ?_, fun w' hw' => ?_⟩
  · obtain ⟨m, hm⟩ := List.mem_iff_getElem?.1 hu
    have hlt : m < xs.length * wd wf := by rw [← hl]; exact (List.getElem?_eq_some_iff.1 hm).1
    have := cells_one hok h m hlt
    rw [← hg m hlt, List.getD_eq_getElem?_getD, hm] at this
    exact this
  · have hxo := hok x (List.mem_of_getElem? hi)
    have hjl : j < wd wf := by rw [← okW_len hxo]; exact (List.getElem?_eq_some_iff.1 hj).1
    have hil := (List.getElem?_eq_some_iff.1 hi).1
    have : i * wd wf + wd wf ≤ xs.length * wd wf := by rw [← Nat.succ_mul]; exact Nat.mul_le_mul_right _ hil
    rw [hg _ (by omega), ← Nat.add_assoc]
    exact h i x j d hi hj
  · refine run_firstCells_some (P := P) w' (wd wf) xs.length ⟨b, o, none⟩ xs.length cap _ hl (fun j v hv => ?_)
    rw [addr_add, cell_of_row w' b (o + j) c e fz (by rw [hw']; exact hb)]
    rw [List.getElem?_take] at hv
    split at hv
    · simpa using hv
    · cases hv

theorem listOf_sound (h : Sim B β s tm w) {yv : Value} {y : AV} (hy : VR w.heap (s.own B.A β) s.used s.hp β yv y) {wf : W} {ys : List D} (hl : listOf wf s.hp y = some ys) : ∃ news, Seg P w.heap (s.own B.A β) wf yv ys news := by
  unfold listOf at hl
  split at hl
  · rename_i p o l
    split at hl <;> try cases hl
    rename_i w' xs hp
    split at hl <;> try cases hl
    rename_i hw; subst hw
    cases hy with
    | vw _ _ _ _ hn h1 hx =>
      obtain ⟨hle, a, cap, rfl, hx'⟩ := hx _ _ hp
      have hlen : ((xs.drop o).take l).length = l := by simp; omega
      rcases hx' with ⟨rfl, rfl⟩ | ⟨k, hk, rfl, hcap, hz⟩
      · exact ⟨[], by simpa using seg_nil⟩
      · rcases (h.objs p _ hp).2 with ⟨h0, h0'⟩ | ⟨k', c', e, hk', hc, hzz, hl', hw, hcs⟩
        · rw [h0] at hk; cases hk
        · rw [hk] at hk'; cases hk'
          have hle2 : o * wd w' + l * wd w' ≤ xs.length * wd w' := by rw [← Nat.add_mul]; exact Nat.mul_le_mul_right _ hle
          have := seg_block (P := P) (w := w) (own := s.own B.A β) (cap := cap) (wf := w') (xs := (xs.drop o).take l) (b := k.b) (o := k.o + o * wd w') hc (by rw [hlen]; omega)
            (fun x hx => hw x (List.mem_of_mem_drop (List.mem_of_mem_take hx))) (fun i x j d hi hj => by
              rw [List.getElem?_take] at hi
              split at hi
              · rw [List.getElem?_drop] at hi
                have := hcs _ x j d hi hj
                rwa [show k.o + o * wd w' + i * wd w' + j = k.o + (o + i) * wd w' + j by rw [Nat.add_mul]; omega]
              · cases hi)
          rw [hlen] at this
          exact ⟨_, this⟩
  · rename_i w' xs
    split at hl <;> try cases hl
    rename_i hw; subst hw
    cases hy.toD with
    | sl0 a cap _ => exact ⟨[], seg_nil⟩
    | sl b o cap c e fz _ _ hb hn hcap hz hok hc => exact ⟨_, seg_block hb hz hok hc⟩
  · cases hl
    obtain rfl := hy.nils
    exact ⟨[], seg_nil⟩
  · cases hl

section
variable {e : Nat} {i : TypeInfo} {z : Value}
theorem run_append_grow' (hk : P.underlying t = some (.slice e)) (hi : P.info? e = some i) (hz : i.zero = some z) (ty : TypeId) {own : Nat → Prop} {wf : W} {xv yv : Value} {xs ys : List D} {olds news : List Value} (hs : i.size = wd wf)
    (hx : Seg P w.heap own wf xv xs olds) (hy : Seg P w.heap own wf yv ys news) {a : Option Addr} {cap : Nat} (hxv : xv = .slice a xs.length cap) (hgr : cap < xs.length + ys.length) (hb : (xs.length + ys.length) * i.bytes ≤ 140737488355328) (hb' : xs.length + ys.length ≤ 140737488355328) :
    ∃ nc, xs.length + ys.length ≤ nc ∧ (Builtin.append_ #[t, t] ty #[xv, yv]).run P w =
      .ok (.slice (some ⟨w.heap.size, 0, none⟩) (xs.length + ys.length) nc) (w.drew.alloc (.cells (olds.toArray ++ news.toArray ++ Builtin.zeroCells z.cells (nc - (xs.length + ys.length))) e)) := by
  obtain ⟨ya, yc, rfl⟩ := hy.len
  subst hxv
  refine ⟨grownCap w (xs.length + ys.length) cap e, grownCap_ge _ _ _ _, ?_⟩
  have hn : ¬ (xs.length + ys.length ≤ cap) := by omega
  have h63' : ¬ (9223372036854775807 < ((xs.length : Int) + (ys.length : Int))) := by omega
  have h48' : ¬ (281474976710656 < Builtin.nextslicecap (xs.length + ys.length) cap * i.bytes) := by have := growslice_fits hgr hb; omega
  have hf := hy.run w.drew rfl
  have hfo := hx.run w.drew rfl
  simp [Builtin.append_, run_underlying hk, sizeOf, typeInfo, zeroValue, hi, hz, Builtin.lenOf, hn, h63', h48', Question.forced, hs, hf, hfo, newRow, grownCap]
  congr 2
  apply Array.ext'
  simp [List.append_assoc]
theorem run_append_room' (hk : P.underlying t = some (.slice e)) (hi : P.info? e = some i) (ty : TypeId) {own : Nat → Prop} {wf : W} {yv : Value} {ys : List D} {news : List Value} (hs : i.size = wd wf)
    (hy : Seg P w.heap own wf yv ys news) {b o n cap : Nat} {c : Array Value} {e' : TypeId} (hb : w.heap[b]? = some (.cells c e' (0, 0))) (hr : n + ys.length ≤ cap) (hfit : o + n * wd wf + news.length ≤ c.size) :
    (Builtin.append_ #[t, t] ty #[.slice (some ⟨b, o, none⟩) n cap, yv]).run P w =
      .ok (.slice (some ⟨b, o, none⟩) (n + ys.length) cap) (w.setRow b (splice c.toList (o + n * wd wf) news).toArray) := by
  obtain ⟨ya, yc, rfl⟩ := hy.len
  have hf := hy.run w rfl
  have hst := run_storeCells_at (P := P) b (o + n * wd wf) e' news 0 c w hb (by simpa using hfit) hy.one
  simp only [Nat.add_zero] at hst
  simp [Builtin.append_, run_underlying hk, sizeOf, typeInfo, hi, Builtin.lenOf, hr, hs, hf, addr_add, hst, splice, List.append_assoc]
theorem run_append_none' (hk : P.underlying t = some (.slice e)) (hi : P.info? e = some i) (ty : TypeId) {own : Nat → Prop} {wf : W} {yv : Value} {news : List Value} (hs : i.size = wd wf) (hy : Seg P w.heap own wf yv [] news) (a : Option Addr) (cap : Nat)  :
    (Builtin.append_ #[t, t] ty #[.slice a 0 cap, yv]).run P w = .ok (.slice a 0 cap) w := by
  obtain ⟨ya, yc, rfl⟩ := hy.len
  have hf := hy.run w rfl
  have : news = [] := by have := hy.size; simpa using this
  subst this
  simp only [List.length_nil] at hf
  cases a <;> simp [Builtin.append_, run_underlying hk, sizeOf, typeInfo, hi, Builtin.lenOf, hs, hf, storeCells]
end

theorem rows_append {H : Array Obj} {own : Nat → Prop} {wf : W} {xs ys : List D} {olds news : List Value} {xv yv : Value} (hx : Seg P H own wf xv xs olds) (hy : Seg P H own wf yv ys news) (rest : Array Value) :
    (∀ x ∈ xs ++ ys, okW wf x) ∧ ∀ i x j d, (xs ++ ys)[i]? = some x → x.cells[j]? = some d → Rep H own ((olds.toArray ++ news.toArray ++ rest).getD (i * wd wf + j) undef) d := by
  refine ⟨fun x h => (List.mem_append.1 h).elim (hx.ok x) (hy.ok x), fun i x j d hi hj => ?_⟩
  have hget : ∀ m, (olds.toArray ++ news.toArray ++ rest).getD m undef = if m < olds.length then olds.getD m undef else if m < olds.length + news.length then news.getD (m - olds.length) undef else rest.getD (m - (olds.length + news.length)) undef := by
    intro m
    simp only [Array.getD_eq_getD_getElem?, List.getD_eq_getElem?_getD, Array.getElem?_append, List.size_toArray, Array.size_append, List.getElem?_toArray]
    by_cases h1 : m < olds.length
    · simp [h1, show m < olds.length + news.length by omega]
    · by_cases h2 : m < olds.length + news.length
      · simp [h1, h2]
      · simp [h1, h2]
  rw [hget]
  rcases Nat.lt_or_ge i xs.length with hlt | hge
  · rw [List.getElem?_append_left hlt] at hi
    have hxo := hx.ok x (List.mem_of_getElem? hi)
    have hjl : j < wd wf := by rw [← okW_len hxo]; exact (List.getElem?_eq_some_iff.1 hj).1
    have : i * wd wf + wd wf ≤ xs.length * wd wf := by rw [← Nat.succ_mul]; exact Nat.mul_le_mul_right _ hlt
    rw [if_pos (by rw [hx.size]; omega)]
    exact hx.rep i x j d hi hj
  · rw [List.getElem?_append_right hge] at hi
    have hxo := hy.ok x (List.mem_of_getElem? hi)
    have hil := (List.getElem?_eq_some_iff.1 hi).1
    have hjl : j < wd wf := by rw [← okW_len hxo]; exact (List.getElem?_eq_some_iff.1 hj).1
    have h1 : xs.length * wd wf ≤ i * wd wf := Nat.mul_le_mul_right _ hge
    have h2 : (i - xs.length) * wd wf + wd wf ≤ ys.length * wd wf := by rw [← Nat.succ_mul]; exact Nat.mul_le_mul_right _ hil
    have h3 : i * wd wf = (i - xs.length) * wd wf + xs.length * wd wf := by rw [← Nat.add_mul]; congr 1; omega
    rw [if_neg (by rw [hx.size]; omega), if_pos (by rw [hx.size, hy.size]; omega), hx.size, show i * wd wf + j - xs.length * wd wf = (i - xs.length) * wd wf + j by omega]
    exact hy.rep _ x j d hi hj

theorem append_sound (h : Sim B β s tm w) {xv yv : Value} {x y : AV} (hx : VR w.heap (s.own B.A β) s.used s.hp β xv x) (hy : VR w.heap (s.own B.A β) s.used s.hp β yv y) {e : Nat} (hk : (P.ti t).k = .slice e)
    (hz : (P.ti e).zOk = true) (hw : (P.ti e).isW (P.ti e).w = true) (ty : TypeId) (d : Option Nat) :
    RV (appendR B.n (P.ti e) d s x y) fun s' => ∃ dd v w' β', d = some dd ∧ (Builtin.append_ #[t, t] ty #[xv, yv]).run P w = .ok v w' ∧ Sim B β' s' (tm.setIfInBounds dd v) w' := by
  obtain ⟨hg, hwd, _⟩ := isW_spec hw
  obtain ⟨z, hz, hzl⟩ : ∃ z, (P.ti e).z = some z ∧ z.length = (P.ti e).sz := by
    unfold TI.zOk at hz
    split at hz
    · rename_i z h1; exact ⟨z, h1, by simpa using hz⟩
    · cases hz
  obtain ⟨zv, hr, hm, it, hi, hiz, his, hib⟩ := zero_run hz
  have hu := ti_slice hk
  have hby : ∀ m : Nat, m * (P.ti e).by1 ≤ 140737488355328 → m * it.bytes ≤ 140737488355328 ∧ m ≤ 140737488355328 := by
    intro m hm'
    unfold TI.by1 at hm'
    rw [hib]
    split at hm'
    · rename_i h0; rw [h0]; simp at hm' ⊢; exact hm'
    · exact ⟨hm', Nat.le_trans (Nat.le_mul_of_pos_right m (by omega)) hm'⟩
  -- the whole new row
  have fresh : ∀ (s1 : St) (β1 : Name → Option Blk) (xs ys : List D) (olds news : List Value) (xv' yv' : Value) (dd nc : Nat), Sim B β1 s1 tm w → Seg P w.heap (s1.own B.A β1) (P.ti e).w xv' xs olds → Seg P w.heap (s1.own B.A β1) (P.ti e).w yv' ys news → dd < B.n → dd ∉ s1.used →
      xs.length + ys.length ≤ nc → ∃ β', Sim B β' ((s1.add dd (.arr (P.ti e).w (xs ++ ys))).put dd (.vw [dd] 0 (xs.length + ys.length))) (tm.setIfInBounds dd (.slice (some ⟨w.heap.size, 0, none⟩) (xs.length + ys.length) nc))
        (w.drew.alloc (.cells (olds.toArray ++ news.toArray ++ Builtin.zeroCells zv.cells (nc - (xs.length + ys.length))) e)) := by
    intro s1 β1 xs ys olds news xv' yv' dd nc h1 hsx hsy hdd hud hnc
    obtain ⟨r1, r2⟩ := rows_append hsx hsy (Builtin.zeroCells zv.cells (nc - (xs.length + ys.length)))
    have hzs : zv.cells.size = wd (P.ti e).w := by
      have := (mapM_zd (H := w.heap) (own := s.own B.A β) hm).1
      simp at this; omega
    have hsz : (olds.toArray ++ news.toArray ++ Builtin.zeroCells zv.cells (nc - (xs.length + ys.length))).size = nc * wd (P.ti e).w := by
      simp only [Array.size_append, List.size_toArray, hsx.size, hsy.size, size_zeroCells, hzs, ← Nat.add_mul]; congr 1; omega
    have := newArr_sound (h1.heap_eq (w' := w.drew) rfl rfl) hdd hud (c := olds.toArray ++ news.toArray ++ Builtin.zeroCells zv.cells (nc - (xs.length + ys.length))) (wf := (P.ti e).w) (xs := xs ++ ys) (cap := nc) (by simpa using hnc)
      (by rw [hsz]; exact Nat.le_refl _) r1 (fun i x j d hi hj => r2 i x j d hi hj) e
    simpa using this
  unfold appendR
  split
  · -- onto nil
    rename_i ys hys
    obtain rfl := hx.nils
    intro hb
    obtain ⟨hb1, hb2⟩ := hby _ hb
    unfold newR
    split <;> try trivial
    rename_i dd
    split <;> try trivial
    rename_i hcond
    obtain ⟨hdd, hud⟩ := hcond
    obtain ⟨news, hsy⟩ := listOf_sound (P := P) h hy hys
    by_cases h0 : ys.length = 0
    · have : ys = [] := List.length_eq_zero_iff.1 h0
      subst this
      have hrun := run_append_none' (P := P) (t := t) hu hi ty (by rw [his, hwd]) hsy none 0
      refine ⟨dd, _, _, _, rfl, hrun, (h.addNone hud _).put hdd (.vw _ _ _ _ ⟨dd, [], rfl, List.mem_cons_self⟩ rfl fun w' xs' hp' => ?_)⟩
      have : w' = (P.ti e).w ∧ xs' = [] := by simpa [St.add, updP, eq_comm] using hp'
      obtain ⟨rfl, rfl⟩ := this
      exact ⟨by simp, _, 0, rfl, .inl ⟨rfl, rfl⟩⟩
    · obtain ⟨nc, hnc, hrun⟩ := run_append_grow' (P := P) (t := t) hu hi hiz ty (by rw [his, hwd]) (seg_nil (P := P) (H := w.heap) (own := s.own B.A β) (wf := (P.ti e).w) (a := none) (cap := 0)) hsy rfl (by simp; omega) (by simpa using hb1) (by simpa using hb2)
      obtain ⟨β', hs⟩ := fresh s β [] ys [] news _ _ dd nc h (seg_nil (a := none) (cap := 0)) hsy hdd hud hnc
      exact ⟨dd, _, _, β', rfl, hrun, by simpa using hs⟩
  · -- onto a view
    rename_i ys p o l hys
    split <;> try trivial
    rename_i wf xs hp
    split <;> try trivial
    rename_i hwf
    intro hb
    obtain ⟨hb1, hb2⟩ := hby _ hb
    unfold newR
    split <;> try trivial
    rename_i dd
    split <;> try trivial
    rename_i hcond
    obtain ⟨hdd, hud⟩ := hcond
    have hud : dd ∉ s.used := hud
    obtain ⟨news, hsy⟩ := listOf_sound (P := P) h hy hys
    have hlx : listOf (P.ti e).w s.hp (.vw p o l) = some ((xs.drop o).take l) := by simp [listOf, hp, hwf]
    obtain ⟨olds, hsx⟩ := listOf_sound (P := P) h hx hlx
    have hpn := nm_ne (h.objs p _ hp).1 hud
    have hcomm : ∀ ob, (s.set p none).add dd ob = (s.add dd ob).set p none := by
      intro ob
      unfold St.add St.set
      simp only [St.mk.injEq, true_and, and_true]
      funext q
      simp only [updP]
      by_cases h1 : q = [dd]
      · subst h1; simp [Ne.symm hpn]
      · simp [h1]
    cases hx with
    | vw _ _ _ _ hn h1 hx =>
      obtain ⟨hle, a, cap, rfl, hx'⟩ := hx _ _ hp
      have hlen : ((xs.drop o).take l).length = l := by simp; omega
      by_cases hgr : cap < l + ys.length
      · -- it grows
        have hgr' : cap < ((xs.drop o).take l).length + ys.length := by rw [hlen]; exact hgr
        obtain ⟨nc, hnc, hrun⟩ := run_append_grow' (P := P) (t := t) hu hi hiz ty (by rw [his, hwd]) hsx hsy (a := a) (cap := cap) (by rw [hlen]) hgr' (by rw [hlen]; exact hb1) (by rw [hlen]; exact hb2)
        obtain ⟨β', hs⟩ := fresh s β _ ys olds news _ _ dd nc h hsx hsy hdd hud hnc
        rw [hlen] at hs hrun
        refine ⟨dd, _, _, β', rfl, hrun, ?_⟩
        rw [hcomm, hwf]
        have := hs.drop p
        have e2 : ((s.add dd (.arr (P.ti e).w ((xs.drop o).take l ++ ys))).put dd (.vw [dd] 0 (l + ys.length))).set p none = ((s.add dd (.arr (P.ti e).w ((xs.drop o).take l ++ ys))).set p none).put dd (.vw [dd] 0 (l + ys.length)) := rfl
        rwa [e2] at this
      · -- there is room
        rcases hx' with ⟨rfl, rfl⟩ | ⟨k, hk', rfl, hcap, hz'⟩
        · have : ys = [] := List.length_eq_zero_iff.1 (by omega)
          subst this
          have hrun := run_append_none' (P := P) (t := t) hu hi ty (by rw [his, hwd]) hsy a 0
          refine ⟨dd, _, _, updP β [dd] none, rfl, hrun, ?_⟩
          rw [hcomm]
          have e3 : ((xs.drop o).take 0 ++ ([] : List D)) = [] := by simp
          rw [e3]
          have := ((h.addNone hud wf).put hdd (v := .slice a 0 0) (x := .vw [dd] 0 0) (.vw _ _ _ _ ⟨dd, [], rfl, List.mem_cons_self⟩ rfl fun w' xs' hp' => by
            have : w' = wf ∧ xs' = [] := by simpa [St.add, updP, eq_comm] using hp'
            obtain ⟨rfl, rfl⟩ := this
            exact ⟨by simp, a, 0, rfl, .inl ⟨rfl, rfl⟩⟩)).drop p
          exact this
        · have hob := (h.objs p _ hp).2
          rcases hob with ⟨h0, h0'⟩ | ⟨k', c', e', hk'', hc, hzz, hl', hwx, hcs⟩
          · rw [h0] at hk'; cases hk'
          · rw [hk'] at hk''; cases hk''
            have hmul : (o + cap) * wd wf = o * wd wf + cap * wd wf := Nat.add_mul _ _ _
            have hle2 : (l + ys.length) * wd wf ≤ cap * wd wf := Nat.mul_le_mul_right _ (by omega)
            have hmul2 : (l + ys.length) * wd wf = l * wd wf + ys.length * wd wf := Nat.add_mul _ _ _
            have hns := hsy.size
            rw [← hwf] at hns
            have hfit : k.o + o * wd wf + l * wd wf + news.length ≤ c'.size := by omega
            have hrun := run_append_room' (P := P) (t := t) hu hi ty (wf := wf) (by rw [his, hwf, hwd]) (by rw [hwf]; exact hsy) hc (o := k.o + o * wd wf) (n := l) (cap := cap) (by omega) hfit
            refine ⟨dd, _, _, updP β [dd] (some ⟨k.b, k.o + o * wd wf, k.z⟩), rfl, hrun, ?_⟩
            have hsim := h.renew hud hp hk' wf ((xs.drop o).take l ++ ys) (k.o + o * wd wf) (w' := w.setRow k.b (splice c'.toList (k.o + o * wd wf + l * wd wf) news).toArray) rfl (by simp)
              (fun b hb => setRow_other w k.b b _ hb) (fun hr => ?_)
            · refine hsim.put hdd (.vw _ _ _ _ ⟨dd, [], rfl, List.mem_cons_self⟩ rfl fun w' xs' hp' => ?_)
              have : w' = wf ∧ xs' = (xs.drop o).take l ++ ys := by simpa [St.add, updP, eq_comm] using hp'
              obtain ⟨rfl, rfl⟩ := this
              refine ⟨by simp; omega, _, cap, rfl, .inr ⟨_, by simp [updP]; rfl, by simp, by omega, ?_⟩⟩
              simp only [Nat.zero_add]; omega
            · have hsp := splice_length c'.toList (k.o + o * wd wf + l * wd wf) news (by simpa using hfit)
              refine ⟨_, e', setRow_heap w k.b c' _ e' (0, 0) hc, by simp; rw [hsp]; simpa using hzz, ?_, fun x hx => ?_, fun i x j d hi hj => ?_⟩
              · rw [List.length_append, hlen]; omega
              · rcases List.mem_append.1 hx with hx | hx
                · exact hwx x (List.mem_of_mem_drop (List.mem_of_mem_take hx))
                · rw [hwf]; exact hsy.ok x hx
              · have hgetc : ((splice c'.toList (k.o + o * wd wf + l * wd wf) news).toArray).getD (k.o + o * wd wf + i * wd wf + j) undef =
                    if k.o + o * wd wf + l * wd wf ≤ k.o + o * wd wf + i * wd wf + j ∧ k.o + o * wd wf + i * wd wf + j < k.o + o * wd wf + l * wd wf + news.length then news.getD (k.o + o * wd wf + i * wd wf + j - (k.o + o * wd wf + l * wd wf)) undef else c'.getD (k.o + o * wd wf + i * wd wf + j) undef := by
                  have := splice_get c'.toList (k.o + o * wd wf + l * wd wf) news (by simpa using hfit) (k.o + o * wd wf + i * wd wf + j)
                  simp only [Array.getElem?_toList] at this
                  simp only [Array.getD_eq_getD_getElem?, List.getElem?_toArray, this, List.getD_eq_getElem?_getD]
                  split <;> rfl
                rw [hgetc]
                rcases Nat.lt_or_ge i l with hlt | hge
                · rw [List.getElem?_append_left (by rw [hlen]; exact hlt), List.getElem?_take, if_pos hlt, List.getElem?_drop] at hi
                  have hxo := hwx x (List.mem_of_getElem? hi)
                  have hjl : j < wd wf := by rw [← okW_len hxo]; exact (List.getElem?_eq_some_iff.1 hj).1
                  have : i * wd wf + wd wf ≤ l * wd wf := by rw [← Nat.succ_mul]; exact Nat.mul_le_mul_right _ hlt
                  rw [if_neg (by omega)]
                  have := hr _ _ (hcs _ x j d hi hj)
                  rwa [show k.o + o * wd wf + i * wd wf + j = k.o + (o + i) * wd wf + j by rw [Nat.add_mul]; omega]
                · rw [List.getElem?_append_right (by rw [hlen]; exact hge), hlen] at hi
                  have hxo := hsy.ok x (List.mem_of_getElem? hi)
                  rw [← hwf] at hxo
                  have hil := (List.getElem?_eq_some_iff.1 hi).1
                  have hjl : j < wd wf := by rw [← okW_len hxo]; exact (List.getElem?_eq_some_iff.1 hj).1
                  have g1 : l * wd wf ≤ i * wd wf := Nat.mul_le_mul_right _ hge
                  have g2 : (i - l) * wd wf + wd wf ≤ ys.length * wd wf := by rw [← Nat.succ_mul]; exact Nat.mul_le_mul_right _ hil
                  have g3 : i * wd wf = (i - l) * wd wf + l * wd wf := by rw [← Nat.add_mul]; congr 1; omega
                  rw [if_pos (by omega), show k.o + o * wd wf + i * wd wf + j - (k.o + o * wd wf + l * wd wf) = (i - l) * wd wf + j by omega]
                  have := hsy.rep _ x j d hi hj
                  rw [← hwf] at this
                  exact hr _ _ this
  · trivial
end
end Go.Ab
