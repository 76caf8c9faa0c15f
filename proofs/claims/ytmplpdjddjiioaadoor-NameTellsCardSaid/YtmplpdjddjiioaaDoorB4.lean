/-
  The generic layer, part 13: all steps are sound.
-/
import Derived.Test.YtmplpdjddjiioaaDoorB3
namespace Go.Ab
section
variable {P : Program} {B : Base} {β : Name → Option Blk} {s : St} {a : Act} {w : World}

/-- The operation is done: it hands on v, and a state in which f holds stands. -/
def Does (P : Program) (B : Base) (o : Oper) (a : Act) (w : World) (f : St → Prop) : Prop :=
  ∃ nx v w' s' β', (execOp a.eval o).run P w = .ok nx w' ∧ (nx = .value v ∨ nx = .skip ∧ v = undef) ∧ f s' ∧ Sim B β' s' (a.put o.dst v).tmps w'

theorem tmps_put (a : Act) (d : Option Tmp) (v : Value) : (a.put d v).tmps = match d with
  | some d => a.tmps.setIfInBounds d v
  | none => a.tmps := by cases d <;> rfl

def _root_.Go.Ab.St.putd (s : St) : Option Nat → AV → St
  | some t, x => s.put t x
  | none, _ => s
theorem putR_ok {n : Nat} {d : Option Nat} {x : AV} {f : St → Prop} {z : Prop} (h : (putR n d s x).run f z) : z ∨ (∀ t, d = some t → t < n) ∧ f (s.putd d x) := by
  cases d with
  | some t =>
    simp only [putR] at h
    split at h
    · rename_i ht; exact .inr ⟨fun t' e => by cases e; exact ht, h⟩
    · exact .inl h
  | none => exact .inr ⟨fun t' e => (by cases e), h⟩

theorem Sim.putd (h : Sim B β s a.tmps w) {d : Option Nat} (hd : ∀ t, d = some t → t < B.n) {v : Value} {x : AV} (hv : VR w.heap (s.own B.A β) s.used s.hp β v x) :
    Sim B β (s.putd d x) (a.put d v).tmps w := by
  cases d with
  | none => exact h
  | some t => exact h.put (hd t rfl) hv

theorem bind_run {r : R AV} {g : AV → R St} {f : St → Prop} {z : Prop} {φ : AV → Prop} (hφ : RV r φ) (h : (r.bind g).run f z) : z ∨ ∃ x, φ x ∧ (g x).run f z := by
  induction r with
  | ok x => exact .inr ⟨x, hφ, h⟩
  | need p r ih => exact ih (hφ h.1) h.2
  | no => exact .inl h

theorem val_ok {o : Oper} {r : R AV} {f : St → Prop} {z : Prop} (h : Sim B β s a.tmps w)
    (hφ : RV r fun x => ∃ v, (execOp a.eval o).run P w = .ok (.value v) w ∧ VR w.heap (s.own B.A β) s.used s.hp β v x) (hr : (r.bind (putR B.n o.dst s)).run f z) : z ∨ Does P B o a w f := by
  rcases bind_run hφ hr with hz | ⟨x, ⟨v, hrun, hv⟩, hp⟩
  · exact .inl hz
  · rcases putR_ok hp with hz | ⟨hd, hf⟩
    · exact .inl hz
    · exact .inr ⟨_, v, w, _, β, hrun, .inl rfl, hf, h.putd hd hv⟩

theorem put_ok {o : Oper} {x : AV} {f : St → Prop} {z : Prop} (h : Sim B β s a.tmps w) {v : Value} (hrun : (execOp a.eval o).run P w = .ok (.value v) w) (hv : VR w.heap (s.own B.A β) s.used s.hp β v x)
    (hr : (putR B.n o.dst s x).run f z) : z ∨ Does P B o a w f := by
  rcases putR_ok hr with hz | ⟨hd, hf⟩
  · exact .inl hz
  · exact .inr ⟨_, v, w, _, β, hrun, .inl rfl, hf, h.putd hd hv⟩

theorem new_ok {o : Oper} {ob : Ob} {x : Name → AV} {f : St → Prop} {z : Prop} (hφ : ∀ d, o.dst = some d → d < B.n → d ∉ s.used → ∃ v w' β', (execOp a.eval o).run P w = .ok (.value v) w' ∧ Sim B β' ((s.add d ob).put d (x [d])) (a.tmps.setIfInBounds d v) w')
    (hr : (newR B.n o.dst s ob x).run f z) : z ∨ Does P B o a w f := by
  unfold newR at hr
  split at hr
  · rename_i d hd
    split at hr
    · rename_i hc
      obtain ⟨v, w', β', hrun, hs⟩ := hφ d hd hc.1 hc.2
      exact .inr ⟨_, v, w', _, β', hrun, .inl rfl, hr, by rw [tmps_put, hd]; exact hs⟩
    · exact .inl hr
  · exact .inl hr

theorem map_get {α γ : Type} (f : α → γ) (l : Array α) (i : Nat) : (l.map f)[i]? = (l[i]?).map f := by simp

theorem parts_ok (h : Sim B β s a.tmps w) (parts : Array (Nat × Operand)) : (parts.map fun (i, x) => (i, a.eval x)).size = (parts.toList.map fun q => (q.1, ev s q.2)).length ∧
    ∀ (i : Nat) q u, (parts.toList.map fun q => (q.1, ev s q.2))[i]? = some q → (parts.map fun (i, x) => (i, a.eval x)).toList[i]? = some u → u.1 = q.1 ∧ VR w.heap (s.own B.A β) s.used s.hp β u.2 q.2 := by
  refine ⟨by simp, fun i q u h1 h2 => ?_⟩
  simp only [List.getElem?_map, Option.map_eq_some_iff, Array.toList_map] at h1 h2
  obtain ⟨r, hr, rfl⟩ := h1
  obtain ⟨r', hr', rfl⟩ := h2
  rw [hr] at hr'; cases hr'
  exact ⟨rfl, h.ev _⟩

theorem makeSlice_sound (h : Sim B β s a.tmps w) {t : Nat} {lv cv : Value} {l c : AV} (hl : VR w.heap (s.own B.A β) s.used s.hp β lv l) (hc : VR w.heap (s.own B.A β) s.used s.hp β cv c) (o : Oper)
    (ho : ∀ v w', (Instr.makeSlice t lv cv).run P w = .ok v w' → (execOp a.eval o).run P w = .ok (.value v) w') {f : St → Prop} {z : Prop} (hr : (makeSliceR B.n (P.ti t) P.ti o.dst s l c).run f z) : z ∨ Does P B o a w f := by
  unfold makeSliceR at hr
  split at hr <;> try exact .inl hr
  rename_i e la lb hk
  obtain rfl := hl.int; obtain rfl := hc.int
  split at hr <;> try exact .inl hr
  rename_i zd' hzd
  split at hr <;> try exact .inl hr
  rename_i hcond
  have hcond : ((P.ti e).isW (P.ti e).w && okWb (P.ti e).w zd') = true := by simpa using hcond
  simp only [Bool.and_eq_true] at hcond
  obtain ⟨hw, hokb⟩ := hcond
  have hok := okWb_ok hokb
  obtain ⟨hg, hwd, _⟩ := isW_spec hw
  obtain ⟨⟨h0, h1, h2, h3⟩, hr⟩ := hr
  obtain ⟨zc, hz, hzc⟩ : ∃ zc, (P.ti e).z = some zc ∧ zc = zd'.cells := by
    unfold TI.zero at hzd
    cases hz : (P.ti e).z with
    | none => simp [hz] at hzd
    | some zc =>
      refine ⟨zc, rfl, ?_⟩
      simp only [hz, Option.bind_some] at hzd
      split at hzd
      · cases hzd; rfl
      · rename_i hna
        split at hzd <;> try cases hzd
        have : (P.ti e).w = none := by unfold TI.w; rw [if_neg hna]
        rw [this] at hok
        cases zd' <;> first | rfl | simp [okW, D.scal] at hok
  obtain ⟨zv, hr', hm, it, hi, hiz, his, hib⟩ := zero_run hz
  obtain ⟨m1, m2, m3, m4⟩ := mapM_zd (H := w.heap) (own := s.own B.A β) hm
  have hzlen : zv.cells.size = wd (P.ti e).w := by
    rw [hzc, okW_len hok] at m1; simpa using m1.symm
  refine new_ok (fun d hd hdn hdu => ?_) hr
  have hrun := run_make (P := P) w t e it zv (ti_slice hk) hi hiz .i64 .i64 la lb h0 h1 (by rw [hib, Int.mul_comm]; omega) (by omega)
  obtain ⟨β', hs⟩ := newArr_sound h hdn hdu (c := madeCells zv.cells (lb.toNat * it.size)) (wf := (P.ti e).w) (xs := List.replicate la.toNat zd') (cap := lb.toNat) (by simp; omega)
    (by rw [size_madeCells, his, hwd]; exact Nat.le_refl _) (fun x hx => by rw [List.eq_of_mem_replicate hx]; exact hok) (fun i x j d' hi' hj => by
      have hxe : x = zd' := List.eq_of_mem_replicate (List.mem_of_getElem? hi')
      subst hxe
      have hil : i < la.toNat := by have := (List.getElem?_eq_some_iff.1 hi').1; simpa using this
      have hjl : j < wd (P.ti e).w := by rw [← okW_len hok]; exact (List.getElem?_eq_some_iff.1 hj).1
      rw [← hzc] at hj
      obtain ⟨u, hu, hrep⟩ := m4 j d' hj
      have hin : i * wd (P.ti e).w + wd (P.ti e).w ≤ lb.toNat * it.size := by rw [← Nat.succ_mul, his, hwd]; exact Nat.mul_le_mul_right _ (by omega)
      have : (madeCells zv.cells (lb.toNat * it.size)).getD (i * wd (P.ti e).w + j) undef = u := by
        simp only [Array.getElem?_toList] at hu
        have hmod : (i * wd (P.ti e).w + j) % zv.cells.size = j := by rw [hzlen, Nat.mul_comm, Nat.mul_add_mod]; exact Nat.mod_eq_of_lt hjl
        have hget : zv.cells[j]! = u := by simp [getElem!_def, hu]
        simp [madeCells, Array.getD_eq_getD_getElem?, show i * wd (P.ti e).w + j < lb.toNat * it.size by omega, hmod, hget]
      rw [this]; exact hrep) e
  refine ⟨_, _, β', ho _ _ hrun, ?_⟩
  simpa using hs

set_option maxHeartbeats 1000000 in
theorem opR_sound {o : Oper} (h : Sim B β s a.tmps w) {f : St → Prop} {z : Prop} (hr : (opR P.ti B.n o.op o.dst s).run f z) : z ∨ Does P B o a w f := by
  have hev := h.ev
  obtain ⟨dst, op, ty, pos, after, guard⟩ := o
  simp only at hr
  cases op with
  | move x => exact put_ok h (o := ⟨dst, .move x, ty, pos, after, guard⟩) rfl (hev x) hr
  | assign x => exact put_ok h (o := ⟨dst, .assign x, ty, pos, after, guard⟩) rfl (hev x) hr
  | pick c x y => exact val_ok h (o := ⟨dst, .pick c x y, ty, pos, after, guard⟩) ((pick_sound (P := P) (hev c) (hev x) (hev y)).mono fun _ ⟨v, hr, hv⟩ => ⟨v, by simpa [execOp] using hr, hv⟩) hr
  | alloc e =>
    simp only [opR] at hr
    split at hr <;> try exact .inl hr
    rename_i cs hz
    exact new_ok (o := ⟨dst, .alloc e, ty, pos, after, guard⟩) (fun d hd h1 h2 => let ⟨v, w', β', hrun, hs⟩ := alloc_sound h hz h1 h2; ⟨v, w', β', by simp [execOp, hrun], hs⟩) hr
  | box e x =>
    simp only [opR] at hr
    split at hr <;> try exact .inl hr
    rename_i cs hc
    exact new_ok (o := ⟨dst, .box e x, ty, pos, after, guard⟩) (fun d hd h1 h2 => let ⟨v, w', β', hrun, hs⟩ := box_sound (P := P) (t := e) h (hev x) hc h1 h2; ⟨v, w', β', by simp [execOp, hrun], hs⟩) hr
  | build t parts =>
    obtain ⟨p1, p2⟩ := parts_ok h parts
    exact val_ok h (o := ⟨dst, .build t parts, ty, pos, after, guard⟩) ((build_sound (P := P) (t := t) p1 p2).mono fun _ ⟨v, hr, hv⟩ => ⟨v, by simp [execOp, hr], hv⟩) hr
  | buildSlice t l parts =>
    simp only [opR] at hr
    split at hr <;> try exact .inl hr
    rename_i e xs hk hx
    split at hr <;> try exact .inl hr
    rename_i hc
    obtain ⟨rfl, hz, hw, hok, hb⟩ := hc
    obtain ⟨z', hz⟩ := Option.isSome_iff_exists.1 hz
    have hk' : (P.ti t).k = .slice e := by
      unfold sliceE at hk
      split at hk <;> cases hk
      assumption
    obtain ⟨p1, p2⟩ := parts_ok h parts
    refine new_ok (o := ⟨dst, .buildSlice t xs.length parts, ty, pos, after, guard⟩) (fun d hd h1 h2 => ?_) hr
    obtain ⟨v, w', β', hrun, hs⟩ := buildSlice_sound (P := P) (t := t) h p1 p2 hk' hx hz hw (fun x hx' => okWb_ok (List.all_eq_true.1 hok x hx')) hb h1 h2
    exact ⟨v, w', β', by simp [execOp, hrun], hs⟩
  | load t x => exact val_ok h (o := ⟨dst, .load t x, ty, pos, after, guard⟩) ((load_sound (P := P) (t := t) h (hev x)).mono fun _ ⟨v, hr, hv⟩ => ⟨v, by simp [execOp, hr], hv⟩) hr
  | store t x y =>
    have hs := store_sound (P := P) (t := t) h (hev x) (hev y)
    have hr' : ((storeR (P.ti t) s (ev s x) (ev s y)).bind fun s' => putR B.n dst s' .un).run f z := hr
    have key : ∀ r : R St, RV r (fun s' => ∃ w', (Instr.storeAt t (a.eval x) (a.eval y)).run P w = .ok () w' ∧ Sim B β s' a.tmps w') → (r.bind fun s' => putR B.n dst s' .un).run f z → z ∨ Does P B ⟨dst, .store t x y, ty, pos, after, guard⟩ a w f := by
      intro r
      induction r with
      | ok s' =>
        rintro ⟨w', hrun, hsim⟩ hr
        rcases putR_ok hr with hz | ⟨hd, hf⟩
        · exact .inl hz
        · exact .inr ⟨.skip, undef, w', _, β, by simp [execOp, hrun], .inr ⟨rfl, rfl⟩, hf, hsim.putd hd (.un _)⟩
      | need p r ih => exact fun hφ hr => ih (hφ hr.1) hr.2
      | no => exact fun _ hr => .inl hr
    exact key _ hs hr'
  | fieldAddr t x fi => exact val_ok h (o := ⟨dst, .fieldAddr t x fi, ty, pos, after, guard⟩) ((fieldAddr_sound (P := P) (t := t) (hev x)).mono fun _ ⟨v, hr, hv⟩ => ⟨v, by simp [execOp, hr], hv⟩) hr
  | field t x fi => exact val_ok h (o := ⟨dst, .field t x fi, ty, pos, after, guard⟩) ((field_sound (P := P) (t := t) (hev x)).mono fun _ ⟨v, hr, hv⟩ => ⟨v, by simp [execOp, hr], hv⟩) hr
  | indexAddr t x j => exact val_ok h (o := ⟨dst, .indexAddr t x j, ty, pos, after, guard⟩) ((indexAddr_sound (P := P) (t := t) (hev x) (hev j)).mono fun _ ⟨v, hr, hv⟩ => ⟨v, by simp [execOp, hr], hv⟩) hr
  | index t x j => exact val_ok h (o := ⟨dst, .index t x j, ty, pos, after, guard⟩) ((index_sound (P := P) (t := t) (hev x) (hev j)).mono fun _ ⟨v, hr, hv⟩ => ⟨v, by simp [execOp, hr], hv⟩) hr
  | slice t x lo hi mx =>
    cases mx with
    | some _ => exact .inl hr
    | none =>
      have opt : ∀ o : Option Operand, (∀ x, o.map (ev s) = some x → ∃ v, o.map a.eval = some v ∧ VR w.heap (s.own B.A β) s.used s.hp β v x) ∧ (o.map (ev s) = none → o.map a.eval = none) := by
        intro o
        cases o with
        | none => exact ⟨fun x h => (by cases h), fun _ => rfl⟩
        | some o => exact ⟨fun x h => (by cases h; exact ⟨_, rfl, hev o⟩), fun h => (by cases h)⟩
      exact val_ok h (o := ⟨dst, .slice t x lo hi none, ty, pos, after, guard⟩) ((slice_sound (P := P) (t := t) (hev x) (opt lo).1 (opt lo).2 (opt hi).1 (opt hi).2).mono fun _ ⟨v, hr, hv⟩ => ⟨v, by simp [execOp, hr], hv⟩) hr
  | binOp op t x y yt =>
    exact val_ok h (o := ⟨dst, .binOp op t x y yt, ty, pos, after, guard⟩) ((bin_sound (P := P) (t := t) (hev x) (hev y) x y).mono fun _ ⟨v, hr, hv⟩ => ⟨v, by simp only [execOp, Sem.run_bind] at hr ⊢; rw [hr]; rfl, hv⟩) hr
  | unOp op t x => exact val_ok h (o := ⟨dst, .unOp op t x, ty, pos, after, guard⟩) ((un_sound (P := P) (hev x)).mono fun _ ⟨v, hr, hv⟩ => ⟨v, by simp [execOp, hr], hv⟩) hr
  | convert t t' x => exact val_ok h (o := ⟨dst, .convert t t' x, ty, pos, after, guard⟩) ((conv_sound (P := P) (t := t) (t' := t') (hev x)).mono fun _ ⟨v, hr, hv⟩ => ⟨v, by simp [execOp, hr], hv⟩) hr
  | extract x i => exact val_ok h (o := ⟨dst, .extract x i, ty, pos, after, guard⟩) ((extract_sound (P := P) (hev x) i).mono fun _ ⟨v, hr, hv⟩ => ⟨v, by simp [execOp, hr], hv⟩) hr
  | makeFunc fn first caps =>
    refine val_ok h (o := ⟨dst, .makeFunc fn first caps, ty, pos, after, guard⟩) ((makeFunc_sound (P := P) (ρ := a.eval) (cvs := caps.map a.eval) (by simp) (fun i x hi => ?_)).mono fun _ ⟨v, hr, hv⟩ => ⟨v, by simp [execOp, hr], hv⟩) hr
    simp only [List.getElem?_map, Option.map_eq_some_iff] at hi
    obtain ⟨o, ho, rfl⟩ := hi
    have : (caps.map a.eval).getD i undef = a.eval o := by
      simp only [Array.getElem?_toList] at ho
      simp [Array.getD_eq_getD_getElem?, ho]
    rw [this]; exact hev o
  | makeSlice t l c => exact makeSlice_sound h (hev l) (hev c) ⟨dst, .makeSlice t l c, ty, pos, after, guard⟩ (fun v w' hr => by simp [execOp, hr]) hr
  | call c =>
    obtain ⟨callee, args, ats⟩ := c
    cases callee with
    | value _ => exact .inl hr
    | invoke _ _ => exact .inl hr
    | builtin b =>
      obtain ⟨args⟩ := args
      obtain ⟨ats⟩ := ats
      simp only [opR, builtinR] at hr
      split at hr
      · rename_i x hx
        obtain ⟨xo, rfl, rfl⟩ : ∃ xo, args = [xo] ∧ ev s xo = x := by
          match args, hx with
          | [xo], hx => exact ⟨xo, rfl, by simpa using hx⟩
        split at hr <;> try exact .inl hr
        rename_i t
        exact val_ok h (o := ⟨dst, .call { callee := .builtin .len, args := [xo].toArray, argTypes := [t].toArray }, ty, pos, after, guard⟩)
          ((len_sound (P := P) (t := t) h (hev xo) rfl ty).mono fun _ ⟨v, hr, hv⟩ => ⟨v, by simp [execOp, resolve, invoke, builtin, hr], hv⟩) hr
      · rename_i x y hx
        obtain ⟨xo, yo, rfl, rfl, rfl⟩ : ∃ xo yo, args = [xo, yo] ∧ ev s xo = x ∧ ev s yo = y := by
          match args, hx with
          | [xo, yo], hx => exact ⟨xo, yo, rfl, by simpa using hx⟩
        exact val_ok h (o := ⟨dst, .call { callee := .builtin .max, args := [xo, yo].toArray, argTypes := ats.toArray }, ty, pos, after, guard⟩)
          ((max_sound (P := P) (hev xo) (hev yo) ats.toArray ty).mono fun _ ⟨v, hr, hv⟩ => ⟨v, by simp [execOp, resolve, invoke, builtin, hr], hv⟩) hr
      · rename_i x y hx
        obtain ⟨xo, yo, rfl, rfl, rfl⟩ : ∃ xo yo, args = [xo, yo] ∧ ev s xo = x ∧ ev s yo = y := by
          match args, hx with
          | [xo, yo], hx => exact ⟨xo, yo, rfl, by simpa using hx⟩
        exact val_ok h (o := ⟨dst, .call { callee := .builtin .min, args := [xo, yo].toArray, argTypes := ats.toArray }, ty, pos, after, guard⟩)
          ((min_sound (P := P) (hev xo) (hev yo) ats.toArray ty).mono fun _ ⟨v, hr, hv⟩ => ⟨v, by simp [execOp, resolve, invoke, builtin, hr], hv⟩) hr
      · rename_i x y hx
        obtain ⟨xo, yo, rfl, rfl, rfl⟩ : ∃ xo yo, args = [xo, yo] ∧ ev s xo = x ∧ ev s yo = y := by
          match args, hx with
          | [xo, yo], hx => exact ⟨xo, yo, rfl, by simpa using hx⟩
        split at hr <;> try exact .inl hr
        rename_i t t'
        split at hr <;> try exact .inl hr
        rename_i htt
        have htt : t = t' := by simpa using htt
        subst htt
        split at hr <;> try exact .inl hr
        rename_i e hk
        split at hr <;> try exact .inl hr
        rename_i hc
        have hs := append_sound (P := P) (t := t) h (hev xo) (hev yo) hk hc.1 hc.2 ty dst
        rcases RV.run hs hr with hz | ⟨s', ⟨dd, v, w', β', rfl, hrun, hsim⟩, hf⟩
        · exact .inl hz
        · exact .inr ⟨_, v, w', s', β', by simp [execOp, resolve, invoke, builtin, hrun], .inl rfl, hf, hsim⟩
      · exact .inl hr
  | _ => exact .inl hr
end
end Go.Ab
