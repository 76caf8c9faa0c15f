/-
  The generic layer, part 35: regions that draw their order and store: operations with their footprints. (with the parts that follow it)
-/
import Derived.Test.YtjoneaifakonjaaDoorG8
set_option linter.all false
/-! ### The generic layer, part 35: regions that draw their order and store: operations with their footprints. -/
namespace Go.Ab
/-- What an operation turns: what is written, and what is new. -/
structure Ef where
  wr : List (Name × Option Ob) := []
  nu : List Nat := []
def ef0 : Ef := ⟨[], []⟩
def wl : List (Name × Option Ob) → Name → Option (Option Ob)
  | [], _ => none
  | q :: r, p => match wl r p with
    | some v => some v
    | none => if p = q.1 then some q.2 else none
def St.eff (s : St) (e : Ef) : St := { fr := s.fr, hp := fun p => (wl e.wr p).getD (s.hp p), used := e.nu ++ s.used }
def St.go (s : St) (d : Option Nat) (x : AV) (e : Ef) : St := (s.eff e).putd d x
theorem st_ext' {s s' : St} (h1 : ∀ p, s.hp p = s'.hp p) (h2 : s.used = s'.used) (h3 : ∀ t, s.fr t = s'.fr t) : s = s' := st_ext (funext h1) h2 h3
theorem eff_none (s : St) : s.eff ⟨[], []⟩ = s := st_ext' (fun _ => rfl) rfl fun _ => rfl
theorem eff_ef0 (s : St) : s.eff ef0 = s := eff_none s
theorem eff_set (s : St) (p : Name) (v : Option Ob) : s.eff ⟨[(p, v)], []⟩ = s.set p v := st_ext' (fun q => by
  show (wl [(p, v)] q).getD (s.hp q) = updP s.hp p v q
  simp only [wl, updP]
  split <;> rfl) rfl fun _ => rfl
theorem eff_add (s : St) (t : Nat) (o : Ob) : s.eff ⟨[([t], some o)], [t]⟩ = s.add t o := st_ext' (fun q => by
  show (wl [([t], some o)] q).getD (s.hp q) = updP s.hp [t] (some o) q
  simp only [wl, updP]
  split <;> rfl) rfl fun _ => rfl
theorem eff_app (s : St) (p : Name) (t : Nat) (o : Ob) : s.eff ⟨[(p, none), ([t], some o)], [t]⟩ = (s.set p none).add t o := st_ext' (fun q => by
  show (wl [(p, none), ([t], some o)] q).getD (s.hp q) = updP (updP s.hp p none) [t] (some o) q
  simp only [wl, updP]
  by_cases h : q = [t]
  · simp [h]
  · simp only [if_neg h]
    split <;> rfl) rfl fun _ => rfl
/-- Which objects an operation's answer hangs on. -/
def rdA : AV → List Name
  | .vw p _ _ => [p]
  | .bx p _ => [p]
  | .el p _ _ => [p]
  | .mp p => [p]
  | _ => []
def rdO (s : St) : Op → List Name
  | .load _ x => rdA (ev s x)
  | .fieldAddr _ x _ => rdA (ev s x)
  | .indexAddr _ x _ => rdA (ev s x)
  | .slice _ x _ _ _ => rdA (ev s x)
  | .store _ x _ => rdA (ev s x)
  | .call c => c.args.toList.flatMap fun x => rdA (ev s x)
  | _ => []
def storeE (i : TI) (s : St) (x v : AV) : R (Name × Ob) :=
  match x with
  | .bx p c =>
    match s.hp p with
    | some (.box cs) => match cellsA v with
      | some vs => if i.k.isBad = false ∧ vs.length = i.sz ∧ c + i.sz ≤ cs.length then .ok (p, .box (splice cs c vs)) else .no
      | none => .no
    | _ => .no
  | .el p j c =>
    match s.hp p, v with
    | some (.arr w xs), .d y => match storeEl i w xs j c y with
      | some ys => .ok (p, .arr w ys)
      | none => .no
    | _, _ => .no
  | _ => .no
theorem storeE_eq (i : TI) (s : St) (x v : AV) : storeR i s x v = (storeE i s x v).bind fun q => .ok (s.set q.1 (some q.2)) := by
  cases x with
  | bx p c =>
    simp only [storeR, storeE]
    cases s.hp p with
    | none => rfl
    | some o =>
      cases o with
      | box cs =>
        simp only
        cases cellsA v with
        | none => rfl
        | some vs => simp only; split <;> rfl
      | _ => rfl
  | el p j c =>
    simp only [storeR, storeE]
    cases s.hp p with
    | none => rfl
    | some o =>
      cases o with
      | arr w xs =>
        cases v with
        | d y =>
          simp only
          cases storeEl i w xs j c y with
          | none => rfl
          | some ys => rfl
        | _ => rfl
      | _ => rfl
  | _ => rfl
def newE (d : Option Nat) (s : St) (wr : List (Name × Option Ob)) (ob : Ob) (x : Name → AV) : R (AV × Ef) :=
  match d with
  | some t => if t ∉ s.used then .ok (x [t], ⟨wr ++ [([t], some ob)], [t]⟩) else .no
  | none => .no
def appendE (e : TI) (d : Option Nat) (s : St) (x y : AV) : R (AV × Ef) :=
  match listOf e.w s.hp y, x with
  | some ys, .d .nils => .need (ys.length * e.by1 ≤ 140737488355328) (newE d s [] (.arr e.w ys) (.vw · 0 ys.length))
  | some ys, .vw p o l =>
    match s.hp p with
    | some (.arr w xs) => if w = e.w then .need ((l + ys.length) * e.by1 ≤ 140737488355328) (newE d s [(p, none)] (.arr w ((xs.drop o).take l ++ ys)) (.vw · 0 (l + ys.length))) else .no
    | _ => .no
  | _, _ => .no
def opE (tf : Nat → TI) (o : Op) (d : Option Nat) (s : St) : R (AV × Ef) :=
  match o with
  | .store t x v => (storeE (tf t) s (ev s x) (ev s v)).bind fun q => .ok (.un, ⟨[(q.1, some q.2)], []⟩)
  | .alloc e => match (tf e).z with
    | some cs => newE d s [] (.box (cs.map .d)) (.bx · 0)
    | none => .no
  | .buildSlice t l parts =>
    match sliceE (tf t).k, partsD 0 (parts.toList.map fun q => (q.1, ev s q.2)) with
    | some e, some xs => if xs.length = l ∧ (tf e).z.isSome ∧ (tf e).isW (tf e).w ∧ xs.all (okWb (tf e).w) ∧ l * (tf e).sz ≤ 16777216 then newE d s [] (.arr (tf e).w xs) (.vw · 0 l) else .no
    | _, _ => .no
  | .call c => match c.callee, c.args.toList, c.argTypes.toList with
    | .builtin .append, [x, y], [t, t'] => if t ≠ t' then .no else match (tf t).k with
      | .slice e => if (tf e).zOk ∧ (tf e).isW (tf e).w then appendE (tf e) d s (ev s x) (ev s y) else .no
      | _ => .no
    | _, _, _ => (opV tf (.call c) s).bind fun x => .ok (x, ef0)
  | o => (opV tf o s).bind fun x => .ok (x, ef0)

theorem loadR_cg (i : TI) (hp hp' : Name → Option Ob) (x : AV) (h : ∀ p ∈ rdA x, hp' p = hp p) : loadR i hp' x = loadR i hp x := by
  cases x with
  | bx p c => simp only [loadR, h p (by simp [rdA])]
  | el p j c => simp only [loadR, h p (by simp [rdA])]
  | d y => cases y <;> rfl
  | _ => rfl
theorem fieldAddrR_cg (i : TI) (tf : Nat → TI) (hp hp' : Name → Option Ob) (x : AV) (f : Nat) (h : ∀ p ∈ rdA x, hp' p = hp p) : fieldAddrR i tf hp' x f = fieldAddrR i tf hp x f := by
  unfold fieldAddrR
  cases i.k with
  | struct fs =>
    simp only
    cases fs[f]? with
    | none => rfl
    | some q =>
      simp only
      split
      · rfl
      · cases x with
        | bx p c => simp only [h p (by simp [rdA])]
        | el p j c => simp only [h p (by simp [rdA])]
        | d y =>
          cases y with
          | ptr z => cases z <;> rfl
          | _ => rfl
        | _ => rfl
  | _ => rfl
theorem indexAddrR_cg (i : TI) (tf : Nat → TI) (hp hp' : Name → Option Ob) (x j : AV) (h : ∀ p ∈ rdA x, hp' p = hp p) : indexAddrR i tf hp' x j = indexAddrR i tf hp x j := by
  unfold indexAddrR
  cases i.k with
  | slice e =>
    cases x with
    | vw p o l =>
      cases j with
      | d y =>
        cases y with
        | int k n => simp only [h p (by simp [rdA])]
        | _ => rfl
      | _ => rfl
    | d y =>
      cases y <;> first
        | rfl
        | (cases j <;> first
            | rfl
            | (rename_i z; cases z <;> rfl))
    | _ => rfl
  | _ => rfl
theorem sliceR_cg (i : TI) (tf : Nat → TI) (hp hp' : Name → Option Ob) (x : AV) (lo hi : Option AV) (h : ∀ p ∈ rdA x, hp' p = hp p) : sliceR i tf hp' x lo hi = sliceR i tf hp x lo hi := by
  unfold sliceR
  cases i.k with
  | slice e =>
    cases x with
    | vw p o l => simp only [h p (by simp [rdA])]
    | d y => cases y <;> rfl
    | _ => rfl
  | str =>
    cases x with
    | d y => cases y <;> rfl
    | _ => rfl
  | _ => rfl
theorem lenR_cg (i : TI) (hp hp' : Name → Option Ob) (x : AV) (h : ∀ p ∈ rdA x, hp' p = hp p) : lenR i hp' x = lenR i hp x := by
  unfold lenR
  cases i.k with
  | slice e =>
    cases x with
    | vw p o l => simp only [h p (by simp [rdA])]
    | d y => cases y <;> rfl
    | _ => rfl
  | map a b =>
    cases x with
    | mp p => simp only [h p (by simp [rdA])]
    | _ => rfl
  | str =>
    cases x with
    | d y => cases y <;> rfl
    | _ => rfl
  | _ => rfl
theorem storeE_cg (i : TI) (s s' : St) (x v : AV) (h : ∀ p ∈ rdA x, s'.hp p = s.hp p) : storeE i s' x v = storeE i s x v := by
  cases x with
  | vw p o l => simp only [storeE]
  | bx p c => simp only [storeE, h p (by simp [rdA])]
  | el p j c => simp only [storeE, h p (by simp [rdA])]
  | mp p => simp only [storeE]
  | _ => rfl
theorem opV_cg2 (tf : Nat → TI) (o : Op) (s s' : St) (hh : ∀ p ∈ rdO s o, s'.hp p = s.hp p) (h : ∀ x ∈ o.operands, ev s' x = ev s x) : opV tf o s' = opV tf o s := by
  have e : opV tf o { s' with hp := s.hp } = opV tf o s := opV_cg tf o s { s' with hp := s.hp } rfl fun x hx => by
    have := h x hx
    cases x <;> exact this
  have hev : ∀ x, ev { s' with hp := s.hp } x = ev s' x := fun x => by cases x <;> rfl
  have hev' : ev { s' with hp := s.hp } = ev s' := funext hev
  rw [← e]
  cases o with
  | load t x =>
    simp only [opV, hev]
    exact loadR_cg _ _ _ _ (by rw [h x (by simp [Op.operands])]; exact hh)
  | fieldAddr t x f =>
    simp only [opV, hev]
    exact fieldAddrR_cg _ _ _ _ _ _ (by rw [h x (by simp [Op.operands])]; exact hh)
  | indexAddr t x j =>
    simp only [opV, hev]
    exact indexAddrR_cg _ _ _ _ _ _ (by rw [h x (by simp [Op.operands])]; exact hh)
  | slice t x lo hi mx =>
    cases mx with
    | some _ => rfl
    | none =>
      simp only [opV, hev']
      exact sliceR_cg _ _ _ _ _ _ _ (by rw [h x (by simp [Op.operands])]; exact hh)
  | call c =>
    obtain ⟨callee, args, ats⟩ := c
    cases callee with
    | value _ => rfl
    | invoke _ _ => rfl
    | builtin b =>
      obtain ⟨args⟩ := args
      obtain ⟨ats⟩ := ats
      simp only [opV, hev]
      split
      · rename_i x t
        exact lenR_cg _ _ _ _ (by rw [h x (by simp [Op.operands, Call.operands])]; exact fun p hp => hh p (by simp [rdO, hp]))
      · rfl
      · rfl
      · rfl
  | _ => simp only [opV, hev, hev']
def ylE : R (AV × Ef) → AV × Ef → Prop
  | .ok y, x => y = x
  | .need p r, x => p ∧ ylE r x
  | .no, _ => False
theorem newE_cg {d : Option Nat} {s s' : St} {wr : List (Name × Option Ob)} {ob : Ob} {x : Name → AV} {r : AV × Ef} (h : ylE (newE d s wr ob x) r) (hu : ∀ y ∈ r.2.nu, y ∉ s'.used) : ylE (newE d s' wr ob x) r := by
  unfold newE at h ⊢
  cases d with
  | none => exact h
  | some t =>
    simp only at h ⊢
    split at h
    · have h : (x [t], (⟨wr ++ [([t], some ob)], [t]⟩ : Ef)) = r := h
      subst h
      rw [if_pos (hu t (by simp))]
      exact rfl
    · exact h.elim
theorem newE_fresh {d : Option Nat} {s : St} {wr : List (Name × Option Ob)} {ob : Ob} {x : Name → AV} {r : AV × Ef} (h : ylE (newE d s wr ob x) r) : ∀ y ∈ r.2.nu, y ∉ s.used := by
  unfold newE at h
  cases d with
  | none => exact h.elim
  | some t =>
    simp only at h
    split at h
    · rename_i ht
      have h : (x [t], (⟨wr ++ [([t], some ob)], [t]⟩ : Ef)) = r := h
      subst h
      simpa using ht
    · exact h.elim
theorem newE_run {n : Nat} {d : Option Nat} {s : St} {ob : Ob} {x : Name → AV} {r : AV × Ef} (hd : dOk n d) (h : ylE (newE d s [] ob x) r) : (newR n d s ob x).run (fun s2 => s2 = s.go d r.1 r.2) False := by
  unfold newE at h
  cases d with
  | none => exact h.elim
  | some t =>
    simp only at h
    split at h
    · rename_i ht
      have h : (x [t], (⟨[] ++ [([t], some ob)], [t]⟩ : Ef)) = r := h
      subst h
      have hd : t < n := hd
      simp only [newR, hd, ht, not_false_eq_true, and_self, if_true, R.run]
      show _ = (s.eff _).putd _ _
      rw [List.nil_append, eff_add]
      rfl
    · exact h.elim
theorem newE_run' {n : Nat} {d : Option Nat} {s : St} {p : Name} {ob : Ob} {x : Name → AV} {r : AV × Ef} (hd : dOk n d) (h : ylE (newE d s [(p, none)] ob x) r) : (newR n d (s.set p none) ob x).run (fun s2 => s2 = s.go d r.1 r.2) False := by
  unfold newE at h
  cases d with
  | none => exact h.elim
  | some t =>
    simp only at h
    split at h
    · rename_i ht
      have h : (x [t], (⟨[(p, none)] ++ [([t], some ob)], [t]⟩ : Ef)) = r := h
      subst h
      have hd : t < n := hd
      have ht' : t ∉ (s.set p none).used := ht
      simp only [newR, hd, ht', not_false_eq_true, and_self, if_true, R.run]
      show _ = (s.eff _).putd _ _
      rw [List.cons_append, List.nil_append, eff_app]
      rfl
    · exact h.elim
theorem listOf_cg (w : W) (hp hp' : Name → Option Ob) (x : AV) (h : ∀ p ∈ rdA x, hp' p = hp p) : listOf w hp' x = listOf w hp x := by
  cases x with
  | vw p o l => simp only [listOf, h p (by simp [rdA])]
  | d y => cases y <;> rfl
  | _ => rfl
theorem appendE_cg {e : TI} {d : Option Nat} {s s' : St} {x y : AV} {r : AV × Ef} (hx : ∀ p ∈ rdA x, s'.hp p = s.hp p) (hy : ∀ p ∈ rdA y, s'.hp p = s.hp p) (h : ylE (appendE e d s x y) r) (hu : ∀ z ∈ r.2.nu, z ∉ s'.used) : ylE (appendE e d s' x y) r := by
  unfold appendE at h ⊢
  rw [listOf_cg e.w s.hp s'.hp y hy]
  cases hl : listOf e.w s.hp y with
  | none => rw [hl] at h; exact h.elim
  | some ys =>
    rw [hl] at h
    cases x with
    | vw p o l =>
      simp only at h ⊢
      rw [hx p (by simp [rdA])]
      cases hp : s.hp p with
      | none => rw [hp] at h; exact h.elim
      | some ob =>
        rw [hp] at h
        cases ob with
        | arr w xs =>
          simp only at h ⊢
          split at h
          · rename_i hw
            rw [if_pos hw]
            exact ⟨h.1, newE_cg h.2 hu⟩
          · exact h.elim
        | _ => exact h.elim
    | d z =>
      cases z with
      | nils => exact ⟨h.1, newE_cg h.2 hu⟩
      | _ => exact h.elim
    | _ => exact h.elim
theorem appendE_fresh {e : TI} {d : Option Nat} {s : St} {x y : AV} {r : AV × Ef} (h : ylE (appendE e d s x y) r) : ∀ z ∈ r.2.nu, z ∉ s.used := by
  unfold appendE at h
  cases hl : listOf e.w s.hp y with
  | none => rw [hl] at h; exact h.elim
  | some ys =>
    rw [hl] at h
    cases x with
    | vw p o l =>
      simp only at h
      cases hp : s.hp p with
      | none => rw [hp] at h; exact h.elim
      | some ob =>
        rw [hp] at h
        cases ob with
        | arr w xs =>
          simp only at h
          split at h
          · exact newE_fresh h.2
          · exact h.elim
        | _ => exact h.elim
    | d z =>
      cases z with
      | nils => exact newE_fresh h.2
      | _ => exact h.elim
    | _ => exact h.elim
theorem appendE_run {n : Nat} {e : TI} {d : Option Nat} {s : St} {x y : AV} {r : AV × Ef} (hd : dOk n d) (h : ylE (appendE e d s x y) r) : (appendR n e d s x y).run (fun s2 => s2 = s.go d r.1 r.2) False := by
  unfold appendE at h
  unfold appendR
  cases hl : listOf e.w s.hp y with
  | none => rw [hl] at h; exact h.elim
  | some ys =>
    rw [hl] at h
    cases x with
    | vw p o l =>
      simp only at h ⊢
      cases hp : s.hp p with
      | none => rw [hp] at h; exact h.elim
      | some ob =>
        rw [hp] at h
        cases ob with
        | arr w xs =>
          simp only at h ⊢
          split at h
          · rename_i hw
            rw [if_pos hw]
            exact ⟨h.1, newE_run' hd h.2⟩
          · exact h.elim
        | _ => exact h.elim
    | d z =>
      cases z with
      | nils => exact ⟨h.1, newE_run hd h.2⟩
      | _ => exact h.elim
    | _ => exact h.elim

theorem ylE_bind {α : Type} {x : AV × Ef} {g : α → AV × Ef} {f : α → R St} {k : St → Prop} {z : Prop} (hf : ∀ a, g a = x → (f a).run k z) : ∀ {r : R α}, ylE (r.bind fun a => .ok (g a)) x → (r.bind f).run k z
  | .ok a, h => hf a h
  | .need _ _, h => ⟨h.1, ylE_bind hf h.2⟩
  | .no, h => h.elim
theorem ylE_bind_nu {α : Type} {x : AV × Ef} {g : α → AV × Ef} (hg : ∀ a, (g a).2.nu = []) : ∀ {r : R α}, ylE (r.bind fun a => .ok (g a)) x → x.2.nu = []
  | .ok a, h => by have h : g a = x := h; subst h; exact hg a
  | .need p r, h => ylE_bind_nu hg h.2
  | .no, h => h.elim
/-- A call of 'append'? -/
def Call.isApp (c : Call) : Bool := match c.callee, c.args.toList, c.argTypes.toList with
  | .builtin .append, [_, _], [_, _] => true
  | _, _, _ => false
theorem opE_call' {tf : Nat → TI} {c : Call} {d : Option Nat} {s : St} (h : Call.isApp c = false) : opE tf (.call c) d s = (opV tf (.call c) s).bind fun x => .ok (x, ef0) := by
  obtain ⟨callee, args, ats⟩ := c
  obtain ⟨args⟩ := args
  obtain ⟨ats⟩ := ats
  unfold opE
  simp only
  split
  · simp [Call.isApp] at h
  · rfl
theorem opE_app {c : Call} (h : Call.isApp c = true) : ∃ x y t t', c = { callee := .builtin .append, args := [x, y].toArray, argTypes := [t, t'].toArray } := by
  obtain ⟨callee, args, ats⟩ := c
  obtain ⟨args⟩ := args
  obtain ⟨ats⟩ := ats
  unfold Call.isApp at h
  simp only at h
  split at h
  · exact ⟨_, _, _, _, rfl⟩
  · cases h
theorem opE_cg {tf : Nat → TI} {o : Op} {d : Option Nat} {s s' : St} {r : AV × Ef} (hh : ∀ p ∈ rdO s o, s'.hp p = s.hp p) (h : ∀ x ∈ o.operands, ev s' x = ev s x) (hy : ylE (opE tf o d s) r) (hu : ∀ y ∈ r.2.nu, y ∉ s'.used) : ylE (opE tf o d s') r := by
  cases o with
  | store t x v =>
    simp only [opE] at hy ⊢
    rw [h x (by simp [Op.operands]), h v (by simp [Op.operands]), storeE_cg _ s s' _ _ hh]
    exact hy
  | alloc e =>
    simp only [opE] at hy ⊢
    split at hy
    · exact newE_cg hy hu
    · exact hy.elim
  | buildSlice t l parts =>
    have : (parts.toList.map fun q => (q.1, ev s' q.2)) = parts.toList.map fun q => (q.1, ev s q.2) :=
      List.map_congr_left fun q hq => by rw [h q.2 (by simp only [Op.operands, List.mem_toArray, List.mem_map]; exact ⟨q, hq, rfl⟩)]
    simp only [opE, this] at hy ⊢
    split at hy
    · split at hy
      · rename_i hc
        rw [if_pos hc]
        exact newE_cg hy hu
      · exact hy.elim
    · exact hy.elim
  | call c =>
    cases hc : Call.isApp c with
    | false =>
      rw [opE_call' hc] at hy ⊢
      rw [opV_cg2 tf _ s s' hh h]
      exact hy
    | true =>
      obtain ⟨x, y, t, t', rfl⟩ := opE_app hc
      have ex : ev s' x = ev s x := h x (by simp [Op.operands, Call.operands])
      have ey : ev s' y = ev s y := h y (by simp [Op.operands, Call.operands])
      simp only [opE] at hy ⊢
      split at hy
      · exact hy.elim
      · rename_i ht
        rw [if_neg ht]
        split at hy
        · split at hy
          · rename_i e hk hz
            rw [if_pos hz, ex, ey]
            exact appendE_cg (fun p hp => hh p (by simp [rdO, hp])) (fun p hp => hh p (by simp [rdO, hp])) hy hu
          · exact hy.elim
        · exact hy.elim
  | _ =>
    simp only [opE] at hy ⊢
    rw [opV_cg2 tf _ s s' hh h]
    exact hy
theorem opE_fresh {tf : Nat → TI} {o : Op} {d : Option Nat} {s : St} {r : AV × Ef} (hy : ylE (opE tf o d s) r) : ∀ y ∈ r.2.nu, y ∉ s.used := by
  have none : r.2.nu = [] → ∀ y ∈ r.2.nu, y ∉ s.used := fun h y hy => by rw [h] at hy; cases hy
  cases o with
  | store t x v => exact none (ylE_bind_nu (g := fun q : Name × Ob => (AV.un, (⟨[(q.1, some q.2)], []⟩ : Ef))) (fun _ => rfl) hy)
  | alloc e =>
    simp only [opE] at hy
    split at hy
    · exact newE_fresh hy
    · exact hy.elim
  | buildSlice t l parts =>
    simp only [opE] at hy
    split at hy
    · split at hy
      · exact newE_fresh hy
      · exact hy.elim
    · exact hy.elim
  | call c =>
    cases hc : Call.isApp c with
    | false =>
      rw [opE_call' hc] at hy
      exact none (ylE_bind_nu (g := fun a : AV => (a, ef0)) (fun _ => rfl) hy)
    | true =>
      obtain ⟨x, y, t, t', rfl⟩ := opE_app hc
      simp only [opE] at hy
      split at hy
      · exact hy.elim
      · split at hy
        · split at hy
          · exact appendE_fresh hy
          · exact hy.elim
        · exact hy.elim
  | _ => exact none (ylE_bind_nu (g := fun a : AV => (a, ef0)) (fun _ => rfl) hy)
def qvE (r : R (AV × Ef)) (f : AV × Ef → Prop) (z : Prop) : Prop :=
  match r with
  | .ok x => f x
  | .need p r => p ∧ qvE r f z
  | .no => z
theorem qvE_yl {f : AV × Ef → Prop} {z : Prop} : ∀ {r : R (AV × Ef)}, qvE r f z → (∃ x, ylE r x ∧ f x) ∨ z
  | .ok x, h => .inl ⟨x, rfl, h⟩
  | .no, h => .inr h
  | .need p r, h => by
    rcases qvE_yl (r := r) h.2 with ⟨x, h1, h2⟩ | hz
    · exact .inl ⟨x, ⟨h.1, h1⟩, h2⟩
    · exact .inr hz
theorem opV_opR' {tf : Nat → TI} {n : Nat} {o : Op} {d : Option Nat} {s : St} {x : AV × Ef} (h : ylE ((opV tf o s).bind fun x => .ok (x, ef0)) x) : opR tf n o d s = (opV tf o s).bind (putR n d s) := by
  rcases opV_opR tf n o d s with e | e
  · rw [e] at h; exact h.elim
  · exact e
theorem opE_run {tf : Nat → TI} {n : Nat} {o : Op} {d : Option Nat} {s : St} {x : AV × Ef} (hd : dOk n d) (h : ylE (opE tf o d s) x) : (opR tf n o d s).run (fun s2 => s2 = s.go d x.1 x.2) False := by
  have hput : ∀ (s1 : St) (v : AV), (putR n d s1 v).run (fun s2 => s2 = s1.putd d v) False := fun s1 v => by
    cases d with
    | none => exact rfl
    | some t => simp [putR, show t < n from hd, R.run, St.putd]
  have quiet : ylE ((opV tf o s).bind fun x => .ok (x, ef0)) x → (opR tf n o d s).run (fun s2 => s2 = s.go d x.1 x.2) False := fun h => by
    rw [opV_opR' h]
    exact ylE_bind (g := fun a => (a, ef0)) (fun a ha => by
      subst ha
      show (putR n d s a).run (fun s2 => s2 = (s.eff ef0).putd d a) False
      rw [eff_ef0]
      exact hput _ _) h
  cases o with
  | store t a b =>
    simp only [opR, storeE_eq]
    simp only [opE] at h
    have key : ∀ r : R (Name × Ob), ylE (r.bind fun q => .ok (.un, ⟨[(q.1, some q.2)], []⟩)) x → ((r.bind fun q => .ok (s.set q.1 (some q.2))).bind fun s' => putR n d s' .un).run (fun s2 => s2 = s.go d x.1 x.2) False := by
      intro r
      induction r with
      | ok q =>
        intro h
        have h : (AV.un, (⟨[(q.1, some q.2)], []⟩ : Ef)) = x := h
        subst h
        show (putR n d (s.set q.1 (some q.2)) .un).run (fun s2 => s2 = (s.eff ⟨[(q.1, some q.2)], []⟩).putd d .un) False
        rw [eff_set]
        exact hput _ _
      | need p r ih => exact fun h => ⟨h.1, ih h.2⟩
      | no => exact fun h => h.elim
    exact key _ h
  | alloc e =>
    simp only [opE] at h
    simp only [opR]
    split at h
    · rename_i cs hz
      rw [hz]
      exact newE_run hd h
    · exact h.elim
  | buildSlice t l parts =>
    simp only [opE] at h
    simp only [opR]
    split at h
    · rename_i e xs h1 h2
      rw [h1, h2]
      split at h
      · rename_i hc
        simp only [if_pos hc]
        exact newE_run hd h
      · exact h.elim
    · exact h.elim
  | call c =>
    cases hc : Call.isApp c with
    | false =>
      rw [opE_call' hc] at h
      exact quiet h
    | true =>
      obtain ⟨a, b, t, t', rfl⟩ := opE_app hc
      simp only [opE] at h
      simp only [opR, builtinR, List.map_cons, List.map_nil]
      split at h
      · exact h.elim
      · rename_i ht
        rw [if_neg ht]
        split at h
        · rename_i e hk
          rw [hk]
          split at h
          · rename_i hz
            simp only [if_pos hz]
            exact appendE_run hd h
          · exact h.elim
        · exact h.elim
  | _ => exact quiet h
section
variable (P : Program) (cf : Cf) (ops : Array Oper)
/-- An operation's footprint: what its answer hangs on, and what it turns. -/
abbrev Fp := List Name × Ef
abbrev Ns := List (List Name × List Name × List Nat)
/-- An operation that yields x, and turns what it turns, at such a state and at all that agree. -/
def QE (o : Oper) (s : St) (x : AV) (f : Fp) : Prop := ∀ s', (∀ y ∈ f.2.nu, y ∉ s'.used) → (∀ p ∈ f.1, s'.hp p = s.hp p) → (∀ y ∈ o.op.operands, ev s' y = ev s y) →
  ∀ B, cf.fits B → ∀ ds β a w, a.defers = ds → Sim B β s' a.tmps w → ∀ Q', o.wpIn (Fw cf.ro) 0 P a w (fun a' w' => a'.defers = ds ∧ ∃ β', Sim B β' (s'.go o.dst x f.2) a'.tmps w') Q'
def fpN (f : Fp) : List Name × List Name × List Nat := (f.1, f.2.wr.map (·.1), f.2.nu)
def xrun (K : St → Ns → Prop) : List Oper → St → Ns → Prop
  | [], s, ns => K s ns
  | o :: r, s, ns =>
    match o.guard with
    | none => qvE (opE P.ti o.op o.dst s) (fun x => dOk cf.n o.dst ∧ xrun K r (s.go o.dst x.1 x.2) (ns ++ [fpN (rdO s o.op, x.2)])) (∃ x f, QE P cf o s x f ∧ f.2.nu = [] ∧ dOk cf.n o.dst ∧ xrun K r (s.go o.dst x f.2) (ns ++ [fpN f]))
    | some (j, want) =>
      match guardV ops j s with
      | some (t, .d (.bool b)) =>
        (b = want → qvE (opE P.ti o.op o.dst (s.put t (.d (.bool want)))) (fun x => dOk cf.n o.dst ∧ xrun K r ((s.put t (.d (.bool want))).go o.dst x.1 x.2) (ns ++ [fpN (rdO (s.put t (.d (.bool want))) o.op, x.2)])) (∃ x f, QE P cf o (s.put t (.d (.bool want))) x f ∧ f.2.nu = [] ∧ dOk cf.n o.dst ∧ xrun K r ((s.put t (.d (.bool want))).go o.dst x f.2) (ns ++ [fpN f]))) ∧
        (b = !want → dOk cf.n o.dst ∧ xrun K r ((s.put t (.d (.bool (!want)))).go o.dst (.tup []) ef0) (ns ++ [([], [], [])]))
      | some (_, .tup []) => dOk cf.n o.dst ∧ xrun K r (s.go o.dst (.tup []) ef0) (ns ++ [([], [], [])])
      | _ => False
/-- States that agree on what an operation looks at. -/
def agE (l : List Nat) (f : Fp) (s s' : St) : Prop := (∀ y ∈ f.2.nu, y ∉ s'.used) ∧ (∀ p ∈ f.1, s'.hp p = s.hp p) ∧ ∀ t ∈ l, s'.fr t = s.fr t
def FactE (i : Nat) (o : Oper) (s : St) (x : AV) (f : Fp) : Prop := (∀ y ∈ f.2.nu, y ∉ s.used) ∧ ∀ s', agE (o.looksAt ops) f s s' → ∀ B, cf.fits B → ∀ ds β a w, a.defers = ds → Sim B β s' a.tmps w → ∀ Q',
  wpOpIn (Fw cf.ro) 0 P ops Q' i (fun a' w' => a'.defers = ds ∧ ∃ β', Sim B β' (s'.go o.dst x f.2) a'.tmps w') a w
variable {P cf ops}
theorem looksE_ev {o : Oper} {f : Fp} {s s' : St} (h : agE (o.looksAt ops) f s s') : ∀ y ∈ o.op.operands, ev s' y = ev s y := fun y hy =>
  ev_cg fun t ht => h.2.2 t (by subst ht; exact List.mem_append_left _ (List.mem_filterMap.2 ⟨.tmp t, by simpa using hy, rfl⟩))
theorem QE_of_op {o : Oper} {s : St} {x : AV × Ef} (h : ylE (opE P.ti o.op o.dst s) x) (hd : dOk cf.n o.dst) : QE P cf o s x.1 (rdO s o.op, x.2) := by
  intro s' hu hh he B hB ds β a w hds hs Q'
  have e := opE_cg hh he h hu
  have hr := opE_run (n := B.n) (d := o.dst) (s := s') (by rw [hB.1]; exact hd) e
  rcases opR_sound hs hr with hz | ⟨nx, v, w', s2, β', hrun, hnx, rfl, hsim⟩
  · exact hz.elim
  · have hnd : ∀ c, o.op ≠ .defer c := by
      intro c hc
      rw [hc] at h
      exact h.elim
    exact wpIn_of_run hnd hrun hnx ⟨by cases o.dst <;> exact hds, β', hsim⟩
theorem go_ef0 (s : St) (d : Option Nat) (x : AV) : s.go d x ef0 = s.putd d x := by unfold St.go; rw [eff_ef0]
theorem factE_skip {i : Nat} {o : Oper} {s : St} (hi : ops[i]? = some o) (hd : dOk cf.n o.dst) (hw : ∀ (B : Base) (β : Name → Option Blk) s' tm w, agE (o.looksAt ops) ([], ef0) s s' → Sim B β s' tm w → Region.wanted o (yielded ops tm) = false) : FactE P cf ops i o s (.tup []) ([], ef0) := by
  refine ⟨fun y hy => (by cases hy), fun s' hag B hB ds β a w hds hs Q' => ?_⟩
  unfold wpOpIn
  simp only [hi, hw B β s' a.tmps w hag hs, Bool.false_eq_true, if_false]
  refine ⟨fun _ _ => trivial, by cases o.dst <;> exact hds, β, ?_⟩
  rw [go_ef0]
  refine hs.putd (fun t ht => ?_) (.tup #[] [] rfl (by simp))
  rw [ht] at hd
  rw [hB.1]; exact hd
theorem factE_do {i : Nat} {o : Oper} {s : St} {x : AV} {f : Fp} (hi : ops[i]? = some o) (hf : ∀ y ∈ f.2.nu, y ∉ s.used) (hw : ∀ (B : Base) (β : Name → Option Blk) s' tm w, agE (o.looksAt ops) f s s' → Sim B β s' tm w → Region.wanted o (yielded ops tm) = true) (h : QE P cf o s x f) : FactE P cf ops i o s x f := by
  refine ⟨hf, fun s' hag B hB ds β a w hds hs Q' => ?_⟩
  unfold wpOpIn
  simp only [hi, hw B β s' a.tmps w hag hs, if_true]
  exact h s' hag.1 hag.2.1 (looksE_ev hag) B hB ds β a w hds hs Q'
theorem xrun_one {K : St → Ns → Prop} {i : Nat} {o : Oper} {r : List Oper} {s : St} {ns : Ns} (hi : ops[i]? = some o) (h : xrun P cf ops K (o :: r) s ns) : ∃ x f, FactE P cf ops i o s x f ∧ xrun P cf ops K r (s.go o.dst x f.2) (ns ++ [fpN f]) := by
  unfold xrun at h
  have go : ∀ s1, s1 = s → (∀ (f : Fp) (B : Base) (β : Name → Option Blk) s' tm w, agE (o.looksAt ops) f s s' → Sim B β s' tm w → Region.wanted o (yielded ops tm) = true) →
      qvE (opE P.ti o.op o.dst s1) (fun x => dOk cf.n o.dst ∧ xrun P cf ops K r (s1.go o.dst x.1 x.2) (ns ++ [fpN (rdO s1 o.op, x.2)])) (∃ x f, QE P cf o s1 x f ∧ f.2.nu = [] ∧ dOk cf.n o.dst ∧ xrun P cf ops K r (s1.go o.dst x f.2) (ns ++ [fpN f])) →
      ∃ x f, FactE P cf ops i o s x f ∧ xrun P cf ops K r (s.go o.dst x f.2) (ns ++ [fpN f]) := by
    rintro s1 rfl hw h
    rcases qvE_yl h with ⟨x, h1, hd, h2⟩ | ⟨x, f, h1, hn, _, h2⟩
    · exact ⟨x.1, _, factE_do hi (opE_fresh h1) (hw _) (QE_of_op h1 hd), h2⟩
    · exact ⟨x, f, factE_do hi (fun y hy => by rw [hn] at hy; cases hy) (hw _) h1, h2⟩
  cases hg : o.guard with
  | none =>
    rw [hg] at h
    exact go s rfl (fun _ _ _ _ _ _ _ _ => by simp [Region.wanted, hg]) h
  | some q =>
    obtain ⟨j, want⟩ := q
    rw [hg] at h
    simp only at h
    split at h
    · rename_i t b hgv
      obtain ⟨oj, hj, hjd, hjt⟩ := guardV_spec hgv
      have hl := guard_looks hg hj hjd
      by_cases hb : b = want
      · have e : s.put t (.d (.bool want)) = s := put_same (by rw [hjt, hb])
        have h1 := h.1 hb
        rw [e] at h1
        refine go s rfl (fun f B β s' tm w hag hs => ?_) h1
        have := yielded_bool hs hj hjd ((hag.2.2 t hl).trans hjt)
        simp [Region.wanted, hg, this, hb]
      · have hbn : b = !want := by cases b <;> cases want <;> simp_all
        have e : s.put t (.d (.bool (!want))) = s := put_same (by rw [hjt, hbn])
        obtain ⟨hd, h2⟩ := h.2 hbn
        rw [e] at h2
        refine ⟨_, _, factE_skip hi hd (fun B β s' tm w hag hs => ?_), h2⟩
        have := yielded_bool hs hj hjd ((hag.2.2 t hl).trans hjt)
        simp [Region.wanted, hg, this, hb]
    · rename_i t hgv
      obtain ⟨oj, hj, hjd, hjt⟩ := guardV_spec hgv
      have hl := guard_looks hg hj hjd
      refine ⟨_, _, factE_skip hi h.1 (fun B β s' tm w hag hs => ?_), h.2⟩
      have := yielded_none hs hj hjd ((hag.2.2 t hl).trans hjt)
      simp [Region.wanted, hg, this]
    · exact h.elim
end
end Go.Ab
/-! ### The generic layer, part 36: regions that draw their order and store: every order ends as the text's order does. -/
namespace Go.Ab
theorem Sim.reuse {B : Base} {β : Name → Option Blk} {s s2 : St} {tm : Array Value} {w : World} (h : Sim B β s tm w) (h1 : s2.hp = s.hp) (h2 : s2.fr = s.fr) (h3 : ∀ y, y ∈ s.used ↔ y ∈ s2.used) : Sim B β s2 tm w := by
  obtain ⟨fr, hp, us⟩ := s
  obtain ⟨fr2, hp2, us2⟩ := s2
  simp only at h1 h2 h3
  subst h1; subst h2
  have hst : ∀ p, nm us p → Stays hp2 hp2 β β p := fun p _ o ho => ⟨o, ho, Ob.like_refl _, rfl⟩
  have hu : ∀ x ∈ us, x ∈ us2 := fun x hx => (h3 x).1 hx
  exact { tms := h.tms, io := h.io, size := h.size, frame := h.frame, slots := fun t => (h.slots t).mono (fun _ _ h => h) hu hst, objs := fun p o ho => ⟨(h.objs p o ho).1.mono hu, (h.objs p o ho).2.mono (fun _ _ h => h) hu hst rfl fun _ _ => rfl⟩, blocks := h.blocks, inj := h.inj, us := fun x hx => hu x (h.us x hx), stay := h.stay }
section
variable {P : Program} {cf : Cf} {ops : Array Oper}
def layE (ops : Array Oper) (xs : Nat → AV) (fs : Nat → Fp) : List Nat → St → St
  | [], s => s
  | i :: l, s => layE ops xs fs l (s.go (dstOf ops i) (xs i) (fs i).2)
theorem layE_snoc (xs : Nat → AV) (fs : Nat → Fp) (i : Nat) : ∀ (l : List Nat) (s : St), layE ops xs fs (l ++ [i]) s = (layE ops xs fs l s).go (dstOf ops i) (xs i) (fs i).2
  | [], _ => rfl
  | j :: l, s => by rw [List.cons_append, layE, layE_snoc xs fs i l, layE]
theorem go_used (s : St) (d : Option Nat) (x : AV) (e : Ef) : (s.go d x e).used = e.nu ++ s.used := by
  unfold St.go
  rw [putd_used]
  rfl
theorem go_fr (s : St) (d : Option Nat) (x : AV) (e : Ef) (t : Nat) : (s.go d x e).fr t = if d = some t then x else s.fr t := by
  unfold St.go
  cases d with
  | none => simp [St.putd, St.eff]
  | some u =>
    show updN _ _ _ _ = _
    simp only [updN, Option.some.injEq]
    by_cases h : t = u
    · rw [if_pos h, if_pos h.symm]
    · rw [if_neg h, if_neg (fun e => h e.symm)]
      rfl
theorem go_hp (s : St) (d : Option Nat) (x : AV) (e : Ef) (p : Name) : (s.go d x e).hp p = (wl e.wr p).getD (s.hp p) := by
  unfold St.go
  rw [putd_hp]
  rfl
theorem wl_mem : ∀ {wr : List (Name × Option Ob)} {p : Name} {v : Option Ob}, wl wr p = some v → p ∈ wr.map (·.1)
  | [], _, _, h => by cases h
  | q :: r, p, v, h => by
    unfold wl at h
    cases hr : wl r p with
    | some u => exact List.mem_cons_of_mem _ (wl_mem hr)
    | none =>
      rw [hr] at h
      simp only at h
      split at h
      · rename_i e; rw [e]; exact List.mem_cons_self
      · cases h

/-- What a state is behind some operations. -/
structure OKE (ops : Array Oper) (xs : Nat → AV) (fs : Nat → Fp) (s : St) (L : List Nat) (s' : St) : Prop where
  used : ∀ y, y ∈ s'.used ↔ y ∈ s.used ∨ ∃ k ∈ L, y ∈ (fs k).2.nu
  slot : ∀ t, (∃ k ∈ L, dstOf ops k = some t ∧ s'.fr t = xs k) ∨ ((∀ k ∈ L, dstOf ops k ≠ some t) ∧ s'.fr t = s.fr t)
  heap : ∀ p, (∃ k ∈ L, ∃ v, wl (fs k).2.wr p = some v ∧ (∀ k' ∈ L, (∃ v', wl (fs k').2.wr p = some v') → k' ≤ k) ∧ s'.hp p = v) ∨ ((∀ k ∈ L, wl (fs k).2.wr p = none) ∧ s'.hp p = s.hp p)
theorem OKE.nil (xs : Nat → AV) (fs : Nat → Fp) (s : St) : OKE ops xs fs s [] s := ⟨fun _ => by simp, fun _ => .inr ⟨by simp, rfl⟩, fun _ => .inr ⟨by simp, rfl⟩⟩
theorem OKE.snoc {xs : Nat → AV} {fs : Nat → Fp} {s s' : St} {L : List Nat} {i : Nat} (h : OKE ops xs fs s L s') (hw : ∀ k ∈ L, ∀ p v v', wl (fs k).2.wr p = some v → wl (fs i).2.wr p = some v' → k ≤ i) :
    OKE ops xs fs s (L ++ [i]) (s'.go (dstOf ops i) (xs i) (fs i).2) := by
  refine ⟨fun y => ?_, fun t => ?_, fun p => ?_⟩
  · rw [go_used, List.mem_append, h.used y]
    constructor
    · rintro (h1 | h1 | ⟨k, hk, h1⟩)
      · exact .inr ⟨i, by simp, h1⟩
      · exact .inl h1
      · exact .inr ⟨k, List.mem_append_left _ hk, h1⟩
    · rintro (h1 | ⟨k, hk, h1⟩)
      · exact .inr (.inl h1)
      · rcases List.mem_append.1 hk with hk | hk
        · exact .inr (.inr ⟨k, hk, h1⟩)
        · rw [List.mem_singleton.1 hk] at h1; exact .inl h1
  · rw [go_fr]
    by_cases hd : dstOf ops i = some t
    · exact .inl ⟨i, by simp, hd, by rw [if_pos hd]⟩
    · rw [if_neg hd]
      rcases h.slot t with ⟨k, hk, h1, h2⟩ | ⟨h1, h2⟩
      · exact .inl ⟨k, List.mem_append_left _ hk, h1, h2⟩
      · refine .inr ⟨fun k hk => ?_, h2⟩
        rcases List.mem_append.1 hk with hk | hk
        · exact h1 k hk
        · rw [List.mem_singleton.1 hk]; exact hd
  · rw [go_hp]
    cases he : wl (fs i).2.wr p with
    | some o =>
      refine .inl ⟨i, by simp, o, he, fun k' hk' ⟨o', ho'⟩ => ?_, rfl⟩
      rcases List.mem_append.1 hk' with hk' | hk'
      · exact hw k' hk' p o' o ho' he
      · rw [List.mem_singleton.1 hk']; exact Nat.le_refl _
    | none =>
      show _ ∨ (_ ∧ s'.hp p = _)
      rcases h.heap p with ⟨k, hk, o, h1, h2, h3⟩ | ⟨h1, h2⟩
      · refine .inl ⟨k, List.mem_append_left _ hk, o, h1, fun k' hk' ho' => ?_, h3⟩
        rcases List.mem_append.1 hk' with hk' | hk'
        · exact h2 k' hk' ho'
        · rw [List.mem_singleton.1 hk', he] at ho'
          obtain ⟨_, ho'⟩ := ho'
          cases ho'
      · refine .inr ⟨fun k hk => ?_, h2⟩
        rcases List.mem_append.1 hk with hk | hk
        · exact h1 k hk
        · rw [List.mem_singleton.1 hk]; exact he

/-- Who waits for whom. -/
inductive Anc (ops : Array Oper) : Nat → Nat → Prop
  | one {i : Nat} {o : Oper} {e : Edge} (ho : ops[i]? = some o) (he : e ∈ o.after) (hb : Region.binds .any e = true) : Anc ops i e.on
  | tr {i : Nat} {o : Oper} {e : Edge} {k : Nat} (ho : ops[i]? = some o) (he : e ∈ o.after) (hb : Region.binds .any e = true) (h : Anc ops e.on k) : Anc ops i k
def ancNew (acc : List (List Nat)) (o : Oper) : List Nat := ((o.after.toList.filter (Region.binds .any)).flatMap fun e => e.on :: acc.getD e.on []).eraseDups
def ancs : List (List Nat) → List Oper → List (List Nat)
  | acc, [] => acc
  | acc, o :: r => ancs (acc ++ [ancNew acc o]) r
theorem ancs_sound : ∀ (r : List Oper) (acc : List (List Nat)), (∀ j, r[j]? = ops[acc.length + j]?) → (∀ i k, k ∈ acc.getD i [] → Anc ops i k) → ∀ i k, k ∈ (ancs acc r).getD i [] → Anc ops i k
  | [], _, _, h => h
  | o :: r, acc, hr, h => by
    refine ancs_sound r (acc ++ [ancNew acc o]) (fun j => ?_) (fun i k hk => ?_)
    · have := hr (j + 1)
      rw [List.getElem?_cons_succ] at this
      rw [this, List.length_append, List.length_singleton, show acc.length + (j + 1) = acc.length + 1 + j by omega]
    · have ho : ops[acc.length]? = some o := by simpa using (hr 0).symm
      by_cases hi : i < acc.length
      · refine h i k ?_
        rw [List.getD_eq_getElem?_getD, List.getElem?_append_left hi] at hk
        rw [List.getD_eq_getElem?_getD]; exact hk
      · by_cases hi2 : i = acc.length
        · subst hi2
          have : (acc ++ [ancNew acc o]).getD acc.length [] = ancNew acc o := by simp
          rw [this] at hk
          unfold ancNew at hk
          rw [List.mem_eraseDups, List.mem_flatMap] at hk
          obtain ⟨e, he, hk⟩ := hk
          rw [List.mem_filter] at he
          have he1 : e ∈ o.after := Array.mem_toList_iff.1 he.1
          rcases List.mem_cons.1 hk with rfl | hk
          · exact .one ho he1 he.2
          · exact .tr ho he1 he.2 (h _ _ hk)
        · have : (acc ++ [ancNew acc o]).getD i [] = [] := by
            rw [List.getD_eq_getElem?_getD, List.getElem?_eq_none (by simp; omega)]; rfl
          rw [this] at hk; cases hk
theorem anc_closed {listed : Array Bool} {L : List Nat} (hu : Up ops listed L) {i k : Nat} (h : Anc ops i k) : i ∈ L → k ∈ L := by
  induction h with
  | one ho he hb => exact fun hi => hu.closed _ hi _ ho _ he hb
  | tr ho he hb _ ih => exact fun hi => ih (hu.closed _ hi _ ho _ he hb)
theorem anc_ready {listed : Array Bool} {L : List Nat} (hu : Up ops listed L) {i k : Nat} {o : Oper} (ho : ops[i]? = some o) (hw : ∀ e ∈ o.after, Region.binds .any e = true → e.on ∈ L) (h : Anc ops i k) : k ∈ L := by
  cases h with
  | one ho' he hb =>
    rw [ho] at ho'; cases ho'
    exact hw _ he hb
  | tr ho' he hb h2 =>
    rw [ho] at ho'; cases ho'
    exact anc_closed hu h2 (hw _ he hb)

def befA (A : List (List Nat)) (i k : Nat) : Bool := (decide (k < i) && (A.getD i []).contains k) || (decide (i < k) && (A.getD k []).contains i)
/-- Each waits for some ahead of it alone; no slot is written twice; who looks at what another one writes stands ahead of it or behind. -/
def chk (ops : Array Oper) (ns : Ns) : Bool :=
  let A := ancs [] ops.toList
  (List.range ops.size).all fun i =>
    (match ops[i]? with
     | some o => o.after.toList.all fun e => !Region.binds .any e || decide (e.on < i)
     | none => true) &&
    (List.range ops.size).all fun k =>
      (match dstOf ops k with
       | none => true
       | some t => (decide (i = k) || dstOf ops i != some t) && (!(looksO ops i).contains t || befA A i k)) &&
      ((ns.getD k ([], [], [])).2.1.all fun p => decide (i = k) || (!(ns.getD i ([], [], [])).1.contains p && !(ns.getD i ([], [], [])).2.1.contains p) || befA A i k) &&
      ((ns.getD k ([], [], [])).2.2.all fun y => decide (i = k) || !(ns.getD i ([], [], [])).2.2.contains y)
/-- One is ahead of the other one, in every order. -/
def bef (ops : Array Oper) (i k : Nat) : Prop := (k < i ∧ Anc ops i k) ∨ (i < k ∧ Anc ops k i)
theorem befA_bef {i k : Nat} (h : befA (ancs [] ops.toList) i k = true) : bef ops i k := by
  have hs := ancs_sound (ops := ops) ops.toList [] (fun j => by simp) (fun i k hk => by simp at hk)
  simp only [befA, Bool.or_eq_true, Bool.and_eq_true, decide_eq_true_eq, List.contains_eq_mem] at h
  rcases h with ⟨h1, h2⟩ | ⟨h1, h2⟩
  · exact .inl ⟨h1, hs _ _ h2⟩
  · exact .inr ⟨h1, hs _ _ h2⟩
section
variable {ns : Ns} (h : chk ops ns = true)
include h
theorem chk_after {i : Nat} {o : Oper} (ho : ops[i]? = some o) : ∀ e ∈ o.after, Region.binds .any e = true → e.on < i := by
  intro e he hb
  have hi : i < ops.size := by
    rcases Nat.lt_or_ge i ops.size with hlt | hge
    · exact hlt
    · rw [Array.getElem?_eq_none hge] at ho; cases ho
  have h2 := List.all_eq_true.1 h i (List.mem_range.2 hi)
  simp only [ho, Bool.and_eq_true] at h2
  have h3 := List.all_eq_true.1 h2.1 e (Array.mem_toList_iff.2 he)
  simpa [hb] using h3
theorem chk_pair {i k : Nat} (hi : i < ops.size) (hk : k < ops.size) : (∀ t, dstOf ops k = some t → (i = k ∨ dstOf ops i ≠ some t) ∧ (t ∈ looksO ops i → bef ops i k)) ∧
    (∀ p, p ∈ (ns.getD k ([], [], [])).2.1 → i = k ∨ (p ∉ (ns.getD i ([], [], [])).1 ∧ p ∉ (ns.getD i ([], [], [])).2.1) ∨ bef ops i k) ∧
    ∀ y, y ∈ (ns.getD k ([], [], [])).2.2 → i = k ∨ y ∉ (ns.getD i ([], [], [])).2.2 := by
  have h2 := List.all_eq_true.1 h i (List.mem_range.2 hi)
  simp only [Bool.and_eq_true] at h2
  have h3 := List.all_eq_true.1 h2.2 k (List.mem_range.2 hk)
  simp only [Bool.and_eq_true] at h3
  refine ⟨fun t ht => ?_, fun p hp => ?_, fun y hy => ?_⟩
  · have h4 := h3.1.1
    rw [ht] at h4
    simp only [Bool.and_eq_true, Bool.or_eq_true, decide_eq_true_eq, bne_iff_ne, ne_eq, Bool.not_eq_true', List.contains_eq_mem, decide_eq_false_iff_not] at h4
    exact ⟨h4.1, fun hl => h4.2.elim (fun h5 => absurd hl h5) befA_bef⟩
  · have h4 := List.all_eq_true.1 h3.1.2 p hp
    simp only [Bool.or_eq_true, Bool.and_eq_true, decide_eq_true_eq, Bool.not_eq_true', List.contains_eq_mem, decide_eq_false_iff_not] at h4
    rcases h4 with (h4 | h4) | h4
    · exact .inl h4
    · exact .inr (.inl h4)
    · exact .inr (.inr (befA_bef h4))
  · have h4 := List.all_eq_true.1 h3.2 y hy
    simp only [Bool.or_eq_true, decide_eq_true_eq, Bool.not_eq_true', List.contains_eq_mem, decide_eq_false_iff_not] at h4
    exact h4
end

theorem xrun_facts {K : St → Ns → Prop} : ∀ (r : List Oper) (i : Nat) (s : St) (ns : Ns), (∀ j, (r[j]? = ops[i + j]?)) → xrun P cf ops K r s ns →
    ∃ (xs : Nat → AV) (fs : Nat → Fp), K (layE ops xs fs (List.range' i r.length) s) (ns ++ (List.range' i r.length).map fun j => fpN (fs j)) ∧ ∀ j o, i ≤ j → ops[j]? = some o → FactE P cf ops j o (layE ops xs fs (List.range' i (j - i)) s) (xs j) (fs j)
  | [], i, s, ns, hr, h => ⟨fun _ => .un, fun _ => ([], ef0), by simpa [xrun, layE] using h, fun j o hij ho => by
      have := hr (j - i)
      rw [show i + (j - i) = j by omega, ho] at this
      simp at this⟩
  | o :: r, i, s, ns, hr, h => by
    have hi : ops[i]? = some o := by simpa using (hr 0).symm
    obtain ⟨x, f, hf, h2⟩ := xrun_one hi h
    obtain ⟨xs, fs, hK, hall⟩ := xrun_facts r (i + 1) _ _ (fun j => by have := hr (j + 1); rw [List.getElem?_cons_succ] at this; rw [this, show i + (j + 1) = i + 1 + j by omega]) h2
    obtain ⟨ys, hys⟩ : ∃ ys : Nat → AV, ys = fun j => if j = i then x else xs j := ⟨_, rfl⟩
    obtain ⟨gs, hgs⟩ : ∃ gs : Nat → Fp, gs = fun j => if j = i then f else fs j := ⟨_, rfl⟩
    have hd : dstOf ops i = o.dst := by simp [dstOf, hi]
    have e1 : ∀ (n k : Nat) (s : St), i < k → layE ops ys gs (List.range' k n) s = layE ops xs fs (List.range' k n) s := by
      intro n
      induction n with
      | zero => intros; rfl
      | succ n ih =>
        intro k s hk
        rw [List.range'_succ, layE, layE, ih (k + 1) _ (by omega), hys, hgs]
        simp only [if_neg (show ¬ k = i by omega)]
    have e2 : ∀ (n k : Nat), i < k → ((List.range' k n).map fun j => fpN (gs j)) = (List.range' k n).map fun j => fpN (fs j) := by
      intro n k hk
      refine List.map_congr_left fun j hj => ?_
      rw [List.mem_range'_1] at hj
      rw [hgs]
      simp only [if_neg (show ¬ j = i by omega)]
    have hyi : ys i = x := by rw [hys]; simp
    have hgi : gs i = f := by rw [hgs]; simp
    refine ⟨ys, gs, ?_, fun j o' hij ho' => ?_⟩
    · rw [List.length_cons, List.range'_succ, layE, hd, hyi, hgi, e1 _ _ _ (by omega), List.map_cons, hgi, e2 _ _ (by omega)]
      simpa using hK
    · rcases Nat.lt_or_ge i j with hlt | hge
      · have := hall j o' (by omega) ho'
        rw [show j - i = (j - (i + 1)) + 1 by omega, List.range'_succ, layE, hd, hyi, hgi, e1 _ _ _ (by omega)]
        rw [show ys j = xs j by rw [hys]; simp only [if_neg (show ¬ j = i by omega)], show gs j = fs j by rw [hgs]; simp only [if_neg (show ¬ j = i by omega)]]
        exact this
      · have : j = i := by omega
        subst this
        rw [hi] at ho'
        cases ho'
        rw [Nat.sub_self, hyi, hgi]
        exact hf

section
variable {xs : Nat → AV} {fs : Nat → Fp} {s : St} {ns : Ns} (hq : chk ops ns = true) (hns : ∀ i, i < ops.size → ns.getD i ([], [], []) = fpN (fs i))
include hq hns
theorem wr_bef {i k : Nat} (hi : i < ops.size) (hk : k < ops.size) (hne : i ≠ k) {p : Name} {v : Option Ob} (hw : wl (fs k).2.wr p = some v) (hl : p ∈ (fs i).1 ∨ ∃ v', wl (fs i).2.wr p = some v') : bef ops i k := by
  have h1 := (chk_pair hq hi hk).2.1 p (by rw [hns k hk]; exact wl_mem hw)
  rcases h1 with h1 | ⟨h1, h2⟩ | h1
  · exact absurd h1 hne
  · rw [hns i hi] at h1 h2
    rcases hl with hl | ⟨v', hl⟩
    · exact absurd hl h1
    · exact absurd (wl_mem hl) h2
  · exact h1
omit hq hns in
theorem text_ok : ∀ n, n ≤ ops.size → OKE ops xs fs s (List.range' 0 n) (layE ops xs fs (List.range' 0 n) s) := by
  intro n
  induction n with
  | zero => exact fun _ => .nil _ _ _
  | succ n ih =>
    intro hn
    have := (ih (by omega)).snoc (i := n) (fun k hk _ _ _ _ _ => by rw [List.mem_range'_1] at hk; omega)
    rw [List.range'_concat, Nat.one_mul, Nat.zero_add, layE_snoc]
    exact this
theorem sched_agr {listed : Array Bool} {L : List Nat} (hu : Up ops listed L) {s' : St} (hL : OKE ops xs fs s L s') {i : Nat} {o : Oper} (ho : ops[i]? = some o) (hi : i ∉ L)
    (hw : ∀ e ∈ o.after, Region.binds .any e = true → e.on ∈ L) (hfr : ∀ y ∈ (fs i).2.nu, y ∉ (layE ops xs fs (List.range' 0 (i - 0)) s).used) : agE (o.looksAt ops) (fs i) (layE ops xs fs (List.range' 0 (i - 0)) s) s' := by
  have hlt : i < ops.size := by
    rcases Nat.lt_or_ge i ops.size with hlt | hge
    · exact hlt
    · rw [Array.getElem?_eq_none hge] at ho; cases ho
  rw [Nat.sub_zero] at hfr ⊢
  have hT := text_ok (ops := ops) (fs := fs) (s := s) (xs := xs) i (by omega)
  have go : ∀ k, bef ops i k → (k < i ↔ k ∈ L) := fun k hb => by
    rcases hb with ⟨h1, h2⟩ | ⟨h1, h2⟩
    · exact ⟨fun _ => anc_ready hu ho hw h2, fun _ => h1⟩
    · exact ⟨fun h => by omega, fun h => absurd (anc_closed hu h2 h) hi⟩
  have hdst : ∀ a b t, dstOf ops a = some t → dstOf ops b = some t → a = b := fun a b t ha hb =>
    ((chk_pair hq (dstOf_lt ha) (dstOf_lt hb)).1 t hb).1.elim id (fun h => absurd ha h)
  refine ⟨fun y hy hu' => ?_, fun p hp => ?_, fun t ht => ?_⟩
  · rcases (hL.used y).1 hu' with h1 | ⟨k, hk, h1⟩
    · exact hfr y hy ((hT.used y).2 (.inl h1))
    · rcases (chk_pair hq hlt (hu.lt k hk)).2.2 y (by rw [hns k (hu.lt k hk)]; exact h1) with h2 | h2
      · exact hi (h2 ▸ hk)
      · rw [hns i hlt] at h2; exact h2 hy
  · have key : ∀ k, k < ops.size → ∀ ob, wl (fs k).2.wr p = some ob → i ≠ k → (k < i ↔ k ∈ L) := fun k hk ob hob hne => go k (wr_bef hq hns hlt hk hne hob (.inl hp))
    rcases hT.heap p with ⟨k, hk, ob, h1, h2, h3⟩ | ⟨h1, h2⟩
    · rw [List.mem_range'_1] at hk
      have hkL : k ∈ L := (key k (by omega) ob h1 (by omega)).1 (by omega)
      rcases hL.heap p with ⟨k2, hk2, ob2, g1, g2, g3⟩ | ⟨g1, _⟩
      · have hk2i : k2 < i := (key k2 (hu.lt k2 hk2) ob2 g1 (fun e => hi (e ▸ hk2))).2 hk2
        have a1 := h2 k2 (by rw [List.mem_range'_1]; omega) ⟨ob2, g1⟩
        have a2 := g2 k hkL ⟨ob, h1⟩
        have : k = k2 := by omega
        subst this
        rw [h1] at g1
        cases g1
        rw [g3, h3]
      · rw [g1 k hkL] at h1; cases h1
    · rcases hL.heap p with ⟨k2, hk2, ob2, g1, _, _⟩ | ⟨_, g2⟩
      · have hk2i : k2 < i := (key k2 (hu.lt k2 hk2) ob2 g1 (fun e => hi (e ▸ hk2))).2 hk2
        rw [h1 k2 (by rw [List.mem_range'_1]; omega)] at g1; cases g1
      · rw [g2, h2]
  · have ht' : t ∈ looksO ops i := by unfold looksO; rw [ho]; exact ht
    rcases hT.slot t with ⟨k, hk, h1, h2⟩ | ⟨h1, h2⟩
    · rw [List.mem_range'_1] at hk
      have hkL : k ∈ L := (go k (((chk_pair hq hlt (dstOf_lt h1)).1 t h1).2 ht')).1 (by omega)
      rcases hL.slot t with ⟨k2, _, g1, g2⟩ | ⟨g1, _⟩
      · rw [h2, g2, hdst k k2 t h1 g1]
      · exact absurd h1 (g1 k hkL)
    · rcases hL.slot t with ⟨k2, hk2, g1, _⟩ | ⟨_, g2⟩
      · have := (go k2 (((chk_pair hq hlt (dstOf_lt g1)).1 t g1).2 ht')).2 hk2
        exact absurd g1 (h1 k2 (by rw [List.mem_range'_1]; omega))
      · rw [g2, h2]
omit hns in
theorem sched_fin {L : List Nat} {s' : St} (hL : OKE ops xs fs s L s') (hlt : ∀ j ∈ L, j < ops.size) (hall : ∀ j, j < ops.size → j ∈ L) : (s'.hp = (layE ops xs fs (List.range' 0 ops.size) s).hp ∧ s'.fr = (layE ops xs fs (List.range' 0 ops.size) s).fr) ∧ ∀ y, y ∈ s'.used ↔ y ∈ (layE ops xs fs (List.range' 0 ops.size) s).used := by
  have hT := text_ok (ops := ops) (fs := fs) (s := s) (xs := xs) ops.size (Nat.le_refl _)
  have hdst : ∀ a b t, dstOf ops a = some t → dstOf ops b = some t → a = b := fun a b t ha hb =>
    ((chk_pair hq (dstOf_lt ha) (dstOf_lt hb)).1 t hb).1.elim id (fun h => absurd ha h)
  have hm : ∀ k, k ∈ L ↔ k ∈ List.range' 0 ops.size := fun k => by
    rw [List.mem_range'_1]
    exact ⟨fun h => by have := hlt k h; omega, fun h => hall k (by omega)⟩
  refine ⟨⟨funext fun p => ?_, funext fun t => ?_⟩, fun y => ?_⟩
  · rcases hT.heap p with ⟨k, hk, ob, h1, h2, h3⟩ | ⟨h1, h2⟩
    · rcases hL.heap p with ⟨k2, hk2, ob2, g1, g2, g3⟩ | ⟨g1, _⟩
      · have a1 := h2 k2 ((hm k2).1 hk2) ⟨ob2, g1⟩
        have a2 := g2 k ((hm k).2 hk) ⟨ob, h1⟩
        have : k = k2 := by omega
        subst this
        rw [h1] at g1
        cases g1
        rw [g3, h3]
      · rw [g1 k ((hm k).2 hk)] at h1; cases h1
    · rcases hL.heap p with ⟨k2, hk2, ob2, g1, _, _⟩ | ⟨_, g2⟩
      · rw [h1 k2 ((hm k2).1 hk2)] at g1; cases g1
      · rw [g2, h2]
  · rcases hT.slot t with ⟨k, hk, h1, h2⟩ | ⟨h1, h2⟩
    · rcases hL.slot t with ⟨k2, _, g1, g2⟩ | ⟨g1, _⟩
      · rw [h2, g2, hdst k k2 t h1 g1]
      · exact absurd h1 (g1 k ((hm k).2 hk))
    · rcases hL.slot t with ⟨k2, hk2, g1, _⟩ | ⟨_, g2⟩
      · exact absurd g1 (h1 k2 ((hm k2).1 hk2))
      · rw [g2, h2]
  · rw [hL.used y, hT.used y]
    refine or_congr_right ⟨?_, ?_⟩
    · rintro ⟨k, hk, h1⟩; exact ⟨k, (hm k).1 hk, h1⟩
    · rintro ⟨k, hk, h1⟩; exact ⟨k, (hm k).2 hk, h1⟩
omit hns in
theorem up_full {listed : Array Bool} {L : List Nat} (hu : Up ops listed L) (hr : Region.ready .any ops listed = []) : ∀ j, j < ops.size → j ∈ L := by
  intro j
  induction j using Nat.strongRecOn with
  | ind j ih =>
    intro hlt
    apply Decidable.byContradiction
    intro hn
    obtain ⟨o, ho⟩ : ∃ o, ops[j]? = some o := ⟨ops[j], by simp⟩
    have : j ∈ Region.ready .any ops listed := by
      rw [mem_ready]
      refine ⟨?_, o, ho, fun e he hb => ?_⟩
      · have := hu.mem j hlt
        have hl : j < listed.size := by rw [hu.size]; exact hlt
        cases hv : listed[j] with
        | true => exact absurd (this.1 (by simp [hl, hv])) hn
        | false => simp [hl, hv]
      · have h2 := chk_after hq ho e he hb
        have h3 := (hu.mem e.on (by omega)).2 (ih e.on h2 (by omega))
        simp [h3]
    rw [hr] at this; cases this
theorem anyE {B : Base} (hB : cf.fits B) {ds : List Deferred} {Q : Exit → Act → World → Prop}
    (hall : ∀ j o, ops[j]? = some o → FactE P cf ops j o (layE ops xs fs (List.range' 0 (j - 0)) s) (xs j) (fs j))
    (hK : ∀ β a w, a.defers = ds → Sim B β (layE ops xs fs (List.range' 0 ops.size) s) a.tmps w → Q .normal a w) :
    ∀ (fuel : Nat) (listed : Array Bool) (L : List Nat) (s' : St) (β : Name → Option Blk) (a : Act) (w : World), Up ops listed L → L.Nodup → ops.size ≤ fuel + L.length → a.defers = ds → OKE ops xs fs s L s' → Sim B β s' a.tmps w →
      wpAnyIn (Fw cf.ro) 0 P .any ops Q fuel listed a w := by
  have fin : ∀ (listed : Array Bool) (L : List Nat) (s' : St) (β : Name → Option Blk) (a : Act) (w : World), Up ops listed L → a.defers = ds → OKE ops xs fs s L s' → Sim B β s' a.tmps w → Region.ready .any ops listed = [] → Q .normal a w := by
    intro listed L s' β a w hu hds hL hs hr
    obtain ⟨⟨e1, e2⟩, e3⟩ := sched_fin hq hL hu.lt (up_full hq hu hr)
    exact hK β a w hds (hs.reuse e1.symm e2.symm e3)
  intro fuel
  induction fuel with
  | zero =>
    intro listed L s' β a w hu hnd hn hds hL hs
    have hr : Region.ready .any ops listed = [] := by
      apply List.eq_nil_iff_forall_not_mem.2
      intro j hj
      obtain ⟨h0, o, ho, _⟩ := mem_ready.1 hj
      have hlt : j < ops.size := by
        rcases Nat.lt_or_ge j ops.size with hlt | hge
        · exact hlt
        · rw [Array.getElem?_eq_none hge] at ho; cases ho
      have hjL : j ∈ L := by
        apply Decidable.byContradiction
        intro hn'
        have hsub : (j :: L).length ≤ ops.size := by
          refine nodup_len ops.size (j :: L) (List.nodup_cons.2 ⟨hn', hnd⟩) fun x hx => ?_
          rcases List.mem_cons.1 hx with rfl | hx
          · exact hlt
          · exact hu.lt x hx
        simp only [List.length_cons] at hsub
        omega
      have h3 := (hu.mem j hlt).2 hjL
      simp [h3] at h0
    exact ⟨hr, fin listed L s' β a w hu hds hL hs hr⟩
  | succ fuel ih =>
    intro listed L s' β a w hu hnd hn hds hL hs
    refine ⟨fun hr => fin listed L s' β a w hu hds hL hs hr, fun i hi => ?_⟩
    obtain ⟨h0, o, ho, hw⟩ := mem_ready.1 hi
    have hlt : i < ops.size := by
      rcases Nat.lt_or_ge i ops.size with hlt | hge
      · exact hlt
      · rw [Array.getElem?_eq_none hge] at ho; cases ho
    have hiL : i ∉ L := fun h => by
      have h3 := (hu.mem i hlt).2 h
      simp [h3] at h0
    have hwL : ∀ e ∈ o.after, Region.binds .any e = true → e.on ∈ L := fun e he hb => by
      have h1 := hw e he hb
      have h2 := chk_after hq ho e he hb
      refine (hu.mem e.on (by omega)).1 ?_
      have hl : e.on < listed.size := by rw [hu.size]; omega
      simp [hl] at h1
      simp [hl, h1]
    have hd : dstOf ops i = o.dst := by simp [dstOf, ho]
    refine wpOpIn_mono (fun a' w' ⟨hd', β', hs'⟩ => ih (listed.setIfInBounds i true) (L ++ [i]) _ β' a' w' ?_ ?_ ?_ hd' (hd ▸ hL.snoc ?_) hs') ((hall i o ho).2 _ (sched_agr hq hns hu hL ho hiL hwL (hall i o ho).1) B hB ds β a w hds hs Q)
    · refine ⟨by simpa using hu.size, fun j hj => ?_, fun j hj => ?_, fun j hj o' ho' e he hb => ?_⟩
      · have hl : j < listed.size := by rw [hu.size]; exact hj
        by_cases hij : i = j
        · subst hij; simp [hl]
        · rw [Array.getElem?_setIfInBounds_ne hij, hu.mem j hj]
          simp [Ne.symm hij]
      · rcases List.mem_append.1 hj with hj | hj
        · exact hu.lt j hj
        · rw [List.mem_singleton.1 hj]; exact hlt
      · rcases List.mem_append.1 hj with hj | hj
        · exact List.mem_append_left _ (hu.closed j hj o' ho' e he hb)
        · rw [List.mem_singleton.1 hj, ho] at ho'
          cases ho'
          exact List.mem_append_left _ (hwL e he hb)
    · rw [List.nodup_append]
      exact ⟨hnd, by simp, fun x hx y hy => by rw [List.mem_singleton.1 hy]; rintro rfl; exact hiL hx⟩
    · simp only [List.length_append, List.length_singleton]; omega
    · intro k hk p o1 o2 h1 h2
      have hne : i ≠ k := fun e => hiL (e ▸ hk)
      rcases wr_bef hq hns hlt (hu.lt k hk) hne h1 (.inr ⟨o2, h2⟩) with ⟨h3, _⟩ | ⟨_, h4⟩
      · omega
      · exact absurd (anc_closed hu h4 hk) hiL
end
/-- A region that draws its order and stores, by one walk. -/
theorem region_x {id : Nat} {l : List Oper} {s : St} {k : List It} {Q : Exit → St → Prop} (hm : P.follows .mixedOrders = true) (h : xrun P cf l.toArray (fun s' ns => chk l.toArray ns = true ∧ run P cf k Q s') l s []) :
    ACk P cf (.region id l.toArray true) s k Q := by
  obtain ⟨xs, fs, ⟨hq, hK⟩, hall⟩ := xrun_facts (ops := l.toArray) l 0 s [] (fun j => by simp) h
  intro B hB ds β a w hds hs
  refine wpIn_region_any hm ?_
  have hns : ∀ i, i < l.toArray.size → (([] : Ns) ++ (List.range' 0 l.length).map fun j => fpN (fs j)).getD i ([], [], []) = fpN (fs i) := by
    intro i hi
    have hi : i < l.length := by simpa using hi
    simp [hi]
  refine anyE (ops := l.toArray) hq hns hB (ds := ds) (fun j o ho => hall j o (Nat.zero_le _) ho) (fun β a w hds hs => run_ok hK B hB ds β a w hds (by simpa using hs)) _ _ [] s β a _ ?_ List.nodup_nil (by simp) hds (.nil _ _ _) (hs.heap_eq rfl rfl)
  refine ⟨by simp, fun j hj => ?_, by simp, by simp⟩
  have hj : j < l.length := by simpa using hj
  simp [hj]
end
end Go.Ab
/-! ### The generic layer, part 37: the walk of a region that draws and stores, behind a veil; loops whose objects take other names; closures; more operations. -/
namespace Go.Ab
section
variable (P : Program) (cf : Cf) (ops : Array Oper) (K : St → Ns → Prop)
def xst (x : R (AV × Ef)) (o : Oper) (r : List Oper) (s : St) (ns : Ns) : Prop :=
  qvE x (fun x => dOk cf.n o.dst ∧ xrun P cf ops K r (s.go o.dst x.1 x.2) (ns ++ [fpN (rdO s o.op, x.2)])) (∃ x f, QE P cf o s x f ∧ f.2.nu = [] ∧ dOk cf.n o.dst ∧ xrun P cf ops K r (s.go o.dst x f.2) (ns ++ [fpN f]))
def xgd (v : Option (Nat × AV)) (want : Bool) (o : Oper) (r : List Oper) (s : St) (ns : Ns) : Prop :=
  match v with
  | some (t, .d (.bool b)) =>
    (b = want → xst P cf ops K (opE P.ti o.op o.dst (s.put t (.d (.bool want)))) o r (s.put t (.d (.bool want))) ns) ∧
    (b = !want → dOk cf.n o.dst ∧ xrun P cf ops K r ((s.put t (.d (.bool (!want)))).go o.dst (.tup []) ef0) (ns ++ [([], [], [])]))
  | some (_, .tup []) => dOk cf.n o.dst ∧ xrun P cf ops K r (s.go o.dst (.tup []) ef0) (ns ++ [([], [], [])])
  | _ => False
abbrev ToXs (_ : Oper) (_ : List Oper) (_ : St) (_ : Ns) : Type 1 := R (AV × Ef)
abbrev ToXg (_ : Bool) (_ : Oper) (_ : List Oper) (_ : St) (_ : Ns) : Type := Option (Nat × AV)
abbrev ToXp (_ : Option Nat) (_ : AV) (_ : List Oper) : Type := Ef
structure XEng where
  run : (r : List Oper) → ToQ r → Ns → Prop
  stp : (o : Oper) → (r : List Oper) → (s : St) → (ns : Ns) → ToXs o r s ns → Prop
  gd : (w : Bool) → (o : Oper) → (r : List Oper) → (s : St) → (ns : Ns) → ToXg w o r s ns → Prop
  pt : (d : Option Nat) → (x : AV) → (r : List Oper) → ToXp d x r → St → Ns → Prop
  run_eq : ∀ r (s : St) ns, run r s ns = xrun P cf ops K r s ns
  stp_eq : ∀ (x : R (AV × Ef)) o r s ns, stp o r s ns x = xst P cf ops K x o r s ns
  gd_eq : ∀ (v : Option (Nat × AV)) w o r s ns, gd w o r s ns v = xgd P cf ops K v w o r s ns
  pt_eq : ∀ d x (e : Ef) r s ns, pt d x r e s ns = (dOk cf.n d ∧ xrun P cf ops K r (s.go d x e) ns)
theorem xeng_ex : Nonempty (XEng P cf ops K) :=
  ⟨⟨xrun P cf ops K, fun o r s ns x => xst P cf ops K x o r s ns, fun w o r s ns v => xgd P cf ops K v w o r s ns, fun d x r e s ns => dOk cf.n d ∧ xrun P cf ops K r (s.go d x e) ns, fun _ _ _ => rfl, fun _ _ _ _ _ => rfl, fun _ _ _ _ _ _ => rfl, fun _ _ _ _ _ _ => rfl⟩⟩
end
section
variable {P : Program} {cf : Cf} {ops : Array Oper} {K : St → Ns → Prop} (E : XEng P cf ops K) (s : St) (o : Oper) (r : List Oper) (ns : Ns)
theorem x_nil : E.run [] s ns = K s ns := by rw [E.run_eq]; rfl
theorem x_ops (d : Option Nat) (op : Op) (ty : Nat) (p : String) (e : Array Edge) :
    E.run ({ dst := d, op := op, type := ty, pos := p, after := e, guard := none } :: r) s ns = E.stp { dst := d, op := op, type := ty, pos := p, after := e, guard := none } r s ns (opE P.ti op d s) := by rw [E.run_eq, E.stp_eq]; rfl
theorem x_ops_g (d : Option Nat) (op : Op) (ty : Nat) (p : String) (e : Array Edge) (j : Nat) (want : Bool) :
    E.run ({ dst := d, op := op, type := ty, pos := p, after := e, guard := some (j, want) } :: r) s ns = E.gd want { dst := d, op := op, type := ty, pos := p, after := e, guard := some (j, want) } r s ns (guardV ops j s) := by rw [E.run_eq, E.gd_eq]; rfl
theorem x_stp_ok (x : AV) (e : Ef) : E.stp o r s ns (.ok (x, e)) = E.pt o.dst x r e s (ns ++ [fpN (rdO s o.op, e)]) := by rw [E.stp_eq, E.pt_eq]; rfl
theorem x_stp_need (p : Prop) (x : R (AV × Ef)) : E.stp o r s ns (.need p x) = (p ∧ E.stp o r s ns x) := by rw [E.stp_eq, E.stp_eq]; rfl
theorem x_pt_some (t : Nat) (x : AV) (h : t < cf.n) : E.pt (some t) x r ef0 s ns = E.run r (s.put t x) ns := by rw [E.pt_eq, E.run_eq]; simp [dOk, h, St.go, eff_ef0, St.putd]
theorem x_pt_none (x : AV) : E.pt none x r ef0 s ns = E.run r s ns := by rw [E.pt_eq, E.run_eq]; simp [dOk, St.go, eff_ef0, St.putd]
theorem x_pt_some_e (t : Nat) (x : AV) (p : Name) (q : Option Ob) (h : t < cf.n) : E.pt (some t) x r ⟨[(p, q)], []⟩ s ns = E.run r ((s.set p q).put t x) ns := by rw [E.pt_eq, E.run_eq]; simp [dOk, h, St.go, eff_set, St.putd]
theorem x_pt_none_e (x : AV) (p : Name) (q : Option Ob) : E.pt none x r ⟨[(p, q)], []⟩ s ns = E.run r (s.set p q) ns := by rw [E.pt_eq, E.run_eq]; simp [dOk, St.go, eff_set, St.putd]
theorem x_pt_some_n (t : Nat) (x : AV) (u : Nat) (ob : Ob) (h : t < cf.n) : E.pt (some t) x r ⟨[([u], some ob)], [u]⟩ s ns = E.run r ((s.add u ob).put t x) ns := by rw [E.pt_eq, E.run_eq]; simp [dOk, h, St.go, eff_add, St.putd]
theorem x_pt_some_a (t : Nat) (x : AV) (p : Name) (u : Nat) (ob : Ob) (h : t < cf.n) : E.pt (some t) x r ⟨[(p, none), ([u], some ob)], [u]⟩ s ns = E.run r (((s.set p none).add u ob).put t x) ns := by rw [E.pt_eq, E.run_eq]; simp [dOk, h, St.go, eff_app, St.putd]
theorem x_gd_tt (t : Nat) : E.gd true o r s ns (some (t, .d (.bool true))) = E.stp o r (s.put t (.d (.bool true))) ns (opE P.ti o.op o.dst (s.put t (.d (.bool true)))) := by rw [E.gd_eq, E.stp_eq]; simp [xgd]
theorem x_gd_ff (t : Nat) : E.gd false o r s ns (some (t, .d (.bool false))) = E.stp o r (s.put t (.d (.bool false))) ns (opE P.ti o.op o.dst (s.put t (.d (.bool false)))) := by rw [E.gd_eq, E.stp_eq]; simp [xgd]
theorem x_gd_tf (t : Nat) : E.gd false o r s ns (some (t, .d (.bool true))) = E.pt o.dst (.tup []) r ef0 (s.put t (.d (.bool true))) (ns ++ [([], [], [])]) := by rw [E.gd_eq, E.pt_eq]; simp [xgd]
theorem x_gd_ft (t : Nat) : E.gd true o r s ns (some (t, .d (.bool false))) = E.pt o.dst (.tup []) r ef0 (s.put t (.d (.bool false))) (ns ++ [([], [], [])]) := by rw [E.gd_eq, E.pt_eq]; simp [xgd]
theorem x_gd_un (t : Nat) (want : Bool) : E.gd want o r s ns (some (t, .tup [])) = E.pt o.dst (.tup []) r ef0 s (ns ++ [([], [], [])]) := by rw [E.gd_eq, E.pt_eq]; rfl
variable {s o r ns}
theorem fpN_0 (l : List Name) : fpN (l, ef0) = (l, [], []) := rfl
theorem fpN_1 (l : List Name) (wr : List (Name × Option Ob)) (nu : List Nat) : fpN (l, ⟨wr, nu⟩) = (l, wr.map (·.1), nu) := rfl
attribute [go_sem] x_nil x_ops x_ops_g x_stp_ok x_stp_need x_pt_some x_pt_some_e x_pt_none x_pt_none_e x_pt_some_n x_pt_some_a x_gd_tt x_gd_ff x_gd_tf x_gd_ft x_gd_un fpN_0 fpN_1 rdO rdA storeE newE appendE listOf List.cons_append List.nil_append
section
variable (tf : Nat → TI)
theorem opE_move (dd : Option Nat) (s : St) (x) : opE tf (.move x) dd s = (opV tf (.move x) s).bind fun x => .ok (x, ef0) := rfl
theorem opE_assign (dd : Option Nat) (s : St) (x) : opE tf (.assign x) dd s = (opV tf (.assign x) s).bind fun x => .ok (x, ef0) := rfl
theorem opE_pick (dd : Option Nat) (s : St) (a b c) : opE tf (.pick a b c) dd s = (opV tf (.pick a b c) s).bind fun x => .ok (x, ef0) := rfl
theorem opE_build (dd : Option Nat) (s : St) (a b) : opE tf (.build a b) dd s = (opV tf (.build a b) s).bind fun x => .ok (x, ef0) := rfl
theorem opE_load (dd : Option Nat) (s : St) (a b) : opE tf (.load a b) dd s = (opV tf (.load a b) s).bind fun x => .ok (x, ef0) := rfl
theorem opE_fieldAddr (dd : Option Nat) (s : St) (a b c) : opE tf (.fieldAddr a b c) dd s = (opV tf (.fieldAddr a b c) s).bind fun x => .ok (x, ef0) := rfl
theorem opE_field (dd : Option Nat) (s : St) (a b c) : opE tf (.field a b c) dd s = (opV tf (.field a b c) s).bind fun x => .ok (x, ef0) := rfl
theorem opE_indexAddr (dd : Option Nat) (s : St) (a b c) : opE tf (.indexAddr a b c) dd s = (opV tf (.indexAddr a b c) s).bind fun x => .ok (x, ef0) := rfl
theorem opE_index (dd : Option Nat) (s : St) (a b c) : opE tf (.index a b c) dd s = (opV tf (.index a b c) s).bind fun x => .ok (x, ef0) := rfl
theorem opE_slice (dd : Option Nat) (s : St) (a b c d e) : opE tf (.slice a b c d e) dd s = (opV tf (.slice a b c d e) s).bind fun x => .ok (x, ef0) := rfl
theorem opE_binOp (dd : Option Nat) (s : St) (a b c d e) : opE tf (.binOp a b c d e) dd s = (opV tf (.binOp a b c d e) s).bind fun x => .ok (x, ef0) := rfl
theorem opE_unOp (dd : Option Nat) (s : St) (a b c) : opE tf (.unOp a b c) dd s = (opV tf (.unOp a b c) s).bind fun x => .ok (x, ef0) := rfl
theorem opE_convert (dd : Option Nat) (s : St) (a b c) : opE tf (.convert a b c) dd s = (opV tf (.convert a b c) s).bind fun x => .ok (x, ef0) := rfl
theorem opE_extract (dd : Option Nat) (s : St) (a b) : opE tf (.extract a b) dd s = (opV tf (.extract a b) s).bind fun x => .ok (x, ef0) := rfl
theorem opE_makeFunc (dd : Option Nat) (s : St) (a b c) : opE tf (.makeFunc a b c) dd s = (opV tf (.makeFunc a b c) s).bind fun x => .ok (x, ef0) := rfl
theorem opE_call_v (dd : Option Nat) (s : St) (x a t) : opE tf (.call { callee := .value x, args := a, argTypes := t }) dd s = .no := rfl
theorem opE_call_1 (dd : Option Nat) (s : St) (f) (x t) : opE tf (.call { callee := .builtin f, args := #[x], argTypes := #[t] }) dd s = (opV tf (.call { callee := .builtin f, args := #[x], argTypes := #[t] }) s).bind fun x => .ok (x, ef0) := by
  refine opE_call' ?_
  cases f <;> rfl
theorem opE_append (dd : Option Nat) (s : St) (x y t t') : opE tf (.call { callee := .builtin .append, args := #[x, y], argTypes := #[t, t'] }) dd s = if t ≠ t' then .no else match (tf t).k with
      | .slice e => if (tf e).zOk ∧ (tf e).isW (tf e).w then appendE (tf e) dd s (ev s x) (ev s y) else .no
      | _ => .no := rfl
theorem opE_lookup (dd : Option Nat) (s : St) (a b c d) : opE tf (.lookup a b c d) dd s = .no := rfl
theorem opE_store (dd : Option Nat) (s : St) (t x v) : opE tf (.store t x v) dd s = (storeE (tf t) s (ev s x) (ev s v)).bind fun q => .ok (.un, ⟨[(q.1, some q.2)], []⟩) := rfl
theorem opE_alloc (dd : Option Nat) (s : St) (e) : opE tf (.alloc e) dd s = match (tf e).z with
    | some cs => newE dd s [] (.box (cs.map .d)) (.bx · 0)
    | none => .no := rfl
theorem opE_buildSlice (dd : Option Nat) (s : St) (t l parts) : opE tf (.buildSlice t l parts) dd s = match sliceE (tf t).k, partsD 0 (parts.toList.map fun q => (q.1, ev s q.2)) with
    | some e, some xs => if xs.length = l ∧ (tf e).z.isSome ∧ (tf e).isW (tf e).w ∧ xs.all (okWb (tf e).w) ∧ l * (tf e).sz ≤ 16777216 then newE dd s [] (.arr (tf e).w xs) (.vw · 0 l) else .no
    | _, _ => .no := rfl
attribute [go_sem] opE_move opE_assign opE_pick opE_build opE_load opE_fieldAddr opE_field opE_indexAddr opE_index opE_slice opE_binOp opE_unOp opE_convert opE_extract opE_makeFunc opE_call_v opE_call_1 opE_append opE_alloc opE_buildSlice opE_lookup opE_store
end
/-- A guard that hangs on what is not known. -/
theorem x_gif {c : Bool} {t : Nat} {want : Bool} (h1 : c = true → E.gd want o r (s.put t (.d (.bool true))) ns (some (t, .d (.bool true)))) (h2 : c = false → E.gd want o r (s.put t (.d (.bool false))) ns (some (t, .d (.bool false)))) : E.gd want o r s ns (some (t, .d (.bool c))) := by
  cases c
  · have := h2 rfl
    cases want
    · rw [x_gd_ff, put_put] at this; rw [x_gd_ff]; exact this
    · rw [x_gd_ft, put_put] at this; rw [x_gd_ft]; exact this
  · have := h1 rfl
    cases want
    · rw [x_gd_tf, put_put] at this; rw [x_gd_tf]; exact this
    · rw [x_gd_tt, put_put] at this; rw [x_gd_tt]; exact this
theorem x_gifd {p : Prop} [Decidable p] {t : Nat} {want : Bool} (h1 : p → E.gd want o r (s.put t (.d (.bool true))) ns (some (t, .d (.bool true)))) (h2 : ¬ p → E.gd want o r (s.put t (.d (.bool false))) ns (some (t, .d (.bool false)))) : E.gd want o r s ns (some (t, .d (.bool (decide p)))) :=
  x_gif E (fun h => h1 (of_decide_eq_true h)) (fun h => h2 (of_decide_eq_false h))
theorem go_putO (s : St) (d : Option Nat) (x : AV) : s.go d x ef0 = s.putO d x := by rw [go_ef0]; cases d <;> rfl
/-- An operation that has a rule of its own, in such a region. -/
theorem x_leaf {d : Option Nat} {op : Op} {ty : TypeId} {pos : String} {af : Array Edge} {g : Option (Nat × Bool)} {x : AV} (rd : List Name) (hdst : ∀ t ∈ d, t < cf.n)
    (hok : ∀ s', (∀ p ∈ rd, s'.hp p = s.hp p) → (∀ y ∈ op.operands, ev s' y = ev s y) → AOk P cf { dst := d, op := op, type := ty, pos := pos, after := af, guard := g } s' [] (fun _ s2 => s2 = s'.putO d x)) (hk : E.run r (s.putO d x) (ns ++ [(rd, [], [])])) :
    E.stp { dst := d, op := op, type := ty, pos := pos, after := af, guard := g } r s ns .no := by
  rw [E.stp_eq]
  refine ⟨x, (rd, ef0), fun s' _ hh he B hB ds' β a w hds hs Q' => ?_, rfl, ?_, ?_⟩
  · refine Oper.wpIn_mono ?_ (hok s' hh he B hB ds' β a w hds hs Q')
    rintro a' w' ⟨hd', s2, β', hrun, hs2⟩
    obtain ⟨_, s3, β3, rfl, hs3⟩ := hrun B hB ds' β' a' w' hd' hs2
    exact ⟨hd', β3, by rw [go_putO]; exact hs3⟩
  · cases d with
    | none => trivial
    | some t => exact hdst t rfl
  · rw [← E.run_eq, go_putO]; exact hk
/-- A call in such a region. -/
theorem x_call {dst : Option Nat} {fv : Operand} {args : Array Operand} {at' : Array TypeId} {ty : TypeId} {pos : String} {af : Array Edge} {g : Option (Nat × Bool)}
    {f : FuncId} {caps : List AV} {ds : List D} {x : AV} (hc : HP P cf.G f ds (fun r => r = x))
    (hev : ev s fv = .clo f caps) (hargs : args.toList.map (ev s) ++ caps = ds.map .d) (hdst : ∀ t ∈ dst, t < cf.n) (hk : E.run r (s.putO dst x) (ns ++ [([], [], [])])) :
    E.stp { dst := dst, op := .call { callee := .value fv, args := args, argTypes := at' }, type := ty, pos := pos, after := af, guard := g } r s ns .no := by
  refine x_leaf E [] hdst (fun s' _ he => ?_) hk
  have hm : ∀ y, y = fv ∨ y ∈ args → ev s' y = ev s y := fun y hy => he y (by
    simp only [Op.operands, Call.operands]
    rcases hy with rfl | hy <;> simp_all)
  exact callP_ok (k := []) (Q := fun _ s2 => s2 = s'.putO dst x) hc ((hm fv (.inl rfl)).trans hev)
    (by rw [evs_cg (s := s) (s' := s') fun y hy => hm y (.inr (by simpa using hy))]; exact hargs) hdst (fun r hr => by subst hr; rw [run_nil])
theorem region_xv {id : Nat} {l : List Oper} {s : St} {k : List It} {Q : Exit → St → Prop} (hm : P.follows .mixedOrders = true) (E0 : Eng P cf Q) (h : ∀ E : XEng P cf l.toArray (fun s' ns => chk l.toArray ns = true ∧ E0.run k s'), E.run l s []) :
    CodeE E0 (.region id l.toArray true) s k := by
  refine region_x hm ?_
  have e : (fun s' ns => chk l.toArray ns = true ∧ E0.run k s') = fun s' ns => chk l.toArray ns = true ∧ run P cf k Q s' := by funext s' ns; rw [E0.run_eq]
  obtain ⟨E⟩ := xeng_ex P cf l.toArray (fun s' ns => chk l.toArray ns = true ∧ E0.run k s')
  have := h E
  rw [E.run_eq, e] at this
  exact this
end
section
variable {P : Program} {cf : Cf} {Q : Exit → St → Prop} {s : St} {k : List It} {c : Code}
/-- A loop whose rounds carry values and objects; behind a round they may stand under other names. -/
theorem loopT_e (E : Eng P cf Q) {X : Type} (I : X → List (Nat × AV)) (O : X → List (Name × Ob)) (u : List Nat) (μ : X → Nat) (x0 : X) (τ0 : Name → Name) (h0 : LeL cf.U τ0 s (I x0) (O x0) u)
    (hr : ∀ x, ∀ E' : Eng P cf (lqE E (fun s' => ∃ y, μ y < μ x ∧ ∃ τ, LeL cf.U τ s' (I y) (O y) u) k), E'.run [.code c] (mk (I x) (O x) u)) : CodeE E (.loop c) s k := by
  have := loopN_ok (P := P) (cf := cf) (c := c) (s := s) (k := k) (Q := Q) (fun x => mk (I x) (O x) u) μ (fun x s' => ∃ y, μ y < μ x ∧ ∃ τ, LeL cf.U τ s' (I y) (O y) u) ⟨x0, τ0, h0.le⟩ (fun _ _ ⟨y, hy, τ, h⟩ => ⟨y, hy, τ, h.le⟩) (fun x => by rw [← lqE_eq E]; exact veil (hr x))
  exact this
theorem tau_cons (q : Name × Name) (l : List (Name × Name)) (p : Name) : tau (q :: l) p = if p = q.1 then q.2 else tau l p := by
  unfold tau
  rw [lkA]
theorem tau_nil (p : Name) : tau [] p = p := rfl
attribute [go_sem] tau_cons tau_nil forall_eq forall_eq_or_imp
end
end Go.Ab
