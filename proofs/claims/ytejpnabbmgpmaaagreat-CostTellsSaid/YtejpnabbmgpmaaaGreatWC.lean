/-
  The generic layer, part 35: regions that draw their order and store: operations with their footprints. (with the parts that follow it) (with the parts that follow it)
-/
import Derived.Test.YtejpnabbmgpmaaaGreatWB
import Derived.Laws.StructEq
import Derived.Maps.RangeRun
set_option linter.unusedSimpArgs false
namespace Go.Ab
structure Ef where
  wr : List (Name × Option Ob) := []
  nu : List Nat := []
def ef0 : Ef := ⟨[], []⟩
def wl : List (Name × Option Ob) → Name → Option (Option Ob)
  | [], _ => none
  | q :: r, p => match wl r p with
    | some v => some v
    | none => if p = q.1 then some q.2 else none
def St.eff (s : St) (e : Ef) : St := { fr := s.fr, hp := fun p => (wl e.wr p).getD (s.hp p), used := e.nu ++ s.used }
def St.go (s : St) (d : Option Nat) (x : AV) (e : Ef) : St := (s.eff e).putd d x
theorem st_ext' {s s' : St} (h1 : ∀ p, s.hp p = s'.hp p) (h2 : s.used = s'.used) (h3 : ∀ t, s.fr t = s'.fr t) : s = s' := st_ext (funext h1) h2 h3
theorem eff_none (s : St) : s.eff ⟨[], []⟩ = s := st_ext' (fun _ => rfl) rfl fun _ => rfl
theorem eff_ef0 (s : St) : s.eff ef0 = s := eff_none s
theorem eff_set (s : St) (p : Name) (v : Option Ob) : s.eff ⟨[(p, v)], []⟩ = s.set p v := st_ext' (fun q => by
  show (wl [(p, v)] q).getD (s.hp q) = updP s.hp p v q
  simp only [wl, updP]
  split <;> rfl) rfl fun _ => rfl
theorem eff_add (s : St) (t : Nat) (o : Ob) : s.eff ⟨[([t], some o)], [t]⟩ = s.add t o := st_ext' (fun q => by
  show (wl [([t], some o)] q).getD (s.hp q) = updP s.hp [t] (some o) q
  simp only [wl, updP]
  split <;> rfl) rfl fun _ => rfl
theorem eff_app (s : St) (p : Name) (t : Nat) (o : Ob) : s.eff ⟨[(p, none), ([t], some o)], [t]⟩ = (s.set p none).add t o := st_ext' (fun q => by
  show (wl [(p, none), ([t], some o)] q).getD (s.hp q) = updP (updP s.hp p none) [t] (some o) q
  simp only [wl, updP]
  by_cases h : q = [t]
  · simp [h]
  · simp only [if_neg h]
    split <;> rfl) rfl fun _ => rfl
def rdA : AV → List Name
  | .vw p _ _ => [p]
  | .at p _ => [p]
  | .el p _ _ => [p]
  | .mp p => [p]
  | _ => []
def rdO (s : St) : Op → List Name
  | .load _ x => rdA (ev s x)
  | .fieldAddr _ x _ => rdA (ev s x)
  | .indexAddr _ x _ => rdA (ev s x)
  | .slice _ x _ _ _ => rdA (ev s x)
  | .store _ x _ => rdA (ev s x)
  | .call c => c.args.toList.flatMap fun x => rdA (ev s x)
  | _ => []
def storeE (i : TI) (s : St) (x v : AV) : R (Name × Ob) :=
  match x with
  | .at p c =>
    match s.hp p with
    | some (.boxT ty cs) => match cellsA v with
      | some vs => if i.k.isBad = false ∧ vs.length = i.sz ∧ c + i.sz ≤ cs.length then .ok (p, .boxT ty (splice cs c vs)) else .no
      | none => .no
    | _ => .no
  | .el p j c =>
    match s.hp p, v with
    | some (.arr w xs), .d y => match storeEl i w xs j c y with
      | some ys => .ok (p, .arr w ys)
      | none => .no
    | _, _ => .no
  | _ => .no
theorem storeE_eq (i : TI) (s : St) (x v : AV) : storeR i s x v = (storeE i s x v).bind fun q => .ok (s.set q.1 (some q.2)) := by
  cases x with
  | «at» p c =>
    simp only [storeR, storeE]
    cases s.hp p with
    | none => rfl
    | some o =>
      cases o with
      | boxT ty cs =>
        simp only
        cases cellsA v with
        | none => rfl
        | some vs => simp only; split <;> rfl
      | _ => rfl
  | el p j c =>
    simp only [storeR, storeE]
    cases s.hp p with
    | none => rfl
    | some o =>
      cases o with
      | arrT ty w xs =>
        rcases ty with _ | ty
        rotate_left
        · cases v <;> rfl
        cases v with
        | d y =>
          simp only
          cases storeEl i w xs j c y with
          | none => rfl
          | some ys => rfl
        | _ => rfl
      | _ => rfl
  | _ => rfl
def newE (d : Option Nat) (s : St) (wr : List (Name × Option Ob)) (ob : Ob) (x : Name → AV) : R (AV × Ef) :=
  match d with
  | some t => if t ∉ s.used then .ok (x [t], ⟨wr ++ [([t], some ob)], [t]⟩) else .no
  | none => .no
def appendE (e : TI) (d : Option Nat) (s : St) (x y : AV) : R (AV × Ef) :=
  match listOf e.w s.hp y, x with
  | some ys, .d .nils => .need (ys.length * e.by1 ≤ 140737488355328) (newE d s [] (.arr e.w ys) (.vw · 0 ys.length))
  | some ys, .vw p o l =>
    match s.hp p with
    | some (.arr w xs) => if w = e.w then .need ((l + ys.length) * e.by1 ≤ 140737488355328) (newE d s [(p, none)] (.arr w ((xs.drop o).take l ++ ys)) (.vw · 0 (l + ys.length))) else .no
    | _ => .no
  | _, _ => .no
def opE (tf : Nat → TI) (o : Op) (d : Option Nat) (s : St) : R (AV × Ef) :=
  match o with
  | .store t x v => (storeE (tf t) s (ev s x) (ev s v)).bind fun q => .ok (.un, ⟨[(q.1, some q.2)], []⟩)
  | .alloc e => match (tf e).z with
    | some cs => newE d s [] (.boxT (tagT tf e) (cs.map .d)) (.at · 0)
    | none => .no
  | .buildSlice t l parts =>
    match sliceE (tf t).k, partsD 0 (parts.toList.map fun q => (q.1, ev s q.2)) with
    | some e, some xs => if xs.length = l ∧ (tf e).z.isSome ∧ (tf e).isW (tf e).w ∧ xs.all (okWb (tf e).w) ∧ l * (tf e).sz ≤ 16777216 then newE d s [] (.arr (tf e).w xs) (.vw · 0 l) else .no
    | _, _ => .no
  | .call c => match c.callee, c.args.toList, c.argTypes.toList with
    | .builtin .append, [x, y], [t, t'] => if t ≠ t' then .no else match (tf t).k with
      | .slice e => if (tf e).zOk ∧ (tf e).isW (tf e).w then appendE (tf e) d s (ev s x) (ev s y) else .no
      | _ => .no
    | _, _, _ => (opV tf (.call c) s).bind fun x => .ok (x, ef0)
  | o => (opV tf o s).bind fun x => .ok (x, ef0)
theorem loadR_cg (i : TI) (hp hp' : Name → Option Ob) (x : AV) (h : ∀ p ∈ rdA x, hp' p = hp p) : loadR i hp' x = loadR i hp x := by
  cases x with
  | «at» p c => simp only [loadR, h p (by simp [rdA])]
  | el p j c => simp only [loadR, h p (by simp [rdA])]
  | d y => cases y <;> rfl
  | _ => rfl
theorem fieldAddrR_cg (i : TI) (tf : Nat → TI) (hp hp' : Name → Option Ob) (x : AV) (f : Nat) (h : ∀ p ∈ rdA x, hp' p = hp p) : fieldAddrR i tf hp' x f = fieldAddrR i tf hp x f := by
  unfold fieldAddrR
  cases i.k with
  | struct fs =>
    simp only
    cases fs[f]? with
    | none => rfl
    | some q =>
      simp only
      split
      · rfl
      · cases x with
        | «at» p c => simp only [h p (by simp [rdA])]
        | el p j c => simp only [h p (by simp [rdA])]
        | d y =>
          cases y with
          | ptr z => cases z <;> rfl
          | _ => rfl
        | _ => rfl
  | _ => rfl
theorem indexAddrR_cg (i : TI) (tf : Nat → TI) (hp hp' : Name → Option Ob) (x j : AV) (h : ∀ p ∈ rdA x, hp' p = hp p) : indexAddrR i tf hp' x j = indexAddrR i tf hp x j := by
  unfold indexAddrR
  cases i.k with
  | slice e =>
    cases x with
    | vw p o l =>
      cases j with
      | d y =>
        cases y with
        | int k n => simp only [h p (by simp [rdA])]
        | _ => rfl
      | _ => rfl
    | d y =>
      cases y <;> first
        | rfl
        | (cases j <;> first
            | rfl
            | (rename_i z; cases z <;> rfl))
    | _ => rfl
  | arr l e =>
    cases x with
    | el p i c =>
      cases j with
      | d y =>
        cases y with
        | int k n => simp only [h p (by simp [rdA])]
        | _ => rfl
      | _ => rfl
    | _ => rfl
  | _ => rfl
theorem sliceR_cg (i : TI) (tf : Nat → TI) (hp hp' : Name → Option Ob) (x : AV) (lo hi : Option AV) (h : ∀ p ∈ rdA x, hp' p = hp p) : sliceR i tf hp' x lo hi = sliceR i tf hp x lo hi := by
  unfold sliceR
  cases i.k with
  | slice e =>
    cases x with
    | vw p o l => simp only [h p (by simp [rdA])]
    | d y => cases y <;> rfl
    | _ => rfl
  | str =>
    cases x with
    | d y => cases y <;> rfl
    | _ => rfl
  | arr l e =>
    cases x with
    | el p i c => simp only [h p (by simp [rdA])]
    | _ => rfl
  | _ => rfl
theorem lenR_cg (i : TI) (hp hp' : Name → Option Ob) (x : AV) (h : ∀ p ∈ rdA x, hp' p = hp p) : lenR i hp' x = lenR i hp x := by
  unfold lenR
  cases i.k with
  | slice e =>
    cases x with
    | vw p o l => simp only [h p (by simp [rdA])]
    | d y => cases y <;> rfl
    | _ => rfl
  | map a b =>
    cases x with
    | mp p => simp only [h p (by simp [rdA])]
    | _ => rfl
  | str =>
    cases x with
    | d y => cases y <;> rfl
    | _ => rfl
  | _ => rfl
theorem storeE_cg (i : TI) (s s' : St) (x v : AV) (h : ∀ p ∈ rdA x, s'.hp p = s.hp p) : storeE i s' x v = storeE i s x v := by
  cases x with
  | vw p o l => simp only [storeE]
  | «at» p c => simp only [storeE, h p (by simp [rdA])]
  | el p j c => simp only [storeE, h p (by simp [rdA])]
  | mp p => simp only [storeE]
  | _ => rfl
theorem opV_cg2 (tf : Nat → TI) (o : Op) (s s' : St) (hh : ∀ p ∈ rdO s o, s'.hp p = s.hp p) (h : ∀ x ∈ o.operands, ev s' x = ev s x) : opV tf o s' = opV tf o s := by
  have e : opV tf o { s' with hp := s.hp } = opV tf o s := opV_cg tf o s { s' with hp := s.hp } rfl fun x hx => by
    have := h x hx
    cases x <;> exact this
  have hev : ∀ x, ev { s' with hp := s.hp } x = ev s' x := fun x => by cases x <;> rfl
  have hev' : ev { s' with hp := s.hp } = ev s' := funext hev
  rw [← e]
  cases o with
  | load t x =>
    simp only [opV, hev]
    exact loadR_cg _ _ _ _ (by rw [h x (by simp [Op.operands])]; exact hh)
  | fieldAddr t x f =>
    simp only [opV, hev]
    exact fieldAddrR_cg _ _ _ _ _ _ (by rw [h x (by simp [Op.operands])]; exact hh)
  | indexAddr t x j =>
    simp only [opV, hev]
    exact indexAddrR_cg _ _ _ _ _ _ (by rw [h x (by simp [Op.operands])]; exact hh)
  | slice t x lo hi mx =>
    cases mx with
    | some _ => rfl
    | none =>
      simp only [opV, hev']
      exact sliceR_cg _ _ _ _ _ _ _ (by rw [h x (by simp [Op.operands])]; exact hh)
  | call c =>
    obtain ⟨callee, args, ats⟩ := c
    cases callee with
    | value _ => rfl
    | invoke _ _ => rfl
    | builtin b =>
      obtain ⟨args⟩ := args
      obtain ⟨ats⟩ := ats
      simp only [opV, hev]
      split
      · rename_i x t
        exact lenR_cg _ _ _ _ (by rw [h x (by simp [Op.operands, Call.operands])]; exact fun p hp => hh p (by simp [rdO, hp]))
      · rfl
      · rfl
      · rfl
  | _ => simp only [opV, hev, hev']
def ylE : R (AV × Ef) → AV × Ef → Prop
  | .ok y, x => y = x
  | .need p r, x => p ∧ ylE r x
  | .no, _ => False
theorem newE_cg {d : Option Nat} {s s' : St} {wr : List (Name × Option Ob)} {ob : Ob} {x : Name → AV} {r : AV × Ef} (h : ylE (newE d s wr ob x) r) (hu : ∀ y ∈ r.2.nu, y ∉ s'.used) : ylE (newE d s' wr ob x) r := by
  unfold newE at h ⊢
  cases d with
  | none => exact h
  | some t =>
    simp only at h ⊢
    split at h
    · have h : (x [t], (⟨wr ++ [([t], some ob)], [t]⟩ : Ef)) = r := h
      subst h
      rw [if_pos (hu t (by simp))]
      exact rfl
    · exact h.elim
theorem newE_fresh {d : Option Nat} {s : St} {wr : List (Name × Option Ob)} {ob : Ob} {x : Name → AV} {r : AV × Ef} (h : ylE (newE d s wr ob x) r) : ∀ y ∈ r.2.nu, y ∉ s.used := by
  unfold newE at h
  cases d with
  | none => exact h.elim
  | some t =>
    simp only at h
    split at h
    · rename_i ht
      have h : (x [t], (⟨wr ++ [([t], some ob)], [t]⟩ : Ef)) = r := h
      subst h
      simpa using ht
    · exact h.elim
theorem newE_run {n : Nat} {d : Option Nat} {s : St} {ob : Ob} {x : Name → AV} {r : AV × Ef} (hd : dOk n d) (h : ylE (newE d s [] ob x) r) : (newR n d s ob x).run (fun s2 => s2 = s.go d r.1 r.2) False := by
  unfold newE at h
  cases d with
  | none => exact h.elim
  | some t =>
    simp only at h
    split at h
    · rename_i ht
      have h : (x [t], (⟨[] ++ [([t], some ob)], [t]⟩ : Ef)) = r := h
      subst h
      have hd : t < n := hd
      simp only [newR, hd, ht, not_false_eq_true, and_self, if_true, R.run]
      show _ = (s.eff _).putd _ _
      rw [List.nil_append, eff_add]
      rfl
    · exact h.elim
theorem newE_run' {n : Nat} {d : Option Nat} {s : St} {p : Name} {ob : Ob} {x : Name → AV} {r : AV × Ef} (hd : dOk n d) (h : ylE (newE d s [(p, none)] ob x) r) : (newR n d (s.set p none) ob x).run (fun s2 => s2 = s.go d r.1 r.2) False := by
  unfold newE at h
  cases d with
  | none => exact h.elim
  | some t =>
    simp only at h
    split at h
    · rename_i ht
      have h : (x [t], (⟨[(p, none)] ++ [([t], some ob)], [t]⟩ : Ef)) = r := h
      subst h
      have hd : t < n := hd
      have ht' : t ∉ (s.set p none).used := ht
      simp only [newR, hd, ht', not_false_eq_true, and_self, if_true, R.run]
      show _ = (s.eff _).putd _ _
      rw [List.cons_append, List.nil_append, eff_app]
      rfl
    · exact h.elim
theorem listOf_cg (w : W) (hp hp' : Name → Option Ob) (x : AV) (h : ∀ p ∈ rdA x, hp' p = hp p) : listOf w hp' x = listOf w hp x := by
  cases x with
  | vw p o l => simp only [listOf, h p (by simp [rdA])]
  | d y => cases y <;> rfl
  | _ => rfl
theorem appendE_cg {e : TI} {d : Option Nat} {s s' : St} {x y : AV} {r : AV × Ef} (hx : ∀ p ∈ rdA x, s'.hp p = s.hp p) (hy : ∀ p ∈ rdA y, s'.hp p = s.hp p) (h : ylE (appendE e d s x y) r) (hu : ∀ z ∈ r.2.nu, z ∉ s'.used) : ylE (appendE e d s' x y) r := by
  unfold appendE at h ⊢
  rw [listOf_cg e.w s.hp s'.hp y hy]
  cases hl : listOf e.w s.hp y with
  | none => rw [hl] at h; exact h.elim
  | some ys =>
    rw [hl] at h
    cases x with
    | vw p o l =>
      simp only at h ⊢
      rw [hx p (by simp [rdA])]
      cases hp : s.hp p with
      | none => rw [hp] at h; exact h.elim
      | some ob =>
        rw [hp] at h
        cases ob with
        | arrT ty w xs =>
          rcases ty with _ | ty
          rotate_left
          · exact h.elim
          simp only at h ⊢
          split at h
          · rename_i hw
            rw [if_pos hw]
            exact ⟨h.1, newE_cg h.2 hu⟩
          · exact h.elim
        | _ => exact h.elim
    | d z =>
      cases z with
      | nils => exact ⟨h.1, newE_cg h.2 hu⟩
      | _ => exact h.elim
    | _ => exact h.elim
theorem appendE_fresh {e : TI} {d : Option Nat} {s : St} {x y : AV} {r : AV × Ef} (h : ylE (appendE e d s x y) r) : ∀ z ∈ r.2.nu, z ∉ s.used := by
  unfold appendE at h
  cases hl : listOf e.w s.hp y with
  | none => rw [hl] at h; exact h.elim
  | some ys =>
    rw [hl] at h
    cases x with
    | vw p o l =>
      simp only at h
      cases hp : s.hp p with
      | none => rw [hp] at h; exact h.elim
      | some ob =>
        rw [hp] at h
        cases ob with
        | arrT ty w xs =>
          rcases ty with _ | ty
          rotate_left
          · exact h.elim
          simp only at h
          split at h
          · exact newE_fresh h.2
          · exact h.elim
        | _ => exact h.elim
    | d z =>
      cases z with
      | nils => exact newE_fresh h.2
      | _ => exact h.elim
    | _ => exact h.elim
theorem appendE_run {n : Nat} {e : TI} {d : Option Nat} {s : St} {x y : AV} {r : AV × Ef} (hd : dOk n d) (h : ylE (appendE e d s x y) r) : (appendR n e d s x y).run (fun s2 => s2 = s.go d r.1 r.2) False := by
  unfold appendE at h
  unfold appendR
  cases hl : listOf e.w s.hp y with
  | none => rw [hl] at h; exact h.elim
  | some ys =>
    rw [hl] at h
    cases x with
    | vw p o l =>
      simp only at h ⊢
      cases hp : s.hp p with
      | none => rw [hp] at h; exact h.elim
      | some ob =>
        rw [hp] at h
        cases ob with
        | arrT ty w xs =>
          rcases ty with _ | ty
          rotate_left
          · exact h.elim
          simp only at h ⊢
          split at h
          · rename_i hw
            rw [if_pos hw]
            exact ⟨h.1, newE_run' hd h.2⟩
          · exact h.elim
        | _ => exact h.elim
    | d z =>
      cases z with
      | nils => exact ⟨h.1, newE_run hd h.2⟩
      | _ => exact h.elim
    | _ => exact h.elim
theorem ylE_bind {α : Type} {x : AV × Ef} {g : α → AV × Ef} {f : α → R St} {k : St → Prop} {z : Prop} (hf : ∀ a, g a = x → (f a).run k z) : ∀ {r : R α}, ylE (r.bind fun a => .ok (g a)) x → (r.bind f).run k z
  | .ok a, h => hf a h
  | .need _ _, h => ⟨h.1, ylE_bind hf h.2⟩
  | .no, h => h.elim
theorem ylE_bind_nu {α : Type} {x : AV × Ef} {g : α → AV × Ef} (hg : ∀ a, (g a).2.nu = []) : ∀ {r : R α}, ylE (r.bind fun a => .ok (g a)) x → x.2.nu = []
  | .ok a, h => by have h : g a = x := h; subst h; exact hg a
  | .need p r, h => ylE_bind_nu hg h.2
  | .no, h => h.elim
def Call.isApp (c : Call) : Bool := match c.callee, c.args.toList, c.argTypes.toList with
  | .builtin .append, [_, _], [_, _] => true
  | _, _, _ => false
theorem opE_call' {tf : Nat → TI} {c : Call} {d : Option Nat} {s : St} (h : Call.isApp c = false) : opE tf (.call c) d s = (opV tf (.call c) s).bind fun x => .ok (x, ef0) := by
  obtain ⟨callee, args, ats⟩ := c
  obtain ⟨args⟩ := args
  obtain ⟨ats⟩ := ats
  unfold opE
  simp only
  split
  · simp [Call.isApp] at h
  · rfl
theorem opE_app {c : Call} (h : Call.isApp c = true) : ∃ x y t t', c = { callee := .builtin .append, args := [x, y].toArray, argTypes := [t, t'].toArray } := by
  obtain ⟨callee, args, ats⟩ := c
  obtain ⟨args⟩ := args
  obtain ⟨ats⟩ := ats
  unfold Call.isApp at h
  simp only at h
  split at h
  · exact ⟨_, _, _, _, rfl⟩
  · cases h
theorem opE_cg {tf : Nat → TI} {o : Op} {d : Option Nat} {s s' : St} {r : AV × Ef} (hh : ∀ p ∈ rdO s o, s'.hp p = s.hp p) (h : ∀ x ∈ o.operands, ev s' x = ev s x) (hy : ylE (opE tf o d s) r) (hu : ∀ y ∈ r.2.nu, y ∉ s'.used) : ylE (opE tf o d s') r := by
  cases o with
  | store t x v =>
    simp only [opE] at hy ⊢
    rw [h x (by simp [Op.operands]), h v (by simp [Op.operands]), storeE_cg _ s s' _ _ hh]
    exact hy
  | alloc e =>
    simp only [opE] at hy ⊢
    split at hy
    · exact newE_cg hy hu
    · exact hy.elim
  | buildSlice t l parts =>
    have : (parts.toList.map fun q => (q.1, ev s' q.2)) = parts.toList.map fun q => (q.1, ev s q.2) :=
      List.map_congr_left fun q hq => by rw [h q.2 (by simp only [Op.operands, List.mem_toArray, List.mem_map]; exact ⟨q, hq, rfl⟩)]
    simp only [opE, this] at hy ⊢
    split at hy
    · split at hy
      · rename_i hc
        rw [if_pos hc]
        exact newE_cg hy hu
      · exact hy.elim
    · exact hy.elim
  | call c =>
    cases hc : Call.isApp c with
    | false =>
      rw [opE_call' hc] at hy ⊢
      rw [opV_cg2 tf _ s s' hh h]
      exact hy
    | true =>
      obtain ⟨x, y, t, t', rfl⟩ := opE_app hc
      have ex : ev s' x = ev s x := h x (by simp [Op.operands, Call.operands])
      have ey : ev s' y = ev s y := h y (by simp [Op.operands, Call.operands])
      simp only [opE] at hy ⊢
      split at hy
      · exact hy.elim
      · rename_i ht
        rw [if_neg ht]
        split at hy
        · split at hy
          · rename_i e hk hz
            rw [if_pos hz, ex, ey]
            exact appendE_cg (fun p hp => hh p (by simp [rdO, hp])) (fun p hp => hh p (by simp [rdO, hp])) hy hu
          · exact hy.elim
        · exact hy.elim
  | _ =>
    simp only [opE] at hy ⊢
    rw [opV_cg2 tf _ s s' hh h]
    exact hy
theorem opE_fresh {tf : Nat → TI} {o : Op} {d : Option Nat} {s : St} {r : AV × Ef} (hy : ylE (opE tf o d s) r) : ∀ y ∈ r.2.nu, y ∉ s.used := by
  have none : r.2.nu = [] → ∀ y ∈ r.2.nu, y ∉ s.used := fun h y hy => by rw [h] at hy; cases hy
  cases o with
  | store t x v => exact none (ylE_bind_nu (g := fun q : Name × Ob => (AV.un, (⟨[(q.1, some q.2)], []⟩ : Ef))) (fun _ => rfl) hy)
  | alloc e =>
    simp only [opE] at hy
    split at hy
    · exact newE_fresh hy
    · exact hy.elim
  | buildSlice t l parts =>
    simp only [opE] at hy
    split at hy
    · split at hy
      · exact newE_fresh hy
      · exact hy.elim
    · exact hy.elim
  | call c =>
    cases hc : Call.isApp c with
    | false =>
      rw [opE_call' hc] at hy
      exact none (ylE_bind_nu (g := fun a : AV => (a, ef0)) (fun _ => rfl) hy)
    | true =>
      obtain ⟨x, y, t, t', rfl⟩ := opE_app hc
      simp only [opE] at hy
      split at hy
      · exact hy.elim
      · split at hy
        · split at hy
          · exact appendE_fresh hy
          · exact hy.elim
        · exact hy.elim
  | _ => exact none (ylE_bind_nu (g := fun a : AV => (a, ef0)) (fun _ => rfl) hy)
def qvE (r : R (AV × Ef)) (f : AV × Ef → Prop) (z : Prop) : Prop :=
  match r with
  | .ok x => f x
  | .need p r => p ∧ qvE r f z
  | .no => z
theorem qvE_yl {f : AV × Ef → Prop} {z : Prop} : ∀ {r : R (AV × Ef)}, qvE r f z → (∃ x, ylE r x ∧ f x) ∨ z
  | .ok x, h => .inl ⟨x, rfl, h⟩
  | .no, h => .inr h
  | .need p r, h => by
    rcases qvE_yl (r := r) h.2 with ⟨x, h1, h2⟩ | hz
    · exact .inl ⟨x, ⟨h.1, h1⟩, h2⟩
    · exact .inr hz
theorem opV_opR' {tf : Nat → TI} {n : Nat} {o : Op} {d : Option Nat} {s : St} {x : AV × Ef} (h : ylE ((opV tf o s).bind fun x => .ok (x, ef0)) x) : opR tf n o d s = (opV tf o s).bind (putR n d s) := by
  rcases opV_opR tf n o d s with e | e
  · rw [e] at h; exact h.elim
  · exact e
theorem opE_run {tf : Nat → TI} {n : Nat} {o : Op} {d : Option Nat} {s : St} {x : AV × Ef} (hd : dOk n d) (h : ylE (opE tf o d s) x) : (opR tf n o d s).run (fun s2 => s2 = s.go d x.1 x.2) False := by
  have hput : ∀ (s1 : St) (v : AV), (putR n d s1 v).run (fun s2 => s2 = s1.putd d v) False := fun s1 v => by
    cases d with
    | none => exact rfl
    | some t => simp [putR, show t < n from hd, R.run, St.putd]
  have quiet : ylE ((opV tf o s).bind fun x => .ok (x, ef0)) x → (opR tf n o d s).run (fun s2 => s2 = s.go d x.1 x.2) False := fun h => by
    rw [opV_opR' h]
    exact ylE_bind (g := fun a => (a, ef0)) (fun a ha => by
      subst ha
      show (putR n d s a).run (fun s2 => s2 = (s.eff ef0).putd d a) False
      rw [eff_ef0]
      exact hput _ _) h
  cases o with
  | store t a b =>
    simp only [opR, storeE_eq]
    simp only [opE] at h
    have key : ∀ r : R (Name × Ob), ylE (r.bind fun q => .ok (.un, ⟨[(q.1, some q.2)], []⟩)) x → ((r.bind fun q => .ok (s.set q.1 (some q.2))).bind fun s' => putR n d s' .un).run (fun s2 => s2 = s.go d x.1 x.2) False := by
      intro r
      induction r with
      | ok q =>
        intro h
        have h : (AV.un, (⟨[(q.1, some q.2)], []⟩ : Ef)) = x := h
        subst h
        show (putR n d (s.set q.1 (some q.2)) .un).run (fun s2 => s2 = (s.eff ⟨[(q.1, some q.2)], []⟩).putd d .un) False
        rw [eff_set]
        exact hput _ _
      | need p r ih => exact fun h => ⟨h.1, ih h.2⟩
      | no => exact fun h => h.elim
    exact key _ h
  | alloc e =>
    simp only [opE] at h
    simp only [opR]
    split at h
    · rename_i cs hz
      rw [hz]
      exact newE_run hd h
    · exact h.elim
  | buildSlice t l parts =>
    simp only [opE] at h
    simp only [opR]
    split at h
    · rename_i e xs h1 h2
      rw [h1, h2]
      split at h
      · rename_i hc
        simp only [if_pos hc]
        exact newE_run hd h
      · exact h.elim
    · exact h.elim
  | call c =>
    cases hc : Call.isApp c with
    | false =>
      rw [opE_call' hc] at h
      exact quiet h
    | true =>
      obtain ⟨a, b, t, t', rfl⟩ := opE_app hc
      simp only [opE] at h
      simp only [opR, builtinR, List.map_cons, List.map_nil]
      split at h
      · exact h.elim
      · rename_i ht
        rw [if_neg ht]
        split at h
        · rename_i e hk
          rw [hk]
          split at h
          · rename_i hz
            simp only [if_pos hz]
            exact appendE_run hd h
          · exact h.elim
        · exact h.elim
  | _ => exact quiet h
section
variable (P : Program) (cf : Cf) (ops : Array Oper)
abbrev Fp := List Name × Ef
abbrev Ns := List (List Name × List Name × List Nat)
def QE (o : Oper) (s : St) (x : AV) (f : Fp) : Prop := ∀ s', (∀ y ∈ f.2.nu, y ∉ s'.used) → (∀ p ∈ f.1, s'.hp p = s.hp p) → (∀ y ∈ o.op.operands, ev s' y = ev s y) →
  ∀ B, cf.fits B → ∀ ds β a w, a.defers = ds → Sim B β s' a.tmps w → ∀ Q', o.wpIn (Fw cf.ro) 0 P a w (fun a' w' => a'.defers = ds ∧ ∃ β', Sim B β' (s'.go o.dst x f.2) a'.tmps w') Q'
def fpN (f : Fp) : List Name × List Name × List Nat := (f.1, f.2.wr.map (·.1), f.2.nu)
def xrun (K : St → Ns → Prop) : List Oper → St → Ns → Prop
  | [], s, ns => K s ns
  | o :: r, s, ns =>
    match o.guard with
    | none => qvE (opE P.ti o.op o.dst s) (fun x => dOk cf.n o.dst ∧ xrun K r (s.go o.dst x.1 x.2) (ns ++ [fpN (rdO s o.op, x.2)])) (∃ x f, QE P cf o s x f ∧ (∀ y ∈ f.2.nu, y ∉ s.used) ∧ dOk cf.n o.dst ∧ xrun K r (s.go o.dst x f.2) (ns ++ [fpN f]))
    | some (j, want) =>
      match guardV ops j s with
      | some (t, .d (.bool b)) =>
        (b = want → qvE (opE P.ti o.op o.dst (s.put t (.d (.bool want)))) (fun x => dOk cf.n o.dst ∧ xrun K r ((s.put t (.d (.bool want))).go o.dst x.1 x.2) (ns ++ [fpN (rdO (s.put t (.d (.bool want))) o.op, x.2)])) (∃ x f, QE P cf o (s.put t (.d (.bool want))) x f ∧ (∀ y ∈ f.2.nu, y ∉ (s.put t (.d (.bool want))).used) ∧ dOk cf.n o.dst ∧ xrun K r ((s.put t (.d (.bool want))).go o.dst x f.2) (ns ++ [fpN f]))) ∧
        (b = !want → dOk cf.n o.dst ∧ xrun K r ((s.put t (.d (.bool (!want)))).go o.dst (.tup []) ef0) (ns ++ [([], [], [])]))
      | some (_, .tup []) => dOk cf.n o.dst ∧ xrun K r (s.go o.dst (.tup []) ef0) (ns ++ [([], [], [])])
      | _ => False
def agE (l : List Nat) (f : Fp) (s s' : St) : Prop := (∀ y ∈ f.2.nu, y ∉ s'.used) ∧ (∀ p ∈ f.1, s'.hp p = s.hp p) ∧ ∀ t ∈ l, s'.fr t = s.fr t
def FactE (i : Nat) (o : Oper) (s : St) (x : AV) (f : Fp) : Prop := (∀ y ∈ f.2.nu, y ∉ s.used) ∧ ∀ s', agE (o.looksAt ops) f s s' → ∀ B, cf.fits B → ∀ ds β a w, a.defers = ds → Sim B β s' a.tmps w → ∀ Q',
  wpOpIn (Fw cf.ro) 0 P ops Q' i (fun a' w' => a'.defers = ds ∧ ∃ β', Sim B β' (s'.go o.dst x f.2) a'.tmps w') a w
variable {P cf ops}
theorem looksE_ev {o : Oper} {f : Fp} {s s' : St} (h : agE (o.looksAt ops) f s s') : ∀ y ∈ o.op.operands, ev s' y = ev s y := fun y hy =>
  ev_cg fun t ht => h.2.2 t (by subst ht; exact List.mem_append_left _ (List.mem_filterMap.2 ⟨.tmp t, by simpa using hy, rfl⟩))
theorem QE_of_op {o : Oper} {s : St} {x : AV × Ef} (h : ylE (opE P.ti o.op o.dst s) x) (hd : dOk cf.n o.dst) : QE P cf o s x.1 (rdO s o.op, x.2) := by
  intro s' hu hh he B hB ds β a w hds hs Q'
  have e := opE_cg hh he h hu
  have hr := opE_run (n := B.n) (d := o.dst) (s := s') (by rw [hB.1]; exact hd) e
  rcases opR_sound hs hr with hz | ⟨nx, v, w', s2, β', hrun, hnx, rfl, hsim⟩
  · exact hz.elim
  · have hnd : ∀ c, o.op ≠ .defer c := by
      intro c hc
      rw [hc] at h
      exact h.elim
    exact wpIn_of_run hnd hrun hnx ⟨by cases o.dst <;> exact hds, β', hsim⟩
theorem go_ef0 (s : St) (d : Option Nat) (x : AV) : s.go d x ef0 = s.putd d x := by unfold St.go; rw [eff_ef0]
theorem factE_skip {i : Nat} {o : Oper} {s : St} (hi : ops[i]? = some o) (hd : dOk cf.n o.dst) (hw : ∀ (B : Base) (β : Name → Option Blk) s' tm w, agE (o.looksAt ops) ([], ef0) s s' → Sim B β s' tm w → Region.wanted o (yielded ops tm) = false) : FactE P cf ops i o s (.tup []) ([], ef0) := by
  refine ⟨fun y hy => (by cases hy), fun s' hag B hB ds β a w hds hs Q' => ?_⟩
  unfold wpOpIn
  simp only [hi, hw B β s' a.tmps w hag hs, Bool.false_eq_true, if_false]
  refine ⟨fun _ _ => trivial, by cases o.dst <;> exact hds, β, ?_⟩
  rw [go_ef0]
  refine hs.putd (fun t ht => ?_) (.tup #[] [] rfl (by simp))
  rw [ht] at hd
  rw [hB.1]; exact hd
theorem factE_do {i : Nat} {o : Oper} {s : St} {x : AV} {f : Fp} (hi : ops[i]? = some o) (hf : ∀ y ∈ f.2.nu, y ∉ s.used) (hw : ∀ (B : Base) (β : Name → Option Blk) s' tm w, agE (o.looksAt ops) f s s' → Sim B β s' tm w → Region.wanted o (yielded ops tm) = true) (h : QE P cf o s x f) : FactE P cf ops i o s x f := by
  refine ⟨hf, fun s' hag B hB ds β a w hds hs Q' => ?_⟩
  unfold wpOpIn
  simp only [hi, hw B β s' a.tmps w hag hs, if_true]
  exact h s' hag.1 hag.2.1 (looksE_ev hag) B hB ds β a w hds hs Q'
theorem xrun_one {K : St → Ns → Prop} {i : Nat} {o : Oper} {r : List Oper} {s : St} {ns : Ns} (hi : ops[i]? = some o) (h : xrun P cf ops K (o :: r) s ns) : ∃ x f, FactE P cf ops i o s x f ∧ xrun P cf ops K r (s.go o.dst x f.2) (ns ++ [fpN f]) := by
  unfold xrun at h
  have go : ∀ s1, s1 = s → (∀ (f : Fp) (B : Base) (β : Name → Option Blk) s' tm w, agE (o.looksAt ops) f s s' → Sim B β s' tm w → Region.wanted o (yielded ops tm) = true) →
      qvE (opE P.ti o.op o.dst s1) (fun x => dOk cf.n o.dst ∧ xrun P cf ops K r (s1.go o.dst x.1 x.2) (ns ++ [fpN (rdO s1 o.op, x.2)])) (∃ x f, QE P cf o s1 x f ∧ (∀ y ∈ f.2.nu, y ∉ s1.used) ∧ dOk cf.n o.dst ∧ xrun P cf ops K r (s1.go o.dst x f.2) (ns ++ [fpN f])) →
      ∃ x f, FactE P cf ops i o s x f ∧ xrun P cf ops K r (s.go o.dst x f.2) (ns ++ [fpN f]) := by
    rintro s1 rfl hw h
    rcases qvE_yl h with ⟨x, h1, hd, h2⟩ | ⟨x, f, h1, hn, _, h2⟩
    · exact ⟨x.1, _, factE_do hi (opE_fresh h1) (hw _) (QE_of_op h1 hd), h2⟩
    · exact ⟨x, f, factE_do hi hn (hw _) h1, h2⟩
  cases hg : o.guard with
  | none =>
    rw [hg] at h
    exact go s rfl (fun _ _ _ _ _ _ _ _ => by simp [Region.wanted, hg]) h
  | some q =>
    obtain ⟨j, want⟩ := q
    rw [hg] at h
    simp only at h
    split at h
    · rename_i t b hgv
      obtain ⟨oj, hj, hjd, hjt⟩ := guardV_spec hgv
      have hl := guard_looks hg hj hjd
      by_cases hb : b = want
      · have e : s.put t (.d (.bool want)) = s := put_same (by rw [hjt, hb])
        have h1 := h.1 hb
        rw [e] at h1
        refine go s rfl (fun f B β s' tm w hag hs => ?_) h1
        have := yielded_bool hs hj hjd ((hag.2.2 t hl).trans hjt)
        simp [Region.wanted, hg, this, hb]
      · have hbn : b = !want := by cases b <;> cases want <;> simp_all
        have e : s.put t (.d (.bool (!want))) = s := put_same (by rw [hjt, hbn])
        obtain ⟨hd, h2⟩ := h.2 hbn
        rw [e] at h2
        refine ⟨_, _, factE_skip hi hd (fun B β s' tm w hag hs => ?_), h2⟩
        have := yielded_bool hs hj hjd ((hag.2.2 t hl).trans hjt)
        simp [Region.wanted, hg, this, hb]
    · rename_i t hgv
      obtain ⟨oj, hj, hjd, hjt⟩ := guardV_spec hgv
      have hl := guard_looks hg hj hjd
      refine ⟨_, _, factE_skip hi h.1 (fun B β s' tm w hag hs => ?_), h.2⟩
      have := yielded_none hs hj hjd ((hag.2.2 t hl).trans hjt)
      simp [Region.wanted, hg, this]
    · exact h.elim
end
end Go.Ab
namespace Go.Ab
theorem Sim.reuse {B : Base} {β : Name → Option Blk} {s s2 : St} {tm : Array Value} {w : World} (h : Sim B β s tm w) (h1 : s2.hp = s.hp) (h2 : s2.fr = s.fr) (h3 : ∀ y, y ∈ s.used ↔ y ∈ s2.used) : Sim B β s2 tm w := by
  obtain ⟨fr, hp, us⟩ := s
  obtain ⟨fr2, hp2, us2⟩ := s2
  simp only at h1 h2 h3
  subst h1; subst h2
  have hst : ∀ p, nm us p → Stays hp2 hp2 β β p := fun p _ o ho => ⟨o, ho, Ob.like_refl _, rfl⟩
  have hu : ∀ x ∈ us, x ∈ us2 := fun x hx => (h3 x).1 hx
  exact { tms := h.tms, io := h.io, size := h.size, frame := h.frame, slots := fun t => (h.slots t).mono (fun _ _ h => h) hu hst, objs := fun p o ho => ⟨(h.objs p o ho).1.mono hu, (h.objs p o ho).2.mono (fun _ _ h => h) hu hst rfl fun _ _ => rfl⟩, blocks := h.blocks, inj := h.inj, us := fun x hx => hu x (h.us x hx), stay := h.stay }
section
variable {P : Program} {cf : Cf} {ops : Array Oper}
def layE (ops : Array Oper) (xs : Nat → AV) (fs : Nat → Fp) : List Nat → St → St
  | [], s => s
  | i :: l, s => layE ops xs fs l (s.go (dstOf ops i) (xs i) (fs i).2)
theorem layE_snoc (xs : Nat → AV) (fs : Nat → Fp) (i : Nat) : ∀ (l : List Nat) (s : St), layE ops xs fs (l ++ [i]) s = (layE ops xs fs l s).go (dstOf ops i) (xs i) (fs i).2
  | [], _ => rfl
  | j :: l, s => by rw [List.cons_append, layE, layE_snoc xs fs i l, layE]
theorem go_used (s : St) (d : Option Nat) (x : AV) (e : Ef) : (s.go d x e).used = e.nu ++ s.used := by
  unfold St.go
  rw [putd_used]
  rfl
theorem go_fr (s : St) (d : Option Nat) (x : AV) (e : Ef) (t : Nat) : (s.go d x e).fr t = if d = some t then x else s.fr t := by
  unfold St.go
  cases d with
  | none => simp [St.putd, St.eff]
  | some u =>
    show updN _ _ _ _ = _
    simp only [updN, Option.some.injEq]
    by_cases h : t = u
    · rw [if_pos h, if_pos h.symm]
    · rw [if_neg h, if_neg (fun e => h e.symm)]
      rfl
theorem go_hp (s : St) (d : Option Nat) (x : AV) (e : Ef) (p : Name) : (s.go d x e).hp p = (wl e.wr p).getD (s.hp p) := by
  unfold St.go
  rw [putd_hp]
  rfl
theorem wl_mem : ∀ {wr : List (Name × Option Ob)} {p : Name} {v : Option Ob}, wl wr p = some v → p ∈ wr.map (·.1)
  | [], _, _, h => by cases h
  | q :: r, p, v, h => by
    unfold wl at h
    cases hr : wl r p with
    | some u => exact List.mem_cons_of_mem _ (wl_mem hr)
    | none =>
      rw [hr] at h
      simp only at h
      split at h
      · rename_i e; rw [e]; exact List.mem_cons_self
      · cases h
structure OKE (ops : Array Oper) (xs : Nat → AV) (fs : Nat → Fp) (s : St) (L : List Nat) (s' : St) : Prop where
  used : ∀ y, y ∈ s'.used ↔ y ∈ s.used ∨ ∃ k ∈ L, y ∈ (fs k).2.nu
  slot : ∀ t, (∃ k ∈ L, dstOf ops k = some t ∧ s'.fr t = xs k) ∨ ((∀ k ∈ L, dstOf ops k ≠ some t) ∧ s'.fr t = s.fr t)
  heap : ∀ p, (∃ k ∈ L, ∃ v, wl (fs k).2.wr p = some v ∧ (∀ k' ∈ L, (∃ v', wl (fs k').2.wr p = some v') → k' ≤ k) ∧ s'.hp p = v) ∨ ((∀ k ∈ L, wl (fs k).2.wr p = none) ∧ s'.hp p = s.hp p)
theorem OKE.nil (xs : Nat → AV) (fs : Nat → Fp) (s : St) : OKE ops xs fs s [] s := ⟨fun _ => by simp, fun _ => .inr ⟨by simp, rfl⟩, fun _ => .inr ⟨by simp, rfl⟩⟩
theorem OKE.snoc {xs : Nat → AV} {fs : Nat → Fp} {s s' : St} {L : List Nat} {i : Nat} (h : OKE ops xs fs s L s') (hw : ∀ k ∈ L, ∀ p v v', wl (fs k).2.wr p = some v → wl (fs i).2.wr p = some v' → k ≤ i) :
    OKE ops xs fs s (L ++ [i]) (s'.go (dstOf ops i) (xs i) (fs i).2) := by
  refine ⟨fun y => ?_, fun t => ?_, fun p => ?_⟩
  · rw [go_used, List.mem_append, h.used y]
    constructor
    · rintro (h1 | h1 | ⟨k, hk, h1⟩)
      · exact .inr ⟨i, by simp, h1⟩
      · exact .inl h1
      · exact .inr ⟨k, List.mem_append_left _ hk, h1⟩
    · rintro (h1 | ⟨k, hk, h1⟩)
      · exact .inr (.inl h1)
      · rcases List.mem_append.1 hk with hk | hk
        · exact .inr (.inr ⟨k, hk, h1⟩)
        · rw [List.mem_singleton.1 hk] at h1; exact .inl h1
  · rw [go_fr]
    by_cases hd : dstOf ops i = some t
    · exact .inl ⟨i, by simp, hd, by rw [if_pos hd]⟩
    · rw [if_neg hd]
      rcases h.slot t with ⟨k, hk, h1, h2⟩ | ⟨h1, h2⟩
      · exact .inl ⟨k, List.mem_append_left _ hk, h1, h2⟩
      · refine .inr ⟨fun k hk => ?_, h2⟩
        rcases List.mem_append.1 hk with hk | hk
        · exact h1 k hk
        · rw [List.mem_singleton.1 hk]; exact hd
  · rw [go_hp]
    cases he : wl (fs i).2.wr p with
    | some o =>
      refine .inl ⟨i, by simp, o, he, fun k' hk' ⟨o', ho'⟩ => ?_, rfl⟩
      rcases List.mem_append.1 hk' with hk' | hk'
      · exact hw k' hk' p o' o ho' he
      · rw [List.mem_singleton.1 hk']; exact Nat.le_refl _
    | none =>
      show _ ∨ (_ ∧ s'.hp p = _)
      rcases h.heap p with ⟨k, hk, o, h1, h2, h3⟩ | ⟨h1, h2⟩
      · refine .inl ⟨k, List.mem_append_left _ hk, o, h1, fun k' hk' ho' => ?_, h3⟩
        rcases List.mem_append.1 hk' with hk' | hk'
        · exact h2 k' hk' ho'
        · rw [List.mem_singleton.1 hk', he] at ho'
          obtain ⟨_, ho'⟩ := ho'
          cases ho'
      · refine .inr ⟨fun k hk => ?_, h2⟩
        rcases List.mem_append.1 hk with hk | hk
        · exact h1 k hk
        · rw [List.mem_singleton.1 hk]; exact he
inductive Anc (ops : Array Oper) : Nat → Nat → Prop
  | one {i : Nat} {o : Oper} {e : Edge} (ho : ops[i]? = some o) (he : e ∈ o.after) (hb : Region.binds .any e = true) : Anc ops i e.on
  | tr {i : Nat} {o : Oper} {e : Edge} {k : Nat} (ho : ops[i]? = some o) (he : e ∈ o.after) (hb : Region.binds .any e = true) (h : Anc ops e.on k) : Anc ops i k
def ancNew (acc : List (List Nat)) (o : Oper) : List Nat := ((o.after.toList.filter (Region.binds .any)).flatMap fun e => e.on :: acc.getD e.on []).eraseDups
def ancs : List (List Nat) → List Oper → List (List Nat)
  | acc, [] => acc
  | acc, o :: r => ancs (acc ++ [ancNew acc o]) r
theorem ancs_sound : ∀ (r : List Oper) (acc : List (List Nat)), (∀ j, r[j]? = ops[acc.length + j]?) → (∀ i k, k ∈ acc.getD i [] → Anc ops i k) → ∀ i k, k ∈ (ancs acc r).getD i [] → Anc ops i k
  | [], _, _, h => h
  | o :: r, acc, hr, h => by
    refine ancs_sound r (acc ++ [ancNew acc o]) (fun j => ?_) (fun i k hk => ?_)
    · have := hr (j + 1)
      rw [List.getElem?_cons_succ] at this
      rw [this, List.length_append, List.length_singleton, show acc.length + (j + 1) = acc.length + 1 + j by omega]
    · have ho : ops[acc.length]? = some o := by simpa using (hr 0).symm
      by_cases hi : i < acc.length
      · refine h i k ?_
        rw [List.getD_eq_getElem?_getD, List.getElem?_append_left hi] at hk
        rw [List.getD_eq_getElem?_getD]; exact hk
      · by_cases hi2 : i = acc.length
        · subst hi2
          have : (acc ++ [ancNew acc o]).getD acc.length [] = ancNew acc o := by simp
          rw [this] at hk
          unfold ancNew at hk
          rw [List.mem_eraseDups, List.mem_flatMap] at hk
          obtain ⟨e, he, hk⟩ := hk
          rw [List.mem_filter] at he
          have he1 : e ∈ o.after := Array.mem_toList_iff.1 he.1
          rcases List.mem_cons.1 hk with rfl | hk
          · exact .one ho he1 he.2
          · exact .tr ho he1 he.2 (h _ _ hk)
        · have : (acc ++ [ancNew acc o]).getD i [] = [] := by
            rw [List.getD_eq_getElem?_getD, List.getElem?_eq_none (by simp; omega)]; rfl
          rw [this] at hk; cases hk
theorem anc_closed {listed : Array Bool} {L : List Nat} (hu : Up ops listed L) {i k : Nat} (h : Anc ops i k) : i ∈ L → k ∈ L := by
  induction h with
  | one ho he hb => exact fun hi => hu.closed _ hi _ ho _ he hb
  | tr ho he hb _ ih => exact fun hi => ih (hu.closed _ hi _ ho _ he hb)
theorem anc_ready {listed : Array Bool} {L : List Nat} (hu : Up ops listed L) {i k : Nat} {o : Oper} (ho : ops[i]? = some o) (hw : ∀ e ∈ o.after, Region.binds .any e = true → e.on ∈ L) (h : Anc ops i k) : k ∈ L := by
  cases h with
  | one ho' he hb =>
    rw [ho] at ho'; cases ho'
    exact hw _ he hb
  | tr ho' he hb h2 =>
    rw [ho] at ho'; cases ho'
    exact anc_closed hu h2 (hw _ he hb)
def befA (A : List (List Nat)) (i k : Nat) : Bool := (decide (k < i) && (A.getD i []).contains k) || (decide (i < k) && (A.getD k []).contains i)
def chk (ops : Array Oper) (ns : Ns) : Bool :=
  let A := ancs [] ops.toList
  (List.range ops.size).all fun i =>
    (match ops[i]? with
     | some o => o.after.toList.all fun e => !Region.binds .any e || decide (e.on < i)
     | none => true) &&
    (List.range ops.size).all fun k =>
      (match dstOf ops k with
       | none => true
       | some t => (decide (i = k) || dstOf ops i != some t) && (!(looksO ops i).contains t || befA A i k)) &&
      ((ns.getD k ([], [], [])).2.1.all fun p => decide (i = k) || (!(ns.getD i ([], [], [])).1.contains p && !(ns.getD i ([], [], [])).2.1.contains p) || befA A i k) &&
      ((ns.getD k ([], [], [])).2.2.all fun y => decide (i = k) || !(ns.getD i ([], [], [])).2.2.contains y)
def bef (ops : Array Oper) (i k : Nat) : Prop := (k < i ∧ Anc ops i k) ∨ (i < k ∧ Anc ops k i)
theorem befA_bef {i k : Nat} (h : befA (ancs [] ops.toList) i k = true) : bef ops i k := by
  have hs := ancs_sound (ops := ops) ops.toList [] (fun j => by simp) (fun i k hk => by simp at hk)
  simp only [befA, Bool.or_eq_true, Bool.and_eq_true, decide_eq_true_eq, List.contains_eq_mem] at h
  rcases h with ⟨h1, h2⟩ | ⟨h1, h2⟩
  · exact .inl ⟨h1, hs _ _ h2⟩
  · exact .inr ⟨h1, hs _ _ h2⟩
section
variable {ns : Ns} (h : chk ops ns = true)
include h
theorem chk_after {i : Nat} {o : Oper} (ho : ops[i]? = some o) : ∀ e ∈ o.after, Region.binds .any e = true → e.on < i := by
  intro e he hb
  have hi : i < ops.size := by
    rcases Nat.lt_or_ge i ops.size with hlt | hge
    · exact hlt
    · rw [Array.getElem?_eq_none hge] at ho; cases ho
  have h2 := List.all_eq_true.1 h i (List.mem_range.2 hi)
  simp only [ho, Bool.and_eq_true] at h2
  have h3 := List.all_eq_true.1 h2.1 e (Array.mem_toList_iff.2 he)
  simpa [hb] using h3
theorem chk_pair {i k : Nat} (hi : i < ops.size) (hk : k < ops.size) : (∀ t, dstOf ops k = some t → (i = k ∨ dstOf ops i ≠ some t) ∧ (t ∈ looksO ops i → bef ops i k)) ∧
    (∀ p, p ∈ (ns.getD k ([], [], [])).2.1 → i = k ∨ (p ∉ (ns.getD i ([], [], [])).1 ∧ p ∉ (ns.getD i ([], [], [])).2.1) ∨ bef ops i k) ∧
    ∀ y, y ∈ (ns.getD k ([], [], [])).2.2 → i = k ∨ y ∉ (ns.getD i ([], [], [])).2.2 := by
  have h2 := List.all_eq_true.1 h i (List.mem_range.2 hi)
  simp only [Bool.and_eq_true] at h2
  have h3 := List.all_eq_true.1 h2.2 k (List.mem_range.2 hk)
  simp only [Bool.and_eq_true] at h3
  refine ⟨fun t ht => ?_, fun p hp => ?_, fun y hy => ?_⟩
  · have h4 := h3.1.1
    rw [ht] at h4
    simp only [Bool.and_eq_true, Bool.or_eq_true, decide_eq_true_eq, bne_iff_ne, ne_eq, Bool.not_eq_true', List.contains_eq_mem, decide_eq_false_iff_not] at h4
    exact ⟨h4.1, fun hl => h4.2.elim (fun h5 => absurd hl h5) befA_bef⟩
  · have h4 := List.all_eq_true.1 h3.1.2 p hp
    simp only [Bool.or_eq_true, Bool.and_eq_true, decide_eq_true_eq, Bool.not_eq_true', List.contains_eq_mem, decide_eq_false_iff_not] at h4
    rcases h4 with (h4 | h4) | h4
    · exact .inl h4
    · exact .inr (.inl h4)
    · exact .inr (.inr (befA_bef h4))
  · have h4 := List.all_eq_true.1 h3.2 y hy
    simp only [Bool.or_eq_true, decide_eq_true_eq, Bool.not_eq_true', List.contains_eq_mem, decide_eq_false_iff_not] at h4
    exact h4
end
theorem xrun_facts {K : St → Ns → Prop} : ∀ (r : List Oper) (i : Nat) (s : St) (ns : Ns), (∀ j, (r[j]? = ops[i + j]?)) → xrun P cf ops K r s ns →
    ∃ (xs : Nat → AV) (fs : Nat → Fp), K (layE ops xs fs (List.range' i r.length) s) (ns ++ (List.range' i r.length).map fun j => fpN (fs j)) ∧ ∀ j o, i ≤ j → ops[j]? = some o → FactE P cf ops j o (layE ops xs fs (List.range' i (j - i)) s) (xs j) (fs j)
  | [], i, s, ns, hr, h => ⟨fun _ => .un, fun _ => ([], ef0), by simpa [xrun, layE] using h, fun j o hij ho => by
      have := hr (j - i)
      rw [show i + (j - i) = j by omega, ho] at this
      simp at this⟩
  | o :: r, i, s, ns, hr, h => by
    have hi : ops[i]? = some o := by simpa using (hr 0).symm
    obtain ⟨x, f, hf, h2⟩ := xrun_one hi h
    obtain ⟨xs, fs, hK, hall⟩ := xrun_facts r (i + 1) _ _ (fun j => by have := hr (j + 1); rw [List.getElem?_cons_succ] at this; rw [this, show i + (j + 1) = i + 1 + j by omega]) h2
    obtain ⟨ys, hys⟩ : ∃ ys : Nat → AV, ys = fun j => if j = i then x else xs j := ⟨_, rfl⟩
    obtain ⟨gs, hgs⟩ : ∃ gs : Nat → Fp, gs = fun j => if j = i then f else fs j := ⟨_, rfl⟩
    have hd : dstOf ops i = o.dst := by simp [dstOf, hi]
    have e1 : ∀ (n k : Nat) (s : St), i < k → layE ops ys gs (List.range' k n) s = layE ops xs fs (List.range' k n) s := by
      intro n
      induction n with
      | zero => intros; rfl
      | succ n ih =>
        intro k s hk
        rw [List.range'_succ, layE, layE, ih (k + 1) _ (by omega), hys, hgs]
        simp only [if_neg (show ¬ k = i by omega)]
    have e2 : ∀ (n k : Nat), i < k → ((List.range' k n).map fun j => fpN (gs j)) = (List.range' k n).map fun j => fpN (fs j) := by
      intro n k hk
      refine List.map_congr_left fun j hj => ?_
      rw [List.mem_range'_1] at hj
      rw [hgs]
      simp only [if_neg (show ¬ j = i by omega)]
    have hyi : ys i = x := by rw [hys]; simp
    have hgi : gs i = f := by rw [hgs]; simp
    refine ⟨ys, gs, ?_, fun j o' hij ho' => ?_⟩
    · rw [List.length_cons, List.range'_succ, layE, hd, hyi, hgi, e1 _ _ _ (by omega), List.map_cons, hgi, e2 _ _ (by omega)]
      simpa using hK
    · rcases Nat.lt_or_ge i j with hlt | hge
      · have := hall j o' (by omega) ho'
        rw [show j - i = (j - (i + 1)) + 1 by omega, List.range'_succ, layE, hd, hyi, hgi, e1 _ _ _ (by omega)]
        rw [show ys j = xs j by rw [hys]; simp only [if_neg (show ¬ j = i by omega)], show gs j = fs j by rw [hgs]; simp only [if_neg (show ¬ j = i by omega)]]
        exact this
      · have : j = i := by omega
        subst this
        rw [hi] at ho'
        cases ho'
        rw [Nat.sub_self, hyi, hgi]
        exact hf
section
variable {xs : Nat → AV} {fs : Nat → Fp} {s : St} {ns : Ns} (hq : chk ops ns = true) (hns : ∀ i, i < ops.size → ns.getD i ([], [], []) = fpN (fs i))
include hq hns
theorem wr_bef {i k : Nat} (hi : i < ops.size) (hk : k < ops.size) (hne : i ≠ k) {p : Name} {v : Option Ob} (hw : wl (fs k).2.wr p = some v) (hl : p ∈ (fs i).1 ∨ ∃ v', wl (fs i).2.wr p = some v') : bef ops i k := by
  have h1 := (chk_pair hq hi hk).2.1 p (by rw [hns k hk]; exact wl_mem hw)
  rcases h1 with h1 | ⟨h1, h2⟩ | h1
  · exact absurd h1 hne
  · rw [hns i hi] at h1 h2
    rcases hl with hl | ⟨v', hl⟩
    · exact absurd hl h1
    · exact absurd (wl_mem hl) h2
  · exact h1
omit hq hns in
theorem text_ok : ∀ n, n ≤ ops.size → OKE ops xs fs s (List.range' 0 n) (layE ops xs fs (List.range' 0 n) s) := by
  intro n
  induction n with
  | zero => exact fun _ => .nil _ _ _
  | succ n ih =>
    intro hn
    have := (ih (by omega)).snoc (i := n) (fun k hk _ _ _ _ _ => by rw [List.mem_range'_1] at hk; omega)
    rw [List.range'_concat, Nat.one_mul, Nat.zero_add, layE_snoc]
    exact this
theorem sched_agr {listed : Array Bool} {L : List Nat} (hu : Up ops listed L) {s' : St} (hL : OKE ops xs fs s L s') {i : Nat} {o : Oper} (ho : ops[i]? = some o) (hi : i ∉ L)
    (hw : ∀ e ∈ o.after, Region.binds .any e = true → e.on ∈ L) (hfr : ∀ y ∈ (fs i).2.nu, y ∉ (layE ops xs fs (List.range' 0 (i - 0)) s).used) : agE (o.looksAt ops) (fs i) (layE ops xs fs (List.range' 0 (i - 0)) s) s' := by
  have hlt : i < ops.size := by
    rcases Nat.lt_or_ge i ops.size with hlt | hge
    · exact hlt
    · rw [Array.getElem?_eq_none hge] at ho; cases ho
  rw [Nat.sub_zero] at hfr ⊢
  have hT := text_ok (ops := ops) (fs := fs) (s := s) (xs := xs) i (by omega)
  have go : ∀ k, bef ops i k → (k < i ↔ k ∈ L) := fun k hb => by
    rcases hb with ⟨h1, h2⟩ | ⟨h1, h2⟩
    · exact ⟨fun _ => anc_ready hu ho hw h2, fun _ => h1⟩
    · exact ⟨fun h => by omega, fun h => absurd (anc_closed hu h2 h) hi⟩
  have hdst : ∀ a b t, dstOf ops a = some t → dstOf ops b = some t → a = b := fun a b t ha hb =>
    ((chk_pair hq (dstOf_lt ha) (dstOf_lt hb)).1 t hb).1.elim id (fun h => absurd ha h)
  refine ⟨fun y hy hu' => ?_, fun p hp => ?_, fun t ht => ?_⟩
  · rcases (hL.used y).1 hu' with h1 | ⟨k, hk, h1⟩
    · exact hfr y hy ((hT.used y).2 (.inl h1))
    · rcases (chk_pair hq hlt (hu.lt k hk)).2.2 y (by rw [hns k (hu.lt k hk)]; exact h1) with h2 | h2
      · exact hi (h2 ▸ hk)
      · rw [hns i hlt] at h2; exact h2 hy
  · have key : ∀ k, k < ops.size → ∀ ob, wl (fs k).2.wr p = some ob → i ≠ k → (k < i ↔ k ∈ L) := fun k hk ob hob hne => go k (wr_bef hq hns hlt hk hne hob (.inl hp))
    rcases hT.heap p with ⟨k, hk, ob, h1, h2, h3⟩ | ⟨h1, h2⟩
    · rw [List.mem_range'_1] at hk
      have hkL : k ∈ L := (key k (by omega) ob h1 (by omega)).1 (by omega)
      rcases hL.heap p with ⟨k2, hk2, ob2, g1, g2, g3⟩ | ⟨g1, _⟩
      · have hk2i : k2 < i := (key k2 (hu.lt k2 hk2) ob2 g1 (fun e => hi (e ▸ hk2))).2 hk2
        have a1 := h2 k2 (by rw [List.mem_range'_1]; omega) ⟨ob2, g1⟩
        have a2 := g2 k hkL ⟨ob, h1⟩
        have : k = k2 := by omega
        subst this
        rw [h1] at g1
        cases g1
        rw [g3, h3]
      · rw [g1 k hkL] at h1; cases h1
    · rcases hL.heap p with ⟨k2, hk2, ob2, g1, _, _⟩ | ⟨_, g2⟩
      · have hk2i : k2 < i := (key k2 (hu.lt k2 hk2) ob2 g1 (fun e => hi (e ▸ hk2))).2 hk2
        rw [h1 k2 (by rw [List.mem_range'_1]; omega)] at g1; cases g1
      · rw [g2, h2]
  · have ht' : t ∈ looksO ops i := by unfold looksO; rw [ho]; exact ht
    rcases hT.slot t with ⟨k, hk, h1, h2⟩ | ⟨h1, h2⟩
    · rw [List.mem_range'_1] at hk
      have hkL : k ∈ L := (go k (((chk_pair hq hlt (dstOf_lt h1)).1 t h1).2 ht')).1 (by omega)
      rcases hL.slot t with ⟨k2, _, g1, g2⟩ | ⟨g1, _⟩
      · rw [h2, g2, hdst k k2 t h1 g1]
      · exact absurd h1 (g1 k hkL)
    · rcases hL.slot t with ⟨k2, hk2, g1, _⟩ | ⟨_, g2⟩
      · have := (go k2 (((chk_pair hq hlt (dstOf_lt g1)).1 t g1).2 ht')).2 hk2
        exact absurd g1 (h1 k2 (by rw [List.mem_range'_1]; omega))
      · rw [g2, h2]
omit hns in
theorem sched_fin {L : List Nat} {s' : St} (hL : OKE ops xs fs s L s') (hlt : ∀ j ∈ L, j < ops.size) (hall : ∀ j, j < ops.size → j ∈ L) : (s'.hp = (layE ops xs fs (List.range' 0 ops.size) s).hp ∧ s'.fr = (layE ops xs fs (List.range' 0 ops.size) s).fr) ∧ ∀ y, y ∈ s'.used ↔ y ∈ (layE ops xs fs (List.range' 0 ops.size) s).used := by
  have hT := text_ok (ops := ops) (fs := fs) (s := s) (xs := xs) ops.size (Nat.le_refl _)
  have hdst : ∀ a b t, dstOf ops a = some t → dstOf ops b = some t → a = b := fun a b t ha hb =>
    ((chk_pair hq (dstOf_lt ha) (dstOf_lt hb)).1 t hb).1.elim id (fun h => absurd ha h)
  have hm : ∀ k, k ∈ L ↔ k ∈ List.range' 0 ops.size := fun k => by
    rw [List.mem_range'_1]
    exact ⟨fun h => by have := hlt k h; omega, fun h => hall k (by omega)⟩
  refine ⟨⟨funext fun p => ?_, funext fun t => ?_⟩, fun y => ?_⟩
  · rcases hT.heap p with ⟨k, hk, ob, h1, h2, h3⟩ | ⟨h1, h2⟩
    · rcases hL.heap p with ⟨k2, hk2, ob2, g1, g2, g3⟩ | ⟨g1, _⟩
      · have a1 := h2 k2 ((hm k2).1 hk2) ⟨ob2, g1⟩
        have a2 := g2 k ((hm k).2 hk) ⟨ob, h1⟩
        have : k = k2 := by omega
        subst this
        rw [h1] at g1
        cases g1
        rw [g3, h3]
      · rw [g1 k ((hm k).2 hk)] at h1; cases h1
    · rcases hL.heap p with ⟨k2, hk2, ob2, g1, _, _⟩ | ⟨_, g2⟩
      · rw [h1 k2 ((hm k2).1 hk2)] at g1; cases g1
      · rw [g2, h2]
  · rcases hT.slot t with ⟨k, hk, h1, h2⟩ | ⟨h1, h2⟩
    · rcases hL.slot t with ⟨k2, _, g1, g2⟩ | ⟨g1, _⟩
      · rw [h2, g2, hdst k k2 t h1 g1]
      · exact absurd h1 (g1 k ((hm k).2 hk))
    · rcases hL.slot t with ⟨k2, hk2, g1, _⟩ | ⟨_, g2⟩
      · exact absurd g1 (h1 k2 ((hm k2).1 hk2))
      · rw [g2, h2]
  · rw [hL.used y, hT.used y]
    refine or_congr_right ⟨?_, ?_⟩
    · rintro ⟨k, hk, h1⟩; exact ⟨k, (hm k).1 hk, h1⟩
    · rintro ⟨k, hk, h1⟩; exact ⟨k, (hm k).2 hk, h1⟩
omit hns in
theorem up_full {listed : Array Bool} {L : List Nat} (hu : Up ops listed L) (hr : Region.ready .any ops listed = []) : ∀ j, j < ops.size → j ∈ L := by
  intro j
  induction j using Nat.strongRecOn with
  | ind j ih =>
    intro hlt
    apply Decidable.byContradiction
    intro hn
    obtain ⟨o, ho⟩ : ∃ o, ops[j]? = some o := ⟨ops[j], by simp⟩
    have : j ∈ Region.ready .any ops listed := by
      rw [mem_ready]
      refine ⟨?_, o, ho, fun e he hb => ?_⟩
      · have := hu.mem j hlt
        have hl : j < listed.size := by rw [hu.size]; exact hlt
        cases hv : listed[j] with
        | true => exact absurd (this.1 (by simp [hl, hv])) hn
        | false => simp [hl, hv]
      · have h2 := chk_after hq ho e he hb
        have h3 := (hu.mem e.on (by omega)).2 (ih e.on h2 (by omega))
        simp [h3]
    rw [hr] at this; cases this
theorem anyE {B : Base} (hB : cf.fits B) {ds : List Deferred} {Q : Exit → Act → World → Prop}
    (hall : ∀ j o, ops[j]? = some o → FactE P cf ops j o (layE ops xs fs (List.range' 0 (j - 0)) s) (xs j) (fs j))
    (hK : ∀ β a w, a.defers = ds → Sim B β (layE ops xs fs (List.range' 0 ops.size) s) a.tmps w → Q .normal a w) :
    ∀ (fuel : Nat) (listed : Array Bool) (L : List Nat) (s' : St) (β : Name → Option Blk) (a : Act) (w : World), Up ops listed L → L.Nodup → ops.size ≤ fuel + L.length → a.defers = ds → OKE ops xs fs s L s' → Sim B β s' a.tmps w →
      wpAnyIn (Fw cf.ro) 0 P .any ops Q fuel listed a w := by
  have fin : ∀ (listed : Array Bool) (L : List Nat) (s' : St) (β : Name → Option Blk) (a : Act) (w : World), Up ops listed L → a.defers = ds → OKE ops xs fs s L s' → Sim B β s' a.tmps w → Region.ready .any ops listed = [] → Q .normal a w := by
    intro listed L s' β a w hu hds hL hs hr
    obtain ⟨⟨e1, e2⟩, e3⟩ := sched_fin hq hL hu.lt (up_full hq hu hr)
    exact hK β a w hds (hs.reuse e1.symm e2.symm e3)
  intro fuel
  induction fuel with
  | zero =>
    intro listed L s' β a w hu hnd hn hds hL hs
    have hr : Region.ready .any ops listed = [] := by
      apply List.eq_nil_iff_forall_not_mem.2
      intro j hj
      obtain ⟨h0, o, ho, _⟩ := mem_ready.1 hj
      have hlt : j < ops.size := by
        rcases Nat.lt_or_ge j ops.size with hlt | hge
        · exact hlt
        · rw [Array.getElem?_eq_none hge] at ho; cases ho
      have hjL : j ∈ L := by
        apply Decidable.byContradiction
        intro hn'
        have hsub : (j :: L).length ≤ ops.size := by
          refine nodup_len ops.size (j :: L) (List.nodup_cons.2 ⟨hn', hnd⟩) fun x hx => ?_
          rcases List.mem_cons.1 hx with rfl | hx
          · exact hlt
          · exact hu.lt x hx
        simp only [List.length_cons] at hsub
        omega
      have h3 := (hu.mem j hlt).2 hjL
      simp [h3] at h0
    exact ⟨hr, fin listed L s' β a w hu hds hL hs hr⟩
  | succ fuel ih =>
    intro listed L s' β a w hu hnd hn hds hL hs
    refine ⟨fun hr => fin listed L s' β a w hu hds hL hs hr, fun i hi => ?_⟩
    obtain ⟨h0, o, ho, hw⟩ := mem_ready.1 hi
    have hlt : i < ops.size := by
      rcases Nat.lt_or_ge i ops.size with hlt | hge
      · exact hlt
      · rw [Array.getElem?_eq_none hge] at ho; cases ho
    have hiL : i ∉ L := fun h => by
      have h3 := (hu.mem i hlt).2 h
      simp [h3] at h0
    have hwL : ∀ e ∈ o.after, Region.binds .any e = true → e.on ∈ L := fun e he hb => by
      have h1 := hw e he hb
      have h2 := chk_after hq ho e he hb
      refine (hu.mem e.on (by omega)).1 ?_
      have hl : e.on < listed.size := by rw [hu.size]; omega
      simp [hl] at h1
      simp [hl, h1]
    have hd : dstOf ops i = o.dst := by simp [dstOf, ho]
    refine wpOpIn_mono (fun a' w' ⟨hd', β', hs'⟩ => ih (listed.setIfInBounds i true) (L ++ [i]) _ β' a' w' ?_ ?_ ?_ hd' (hd ▸ hL.snoc ?_) hs') ((hall i o ho).2 _ (sched_agr hq hns hu hL ho hiL hwL (hall i o ho).1) B hB ds β a w hds hs Q)
    · refine ⟨by simpa using hu.size, fun j hj => ?_, fun j hj => ?_, fun j hj o' ho' e he hb => ?_⟩
      · have hl : j < listed.size := by rw [hu.size]; exact hj
        by_cases hij : i = j
        · subst hij; simp [hl]
        · rw [Array.getElem?_setIfInBounds_ne hij, hu.mem j hj]
          simp [Ne.symm hij]
      · rcases List.mem_append.1 hj with hj | hj
        · exact hu.lt j hj
        · rw [List.mem_singleton.1 hj]; exact hlt
      · rcases List.mem_append.1 hj with hj | hj
        · exact List.mem_append_left _ (hu.closed j hj o' ho' e he hb)
        · rw [List.mem_singleton.1 hj, ho] at ho'
          cases ho'
          exact List.mem_append_left _ (hwL e he hb)
    · rw [List.nodup_append]
      exact ⟨hnd, by simp, fun x hx y hy => by rw [List.mem_singleton.1 hy]; rintro rfl; exact hiL hx⟩
    · simp only [List.length_append, List.length_singleton]; omega
    · intro k hk p o1 o2 h1 h2
      have hne : i ≠ k := fun e => hiL (e ▸ hk)
      rcases wr_bef hq hns hlt (hu.lt k hk) hne h1 (.inr ⟨o2, h2⟩) with ⟨h3, _⟩ | ⟨_, h4⟩
      · omega
      · exact absurd (anc_closed hu h4 hk) hiL
end
theorem region_x {id : Nat} {l : List Oper} {s : St} {k : List It} {Q : Exit → St → Prop} (hm : P.follows .mixedOrders = true) (h : xrun P cf l.toArray (fun s' ns => chk l.toArray ns = true ∧ run P cf k Q s') l s []) :
    ACk P cf (.region id l.toArray true) s k Q := by
  obtain ⟨xs, fs, ⟨hq, hK⟩, hall⟩ := xrun_facts (ops := l.toArray) l 0 s [] (fun j => by simp) h
  intro B hB ds β a w hds hs
  refine wpIn_region_any hm ?_
  have hns : ∀ i, i < l.toArray.size → (([] : Ns) ++ (List.range' 0 l.length).map fun j => fpN (fs j)).getD i ([], [], []) = fpN (fs i) := by
    intro i hi
    have hi : i < l.length := by simpa using hi
    simp [hi]
  refine anyE (ops := l.toArray) hq hns hB (ds := ds) (fun j o ho => hall j o (Nat.zero_le _) ho) (fun β a w hds hs => run_ok hK B hB ds β a w hds (by simpa using hs)) _ _ [] s β a _ ?_ List.nodup_nil (by simp) hds (.nil _ _ _) (hs.heap_eq rfl rfl)
  refine ⟨by simp, fun j hj => ?_, by simp, by simp⟩
  have hj : j < l.length := by simpa using hj
  simp [hj]
end
end Go.Ab
namespace Go.Ab
section
variable (P : Program) (cf : Cf) (ops : Array Oper) (K : St → Ns → Prop)
def xst (x : R (AV × Ef)) (o : Oper) (r : List Oper) (s : St) (ns : Ns) : Prop :=
  qvE x (fun x => dOk cf.n o.dst ∧ xrun P cf ops K r (s.go o.dst x.1 x.2) (ns ++ [fpN (rdO s o.op, x.2)])) (∃ x f, QE P cf o s x f ∧ (∀ y ∈ f.2.nu, y ∉ s.used) ∧ dOk cf.n o.dst ∧ xrun P cf ops K r (s.go o.dst x f.2) (ns ++ [fpN f]))
def xgd (v : Option (Nat × AV)) (want : Bool) (o : Oper) (r : List Oper) (s : St) (ns : Ns) : Prop :=
  match v with
  | some (t, .d (.bool b)) =>
    (b = want → xst P cf ops K (opE P.ti o.op o.dst (s.put t (.d (.bool want)))) o r (s.put t (.d (.bool want))) ns) ∧
    (b = !want → dOk cf.n o.dst ∧ xrun P cf ops K r ((s.put t (.d (.bool (!want)))).go o.dst (.tup []) ef0) (ns ++ [([], [], [])]))
  | some (_, .tup []) => dOk cf.n o.dst ∧ xrun P cf ops K r (s.go o.dst (.tup []) ef0) (ns ++ [([], [], [])])
  | _ => False
abbrev ToXs (_ : Oper) (_ : List Oper) (_ : St) (_ : Ns) : Type 1 := R (AV × Ef)
abbrev ToXg (_ : Bool) (_ : Oper) (_ : List Oper) (_ : St) (_ : Ns) : Type := Option (Nat × AV)
abbrev ToXp (_ : Option Nat) (_ : AV) (_ : List Oper) : Type := Ef
structure XEng where
  run : (r : List Oper) → ToQ r → Ns → Prop
  stp : (o : Oper) → (r : List Oper) → (s : St) → (ns : Ns) → ToXs o r s ns → Prop
  gd : (w : Bool) → (o : Oper) → (r : List Oper) → (s : St) → (ns : Ns) → ToXg w o r s ns → Prop
  pt : (d : Option Nat) → (x : AV) → (r : List Oper) → ToXp d x r → St → Ns → Prop
  run_eq : ∀ r (s : St) ns, run r s ns = xrun P cf ops K r s ns
  stp_eq : ∀ (x : R (AV × Ef)) o r s ns, stp o r s ns x = xst P cf ops K x o r s ns
  gd_eq : ∀ (v : Option (Nat × AV)) w o r s ns, gd w o r s ns v = xgd P cf ops K v w o r s ns
  pt_eq : ∀ d x (e : Ef) r s ns, pt d x r e s ns = (dOk cf.n d ∧ xrun P cf ops K r (s.go d x e) ns)
theorem xeng_ex : Nonempty (XEng P cf ops K) :=
  ⟨⟨xrun P cf ops K, fun o r s ns x => xst P cf ops K x o r s ns, fun w o r s ns v => xgd P cf ops K v w o r s ns, fun d x r e s ns => dOk cf.n d ∧ xrun P cf ops K r (s.go d x e) ns, fun _ _ _ => rfl, fun _ _ _ _ _ => rfl, fun _ _ _ _ _ _ => rfl, fun _ _ _ _ _ _ => rfl⟩⟩
end
section
variable {P : Program} {cf : Cf} {ops : Array Oper} {K : St → Ns → Prop} (E : XEng P cf ops K) (s : St) (o : Oper) (r : List Oper) (ns : Ns)
theorem x_nil : E.run [] s ns = K s ns := by rw [E.run_eq]; rfl
theorem x_ops (d : Option Nat) (op : Op) (ty : Nat) (p : String) (e : Array Edge) :
    E.run ({ dst := d, op := op, type := ty, pos := p, after := e, guard := none } :: r) s ns = E.stp { dst := d, op := op, type := ty, pos := p, after := e, guard := none } r s ns (opE P.ti op d s) := by rw [E.run_eq, E.stp_eq]; rfl
theorem x_ops_g (d : Option Nat) (op : Op) (ty : Nat) (p : String) (e : Array Edge) (j : Nat) (want : Bool) :
    E.run ({ dst := d, op := op, type := ty, pos := p, after := e, guard := some (j, want) } :: r) s ns = E.gd want { dst := d, op := op, type := ty, pos := p, after := e, guard := some (j, want) } r s ns (guardV ops j s) := by rw [E.run_eq, E.gd_eq]; rfl
theorem x_stp_ok (x : AV) (e : Ef) : E.stp o r s ns (.ok (x, e)) = E.pt o.dst x r e s (ns ++ [fpN (rdO s o.op, e)]) := by rw [E.stp_eq, E.pt_eq]; rfl
theorem x_stp_need (p : Prop) (x : R (AV × Ef)) : E.stp o r s ns (.need p x) = (p ∧ E.stp o r s ns x) := by rw [E.stp_eq, E.stp_eq]; rfl
theorem x_pt_some (t : Nat) (x : AV) (h : t < cf.n) : E.pt (some t) x r ef0 s ns = E.run r (s.put t x) ns := by rw [E.pt_eq, E.run_eq]; simp [dOk, h, St.go, eff_ef0, St.putd]
theorem x_pt_none (x : AV) : E.pt none x r ef0 s ns = E.run r s ns := by rw [E.pt_eq, E.run_eq]; simp [dOk, St.go, eff_ef0, St.putd]
theorem x_pt_some_e (t : Nat) (x : AV) (p : Name) (q : Option Ob) (h : t < cf.n) : E.pt (some t) x r ⟨[(p, q)], []⟩ s ns = E.run r ((s.set p q).put t x) ns := by rw [E.pt_eq, E.run_eq]; simp [dOk, h, St.go, eff_set, St.putd]
theorem x_pt_none_e (x : AV) (p : Name) (q : Option Ob) : E.pt none x r ⟨[(p, q)], []⟩ s ns = E.run r (s.set p q) ns := by rw [E.pt_eq, E.run_eq]; simp [dOk, St.go, eff_set, St.putd]
theorem x_pt_some_n (t : Nat) (x : AV) (u : Nat) (ob : Ob) (h : t < cf.n) : E.pt (some t) x r ⟨[([u], some ob)], [u]⟩ s ns = E.run r ((s.add u ob).put t x) ns := by rw [E.pt_eq, E.run_eq]; simp [dOk, h, St.go, eff_add, St.putd]
theorem x_pt_some_a (t : Nat) (x : AV) (p : Name) (u : Nat) (ob : Ob) (h : t < cf.n) : E.pt (some t) x r ⟨[(p, none), ([u], some ob)], [u]⟩ s ns = E.run r (((s.set p none).add u ob).put t x) ns := by rw [E.pt_eq, E.run_eq]; simp [dOk, h, St.go, eff_app, St.putd]
theorem x_gd_tt (t : Nat) : E.gd true o r s ns (some (t, .d (.bool true))) = E.stp o r (s.put t (.d (.bool true))) ns (opE P.ti o.op o.dst (s.put t (.d (.bool true)))) := by rw [E.gd_eq, E.stp_eq]; simp [xgd]
theorem x_gd_ff (t : Nat) : E.gd false o r s ns (some (t, .d (.bool false))) = E.stp o r (s.put t (.d (.bool false))) ns (opE P.ti o.op o.dst (s.put t (.d (.bool false)))) := by rw [E.gd_eq, E.stp_eq]; simp [xgd]
theorem x_gd_tf (t : Nat) : E.gd false o r s ns (some (t, .d (.bool true))) = E.pt o.dst (.tup []) r ef0 (s.put t (.d (.bool true))) (ns ++ [([], [], [])]) := by rw [E.gd_eq, E.pt_eq]; simp [xgd]
theorem x_gd_ft (t : Nat) : E.gd true o r s ns (some (t, .d (.bool false))) = E.pt o.dst (.tup []) r ef0 (s.put t (.d (.bool false))) (ns ++ [([], [], [])]) := by rw [E.gd_eq, E.pt_eq]; simp [xgd]
theorem x_gd_un (t : Nat) (want : Bool) : E.gd want o r s ns (some (t, .tup [])) = E.pt o.dst (.tup []) r ef0 s (ns ++ [([], [], [])]) := by rw [E.gd_eq, E.pt_eq]; rfl
variable {s o r ns}
theorem fpN_0 (l : List Name) : fpN (l, ef0) = (l, [], []) := rfl
theorem fpN_1 (l : List Name) (wr : List (Name × Option Ob)) (nu : List Nat) : fpN (l, ⟨wr, nu⟩) = (l, wr.map (·.1), nu) := rfl
attribute [go_sem] x_nil x_ops x_ops_g x_stp_ok x_stp_need x_pt_some x_pt_some_e x_pt_none x_pt_none_e x_pt_some_n x_pt_some_a x_gd_tt x_gd_ff x_gd_tf x_gd_ft x_gd_un fpN_0 fpN_1 rdO rdA storeE newE appendE listOf List.cons_append List.nil_append
section
variable (tf : Nat → TI)
theorem opE_move (dd : Option Nat) (s : St) (x) : opE tf (.move x) dd s = (opV tf (.move x) s).bind fun x => .ok (x, ef0) := rfl
theorem opE_assign (dd : Option Nat) (s : St) (x) : opE tf (.assign x) dd s = (opV tf (.assign x) s).bind fun x => .ok (x, ef0) := rfl
theorem opE_pick (dd : Option Nat) (s : St) (a b c) : opE tf (.pick a b c) dd s = (opV tf (.pick a b c) s).bind fun x => .ok (x, ef0) := rfl
theorem opE_build (dd : Option Nat) (s : St) (a b) : opE tf (.build a b) dd s = (opV tf (.build a b) s).bind fun x => .ok (x, ef0) := rfl
theorem opE_load (dd : Option Nat) (s : St) (a b) : opE tf (.load a b) dd s = (opV tf (.load a b) s).bind fun x => .ok (x, ef0) := rfl
theorem opE_fieldAddr (dd : Option Nat) (s : St) (a b c) : opE tf (.fieldAddr a b c) dd s = (opV tf (.fieldAddr a b c) s).bind fun x => .ok (x, ef0) := rfl
theorem opE_field (dd : Option Nat) (s : St) (a b c) : opE tf (.field a b c) dd s = (opV tf (.field a b c) s).bind fun x => .ok (x, ef0) := rfl
theorem opE_indexAddr (dd : Option Nat) (s : St) (a b c) : opE tf (.indexAddr a b c) dd s = (opV tf (.indexAddr a b c) s).bind fun x => .ok (x, ef0) := rfl
theorem opE_index (dd : Option Nat) (s : St) (a b c) : opE tf (.index a b c) dd s = (opV tf (.index a b c) s).bind fun x => .ok (x, ef0) := rfl
theorem opE_slice (dd : Option Nat) (s : St) (a b c d e) : opE tf (.slice a b c d e) dd s = (opV tf (.slice a b c d e) s).bind fun x => .ok (x, ef0) := rfl
theorem opE_binOp (dd : Option Nat) (s : St) (a b c d e) : opE tf (.binOp a b c d e) dd s = (opV tf (.binOp a b c d e) s).bind fun x => .ok (x, ef0) := rfl
theorem opE_unOp (dd : Option Nat) (s : St) (a b c) : opE tf (.unOp a b c) dd s = (opV tf (.unOp a b c) s).bind fun x => .ok (x, ef0) := rfl
theorem opE_convert (dd : Option Nat) (s : St) (a b c) : opE tf (.convert a b c) dd s = (opV tf (.convert a b c) s).bind fun x => .ok (x, ef0) := rfl
theorem opE_extract (dd : Option Nat) (s : St) (a b) : opE tf (.extract a b) dd s = (opV tf (.extract a b) s).bind fun x => .ok (x, ef0) := rfl
theorem opE_makeFunc (dd : Option Nat) (s : St) (a b c) : opE tf (.makeFunc a b c) dd s = (opV tf (.makeFunc a b c) s).bind fun x => .ok (x, ef0) := rfl
theorem opE_call_v (dd : Option Nat) (s : St) (x a t) : opE tf (.call { callee := .value x, args := a, argTypes := t }) dd s = .no := rfl
theorem opE_call_1 (dd : Option Nat) (s : St) (f) (x t) : opE tf (.call { callee := .builtin f, args := #[x], argTypes := #[t] }) dd s = (opV tf (.call { callee := .builtin f, args := #[x], argTypes := #[t] }) s).bind fun x => .ok (x, ef0) := by
  refine opE_call' ?_
  cases f <;> rfl
theorem opE_append (dd : Option Nat) (s : St) (x y t t') : opE tf (.call { callee := .builtin .append, args := #[x, y], argTypes := #[t, t'] }) dd s = if t ≠ t' then .no else match (tf t).k with
      | .slice e => if (tf e).zOk ∧ (tf e).isW (tf e).w then appendE (tf e) dd s (ev s x) (ev s y) else .no
      | _ => .no := rfl
theorem opE_lookup (dd : Option Nat) (s : St) (a b c d) : opE tf (.lookup a b c d) dd s = .no := rfl
theorem opE_store (dd : Option Nat) (s : St) (t x v) : opE tf (.store t x v) dd s = (storeE (tf t) s (ev s x) (ev s v)).bind fun q => .ok (.un, ⟨[(q.1, some q.2)], []⟩) := rfl
theorem opE_alloc (dd : Option Nat) (s : St) (e) : opE tf (.alloc e) dd s = match (tf e).z with
    | some cs => newE dd s [] (.boxT (tagT tf e) (cs.map .d)) (.at · 0)
    | none => .no := rfl
theorem opE_buildSlice (dd : Option Nat) (s : St) (t l parts) : opE tf (.buildSlice t l parts) dd s = match sliceE (tf t).k, partsD 0 (parts.toList.map fun q => (q.1, ev s q.2)) with
    | some e, some xs => if xs.length = l ∧ (tf e).z.isSome ∧ (tf e).isW (tf e).w ∧ xs.all (okWb (tf e).w) ∧ l * (tf e).sz ≤ 16777216 then newE dd s [] (.arr (tf e).w xs) (.vw · 0 l) else .no
    | _, _ => .no := rfl
attribute [go_sem] opE_move opE_assign opE_pick opE_build opE_load opE_fieldAddr opE_field opE_indexAddr opE_index opE_slice opE_binOp opE_unOp opE_convert opE_extract opE_makeFunc opE_call_v opE_call_1 opE_append opE_alloc opE_buildSlice opE_lookup opE_store
end
theorem x_gif {c : Bool} {t : Nat} {want : Bool} (h1 : c = true → E.gd want o r (s.put t (.d (.bool true))) ns (some (t, .d (.bool true)))) (h2 : c = false → E.gd want o r (s.put t (.d (.bool false))) ns (some (t, .d (.bool false)))) : E.gd want o r s ns (some (t, .d (.bool c))) := by
  cases c
  · have := h2 rfl
    cases want
    · rw [x_gd_ff, put_put] at this; rw [x_gd_ff]; exact this
    · rw [x_gd_ft, put_put] at this; rw [x_gd_ft]; exact this
  · have := h1 rfl
    cases want
    · rw [x_gd_tf, put_put] at this; rw [x_gd_tf]; exact this
    · rw [x_gd_tt, put_put] at this; rw [x_gd_tt]; exact this
theorem x_gifd {p : Prop} [Decidable p] {t : Nat} {want : Bool} (h1 : p → E.gd want o r (s.put t (.d (.bool true))) ns (some (t, .d (.bool true)))) (h2 : ¬ p → E.gd want o r (s.put t (.d (.bool false))) ns (some (t, .d (.bool false)))) : E.gd want o r s ns (some (t, .d (.bool (decide p)))) :=
  x_gif E (fun h => h1 (of_decide_eq_true h)) (fun h => h2 (of_decide_eq_false h))
theorem go_putO (s : St) (d : Option Nat) (x : AV) : s.go d x ef0 = s.putO d x := by rw [go_ef0]; cases d <;> rfl
theorem x_leaf {d : Option Nat} {op : Op} {ty : TypeId} {pos : String} {af : Array Edge} {g : Option (Nat × Bool)} {x : AV} (rd : List Name) (hdst : ∀ t ∈ d, t < cf.n)
    (hok : ∀ s', (∀ p ∈ rd, s'.hp p = s.hp p) → (∀ y ∈ op.operands, ev s' y = ev s y) → AOk P cf { dst := d, op := op, type := ty, pos := pos, after := af, guard := g } s' [] (fun _ s2 => s2 = s'.putO d x)) (hk : E.run r (s.putO d x) (ns ++ [(rd, [], [])])) :
    E.stp { dst := d, op := op, type := ty, pos := pos, after := af, guard := g } r s ns .no := by
  rw [E.stp_eq]
  refine ⟨x, (rd, ef0), fun s' _ hh he B hB ds' β a w hds hs Q' => ?_, fun y hy => (by cases hy), ?_, ?_⟩
  · refine Oper.wpIn_mono ?_ (hok s' hh he B hB ds' β a w hds hs Q')
    rintro a' w' ⟨hd', s2, β', hrun, hs2⟩
    obtain ⟨_, s3, β3, rfl, hs3⟩ := hrun B hB ds' β' a' w' hd' hs2
    exact ⟨hd', β3, by rw [go_putO]; exact hs3⟩
  · cases d with
    | none => trivial
    | some t => exact hdst t rfl
  · rw [← E.run_eq, go_putO]; exact hk
theorem x_call {dst : Option Nat} {fv : Operand} {args : Array Operand} {at' : Array TypeId} {ty : TypeId} {pos : String} {af : Array Edge} {g : Option (Nat × Bool)}
    {f : FuncId} {caps : List AV} {ds : List D} {x : AV} (hc : HP P cf.G f ds (fun r => r = x))
    (hev : ev s fv = .clo f caps) (hargs : args.toList.map (ev s) ++ caps = ds.map .d) (hdst : ∀ t ∈ dst, t < cf.n) (hk : E.run r (s.putO dst x) (ns ++ [([], [], [])])) :
    E.stp { dst := dst, op := .call { callee := .value fv, args := args, argTypes := at' }, type := ty, pos := pos, after := af, guard := g } r s ns .no := by
  refine x_leaf E [] hdst (fun s' _ he => ?_) hk
  have hm : ∀ y, y = fv ∨ y ∈ args → ev s' y = ev s y := fun y hy => he y (by
    simp only [Op.operands, Call.operands]
    rcases hy with rfl | hy <;> simp_all)
  exact callP_ok (k := []) (Q := fun _ s2 => s2 = s'.putO dst x) hc ((hm fv (.inl rfl)).trans hev)
    (by rw [evs_cg (s := s) (s' := s') fun y hy => hm y (.inr (by simpa using hy))]; exact hargs) hdst (fun r hr => by subst hr; rw [run_nil])
theorem region_xv {id : Nat} {l : List Oper} {s : St} {k : List It} {Q : Exit → St → Prop} (hm : P.follows .mixedOrders = true) (E0 : Eng P cf Q) (h : ∀ E : XEng P cf l.toArray (fun s' ns => chk l.toArray ns = true ∧ E0.run k s'), E.run l s []) :
    CodeE E0 (.region id l.toArray true) s k := by
  refine region_x hm ?_
  have e : (fun s' ns => chk l.toArray ns = true ∧ E0.run k s') = fun s' ns => chk l.toArray ns = true ∧ run P cf k Q s' := by funext s' ns; rw [E0.run_eq]
  obtain ⟨E⟩ := xeng_ex P cf l.toArray (fun s' ns => chk l.toArray ns = true ∧ E0.run k s')
  have := h E
  rw [E.run_eq, e] at this
  exact this
end
section
variable {P : Program} {cf : Cf} {Q : Exit → St → Prop} {s : St} {k : List It} {c : Code}
theorem loopT_e (E : Eng P cf Q) {X : Type} (I : X → List (Nat × AV)) (O : X → List (Name × Ob)) (u : List Nat) (μ : X → Nat) (x0 : X) (τ0 : Name → Name) (h0 : LeL cf.U τ0 s (I x0) (O x0) u)
    (hr : ∀ x, ∀ E' : Eng P cf (lqE E (fun s' => ∃ y, μ y < μ x ∧ ∃ τ, LeL cf.U τ s' (I y) (O y) u) k), E'.run [.code c] (mk (I x) (O x) u)) : CodeE E (.loop c) s k := by
  have := loopN_ok (P := P) (cf := cf) (c := c) (s := s) (k := k) (Q := Q) (fun x => mk (I x) (O x) u) μ (fun x s' => ∃ y, μ y < μ x ∧ ∃ τ, LeL cf.U τ s' (I y) (O y) u) ⟨x0, τ0, h0.le⟩ (fun _ _ ⟨y, hy, τ, h⟩ => ⟨y, hy, τ, h.le⟩) (fun x => by rw [← lqE_eq E]; exact veil (hr x))
  exact this
theorem tau_cons (q : Name × Name) (l : List (Name × Name)) (p : Name) : tau (q :: l) p = if p = q.1 then q.2 else tau l p := by
  unfold tau
  rw [lkA]
theorem tau_nil (p : Name) : tau [] p = p := rfl
attribute [go_sem] tau_cons tau_nil forall_eq forall_eq_or_imp
end
end Go.Ab
namespace Go.Ab
def mkClo (f : Nat) (cs : List AV) : AV :=
  match allD cs with
  | some ds => .d (.clo f ds)
  | none => .clo f cs
mutual
def AV.frB (p : Name) (d : D) : AV → AV
  | .un => .un
  | .d x => .d x
  | .vw q o l => .vw q o l
  | .at q c => if q = p ∧ c = 0 then .d (.ptr d) else .at q c
  | .el q i c => .el q i c
  | .mp q => .mp q
  | .it q => .it q
  | .agg cs => mkAgg (frBL p d cs)
  | .tup cs => .tup (frBL p d cs)
  | .clo f cs => mkClo f (frBL p d cs)
def frBL (p : Name) (d : D) : List AV → List AV
  | [] => []
  | x :: r => x.frB p d :: frBL p d r
end
theorem frBL_length (p : Name) (d : D) : ∀ l : List AV, (frBL p d l).length = l.length
  | [] => rfl
  | _ :: r => by simp [frBL, frBL_length p d r]
theorem frBL_get (p : Name) (d : D) : ∀ (l : List AV) (i : Nat), (frBL p d l)[i]? = (l[i]?).map (AV.frB p d)
  | [], i => by simp [frBL]
  | x :: r, 0 => by simp [frBL]
  | x :: r, i + 1 => by simp [frBL, frBL_get p d r i]
section
variable {H : Array Obj} {own own' : Nat → Prop} {used : List Nat} {hp hp' : Name → Option Ob} {β : Name → Option Blk}
theorem mkClo_rep {f : Nat} {vs : Array Value} {cs : List AV} (hs : vs.size = cs.length) (h : ∀ i x, cs[i]? = some x → VR H own used hp β (vs.getD i undef) x) : VR H own used hp β (.func (.func f) #[] vs) (mkClo f cs) := by
  unfold mkClo
  split
  · rename_i ds hd
    have e := allD_some hd
    subst e
    exact .d _ _ (.clo f vs ds (by simpa using hs) fun i d hi => (h i (.d d) (by simp [hi])).toD)
  · exact .clo f vs cs hs h
theorem VR.frB {p : Name} {d : D} (hr : ∀ v d, Rep H own v d → Rep H own' v d) (hst : ∀ q, nm used q → Stays hp hp' β β q) (hp0 : hp p = some (.box (d.cells.map .d))) (hsc : ∀ x ∈ d.cells, x.scal = true) (ho : OR H own used hp β p (.box (d.cells.map .d)))
    (hno : ∀ k, β p = some k → ¬ own' k.b) {v : Value} {x : AV} (h : VR H own used hp β v x) : VR H own' used hp' β v (x.frB p d) := by
  induction h with
  | un v => exact .un v
  | d v x h => exact .d v x (hr v x h)
  | vw v q off len hn h1 h => exact VR.mono hr (fun _ h => h) hst (.vw v q off len hn h1 h)
  | «at» v q c hn h1 h =>
    unfold AV.frB
    split
    · rename_i e
      obtain ⟨rfl, rfl⟩ := e
      obtain ⟨k, hk, hk0, rfl⟩ := h _ _ hp0
      obtain ⟨k', cc, e, hk', _, hc, _, hl, _, hrep⟩ := ho
      rw [hk] at hk'
      cases hk'
      refine .d _ _ (.ptr k.b 0 cc e (0, 0) d hc (hno k hk) (by simp at hl; omega) hsc fun j x hj => ?_)
      have := (hrep j (.d x) (by simp [hj])).toD
      rw [Nat.zero_add]
      exact hr _ _ this
    · exact VR.mono hr (fun _ h => h) hst (.at v q c hn h1 h)
  | el v q i c hn h1 h => exact VR.mono hr (fun _ h => h) hst (.el v q i c hn h1 h)
  | mp v q hn h1 h => exact VR.mono hr (fun _ h => h) hst (.mp v q hn h1 h)
  | its v q hn h1 h h' => exact VR.mono hr (fun _ h => h) hst (.its v q hn h1 h h')
  | agg vs cs hs hc _ ih =>
    have := mkAgg_rep (H := H) (own := own') (used := used) (hp := hp') (β := β) (vs := vs.toList) (cs := frBL p d cs) (by rw [frBL_length]; simpa using hs) (by simpa using hc) (fun i v x hv hx => by
      rw [frBL_get, Option.map_eq_some_iff] at hx
      obtain ⟨y, hy, rfl⟩ := hx
      have := ih i y hy
      have e : vs.getD i undef = v := by
        simp only [Array.getElem?_toList] at hv
        simp [Array.getD_eq_getD_getElem?, hv]
      rw [e] at this
      exact this)
    simpa [AV.frB] using this
  | tup vs cs hs _ ih =>
    refine .tup vs _ (by rw [frBL_length]; exact hs) (fun i x hi => ?_)
    rw [frBL_get, Option.map_eq_some_iff] at hi
    obtain ⟨y, hy, rfl⟩ := hi
    exact ih i y hy
  | clo f vs cs hs _ ih =>
    refine mkClo_rep (by rw [frBL_length]; exact hs) (fun i x hi => ?_)
    rw [frBL_get, Option.map_eq_some_iff] at hi
    obtain ⟨y, hy, rfl⟩ := hi
    exact ih i y hy
end
def Ob.frB (p : Name) (d : D) : Ob → Ob
  | .boxT ty cs => .boxT ty (frBL p d cs)
  | o => o
theorem Ob.frB_like (p : Name) (d : D) (o : Ob) : o.like (o.frB p d) := by
  cases o <;> simp [Ob.frB, Ob.like]
def St.frB (s : St) (p : Name) (d : D) : St := { fr := fun t => (s.fr t).frB p d, hp := fun q => (updP s.hp p none q).map (Ob.frB p d), used := s.used }
theorem Sim.frB {B : Base} {β : Name → Option Blk} {s : St} {tm : Array Value} {w : World} (h : Sim B β s tm w) {p : Name} {d : D} (hp : s.hp p = some (.box (d.cells.map .d))) (hsc : ∀ x ∈ d.cells, x.scal = true) : Sim B β (s.frB p d) tm w := by
  have hsub : ∀ q o', (s.frB p d).hp q = some o' → q ≠ p ∧ ∃ o, s.hp q = some o ∧ o' = o.frB p d := by
    intro q o' ho
    by_cases e : q = p
    · subst e; simp [St.frB, updP] at ho
    · simp only [St.frB, updP, if_neg e, Option.map_eq_some_iff] at ho
      obtain ⟨o, h1, h2⟩ := ho
      exact ⟨e, o, h1, h2.symm⟩
  have hne : ∀ q, (s.frB p d).hp q ≠ none → s.hp q ≠ none ∧ q ≠ p := by
    intro q hq
    cases ho : (s.frB p d).hp q with
    | none => exact absurd ho hq
    | some o' =>
      obtain ⟨e, o, h1, _⟩ := hsub q o' ho
      exact ⟨by rw [h1]; simp, e⟩
  have hr : ∀ v d', Rep w.heap (s.own B.A β) v d' → Rep w.heap ((s.frB p d).own B.A β) v d' := fun v d' hd => hd.mono (fun _ _ _ => rfl) (by
    rintro b _ (hA | ⟨q, k, hq, hk, e⟩)
    · exact .inl hA
    · exact .inr ⟨q, k, (hne q hq).1, hk, e⟩)
  have hst : ∀ q, nm s.used q → Stays s.hp (s.frB p d).hp β β q := fun q _ o' ho' => by
    obtain ⟨_, o, h1, rfl⟩ := hsub q o' ho'
    exact ⟨o, h1, Ob.frB_like p d o, rfl⟩
  have hno : ∀ k, β p = some k → ¬ (s.frB p d).own B.A β k.b := by
    rintro k hk (hA | ⟨q, k', hq, hk', e⟩)
    · exact (h.blocks p k (by rw [hp]; simp) hk).2.1 hA
    · exact (hne q hq).2 (h.inj q p k' k (hne q hq).1 (by rw [hp]; simp) hk' hk e)
  have hvr : ∀ {v : Value} {x : AV}, VR w.heap (s.own B.A β) s.used s.hp β v x → VR w.heap ((s.frB p d).own B.A β) s.used (s.frB p d).hp β v (x.frB p d) := fun hv => hv.frB hr hst hp hsc (h.objs p _ hp).2 hno
  refine { tms := h.tms, io := h.io, size := h.size, frame := h.frame, slots := fun i => hvr (h.slots i), objs := fun q o' ho' => ?_, blocks := fun q k hq hk => h.blocks q k (hne q hq).1 hk, inj := fun q q' k k' hq hq' => h.inj q q' k k' (hne q hq).1 (hne q' hq').1, us := h.us, stay := h.stay }
  obtain ⟨_, o, h1, rfl⟩ := hsub q o' ho'
  obtain ⟨g1, g2⟩ := h.objs q o h1
  refine ⟨g1, ?_⟩
  cases o with
  | boxT ty cs =>
    obtain ⟨k, c, e, a1, a2, a3, a4, a5, a6, a7⟩ := g2
    refine ⟨k, c, e, a1, a2, a3, a4, by rw [a5, frBL_length], a6, fun j x hj => ?_⟩
    rw [frBL_get, Option.map_eq_some_iff] at hj
    obtain ⟨y, hy, rfl⟩ := hj
    exact hvr (a7 j y hy)
  | _ => exact g2.mono hr (fun _ h => h) hst rfl fun _ _ => rfl
section
variable {P : Program} {cf : Cf} {Q : Exit → St → Prop} {s : St} {k : List It}
theorem e_frB (E : Eng P cf Q) {d : Option Nat} {op : Op} {ty : TypeId} {ps : String} {af : Array Edge} (p : Name) (x : D) (hp : s.hp p = some (.box (x.cells.map .d))) (hsc : (x.cells.all D.scal) = true) (h : E.stp { dst := d, op := op, type := ty, pos := ps, after := af, guard := none } (s.frB p x) k (opR P.ti cf.n op d (s.frB p x))) :
    E.stp { dst := d, op := op, type := ty, pos := ps, after := af, guard := none } s k .no := by
  rw [e_stp_no]
  rw [E.stp_eq] at h
  have h1 := aok_of_stp (o := { dst := d, op := op, type := ty, pos := ps, after := af, guard := none }) rfl h
  intro B hB ds β a w' hds hs Q'
  exact h1 B hB ds β a w' hds (hs.frB hp (List.all_eq_true.1 hsc)) Q'
theorem lkA_frB (p : Name) (d : D) (t : Nat) : ∀ l : List (Nat × AV), (lkA .un l t).frB p d = lkA .un (l.map fun q => (q.1, q.2.frB p d)) t
  | [] => rfl
  | q :: r => by
    simp only [lkA, List.map_cons]
    split
    · rfl
    · exact lkA_frB p d t r
theorem lkA_frBo (p : Name) (d : D) (q : Name) : ∀ l : List (Name × Ob), (lkA none (l.map fun x => (x.1, some x.2)) q).map (Ob.frB p d) = lkA none ((l.map fun x => (x.1, x.2.frB p d)).map fun x => (x.1, some x.2)) q
  | [] => rfl
  | x :: r => by
    simp only [lkA, List.map_cons]
    split
    · rfl
    · exact lkA_frBo p d q r
theorem mk_frB (fr : List (Nat × AV)) (hp : List (Name × Ob)) (u : List Nat) (p : Name) (d : D) : (mk fr hp u).frB p d = mk (fr.map fun q => (q.1, q.2.frB p d)) ((delA hp p).map fun q => (q.1, q.2.frB p d)) u := by
  unfold St.frB mk
  congr 1
  · funext t
    exact lkA_frB p d t fr
  · funext q
    rw [← lkA_frBo, map_del, lkA_del]
    rfl
theorem take_map_len {α β : Type} (f : α → β) (l : List α) : (l.map f).take l.length = l.map f := List.take_of_length_le (by simp)
attribute [go_sem] mk_frB AV.frB frBL Ob.frB mkClo D.cells take_map_len List.take_succ_cons List.take_zero List.take_nil
theorem e_callD (E : Eng P cf Q) {dst : Option Nat} {u : Nat} {args : Array Operand} {at' : Array TypeId} {ty : TypeId} {pos : String} {af : Array Edge}
    {f : FuncId} {caps ds : List D} {Q0 : AV → Prop} (hc : HP P cf.G f ds Q0)
    (hev : s.fr u = .d (.clo f caps)) (hargs : args.toList.map (ev (s.put u (.clo f (caps.map .d)))) ++ caps.map .d = ds.map .d) (hdst : ∀ t ∈ dst, t < cf.n) (hk : ∀ r, Q0 r → E.run k ((s.put u (.clo f (caps.map .d))).putO dst r)) :
    E.stp { dst := dst, op := .call { callee := .value (.tmp u), args := args, argTypes := at' }, type := ty, pos := pos, after := af, guard := none } s k .no := by
  rw [e_stp_no]
  have h1 : AOk P cf { dst := dst, op := .call { callee := .value (.tmp u), args := args, argTypes := at' }, type := ty, pos := pos, after := af, guard := none } (s.put u (.clo f (caps.map .d))) k Q :=
    callP_ok hc (show updN _ _ _ _ = _ by simp [updN]) hargs hdst fun r hr => by rw [← E.run_eq]; exact hk r hr
  intro B hB ds' β a w' hds hs Q'
  refine h1 B hB ds' β a w' hds (hs.setv ?_) Q'
  have hv := hs.slots u
  rw [hev] at hv
  have hv := hv.toD
  generalize a.tmps.getD u undef = v at hv
  cases hv with
  | clo _ vs _ hsz hrep =>
    refine .clo f vs _ (by simpa using hsz) fun i x hi => ?_
    rw [List.getElem?_map, Option.map_eq_some_iff] at hi
    obtain ⟨y, hy, rfl⟩ := hi
    exact .d _ _ (hrep i y hy)
theorem run_bin_val {op : BinOp} {t : TypeId} {x y : Operand} {yt : TypeId} {a : Act} {w : World} {d : Option Nat} {ty : TypeId} {ps : String} {af : Array Edge} {v : Value} (hg : (eqGuard op t x y (a.eval x) (a.eval y)).run P w = .ok () w) (hb : (binOp op t (a.eval x) (a.eval y)).run P w = .ok v w) :
    (execOp a.eval { dst := d, op := .binOp op t x y yt, type := ty, pos := ps, after := af, guard := none }).run P w = .ok (.value v) w := by
  simp only [execOp, Sem.run_bind, hg, Result.andThen_ok, hb]
  rfl
theorem run_equalIn_nil {t e : TypeId} (w : World) (hu : P.underlying t = some (.slice e)) (d : Nat) (ad : Option Addr) (n cap : Nat) : (Op.equalIn (d + 1) t (.slice ad n cap) (.slice none 0 0)).run P w = .ok ad.isNone w := by
  cases ad <;> simp [Op.equalIn, run_underlying hu]
theorem run_eql_nil {t e : TypeId} (w : World) (hu : P.underlying t = some (.slice e)) (ad : Option Addr) (n cap : Nat) : (binOp .eql t (.slice ad n cap) (.slice none 0 0)).run P w = .ok (.bool ad.isNone) w := by
  have h : (binOp .eql t (.slice ad n cap) (.slice none 0 0)).run P w = ((Op.equalIn (9999 + 1) t (.slice ad n cap) (.slice none 0 0)).run P w).andThen fun b w' => .ok (.bool b) w' := by
    simp only [binOp]
    simp [Op.equal, Op.maxDepth]
  rw [h, run_equalIn_nil w hu]; rfl
theorem run_neq_nil {t e : TypeId} (w : World) (hu : P.underlying t = some (.slice e)) (ad : Option Addr) (n cap : Nat) : (binOp .neq t (.slice ad n cap) (.slice none 0 0)).run P w = .ok (.bool (!ad.isNone)) w := by
  have h : (binOp .neq t (.slice ad n cap) (.slice none 0 0)).run P w = ((Op.equalIn (9999 + 1) t (.slice ad n cap) (.slice none 0 0)).run P w).andThen fun b w' => .ok (.bool (!b)) w' := by
    simp only [binOp]
    simp [Op.equal, Op.maxDepth]
  rw [h, run_equalIn_nil w hu]; rfl
theorem e_nilcmp (E : Eng P cf Q) {t e : TypeId} {x : Operand} {yt : TypeId} {dst : Nat} {ty : TypeId} {ps : String} {af : Array Edge} (neg : Bool) (hk : (P.ti t).k = .slice e) (hd : dst < cf.n) {w0 : W} {xs : List D} (hx : ev s x = .d (.sl w0 xs))
    (h : ∀ b : Bool, (b = true → xs = []) → E.run k (s.put dst (.d (.bool (if neg then !b else b))))) :
    E.stp { dst := some dst, op := .binOp (if neg then .neq else .eql) t x (.const (.slice none 0 0)) yt, type := ty, pos := ps, after := af, guard := none } s k .no := by
  rw [e_stp_no]
  intro B hB ds β a w hds hs Q'
  have hv := hs.ev x
  rw [hx] at hv
  have hv := hv.toD
  have hu := ti_slice hk
  have hrun : ∃ b : Bool, (b = true → xs = []) ∧ (execOp a.eval { dst := some dst, op := .binOp (if neg then .neq else .eql) t x (.const (.slice none 0 0)) yt, type := ty, pos := ps, after := af, guard := none }).run P w = .ok (.value (.bool (if neg then !b else b))) w := by
    have key : ∀ ad n cap, a.eval x = .slice ad n cap → (execOp a.eval { dst := some dst, op := .binOp (if neg then .neq else .eql) t x (.const (.slice none 0 0)) yt, type := ty, pos := ps, after := af, guard := none }).run P w = .ok (.value (.bool (if neg then !ad.isNone else ad.isNone))) w := by
      intro ad n cap hv
      refine run_bin_val ?_ ?_
      · rw [hv]; cases neg <;> rfl
      · rw [hv]
        show (binOp _ t (.slice ad n cap) (.slice none 0 0)).run P w = _
        cases neg
        · exact run_eql_nil w hu ad n cap
        · exact run_neq_nil w hu ad n cap
    generalize hval : a.eval x = v at hv
    cases hv with
    | sl0 ad cap w => exact ⟨ad.isNone, fun _ => rfl, key _ _ _ hval⟩
    | sl b o cap c e fz w xs => exact ⟨false, fun h => (by cases h), key _ _ _ hval⟩
  obtain ⟨b, hb, hrun⟩ := hrun
  have h1 := h b hb
  rw [E.run_eq] at h1
  exact wpIn_of_run (by simp) hrun (.inl rfl) ⟨hds, _, β, run_ok h1, hs.put (by rw [hB.1]; exact hd) (.d _ _ (.bool _))⟩
end
end Go.Ab
namespace Go.Ab
section
variable {P : Program} {w : World} {H : Array Obj} {own : Nat → Prop}
end
section
variable {P : Program} {cf : Cf} {Q : Exit → St → Prop} {s : St} {k : List It}
end
end Go.Ab
namespace Go.Ab
section
variable {P : Program}
theorem funO_ok {G : List (Nat × Obj)} {f : FuncId} {fn : Func} {c : Code} {args : List AV} {hp : List (Name × Ob)} {u : List Nat} {Q : AV → List (Name × Ob) → Prop} (hf : P.funcs[f]? = some fn) (hb : fn.body = some c)
    (hnm : (fn.name == "runtime.NumGoroutine") = false) (hn : args.length ≤ fn.ntmps) (h : run P ⟨fn.ntmps, none, G, u⟩ [.code c] (fq P fn.results.toList u Q) (mk (argsFr 0 args) hp u)) : HCall P G f args hp u Q :=
  fun_ok hf hb (enter_run hf hb hnm) hn (fun _ _ h => h) h
theorem fq_ret (rs : List ResultVar) (u : List Nat) (Q : AV → List (Name × Ob) → Prop) (s : St) : fq P rs u Q .ret s = RX (resR P s rs) fun l => ∃ r hp' u' τ, Q r hp' ∧ LeL u τ (retS s (retV l)) [(0, r)] hp' u' := rfl
theorem fq_normal (rs : List ResultVar) (u : List Nat) (Q : AV → List (Name × Ob) → Prop) (s : St) : fq P rs u Q .normal s = RX (resR P s rs) fun l => ∃ r hp' u' τ, Q r hp' ∧ LeL u τ (retS s (retV l)) [(0, r)] hp' u' := rfl
theorem retS_mk (fr hp u) (x : AV) : retS (mk fr hp u) x = mk [(0, x)] hp u := by
  unfold retS mk
  congr 1
attribute [go_sem] fq_ret fq_normal retS_mk
def insL : List (Name × Ob) → List (Name × Ob) → List (Name × Ob)
  | [], hp => hp
  | q :: r, hp => insA (insL r hp) q.1 q.2
def delL : List Name → List (Name × Ob) → List (Name × Ob)
  | [], hp => hp
  | p :: r, hp => delA (delL r hp) p
theorem lkA_insL (q : Name) (hp : List (Name × Ob)) : ∀ l : List (Name × Ob), lkA none ((insL l hp).map fun x => (x.1, some x.2)) q = lkA (lkA none (hp.map fun x => (x.1, some x.2)) q) (l.map fun x => (x.1, some x.2)) q
  | [] => rfl
  | x :: r => by
    rw [insL, map_ins, lkA_ins, lkA_insL q hp r, List.map_cons, lkA_cons]
theorem lkA_delL (q : Name) (hp : List (Name × Ob)) : ∀ l : List Name, lkA none ((delL l hp).map fun x => (x.1, some x.2)) q = lkA (lkA none (hp.map fun x => (x.1, some x.2)) q) (l.map fun x => (x, (none : Option Ob))) q
  | [] => rfl
  | x :: r => by
    rw [delL, map_del, lkA_del, lkA_delL q hp r, List.map_cons, lkA_cons]
theorem mk_aft (fr hp u) (σ : Name → Name) (d : Nat) (chp hp' : List (Name × Ob)) (r : AV) : aft (mk fr hp u) σ d chp hp' r = mk (insA fr d (r.ren (aftN σ d chp))) (insL (hp'.map fun x => (aftN σ d chp x.1, x.2.ren (aftN σ d chp))) (delL (chp.map fun x => σ x.1) hp)) (d :: u) := by
  unfold aft mk
  congr 1
  · funext j
    rw [lkA_ins]; rfl
  · funext q
    simp only
    rw [lkA_insL, lkA_delL]
    simp only [List.map_map]
    rfl
attribute [go_sem] mk_aft insL delL aftN passL likeM Ob.like List.any_cons List.any_nil
end
section
variable {P : Program} {cf : Cf} {Q : Exit → St → Prop} {s : St} {k : List It}
theorem e_callO (E : Eng P cf Q) {d : Nat} {fv : Operand} {args : Array Operand} {at' : Array TypeId} {ty : TypeId} {pos : String} {af : Array Edge}
    {f : FuncId} {caps : List AV} (cargs : List AV) (chp : List (Name × Ob)) (cu : List Nat) {Q0 : AV → List (Name × Ob) → Prop} (hc : HCall P cf.G f cargs chp cu Q0)
    (hev : ev s fv = .clo f caps) (hargs : args.toList.map (ev s) ++ caps = cargs) (hd : d < cf.n ∧ d ∉ s.used) (hcu : inUL cu cargs = true) (hpass : passL id cu s chp) (hinj : injL id chp)
    (hk : ∀ r hp', Q0 r hp' → likeM chp hp' ∧ E.run k (aft s id d chp hp' r)) :
    E.stp { dst := some d, op := .call { callee := .value fv, args := args, argTypes := at' }, type := ty, pos := pos, after := af, guard := none } s k .no := by
  rw [e_stp_no]
  refine call_ok d id cargs chp cu Q0 hev ?_ hcu hd.2 (fun t ht => ?_) hpass hinj hc fun r hp' hr => ?_
  · rw [hargs]
    have : ∀ l : List AV, renL id l = l := fun l => by
      induction l with
      | nil => rfl
      | cons x r ih => rw [renL, ih, AV.ren_id id (fun _ => rfl)]
    exact (this _).symm
  · obtain rfl := Option.some.inj ht
    exact ⟨hd.1, rfl⟩
  · obtain ⟨h1, h2⟩ := hk r hp' hr
    exact ⟨h1, by rw [← E.run_eq]; exact h2⟩
section
variable {κ : Type} [DecidableEq κ] {ke : κ → D} {kv : κ → Value} {ops : Array Oper} {K : St → Ns → Prop} {r : List Oper} {ns : Ns}
end
end
end Go.Ab
namespace Go.Ab
def Wk (a b : D) : Prop := ∀ (H : Array Obj) (own : Nat → Prop) (v : Value), Rep H own v a → Rep H own v b
theorem Wk.refl (a : D) : Wk a a := fun _ _ _ h => h
theorem Wk.trans {a b c : D} (h : Wk a b) (g : Wk b c) : Wk a c := fun H own v x => g H own v (h H own v x)
theorem Wk.nils (w : W) : Wk .nils (.sl w []) := fun _ _ _ h => by
  cases h
  exact .sl0 none 0 w
theorem Wk.agg {as bs : List D} (hl : as.length = bs.length) (hs : ∀ b ∈ bs, b.scal = true) (h : ∀ (i : Nat) a b, as[i]? = some a → bs[i]? = some b → Wk a b) : Wk (.agg as) (.agg bs) := fun H own v x => by
  cases x with
  | agg vs _ h1 _ h3 =>
    refine .agg vs bs (h1.trans hl) hs fun i b hb => ?_
    have : i < as.length := by rw [hl]; exact (List.getElem?_eq_some_iff.1 hb).1
    exact h i _ b (List.getElem?_eq_getElem this) hb H own _ (h3 i _ (List.getElem?_eq_getElem this))
theorem Wk.sl {w : W} {as bs : List D} (hl : as.length = bs.length) (hw : ∀ b ∈ bs, okW w b) (h : ∀ (i : Nat) a b, as[i]? = some a → bs[i]? = some b → a.cells.length = b.cells.length ∧ ∀ (j : Nat) c d, a.cells[j]? = some c → b.cells[j]? = some d → Wk c d) : Wk (.sl w as) (.sl w bs) := fun H own v x => by
  cases x with
  | sl0 a cap _ =>
    have : bs = [] := List.length_eq_zero_iff.1 hl.symm
    subst this
    exact .sl0 a cap w
  | sl b o cap c e fz _ _ hb hn hcap hz _ hr =>
    rw [hl]
    refine .sl b o cap c e fz w bs hb hn (by omega) (by rw [← hl]; exact hz) hw fun i x j d hi hj => ?_
    have hlt : i < as.length := by rw [hl]; exact (List.getElem?_eq_some_iff.1 hi).1
    obtain ⟨g1, g2⟩ := h i _ x (List.getElem?_eq_getElem hlt) hi
    have hj2 : j < (as[i]).cells.length := by rw [g1]; exact (List.getElem?_eq_some_iff.1 hj).1
    exact g2 j _ d (List.getElem?_eq_getElem hj2) hj H own _ (hr i _ j _ (List.getElem?_eq_getElem hlt) (List.getElem?_eq_getElem hj2))
def WkL : List D → List D → Prop
  | [], [] => True
  | a :: as, b :: bs => Wk a b ∧ WkL as bs
  | _, _ => False
theorem WkL.get : ∀ {as bs : List D}, WkL as bs → as.length = bs.length ∧ ∀ (i : Nat) a b, as[i]? = some a → bs[i]? = some b → Wk a b
  | [], [], _ => ⟨rfl, fun _ _ _ h => by simp at h⟩
  | _ :: _, _ :: _, h => by
    obtain ⟨g1, g2⟩ := WkL.get h.2
    refine ⟨by simp [g1], fun i a b ha hb => ?_⟩
    cases i with
    | zero => simp at ha hb; subst ha; subst hb; exact h.1
    | succ i => exact g2 i a b (by simpa using ha) (by simpa using hb)
  | [], _ :: _, h => h.elim
  | _ :: _, [], h => h.elim
theorem VR.wk {H : Array Obj} {own : Nat → Prop} {used : List Nat} {hp : Name → Option Ob} {β : Name → Option Blk} {v : Value} {a b : D} (h : Wk a b) (hv : VR H own used hp β v (.d a)) : VR H own used hp β v (.d b) :=
  .d _ _ (h _ _ _ hv.toD)
section
variable {P : Program}
theorem Sim.slotsWk {B : Base} {β : Name → Option Blk} {s s' : St} {tm : Array Value} {w : World} (h : Sim B β s tm w) (h1 : s'.hp = s.hp) (h2 : s'.used = s.used) (h3 : ∀ t, s'.fr t = s.fr t ∨ ∃ a b, s.fr t = .d a ∧ s'.fr t = .d b ∧ Wk a b) : Sim B β s' tm w := by
  obtain ⟨fr, hp, us⟩ := s
  obtain ⟨fr2, hp2, us2⟩ := s'
  simp only at h1 h2 h3
  subst h1; subst h2
  exact { tms := h.tms, io := h.io, size := h.size, frame := h.frame, slots := fun t => (by
    have := h.slots t
    rcases h3 t with e | ⟨a, b, e1, e2, hw⟩
    · show VR _ _ _ _ _ _ (fr2 t)
      rw [e]; exact this
    · show VR _ _ _ _ _ _ (fr2 t)
      rw [e2]
      have this : VR _ _ _ _ _ _ (fr t) := this
      rw [e1] at this
      exact this.wk hw), objs := h.objs, blocks := h.blocks, inj := h.inj, us := h.us, stay := h.stay }
theorem HP.wk {G : List (Nat × Obj)} {f : FuncId} {as bs : List D} {Q : AV → Prop} (h : HP P G f bs Q) (hw : WkL as bs) : HP P G f as Q := by
  obtain ⟨g1, g2⟩ := hw.get
  refine ⟨h.1, fun B β vs w h1 h2 h3 h4 hs => h.2 B β vs w (by rw [h1]; simp [g1]) h2 h3 h4 (hs.slotsWk rfl rfl fun t => ?_)⟩
  rw [mk_fr, mk_fr, argsFr_get, argsFr_get, if_pos (Nat.zero_le _), if_pos (Nat.zero_le _), Nat.sub_zero, List.getElem?_map, List.getElem?_map]
  by_cases ht : t < as.length
  · have ht' : t < bs.length := by omega
    rw [List.getElem?_eq_getElem ht, List.getElem?_eq_getElem ht']
    exact .inr ⟨_, _, rfl, rfl, g2 t _ _ (List.getElem?_eq_getElem ht) (List.getElem?_eq_getElem ht')⟩
  · rw [List.getElem?_eq_none (by omega), List.getElem?_eq_none (by omega)]
    exact .inl rfl
end
theorem Sim.rebox {B : Base} {β : Name → Option Blk} {s : St} {tm : Array Value} {w : World} (h : Sim B β s tm w) {p : Name} {ty : Option Nat} {cs cs' : List AV} (hp : s.hp p = some (.boxT ty cs)) (hl : cs'.length = cs.length)
    (hv : ∀ (v : Value) (j : Nat) x x', cs[j]? = some x → cs'[j]? = some x' → VR w.heap (s.own B.A β) s.used s.hp β v x → VR w.heap (s.own B.A β) s.used s.hp β v x') : Sim B β (s.set p (some (.boxT ty cs'))) tm w := by
  have hhq : ∀ q, q ≠ p → (s.set p (some (.boxT ty cs'))).hp q = s.hp q := fun q h1 => by simp [St.set, updP, h1]
  have hhp : (s.set p (some (.boxT ty cs'))).hp p = some (.boxT ty cs') := by simp [St.set, updP]
  have hnn : ∀ q, (s.set p (some (.boxT ty cs'))).hp q ≠ none ↔ s.hp q ≠ none := fun q => by
    by_cases e : q = p
    · subst e; rw [hhp, hp]; simp
    · rw [hhq q e]
  have hown : (s.set p (some (.boxT ty cs'))).own B.A β = s.own B.A β := by
    funext b
    refine propext (or_congr_right ⟨?_, ?_⟩)
    · rintro ⟨q, l, hq, hl, rfl⟩; exact ⟨q, l, (hnn q).1 hq, hl, rfl⟩
    · rintro ⟨q, l, hq, hl, rfl⟩; exact ⟨q, l, (hnn q).2 hq, hl, rfl⟩
  have hst : ∀ q, nm s.used q → Stays s.hp (s.set p (some (.boxT ty cs'))).hp β β q := by
    intro q _ o ho
    by_cases e : q = p
    · subst e
      rw [hhp] at ho
      cases ho
      exact ⟨_, hp, by simp [Ob.like, hl], rfl⟩
    · exact ⟨o, by rwa [hhq q e] at ho, Ob.like_refl _, rfl⟩
  refine { tms := h.tms, io := h.io, size := h.size, frame := h.frame, slots := fun i => ?_, objs := ?_, blocks := fun q l hq hl => h.blocks q l ((hnn q).1 hq) hl, inj := fun q q' l l' hq hq' => h.inj q q' l l' ((hnn q).1 hq) ((hnn q').1 hq'), us := h.us, stay := h.stay }
  · rw [hown]; exact (h.slots i).mono (fun _ _ h => h) (fun _ h => h) hst
  · intro q o ho
    rw [hown]
    by_cases e : q = p
    · subst e
      rw [hhp] at ho
      cases ho
      obtain ⟨h1, k, c, e, g1, g2, g3, g4, g5, g6, g7⟩ := h.objs q _ hp
      refine ⟨h1, k, c, e, g1, g2, g3, g4, by rw [g5, hl], g6, fun j x' hx' => ?_⟩
      have hlt : j < cs.length := by rw [← hl]; exact (List.getElem?_eq_some_iff.1 hx').1
      exact (hv _ j _ x' (List.getElem?_eq_getElem hlt) hx' (g7 j _ (List.getElem?_eq_getElem hlt))).mono (fun _ _ h => h) (fun _ h => h) hst
    · rw [hhq q e] at ho
      obtain ⟨h1, h2⟩ := h.objs q o ho
      exact ⟨h1, h2.mono (fun _ _ h => h) (fun _ h => h) hst rfl fun _ _ => rfl⟩
theorem vw_nils {H : Array Obj} {own : Nat → Prop} {used : List Nat} {hp : Name → Option Ob} {β : Name → Option Blk} {v : Value} {p : Name} {w : W} (hu : nm used p) (ho : hp p = some (.arr w [])) (h : VR H own used hp β v (.d .nils)) : VR H own used hp β v (.vw p 0 0) := by
  have := h.toD
  cases this
  exact .vw _ _ _ _ hu rfl fun ty' w' xs hx => by
    rw [ho] at hx
    cases hx
    exact ⟨Nat.le_refl _, none, 0, rfl, .inl ⟨rfl, rfl⟩⟩
section
variable {P : Program} {cf : Cf} {Q : Exit → St → Prop} {s : St} {k : List It}
theorem c_thaw (E : Eng P cf Q) {c : Code} (t n : Nat) (w : W) (ht : s.fr t = .d .nils) (hn : n ∉ s.used) (h : CodeE E c ((s.add n (.arr w [])).put t (.vw [n] 0 0)) k) : CodeE E c s k := by
  intro B hB ds β a w' hds hs
  have h1 := hs.addNone hn none w
  have h2 := h1.slots t
  rw [show (s.add n (.arr w [])).fr t = .d .nils from ht] at h2
  exact h B hB ds _ a w' hds (h1.setv (vw_nils (w := w) ⟨n, [], rfl, List.mem_cons_self⟩ (by simp [St.add, updP]) h2))
theorem c_thawB (E : Eng P cf Q) {c : Code} (p : Name) (j n : Nat) (w : W) (cs : List AV) (hp : s.hp p = some (.box cs)) (hj : cs[j]? = some (.d .nils)) (hn : n ∉ s.used) (h : CodeE E c ((s.add n (.arr w [])).set p (some (.box (cs.set j (.vw [n] 0 0))))) k) : CodeE E c s k := by
  intro B hB ds β a w' hds hs
  have h1 := hs.addNone hn none w
  have hpn : p ≠ [n] := nm_ne (hs.objs p _ hp).1 hn
  refine h B hB ds _ a w' hds (h1.rebox (cs := cs) (by simpa [St.add, updP, hpn] using hp) (by simp) fun v i x x' hx hx' hv => ?_)
  by_cases e : j = i
  · subst e
    rw [hj] at hx
    cases hx
    rw [List.getElem?_set_self (List.getElem?_eq_some_iff.1 hj).1] at hx'
    cases hx'
    exact vw_nils (w := w) ⟨n, [], rfl, List.mem_cons_self⟩ (by simp [St.add, updP]) hv
  · rw [List.getElem?_set_ne e, hx] at hx'
    cases hx'
    exact hv
attribute [go_sem] List.set_cons_zero List.set_cons_succ
end
end Go.Ab
namespace Go.Ab
def gv (c : Bool) (x : AV) : AV := if c = true then x else .tup []
def cb (c w : Bool) : Bool := if w = true then c else !c
theorem cb_t (c : Bool) : cb c true = c := rfl
theorem cb_f (c : Bool) : cb c false = !c := rfl
theorem gv_t (x : AV) : gv true x = x := rfl
theorem gv_f (x : AV) : gv false x = .tup [] := rfl
def pk (c : Bool) (x y : AV) : AV := if c = true then x else y
theorem pk_t (x y : AV) : pk true x y = x := rfl
theorem pk_f (x y : AV) : pk false x y = y := rfl
theorem pk_or (c b : Bool) : pk c (.d (.bool true)) (gv (!c) (.d (.bool b))) = .d (.bool (c || b)) := by cases c <;> rfl
theorem pk_or' (c b : Bool) : pk (!c) (.d (.bool true)) (gv c (.d (.bool b))) = .d (.bool (!c || b)) := by cases c <;> rfl
theorem pk_and (c b : Bool) : pk c (gv c (.d (.bool b))) (.d (.bool false)) = .d (.bool (c && b)) := by cases c <;> rfl
attribute [go_sem] gv_t gv_f cb_t cb_f pk_t pk_f pk_or pk_or' pk_and Bool.not_not Option.bind_some
theorem frB_gv (p : Name) (d : D) (c : Bool) (x : AV) : (gv c x).frB p d = gv c (x.frB p d) := by cases c <;> rfl
theorem frz_gv (p : Name) (w : W) (xs : List D) (c : Bool) (x : AV) : (gv c x).frz p w xs = gv c (x.frz p w xs) := by cases c <;> rfl
attribute [go_sem] frB_gv frz_gv
theorem cb_eq {c want : Bool} (h : c = want) : cb c want = true := by subst h; cases c <;> rfl
theorem cb_ne {c want : Bool} (h : ¬ c = want) : cb c want = false := by cases c <;> cases want <;> first | rfl | exact absurd rfl h
section
variable {P : Program} {cf : Cf} {Q : Exit → St → Prop} {s : St} {k : List It}
theorem e_gmx (E : Eng P cf Q) {t : Nat} {c want : Bool} {all : Array Oper} {r : List Oper} {d : Nat} {op : Op} {ty : TypeId} {ps : String} {af : Array Edge} {g : Option (Nat × Bool)} {x : AV} (hd : d < cf.n)
    (hx : c = want → E.run (.ops all r :: k) ((s.put t (.d (.bool want))).put d x) → E.stp { dst := some d, op := op, type := ty, pos := ps, after := af, guard := none } (s.put t (.d (.bool want))) (.ops all r :: k) (opR P.ti cf.n op (some d) (s.put t (.d (.bool want)))))
    (h : E.run (.ops all r :: k) ((s.put t (.d (.bool c))).put d (gv (cb c want) x))) : E.gd want all { dst := some d, op := op, type := ty, pos := ps, after := af, guard := g } r s k (some (t, .d (.bool c))) := by
  by_cases hc : c = want
  · have h1 := hx hc
    rw [cb_eq hc, gv_t] at h
    subst hc
    have h2 := h1 h
    cases c
    · rw [e_gd_ff]; exact h2
    · rw [e_gd_tt]; exact h2
  · rw [cb_ne hc, gv_f] at h
    cases c <;> cases want <;> first
      | exact absurd rfl hc
      | (rw [e_gd_tf, e_skp_some (h := hd)]; exact h)
      | (rw [e_gd_ft, e_skp_some (h := hd)]; exact h)
theorem e_gmx2 (E : Eng P cf Q) {t : Nat} {c e want : Bool} {all : Array Oper} {r : List Oper} {d : Nat} {op : Op} {ty : TypeId} {ps : String} {af : Array Edge} {g : Option (Nat × Bool)} {x : AV} (hd : d < cf.n) (hs : s.fr t = gv c (.d (.bool e)))
    (hx : c = true → e = want → E.run (.ops all r :: k) ((s.put t (.d (.bool want))).put d x) → E.stp { dst := some d, op := op, type := ty, pos := ps, after := af, guard := none } (s.put t (.d (.bool want))) (.ops all r :: k) (opR P.ti cf.n op (some d) (s.put t (.d (.bool want)))))
    (h : E.run (.ops all r :: k) (s.put d (gv (c && cb e want) x))) : E.gd want all { dst := some d, op := op, type := ty, pos := ps, after := af, guard := g } r s k (some (t, gv c (.d (.bool e)))) := by
  by_cases hc : c = true
  · subst hc
    rw [gv_t] at hs ⊢
    refine e_gmx E hd (hx rfl) ?_
    rw [put_same hs]
    exact h
  · have hc : c = false := by simpa using hc
    subst hc
    rw [gv_f]
    rw [Bool.false_and, gv_f] at h
    rw [e_gd_un, e_skp_some (h := hd)]
    exact h
theorem stp_of_run (E : Eng P cf Q) {x : R St} {o : Oper} {s2 : St} (h : x.run (fun s' => s' = s2) False) (hk : E.run k s2) : E.stp o s k x := by
  induction x with
  | ok a => rw [e_stp_ok]; obtain rfl : a = s2 := h; exact hk
  | need p r ih => rw [e_stp_need]; exact ⟨h.1, ih h.2⟩
  | no => exact h.elim
theorem e_gm (E : Eng P cf Q) {t : Nat} {c want : Bool} {all : Array Oper} {r : List Oper} {d : Nat} {op : Op} {ty : TypeId} {ps : String} {af : Array Edge} {g : Option (Nat × Bool)} {x : AV} (hd : d < cf.n)
    (hx : c = want → (opR P.ti cf.n op (some d) (s.put t (.d (.bool want)))).run (fun s' => s' = (s.put t (.d (.bool want))).put d x) False)
    (h : E.run (.ops all r :: k) ((s.put t (.d (.bool c))).put d (gv (cb c want) x))) : E.gd want all { dst := some d, op := op, type := ty, pos := ps, after := af, guard := g } r s k (some (t, .d (.bool c))) :=
  e_gmx E hd (fun hc hk => stp_of_run E (hx hc) hk) h
theorem e_gm2 (E : Eng P cf Q) {t : Nat} {c e want : Bool} {all : Array Oper} {r : List Oper} {d : Nat} {op : Op} {ty : TypeId} {ps : String} {af : Array Edge} {g : Option (Nat × Bool)} {x : AV} (hd : d < cf.n) (hs : s.fr t = gv c (.d (.bool e)))
    (hx : c = true → e = want → (opR P.ti cf.n op (some d) (s.put t (.d (.bool want)))).run (fun s' => s' = (s.put t (.d (.bool want))).put d x) False)
    (h : E.run (.ops all r :: k) (s.put d (gv (c && cb e want) x))) : E.gd want all { dst := some d, op := op, type := ty, pos := ps, after := af, guard := g } r s k (some (t, gv c (.d (.bool e)))) :=
  e_gmx2 E hd hs (fun h1 h2 hk => stp_of_run E (hx h1 h2) hk) h
theorem e_pk (E : Eng P cf Q) {d : Nat} {n : Nat} {c : Bool} {x y : AV} {o : Oper} (hd : d < n) (h : E.run k (s.put d (pk c x y))) : E.stp o s k ((pickR (.d (.bool c)) x y).bind (putR n (some d) s)) := by
  cases c <;> (simp only [pickR, R.bind, putR, hd, if_true, e_stp_ok]; exact h)
theorem e_gpk (E : Eng P cf Q) {t : Nat} {c want : Bool} {all : Array Oper} {r : List Oper} {d : Nat} {a b b' : Operand} {ty : TypeId} {ps : String} {af : Array Edge} {g : Option (Nat × Bool)} {c2 : Bool} {z : AV} (hd : d < cf.n)
    (hx : c = want → ev (s.put t (.d (.bool want))) a = .d (.bool c2)) (hz : c = want → pk c2 (ev (s.put t (.d (.bool want))) b) (ev (s.put t (.d (.bool want))) b') = z)
    (h : E.run (.ops all r :: k) ((s.put t (.d (.bool c))).put d (gv (cb c want) z))) : E.gd want all { dst := some d, op := .pick a b b', type := ty, pos := ps, after := af, guard := g } r s k (some (t, .d (.bool c))) :=
  e_gmx E hd (fun hc hk => by
    have e : opR P.ti cf.n (.pick a b b') (some d) (s.put t (.d (.bool want))) = (pickR (.d (.bool c2)) (ev (s.put t (.d (.bool want))) b) (ev (s.put t (.d (.bool want))) b')).bind (putR cf.n (some d) (s.put t (.d (.bool want)))) := by
      rw [← hx hc]; rfl
    rw [e]
    refine e_pk E hd ?_
    rw [hz hc]
    exact hk) h
theorem e_gpk2 (E : Eng P cf Q) {t : Nat} {c e want : Bool} {all : Array Oper} {r : List Oper} {d : Nat} {a b b' : Operand} {ty : TypeId} {ps : String} {af : Array Edge} {g : Option (Nat × Bool)} {c2 : Bool} {z : AV} (hd : d < cf.n) (hs : s.fr t = gv c (.d (.bool e)))
    (hx : c = true → e = want → ev (s.put t (.d (.bool want))) a = .d (.bool c2)) (hz : c = true → e = want → pk c2 (ev (s.put t (.d (.bool want))) b) (ev (s.put t (.d (.bool want))) b') = z)
    (h : E.run (.ops all r :: k) (s.put d (gv (c && cb e want) z))) : E.gd want all { dst := some d, op := .pick a b b', type := ty, pos := ps, after := af, guard := g } r s k (some (t, gv c (.d (.bool e)))) :=
  e_gmx2 E hd hs (fun h1 h2 hk => by
    have e' : opR P.ti cf.n (.pick a b b') (some d) (s.put t (.d (.bool want))) = (pickR (.d (.bool c2)) (ev (s.put t (.d (.bool want))) b) (ev (s.put t (.d (.bool want))) b')).bind (putR cf.n (some d) (s.put t (.d (.bool want)))) := by
      rw [← hx h1 h2]; rfl
    rw [e']
    refine e_pk E hd ?_
    rw [hz h1 h2]
    exact hk) h
theorem hideQ (E : Eng P cf Q) (h : ∀ (Q' : Exit → St → Prop) (_ : Q' = Q) (E' : Eng P cf Q'), E'.run k s) : E.run k s := h Q rfl E
theorem e_nileq (E : Eng P cf Q) {t e : TypeId} {x : Operand} {yt : TypeId} {dst : Nat} {ty : TypeId} {ps : String} {af : Array Edge} {w0 : W} {xs : List D} (hk : (P.ti t).k = .slice e) (hd : dst < cf.n) (hx : ev s x = .d (.sl w0 xs))
    (h : ∀ b : Bool, (b = true → xs = []) → E.run k (s.put dst (.d (.bool b)))) :
    E.stp { dst := some dst, op := .binOp .eql t x (.const (.slice none 0 0)) yt, type := ty, pos := ps, after := af, guard := none } s k .no :=
  e_nilcmp E false hk hd hx h
end
end Go.Ab
namespace Go.Ab
section
variable {P : Program}
theorem HCall.thaw {G : List (Nat × Obj)} {f : FuncId} {args : List AV} {hp : List (Name × Ob)} {u : List Nat} {Q Q' : AV → List (Name × Ob) → Prop} (h : HCall P G f args hp u Q) (n : Nat) (w : W) (hn : n ∉ u)
    (hQ : ∀ r hp', Q r hp' → Q' r hp' ∨ (r = .d .nils ∧ hp' = [] ∧ Q' (.vw [n] 0 0) [([n], .arr w [])])) : HCall P G f args hp u Q' := by
  refine ⟨h.1, fun B β vs W h1 h2 h3 h4 h5 => ?_⟩
  refine (h.2 B β vs W h1 h2 h3 h4 h5).mono ?_
  rintro e w' ⟨v, r, hp', u', β', he, hq, hs⟩
  rcases hQ r hp' hq with hq' | ⟨rfl, rfl, hq'⟩
  · exact ⟨v, r, hp', u', β', he, hq', hs⟩
  · have hle : Le ({ B with n := 1 } : Base).U0 id (mk [(0, .d .nils)] [] u') (mk [(0, .d .nils)] [] u) := by
      refine LeL.le ?_
      refine ⟨⟨⟨rfl, rfl⟩, trivial⟩, trivial, trivial, ?_, trivial⟩
      rw [show ({ B with n := 1 } : Base).U0 = u from h3]
      simp
    obtain ⟨β2, hs2, _⟩ := hs.le hle
    have h6 := hs2.addNone (t := n) (by rw [mk_used]; exact hn) none w
    have h7 := h6.slots 0
    rw [show ((mk [(0, AV.d .nils)] [] u).add n (.arr w [])).fr 0 = .d .nils from rfl] at h7
    have h8 := h6.setv (vw_nils (p := [n]) (w := w) ⟨n, [], rfl, List.mem_cons_self⟩ (by simp [St.add, updP]) h7)
    have e2 : ((mk [(0, AV.d .nils)] [] u).add n (.arr w [])).put 0 (.vw [n] 0 0) = mk [(0, .vw [n] 0 0)] [([n], .arr w [])] (n :: u) := by
      rw [mk_add, mk_put]; rfl
    rw [e2] at h8
    exact ⟨v, _, _, _, _, he, hq', h8⟩
end
end Go.Ab
namespace Go.Ab
mutual
def D.flat : D → Bool
  | .int _ _ => true
  | .bool _ => true
  | .str _ => true
  | .nilp => true
  | .nils => true
  | .nilm => true
  | .nilf => true
  | .nili => true
  | .sl _ xs => xs.isEmpty
  | .slx _ _ => false
  | .agg cs => flatL cs
  | .ptr _ => false
  | .clo _ cs => flatL cs
  | .ifc _ d => d.flat
  | .mpd _ _ _ _ => false
  | .yl _ => true
def flatL : List D → Bool
  | [] => true
  | d :: r => d.flat && flatL r
end
mutual
def AV.flat : AV → Bool
  | .un => true
  | .d x => x.flat
  | .vw _ _ _ => true
  | .at _ _ => true
  | .el _ _ _ => true
  | .mp _ => true
  | .it _ => true
  | .agg cs => flatAL cs
  | .tup cs => flatAL cs
  | .clo _ cs => flatAL cs
def flatAL : List AV → Bool
  | [] => true
  | x :: r => x.flat && flatAL r
end
def flatE : List (D × D) → Bool
  | [] => true
  | x :: r => x.1.flat && x.2.flat && flatE r
def Ob.flat : Ob → Bool
  | .arrT _ _ xs => flatL xs
  | .boxT _ cs => flatAL cs
  | .map es => flatE es
  | .siter _ _ => true
  | .miter _ _ _ => false
def flatH : List (Name × Ob) → Bool
  | [] => true
  | x :: r => x.2.flat && flatH r
theorem flatL_get : ∀ {l : List D}, flatL l = true → ∀ (i : Nat) d, l[i]? = some d → d.flat = true
  | [], _, i, d, h => by simp at h
  | x :: r, hf, i, d, h => by
    simp only [flatL, Bool.and_eq_true] at hf
    cases i with
    | zero => cases h; exact hf.1
    | succ i => exact flatL_get hf.2 i d (by simpa using h)
theorem flatAL_get : ∀ {l : List AV}, flatAL l = true → ∀ (i : Nat) x, l[i]? = some x → x.flat = true
  | [], _, i, d, h => by simp at h
  | x :: r, hf, i, d, h => by
    simp only [flatAL, Bool.and_eq_true] at hf
    cases i with
    | zero => cases h; exact hf.1
    | succ i => exact flatAL_get hf.2 i d (by simpa using h)
theorem flatE_get : ∀ {l : List (D × D)}, flatE l = true → ∀ (i : Nat) x, l[i]? = some x → x.1.flat = true ∧ x.2.flat = true
  | [], _, i, d, h => by simp at h
  | x :: r, hf, i, d, h => by
    simp only [flatE, Bool.and_eq_true] at hf
    cases i with
    | zero => cases h; exact hf.1
    | succ i => exact flatE_get hf.2 i d (by simpa using h)
theorem flatH_mem : ∀ {l : List (Name × Ob)}, flatH l = true → ∀ q ∈ l, q.2.flat = true
  | [], _, q, h => by simp at h
  | x :: r, hf, q, h => by
    simp only [flatH, Bool.and_eq_true] at hf
    rcases List.mem_cons.1 h with rfl | h
    · exact hf.1
    · exact flatH_mem hf.2 q h
theorem Rep.reown {H H' : Array Obj} {own own' : Nat → Prop} {v : Value} {d : D} (h : Rep H own v d) : d.flat = true → Rep H' own' v d := by
  induction h with
  | int k n => exact fun _ => .int k n
  | bool b => exact fun _ => .bool b
  | str l => exact fun _ => .str l
  | nilp => exact fun _ => .nilp
  | nils => exact fun _ => .nils
  | nilm => exact fun _ => .nilm
  | nilf => exact fun _ => .nilf
  | nili => exact fun _ => .nili
  | yl l => exact fun _ => .yl l
  | agg vs cs hs hc _ ih => exact fun hf => .agg vs cs hs hc fun i d hi => ih i d hi (flatL_get hf i d hi)
  | sl0 a cap w => exact fun _ => .sl0 a cap w
  | sl b o cap c e fz w xs hb hn hcap hz hw _ ih =>
    intro hf
    have : xs = [] := by simpa [D.flat] using hf
    subst this
    exact .sl0 _ _ _
  | slx v w xs _ hc ih => intro hf; cases hf
  | ptr b o c e fz d hb hn hz hsc _ ih => intro hf; cases hf
  | clo f vs cs hs _ ih => exact fun hf => .clo f vs cs hs fun i d hi => ih i d hi (flatL_get hf i d hi)
  | ifc t v d _ ih => exact fun hf => .ifc t v d (ih hf)
  | mpd b clk ents bs ks vs hb hn hs hbs _ _ ih1 ih2 => intro hf; cases hf
section
variable {H : Array Obj} {own own' : Nat → Prop} {used : List Nat} {hp : Name → Option Ob} {β : Name → Option Blk}
theorem VR.reown {v : Value} {x : AV} (h : VR H own used hp β v x) : x.flat = true → VR H own' used hp β v x := by
  induction h with
  | un v => exact fun _ => .un v
  | d v x h => exact fun hf => .d v x (h.reown hf)
  | vw v p off len hu h1 h => exact fun _ => .vw v p off len hu h1 h
  | «at» v p c hu h1 h => exact fun _ => .at v p c hu h1 h
  | el v p i c hu h1 h => exact fun _ => .el v p i c hu h1 h
  | mp v p hu h1 h => exact fun _ => .mp v p hu h1 h
  | its v p hu h1 h h' => exact fun _ => .its v p hu h1 h h'
  | agg vs cs hs hc _ ih => exact fun hf => .agg vs cs hs hc fun i x hi => ih i x hi (flatAL_get hf i x hi)
  | tup vs cs hs _ ih => exact fun hf => .tup vs cs hs fun i x hi => ih i x hi (flatAL_get hf i x hi)
  | clo f vs cs hs _ ih => exact fun hf => .clo f vs cs hs fun i x hi => ih i x hi (flatAL_get hf i x hi)
theorem cells_flat {d : D} (h : d.flat = true) : flatL d.cells = true := by
  cases d <;> first | exact h | (simp only [D.cells, flatL, Bool.and_true]; exact h)
theorem OR.reown {p : Name} {o : Ob} (h : OR H own used hp β p o) (hf : o.flat = true) : OR H own' used hp β p o := by
  cases o with
  | arrT ty w xs =>
    rcases h with h | ⟨k, c, e, hk, hc, hz, hl, hw, h⟩
    · exact .inl h
    · exact .inr ⟨k, c, e, hk, hc, hz, hl, hw, fun i x j d hi hj => (h i x j d hi hj).reown (flatL_get (cells_flat (flatL_get hf i x hi)) j d hj)⟩
  | boxT ty cs =>
    obtain ⟨k, c, e, hk, ho, hc, hz, hl, h1, h⟩ := h
    exact ⟨k, c, e, hk, ho, hc, hz, hl, h1, fun j x hj => (h j x hj).reown (flatAL_get hf j x hj)⟩
  | map es =>
    obtain ⟨k, ents, clock, hk, hc, hz, h⟩ := h
    refine ⟨k, ents, clock, hk, hc, hz, fun i x hi => ?_⟩
    obtain ⟨en, h1, h2, h3⟩ := h i x hi
    obtain ⟨g1, g2⟩ := flatE_get hf i x hi
    exact ⟨en, h1, h2.reown g1, h3.reown g2⟩
  | siter s pos => exact h
  | miter _ _ _ => cases hf
end
theorem Sim.reown {n : Nat} {io : Os × Array (Nat × ByteArray)} {G : List (Nat × Obj)} {H0 : Array Obj} {O0 A A2 : Nat → Prop} {U0 : List Nat} {β0 : Name → Option Blk} {hA : ∀ b, A b → b < H0.size} {hA2 : ∀ b, A2 b → b < H0.size} {hG : ∀ q ∈ G, H0[q.1]? = some q.2 ∧ ¬ O0 q.1}
    {β : Name → Option Blk} {fr : List (Nat × AV)} {hp : List (Name × Ob)} {u : List Nat} {tm : Array Value} {w : World}
    (h : Sim ⟨n, io, G, H0, O0, A, U0, β0, hA, hG⟩ β (Go.Ab.mk fr hp u) tm w) (hO : ∀ b, A2 b → ¬ O0 b) (hf : ∀ t, (lkA AV.un fr t).flat = true) (hh : flatH hp = true) : Sim ⟨n, io, G, H0, O0, A2, U0, β0, hA2, hG⟩ β (Go.Ab.mk fr hp u) tm w := by
  refine { tms := h.tms, io := h.io, size := h.size, frame := h.frame, slots := fun t => (h.slots t).reown (hf t), objs := fun p o ho => ?_, blocks := fun p k hp hk => ?_, inj := h.inj, us := h.us, stay := h.stay }
  · obtain ⟨h1, h2⟩ := h.objs p o ho
    exact ⟨h1, h2.reown (flatH_mem hh _ (mk_hp_mem ho))⟩
  · obtain ⟨h1, _, h3⟩ := h.blocks p k hp hk
    refine ⟨h1, fun ha => ?_, h3⟩
    rcases h3 with h3 | h3
    · exact absurd (hA2 _ ha) (Nat.not_lt.2 h3)
    · exact hO _ ha h3
def St.frzL (s : St) (L : List (Name × W × List D)) : St := L.foldl (fun s q => s.frz q.1 q.2.1 q.2.2) s
theorem frzL_nil (s : St) : s.frzL [] = s := rfl
theorem frzL_cons (s : St) (q : Name × W × List D) (L) : s.frzL (q :: L) = (s.frz q.1 q.2.1 q.2.2).frzL L := rfl
theorem frzL_hp : ∀ (L : List (Name × W × List D)) (s : St) (p : Name) (o : Ob), (s.frzL L).hp p = some o → s.hp p = some o
  | [], _, _, _, h => h
  | q :: L, s, p, o, h => by
    have := frzL_hp L _ p o h
    have h2 : updP s.hp q.1 none p = some o := this
    unfold updP at h2
    split at h2
    · cases h2
    · exact h2
theorem frzL_sim {B : Base} {β : Name → Option Blk} {tm : Array Value} {w : World} : ∀ (L : List (Name × W × List D)) (s : St), Sim B β s tm w → Lok s L → Sim B β (s.frzL L) tm w
  | [], _, h, _ => h
  | _ :: L, _, h, hl => frzL_sim L _ (h.frz hl.1) hl.2
theorem enterB_ok {P : Program} {B : Base} {β : Name → Option Blk} {s s' : St} {tm tm' : Array Value} {w : World} (h : Sim B β s tm w) (h' : Sim B β s' tm' w) (hsub : ∀ p o, s'.hp p = some o → s.hp p = some o) {f : FuncId} {cargs : List AV} {chp : List (Name × Ob)} {cu : List Nat} {Q0 : AV → List (Name × Ob) → Prop} {σ : Name → Name} {d : Nat} (hd : d ∉ s.used)
    (hpass : passL σ cu s' chp) (hinj : injL σ chp) (hcu : inUL cu cargs = true) {vs : Array Value} (hvs : vs.size = cargs.length) (hv : ∀ (i : Nat) x, cargs[i]? = some x → VR w.heap (s'.own B.A β) s'.used s'.hp β (vs.getD i undef) (x.ren σ)) (hc : HCall P B.G f cargs chp cu Q0)
    (hflat : ∀ r hp', Q0 r hp' → r.flat = true ∧ flatH hp' = true) :
    CallsIn Fence.wide 0 P f vs w fun e w' => ∃ v, e = .returned v ∧ ∃ r hp', Q0 r hp' ∧ (likeM chp hp' → ∃ β2, Sim B β2 { aft s σ d chp hp' r with fr := s.fr } tm w' ∧
      VR w'.heap ((aft s σ d chp hp' r).own B.A β2) (d :: s.used) (aft s σ d chp hp' r).hp β2 v (r.ren (aftN σ d chp))) := by
  obtain ⟨O0', hO⟩ : ∃ O0' : Nat → Prop, ∀ b, O0' b ↔ ∃ p k, chp.any (fun q => q.1 == p) = true ∧ β (σ p) = some k ∧ k.b = b := ⟨_, fun _ => Iff.rfl⟩
  obtain ⟨A', hA⟩ : ∃ A' : Nat → Prop, ∀ b, A' b ↔ s'.own B.A β b ∧ ¬ O0' b := ⟨_, fun _ => Iff.rfl⟩
  obtain ⟨A2, hA2⟩ : ∃ A2 : Nat → Prop, ∀ b, A2 b ↔ s.own B.A β b ∧ ¬ O0' b := ⟨_, fun _ => Iff.rfl⟩
  have hA' : ∀ b, A' b → b < w.heap.size := fun b hb => h'.own_lt ((hA b).1 hb).1
  have hA2' : ∀ b, A2 b → b < w.heap.size := fun b hb => h.own_lt ((hA2 b).1 hb).1
  have hpass0 : passL σ cu s chp := by
    clear hinj hO hcu hv hc
    induction chp with
    | nil => trivial
    | cons q r ih => exact ⟨⟨hsub _ _ hpass.1.1, hpass.1.2⟩, ih hpass.2⟩
  have hG' : ∀ q ∈ B.G, w.heap[q.1]? = some q.2 ∧ ¬ O0' q.1 := fun q hq => by
    obtain ⟨g1, g2⟩ := B.hG q hq
    have hlt := lt_of_some g1
    refine ⟨(h.frame _ hlt g2).trans g1, fun hb => ?_⟩
    obtain ⟨p, k, hp, hk, e⟩ := (hO _).1 hb
    obtain ⟨o, ho⟩ := lkS_any hp
    obtain ⟨h1, _, _⟩ := passL_mem hpass0 _ (lkS ho)
    obtain ⟨_, _, g3⟩ := h.blocks (σ p) k (by rw [h1]; simp) hk
    rcases g3 with g3 | g3
    · omega
    · exact g2 (e ▸ g3)
  have hβc : ∀ p, chp.any (fun q => q.1 == p) = true → (fun p => β (σ p)) p = β (σ p) := fun _ _ => rfl
  have live : ∀ p o, lkA none (chp.map fun x => (x.1, some x.2)) p = some o → s'.hp (σ p) = some (o.ren σ) ∧ o.inU cu = true ∧ nm cu p := fun p o ho => by
    obtain ⟨h1, h2, h3⟩ := passL_mem hpass _ (lkS ho)
    exact ⟨h1, h2, nmb_nm h3⟩
  have hown : ∀ b, (mk (argsFr 0 cargs) chp cu).own A' (fun p => β (σ p)) b → s'.own B.A β b := by
    intro b hb
    rcases list_own hb with hb | ⟨p, k, o, ho, hk, rfl⟩
    · exact ((hA b).1 hb).1
    · exact .inr ⟨σ p, k, by rw [(live p o ho).1]; simp, hk, rfl⟩
  have hr : ∀ v d, Rep w.heap (s'.own B.A β) v d → Rep w.heap ((mk (argsFr 0 cargs) chp cu).own A' (fun p => β (σ p))) v d := fun v d hd => hd.mono (fun _ _ _ => rfl) (fun b _ => hown b)
  have hob : ∀ p o, (mk (argsFr 0 cargs) chp cu).hp p = some o → s'.hp (σ p) = some (o.ren σ) ∧ (fun p => β (σ p)) p = β (σ p) := fun p o ho => ⟨(live p o ho).1, rfl⟩
  have hsim : Sim { n := cargs.length, io := B.io, G := B.G, H0 := w.heap, O0 := O0', A := A', U0 := cu, β0 := fun p => β (σ p), hA := hA', hG := hG' } (fun p => β (σ p)) (mk (argsFr 0 cargs) chp cu) vs w := by
    refine { tms := hvs, io := h.io, size := Nat.le_refl _, frame := fun _ _ _ => rfl, slots := fun t => ?_, objs := fun p o ho => ⟨(live p o ho).2.2, OR.ren hr hob rfl (live p o ho).2.1 (h'.objs _ _ (live p o ho).1).2⟩, blocks := fun p k hp hk => ?_, inj := fun p q k l hp hq hk hl e => ?_, us := fun _ hx => hx, stay := fun _ _ => rfl }
    · rw [mk_fr, argsFr_get, if_pos (Nat.zero_le _), Nat.sub_zero]
      cases ht : cargs[t]? with
      | none => exact .un _
      | some x => exact (hv t x ht).ren hr hob x rfl (inUL_get hcu t x ht)
    · cases ho : (mk (argsFr 0 cargs) chp cu).hp p with
      | none => exact absurd ho hp
      | some o =>
        have hin : O0' k.b := (hO _).2 ⟨p, k, List.any_eq_true.2 ⟨_, lkS ho, by simp⟩, hk, rfl⟩
        obtain ⟨g1, _, _⟩ := h'.blocks (σ p) k (by rw [(live p o ho).1]; simp) hk
        exact ⟨g1, fun ha => ((hA _).1 ha).2 hin, .inr hin⟩
    · cases ho : (mk (argsFr 0 cargs) chp cu).hp p with
      | none => exact absurd ho hp
      | some o =>
        cases ho' : (mk (argsFr 0 cargs) chp cu).hp q with
        | none => exact absurd ho' hq
        | some o' =>
          have e2 := h'.inj (σ p) (σ q) k l (by rw [(live p o ho).1]; simp) (by rw [(live q o' ho').1]; simp) hk hl e
          exact injL_mem hinj _ (lkS ho) _ (lkS ho') e2
  have hgo := fun h1 h2 h3 h4 => hc.2 _ _ vs w h1 h2 h3 h4 hsim
  refine (hgo rfl rfl rfl rfl).mono ?_
  rintro e w' ⟨v, r, hp', u', β', rfl, hQ, hs⟩
  obtain ⟨f1, f2⟩ := hflat r hp' hQ
  have hs2 := hs.reown (A2 := A2) (hA2 := hA2') (fun b hb => ((hA2 b).1 hb).2) (fun t => by
    simp only [lkA]
    split
    · exact f1
    · rfl) f2
  exact ⟨v, rfl, r, hp', hQ, fun hl => aft_sim h hd hpass0 hinj hβc hO hA2 hA2' hG' hl hs2⟩
section
variable {P : Program} {cf : Cf}
theorem callB_ok {s : St} {k : List It} {Q : Exit → St → Prop} {dst : Option Nat} {fv : Operand} {args : Array Operand} {at' : Array TypeId} {ty : TypeId} {pos : String} {af : Array Edge} {g : Option (Nat × Bool)}
    (L : List (Name × W × List D)) (hL : Lok s L) (d : Nat) (σ : Name → Name) (cargs : List AV) (chp : List (Name × Ob)) (cu : List Nat) (Q0 : AV → List (Name × Ob) → Prop) {f : FuncId} {caps : List AV}
    (hev : ev (s.frzL L) fv = .clo f caps) (hargs : args.toList.map (ev (s.frzL L)) ++ caps = renL σ cargs) (hcu : inUL cu cargs = true) (hd : d ∉ s.used) (hdst : ∀ t ∈ dst, t < cf.n ∧ t = d)
    (hpass : passL σ cu (s.frzL L) chp) (hinj : injL σ chp) (hc : HCall P cf.G f cargs chp cu Q0) (hflat : ∀ r hp', Q0 r hp' → r.flat = true ∧ flatH hp' = true)
    (hk : ∀ r hp', Q0 r hp' → likeM chp hp' ∧ run P cf k Q (aftD s σ d dst chp hp' r)) :
    AOk P cf { dst := dst, op := .call { callee := .value fv, args := args, argTypes := at' }, type := ty, pos := pos, after := af, guard := g } s k Q := by
  intro B hB ds β a w hds h Q'
  refine ⟨fun _ _ => trivial, ?_⟩
  have h' := frzL_sim L s h hL
  have hf := h'.ev fv
  rw [hev] at hf
  generalize hfv : a.eval fv = fval at hf
  cases hf with
  | clo _ cvs _ hcs hcv =>
  have hrun : ∀ vs, vs = (args.toList.map a.eval).toArray ++ cvs → (execOp a.eval { dst := dst, op := .call { callee := .value fv, args := args, argTypes := at' }, type := ty, pos := pos, after := af, guard := g }).run P w = .ok (.enter f vs) w := by
    intro vs hvs
    have e : (execOp a.eval { dst := dst, op := .call { callee := .value fv, args := args, argTypes := at' }, type := ty, pos := pos, after := af, guard := g } : Sem Next) = callFunc f (#[] ++ args.map a.eval ++ cvs) := by
      show (do let d ← (Deferred.ofValue (a.eval fv) (args.map a.eval)); invoke d.target d.args : Sem Next) = _
      rw [hfv]; rfl
    rw [e, ← hc.1 vs w, hvs]
    congr 2
    apply Array.ext'
    simp
  rw [Oper.semAt_eq _ _ _ (by simp), hrun _ rfl, Oper.uponIn_enter]
  refine ⟨fun hdep => by simp [Fw_depth] at hdep, ?_⟩
  have hlen : cargs.length = args.size + caps.length := by
    have := congrArg List.length hargs
    rw [renL_length] at this
    simpa using this.symm
  have hvs : ((args.toList.map a.eval).toArray ++ cvs).size = cargs.length := by simp [hcs, hlen]
  have hv : ∀ (i : Nat) x, cargs[i]? = some x → VR w.heap ((s.frzL L).own B.A β) (s.frzL L).used (s.frzL L).hp β (((args.toList.map a.eval).toArray ++ cvs).getD i undef) (x.ren σ) := by
    intro i x hi
    have hx : (renL σ cargs)[i]? = some (x.ren σ) := by rw [renL_get, hi]; rfl
    rw [← hargs] at hx
    by_cases hlt : i < args.size
    · have hx' : (args.toList.map (ev (s.frzL L)))[i]? = some (x.ren σ) := by rw [← hx, List.getElem?_append_left (by simpa using hlt)]
      have := calls_list h' args.toList i _ hx'
      rw [show ((args.toList.map a.eval).toArray ++ cvs).getD i undef = (args.toList.map a.eval).toArray.getD i undef by simp [Array.getD_eq_getD_getElem?, Array.getElem?_append, hlt]]
      exact this
    · have hx' : caps[i - args.size]? = some (x.ren σ) := by rw [← hx, List.getElem?_append_right (by simpa using Nat.le_of_not_lt hlt)]; simp
      have := hcv _ _ hx'
      rw [show ((args.toList.map a.eval).toArray ++ cvs).getD i undef = cvs.getD (i - args.size) undef by simp [Array.getD_eq_getD_getElem?, Array.getElem?_append, hlt]]
      exact this
  have hcall := enterB_ok (P := P) h h' (fun p o ho => frzL_hp L s p o ho) (σ := σ) hd hpass hinj hcu hvs hv (by rw [hB.2.2]; exact hc) hflat
  have hcall' : CallsIn (Fw cf.ro) (0 - 1) P f ((args.toList.map a.eval).toArray ++ cvs) w _ := hcall
  refine hcall'.mono ?_
  rintro e w' ⟨v, rfl, r, hp', hQ, hl⟩
  obtain ⟨hlk, hrun'⟩ := hk r hp' hQ
  obtain ⟨β2, hs2, hv2⟩ := hl hlk
  refine ⟨by cases dst <;> exact hds, aftD s σ d dst chp hp' r, β2, run_ok hrun', ?_⟩
  cases dst with
  | none => exact hs2
  | some t =>
    obtain ⟨ht, rfl⟩ := hdst t rfl
    exact hs2.put (by rw [hB.1]; exact ht) hv2
theorem renL_id' (l : List AV) : renL id l = l := by
  induction l with
  | nil => rfl
  | cons x r ih => rw [renL, ih, AV.ren_id id (fun _ => rfl)]
section
variable {Q : Exit → St → Prop} {s : St} {k : List It}
theorem e_callBO (E : Eng P cf Q) {d : Nat} {fv : Operand} {args : Array Operand} {at' : Array TypeId} {ty : TypeId} {pos : String} {af : Array Edge}
    {f : FuncId} {caps : List AV} (L : List (Name × W × List D)) (cargs : List AV) (chp : List (Name × Ob)) (cu : List Nat) {Q0 : AV → List (Name × Ob) → Prop} (hc : HCall P cf.G f cargs chp cu Q0) (hflat : ∀ r hp', Q0 r hp' → r.flat = true ∧ flatH hp' = true)
    (hL : Lok s L) (hev : ev (s.frzL L) fv = .clo f caps) (hargs : args.toList.map (ev (s.frzL L)) ++ caps = cargs) (hd : d < cf.n ∧ d ∉ s.used) (hcu : inUL cu cargs = true) (hpass : passL id cu (s.frzL L) chp) (hinj : injL id chp)
    (hk : ∀ r hp', Q0 r hp' → likeM chp hp' ∧ E.run k (aft s id d chp hp' r)) :
    E.stp { dst := some d, op := .call { callee := .value fv, args := args, argTypes := at' }, type := ty, pos := pos, after := af, guard := none } s k .no := by
  rw [e_stp_no]
  refine callB_ok L hL d id cargs chp cu Q0 hev ?_ hcu hd.2 (fun t ht => ?_) hpass hinj hc hflat fun r hp' hr => ?_
  · rw [hargs, renL_id']
  · obtain rfl := Option.some.inj ht
    exact ⟨hd.1, rfl⟩
  · obtain ⟨h1, h2⟩ := hk r hp' hr
    exact ⟨h1, by rw [← E.run_eq]; exact h2⟩
theorem callBP_ok {dst : Option Nat} {fv : Operand} {args : Array Operand} {at' : Array TypeId} {ty : TypeId} {pos : String} {af : Array Edge} {g : Option (Nat × Bool)}
    (L : List (Name × W × List D)) (hL : Lok s L) {f : FuncId} {caps : List AV} {ds : List D} {Q0 : AV → Prop} (hc : HP P cf.G f ds Q0) (hflat : ∀ r, Q0 r → r.flat = true)
    (hev : ev (s.frzL L) fv = .clo f caps) (hargs : args.toList.map (ev (s.frzL L)) ++ caps = ds.map .d) (hdst : ∀ t ∈ dst, t < cf.n) (hk : ∀ r, Q0 r → run P cf k Q (s.putO dst r)) :
    AOk P cf { dst := dst, op := .call { callee := .value fv, args := args, argTypes := at' }, type := ty, pos := pos, after := af, guard := g } s k Q := by
  intro B hB ds' β a w hds h Q'
  obtain ⟨d, hd⟩ := fresh_nat s.used
  refine ⟨fun _ _ => trivial, ?_⟩
  have h' := frzL_sim L s h hL
  have hf := h'.ev fv
  rw [hev] at hf
  generalize hfv : a.eval fv = fval at hf
  cases hf with
  | clo _ cvs _ hcs hcv =>
  have hrun : ∀ vs, vs = (args.toList.map a.eval).toArray ++ cvs → (execOp a.eval { dst := dst, op := .call { callee := .value fv, args := args, argTypes := at' }, type := ty, pos := pos, after := af, guard := g }).run P w = .ok (.enter f vs) w := by
    intro vs hvs
    have e : (execOp a.eval { dst := dst, op := .call { callee := .value fv, args := args, argTypes := at' }, type := ty, pos := pos, after := af, guard := g } : Sem Next) = callFunc f (#[] ++ args.map a.eval ++ cvs) := by
      show (do let d ← (Deferred.ofValue (a.eval fv) (args.map a.eval)); invoke d.target d.args : Sem Next) = _
      rw [hfv]; rfl
    rw [e, ← hc.1 vs w, hvs]
    congr 2
    apply Array.ext'
    simp
  rw [Oper.semAt_eq _ _ _ (by simp), hrun _ rfl, Oper.uponIn_enter]
  refine ⟨fun hdep => by simp [Fw_depth] at hdep, ?_⟩
  have hlen : (ds.map AV.d).length = args.size + caps.length := by
    have := congrArg List.length hargs
    simpa using this.symm
  have hvs : ((args.toList.map a.eval).toArray ++ cvs).size = (ds.map AV.d).length := by simp [hcs] at hlen ⊢; omega
  have hv : ∀ (i : Nat) x, (ds.map AV.d)[i]? = some x → VR w.heap ((s.frzL L).own B.A β) (s.frzL L).used (s.frzL L).hp β (((args.toList.map a.eval).toArray ++ cvs).getD i undef) (x.ren id) := by
    intro i x hi
    rw [AV.ren_id id (fun _ => rfl)]
    have hx := hi
    rw [← hargs] at hx
    by_cases hlt : i < args.size
    · have hx' : (args.toList.map (ev (s.frzL L)))[i]? = some x := by rw [← hx, List.getElem?_append_left (by simpa using hlt)]
      have := calls_list h' args.toList i _ hx'
      rw [show ((args.toList.map a.eval).toArray ++ cvs).getD i undef = (args.toList.map a.eval).toArray.getD i undef by simp [Array.getD_eq_getD_getElem?, Array.getElem?_append, hlt]]
      exact this
    · have hx' : caps[i - args.size]? = some x := by rw [← hx, List.getElem?_append_right (by simpa using Nat.le_of_not_lt hlt)]; simp
      have := hcv _ _ hx'
      rw [show ((args.toList.map a.eval).toArray ++ cvs).getD i undef = cvs.getD (i - args.size) undef by simp [Array.getD_eq_getD_getElem?, Array.getElem?_append, hlt]]
      exact this
  have hcall := enterB_ok (P := P) h h' (fun p o ho => frzL_hp L s p o ho) (Q0 := fun r hp' => Q0 r ∧ r.inU [] = true ∧ hp' = []) (σ := id) (d := d) hd (chp := []) (cu := []) trivial trivial (inUL_d _ _) hvs hv (by rw [hB.2.2]; exact hc) (fun r hp' hq => ⟨hflat r hq.1, by rw [hq.2.2]; rfl⟩)
  have hcall' : CallsIn (Fw cf.ro) (0 - 1) P f ((args.toList.map a.eval).toArray ++ cvs) w _ := hcall
  refine hcall'.mono ?_
  rintro e w' ⟨v, rfl, r, hp', ⟨hQ, hru, rfl⟩, hl⟩
  obtain ⟨β2, hs2, hv2⟩ := hl trivial
  rw [AV.ren_none _ r hru] at hv2
  have hru' := AV.inU_none s.used r hru
  refine ⟨by cases dst <;> exact hds, s.putO dst r, ?_⟩
  cases dst with
  | none =>
    obtain ⟨β3, h3⟩ := h.unuse hs2 rfl (t0 := 0) (x0 := s.fr 0) (fun _ => .inr rfl) rfl (h.slots 0).inU
    exact ⟨β3, run_ok (hk r hQ), h3⟩
  | some t =>
    have h2 := hs2.put (t := t) (by rw [hB.1]; exact hdst t rfl) hv2
    obtain ⟨β3, h3⟩ := h.unuse h2 rfl (t0 := t) (x0 := r) (fun u => by
      by_cases e : u = t
      · exact .inl e
      · exact .inr (by show updN _ _ _ _ = _; simp [updN, e])) (by show updN _ _ _ _ = _; simp [updN]) hru'
    exact ⟨β3, run_ok (hk r hQ), h3⟩
theorem e_callB (E : Eng P cf Q) {dst : Option Nat} {fv : Operand} {args : Array Operand} {at' : Array TypeId} {ty : TypeId} {pos : String} {af : Array Edge}
    (L : List (Name × W × List D)) {f : FuncId} {caps : List AV} {ds : List D} {Q0 : AV → Prop} (hc : HP P cf.G f ds Q0) (hflat : ∀ r, Q0 r → r.flat = true) (hL : Lok s L)
    (hev : ev (s.frzL L) fv = .clo f caps) (hargs : args.toList.map (ev (s.frzL L)) ++ caps = ds.map .d) (hdst : ∀ t ∈ dst, t < cf.n) (hk : ∀ r, Q0 r → E.run k (s.putO dst r)) :
    E.stp { dst := dst, op := .call { callee := .value fv, args := args, argTypes := at' }, type := ty, pos := pos, after := af, guard := none } s k .no := by
  rw [e_stp_no]
  exact callBP_ok L hL hc hflat hev hargs hdst fun r hr => by rw [← E.run_eq]; exact hk r hr
section
variable {ops : Array Oper} {K : St → Ns → Prop} {r : List Oper} {ns : Ns}
end
end
attribute [go_sem] frzL_nil frzL_cons D.flat flatL AV.flat flatAL flatH flatE Ob.flat List.isEmpty_nil
end
end Go.Ab
namespace Go.Ab
def Ob.frz (p : Name) (w : W) (xs : List D) : Ob → Ob
  | .boxT ty cs => .boxT ty (Go.Ab.frzL p w xs cs)
  | o => o
theorem Ob.frz_like (p : Name) (w : W) (xs : List D) (o : Ob) : o.like (o.frz p w xs) := by
  cases o <;> simp [Ob.frz, Ob.like]
def St.frzA (s : St) (p : Name) (w : W) (xs : List D) : St := { fr := fun t => (s.fr t).frz p w xs, hp := fun q => (updP s.hp p none q).map (Ob.frz p w xs), used := s.used }
theorem Sim.frzA {B : Base} {β : Name → Option Blk} {s : St} {tm : Array Value} {w : World} (h : Sim B β s tm w) {p : Name} {wf : W} {xs : List D} (hp : s.hp p = some (.arr wf xs)) : Sim B β (s.frzA p wf xs) tm w := by
  have hsub : ∀ q o', (s.frzA p wf xs).hp q = some o' → q ≠ p ∧ ∃ o, s.hp q = some o ∧ o' = o.frz p wf xs := by
    intro q o' ho
    by_cases e : q = p
    · subst e; simp [St.frzA, updP] at ho
    · simp only [St.frzA, updP, if_neg e, Option.map_eq_some_iff] at ho
      obtain ⟨o, h1, h2⟩ := ho
      exact ⟨e, o, h1, h2.symm⟩
  have hne : ∀ q, (s.frzA p wf xs).hp q ≠ none → s.hp q ≠ none ∧ q ≠ p := by
    intro q hq
    cases ho : (s.frzA p wf xs).hp q with
    | none => exact absurd ho hq
    | some o' =>
      obtain ⟨e, o, h1, _⟩ := hsub q o' ho
      exact ⟨by rw [h1]; simp, e⟩
  have hr : ∀ v d', Rep w.heap (s.own B.A β) v d' → Rep w.heap ((s.frzA p wf xs).own B.A β) v d' := fun v d' hd => hd.mono (fun _ _ _ => rfl) (by
    rintro b _ (hA | ⟨q, k, hq, hk, e⟩)
    · exact .inl hA
    · exact .inr ⟨q, k, (hne q hq).1, hk, e⟩)
  have hst : ∀ q, nm s.used q → Stays s.hp (s.frzA p wf xs).hp β β q := fun q _ o' ho' => by
    obtain ⟨_, o, h1, rfl⟩ := hsub q o' ho'
    exact ⟨o, h1, Ob.frz_like p wf xs o, rfl⟩
  have hno : ∀ k, β p = some k → ¬ (s.frzA p wf xs).own B.A β k.b := by
    rintro k hk (hA | ⟨q, k', hq, hk', e⟩)
    · exact (h.blocks p k (by rw [hp]; simp) hk).2.1 hA
    · exact (hne q hq).2 (h.inj q p k' k (hne q hq).1 (by rw [hp]; simp) hk' hk e)
  have hvr : ∀ {v : Value} {x : AV}, VR w.heap (s.own B.A β) s.used s.hp β v x → VR w.heap ((s.frzA p wf xs).own B.A β) s.used (s.frzA p wf xs).hp β v (x.frz p wf xs) := fun hv => hv.frz hr hst hp (h.objs p _ hp).2 hno
  refine { tms := h.tms, io := h.io, size := h.size, frame := h.frame, slots := fun i => hvr (h.slots i), objs := fun q o' ho' => ?_, blocks := fun q k hq hk => h.blocks q k (hne q hq).1 hk, inj := fun q q' k k' hq hq' => h.inj q q' k k' (hne q hq).1 (hne q' hq').1, us := h.us, stay := h.stay }
  obtain ⟨_, o, h1, rfl⟩ := hsub q o' ho'
  obtain ⟨g1, g2⟩ := h.objs q o h1
  refine ⟨g1, ?_⟩
  cases o with
  | boxT ty cs =>
    obtain ⟨k, c, e, a1, a2, a3, a4, a5, a6, a7⟩ := g2
    refine ⟨k, c, e, a1, a2, a3, a4, by rw [a5, frzL_length], a6, fun j x hj => ?_⟩
    rw [frzL_get, Option.map_eq_some_iff] at hj
    obtain ⟨y, hy, rfl⟩ := hj
    exact hvr (a7 j y hy)
  | _ => exact g2.mono hr (fun _ h => h) hst rfl fun _ _ => rfl
theorem lkA_frzo (p : Name) (w : W) (xs : List D) (q : Name) : ∀ l : List (Name × Ob), (lkA none (l.map fun x => (x.1, some x.2)) q).map (Ob.frz p w xs) = lkA none ((l.map fun x => (x.1, x.2.frz p w xs)).map fun x => (x.1, some x.2)) q
  | [] => rfl
  | x :: r => by
    simp only [lkA, List.map_cons]
    split
    · rfl
    · exact lkA_frzo p w xs q r
theorem mk_frzA (fr : List (Nat × AV)) (hp : List (Name × Ob)) (u : List Nat) (p : Name) (w : W) (xs : List D) : (mk fr hp u).frzA p w xs = mk (fr.map fun q => (q.1, q.2.frz p w xs)) ((delA hp p).map fun q => (q.1, q.2.frz p w xs)) u := by
  unfold St.frzA mk
  congr 1
  · funext t
    exact lkA_frz p w xs t fr
  · funext q
    rw [← lkA_frzo, map_del, lkA_del]
    rfl
attribute [go_sem] mk_frzA Ob.frz
section
variable {P : Program} {cf : Cf} {Q : Exit → St → Prop} {s : St} {k : List It}
theorem e_frzA (E : Eng P cf Q) {d : Option Nat} {op : Op} {ty : TypeId} {ps : String} {af : Array Edge} (p : Name) (w : W) (xs : List D) (hp : s.hp p = some (.arr w xs)) {s' : St} (he : s.frzA p w xs = s') (h : E.stp { dst := d, op := op, type := ty, pos := ps, after := af, guard := none } s' k (opR P.ti cf.n op d s')) :
    E.stp { dst := d, op := op, type := ty, pos := ps, after := af, guard := none } s k .no := by
  subst he
  rw [e_stp_no]
  rw [E.stp_eq] at h
  have h1 := aok_of_stp (o := { dst := d, op := op, type := ty, pos := ps, after := af, guard := none }) rfl h
  intro B hB ds β a w' hds hs Q'
  exact h1 B hB ds β a w' hds (hs.frzA hp) Q'
theorem c_frzA (E : Eng P cf Q) {c : Code} (p : Name) (w : W) (xs : List D) (hp : s.hp p = some (.arr w xs)) (h : CodeE E c (s.frzA p w xs) k) : CodeE E c s k := by
  intro B hB ds β a w' hds hs
  exact h B hB ds β a w' hds (hs.frzA hp)
section
variable {ops : Array Oper} {K : St → Ns → Prop} {r : List Oper} {ns : Ns}
end
end
end Go.Ab
namespace Go.Ab
open Go.ChangeMaps (setBlock)
mutual
def AV.frM (p : Name) (d : D) : AV → AV
  | .un => .un
  | .d x => .d x
  | .vw q o l => .vw q o l
  | .at q c => .at q c
  | .el q i c => .el q i c
  | .mp q => if q = p then .d d else .mp q
  | .it q => .it q
  | .agg cs => mkAgg (frML p d cs)
  | .tup cs => .tup (frML p d cs)
  | .clo f cs => mkClo f (frML p d cs)
def frML (p : Name) (d : D) : List AV → List AV
  | [] => []
  | x :: r => x.frM p d :: frML p d r
end
theorem frML_length (p : Name) (d : D) : ∀ l : List AV, (frML p d l).length = l.length
  | [] => rfl
  | _ :: r => by simp [frML, frML_length p d r]
theorem frML_get (p : Name) (d : D) : ∀ (l : List AV) (i : Nat), (frML p d l)[i]? = (l[i]?).map (AV.frM p d)
  | [], i => by simp [frML]
  | x :: r, i => by
    cases i with
    | zero => simp [frML]
    | succ i => simpa [frML] using frML_get p d r i
section
variable {H : Array Obj} {own own' : Nat → Prop} {used : List Nat} {hp hp' : Name → Option Ob} {β : Name → Option Blk}
theorem VR.frM {p : Name} {d : D} {es : List (D × D)} (hr : ∀ v d, Rep H own v d → Rep H own' v d) (hst : ∀ q, nm used q → Stays hp hp' β β q) (hp0 : hp p = some (.map es)) (hd : ∀ k, β p = some k → Rep H own' (.map (some k.b)) d)
    {v : Value} {x : AV} (h : VR H own used hp β v x) : VR H own' used hp' β v (x.frM p d) := by
  induction h with
  | un v => exact .un v
  | d v x h => exact .d v x (hr v x h)
  | vw v q off len hn h1 h => exact VR.mono hr (fun _ h => h) hst (.vw v q off len hn h1 h)
  | «at» v q c hn h1 h => exact VR.mono hr (fun _ h => h) hst (.at v q c hn h1 h)
  | el v q i c hn h1 h => exact VR.mono hr (fun _ h => h) hst (.el v q i c hn h1 h)
  | mp v q hn h1 h =>
    unfold AV.frM
    split
    · rename_i e
      subst e
      obtain ⟨k, hk, rfl⟩ := h _ hp0
      exact .d _ _ (hd k hk)
    · exact VR.mono hr (fun _ h => h) hst (.mp v q hn h1 h)
  | its v q hn h1 h h' => exact VR.mono hr (fun _ h => h) hst (.its v q hn h1 h h')
  | agg vs cs hs hc _ ih =>
    have := mkAgg_rep (H := H) (own := own') (used := used) (hp := hp') (β := β) (vs := vs.toList) (cs := frML p d cs) (by rw [frML_length]; simpa using hs) (by simpa using hc) (fun i v x hv hx => by
      rw [frML_get, Option.map_eq_some_iff] at hx
      obtain ⟨y, hy, rfl⟩ := hx
      have := ih i y hy
      have e : vs.getD i undef = v := by
        simp only [Array.getElem?_toList] at hv
        simp [Array.getD_eq_getD_getElem?, hv]
      rw [e] at this
      exact this)
    simpa [AV.frM] using this
  | tup vs cs hs _ ih =>
    refine .tup vs _ (by rw [frML_length]; exact hs) (fun i x hi => ?_)
    rw [frML_get, Option.map_eq_some_iff] at hi
    obtain ⟨y, hy, rfl⟩ := hi
    exact ih i y hy
  | clo f vs cs hs _ ih =>
    refine mkClo_rep (by rw [frML_length]; exact hs) (fun i x hi => ?_)
    rw [frML_get, Option.map_eq_some_iff] at hi
    obtain ⟨y, hy, rfl⟩ := hi
    exact ih i y hy
end
def Ob.frM (p : Name) (d : D) : Ob → Ob
  | .boxT ty cs => .boxT ty (frML p d cs)
  | o => o
theorem Ob.frM_like (p : Name) (d : D) (o : Ob) : o.like (o.frM p d) := by
  cases o <;> simp [Ob.frM, Ob.like]
def St.frM (s : St) (p : Name) (d : D) : St := { fr := fun t => (s.fr t).frM p d, hp := fun q => (updP s.hp p none q).map (Ob.frM p d), used := s.used }
def mpD (clk : Nat) (bs : List Nat) (es : List (D × D)) : D := .mpd clk bs (es.map (·.1)) (es.map (·.2))
def Stamps (clk : Nat) (bs : List Nat) (es : List (D × D)) : Prop := bs.length = es.length ∧ bs.Nodup ∧ ∀ b ∈ bs, b < clk
theorem Sim.frM {B : Base} {β : Name → Option Blk} {s : St} {tm : Array Value} {w : World} (h : Sim B β s tm w) {p : Name} {es : List (D × D)} (hp : s.hp p = some (.map es)) : ∃ clk bs, Stamps clk bs es ∧ Sim B β (s.frM p (mpD clk bs es)) tm w := by
  obtain ⟨k0, ents, clk, hk0, hc0, ⟨hsz, hb1, hb2⟩, hent⟩ := (h.objs p _ hp).2
  refine ⟨clk, ents.toList.map (·.born), ⟨by simp [hsz], hb1, fun b hb => ?_⟩, ?_⟩
  · obtain ⟨e, he, rfl⟩ := List.mem_map.1 hb
    exact hb2 e he
  obtain ⟨d, hd0⟩ : ∃ d, d = mpD clk (ents.toList.map (·.born)) es := ⟨_, rfl⟩
  rw [← hd0]
  have hsub : ∀ q o', (s.frM p d).hp q = some o' → q ≠ p ∧ ∃ o, s.hp q = some o ∧ o' = o.frM p d := by
    intro q o' ho
    by_cases e : q = p
    · subst e; simp [St.frM, updP] at ho
    · simp only [St.frM, updP, if_neg e, Option.map_eq_some_iff] at ho
      obtain ⟨o, h1, h2⟩ := ho
      exact ⟨e, o, h1, h2.symm⟩
  have hne : ∀ q, (s.frM p d).hp q ≠ none → s.hp q ≠ none ∧ q ≠ p := by
    intro q hq
    cases ho : (s.frM p d).hp q with
    | none => exact absurd ho hq
    | some o' =>
      obtain ⟨e, o, h1, _⟩ := hsub q o' ho
      exact ⟨by rw [h1]; simp, e⟩
  have hr : ∀ v d', Rep w.heap (s.own B.A β) v d' → Rep w.heap ((s.frM p d).own B.A β) v d' := fun v d' hd => hd.mono (fun _ _ _ => rfl) (by
    rintro b _ (hA | ⟨q, k, hq, hk, e⟩)
    · exact .inl hA
    · exact .inr ⟨q, k, (hne q hq).1, hk, e⟩)
  have hst : ∀ q, nm s.used q → Stays s.hp (s.frM p d).hp β β q := fun q _ o' ho' => by
    obtain ⟨_, o, h1, rfl⟩ := hsub q o' ho'
    exact ⟨o, h1, Ob.frM_like p d o, rfl⟩
  have hno : ∀ k, β p = some k → ¬ (s.frM p d).own B.A β k.b := by
    rintro k hk (hA | ⟨q, k', hq, hk', e⟩)
    · exact (h.blocks p k (by rw [hp]; simp) hk).2.1 hA
    · exact (hne q hq).2 (h.inj q p k' k (hne q hq).1 (by rw [hp]; simp) hk' hk e)
  have hgd : ∀ (i : Nat) (en : MapEntry), ents[i]? = some en → ents.getD i default = en := fun i en h => by simp [Array.getD_eq_getD_getElem?, h]
  have hdr : ∀ k, β p = some k → Rep w.heap ((s.frM p d).own B.A β) (.map (some k.b)) d := by
    intro k hk
    obtain rfl := Option.some.inj (hk.symm.trans hk0)
    rw [hd0]
    refine .mpd k.b clk ents _ _ _ hc0 (by rw [← hd0]; exact hno k hk) ⟨by simp [hsz], by simp⟩ rfl (fun i x hi => ?_) (fun i x hi => ?_)
    · rw [List.getElem?_map, Option.map_eq_some_iff] at hi
      obtain ⟨y, hy, rfl⟩ := hi
      obtain ⟨en, h1, h2, _⟩ := hent i y hy
      rw [hgd i en h1, ← hd0]
      exact hr _ _ h2
    · rw [List.getElem?_map, Option.map_eq_some_iff] at hi
      obtain ⟨y, hy, rfl⟩ := hi
      obtain ⟨en, h1, _, h2⟩ := hent i y hy
      rw [hgd i en h1, ← hd0]
      exact hr _ _ h2
  have hvr : ∀ {v : Value} {x : AV}, VR w.heap (s.own B.A β) s.used s.hp β v x → VR w.heap ((s.frM p d).own B.A β) s.used (s.frM p d).hp β v (x.frM p d) := fun hv => hv.frM hr hst hp hdr
  refine { tms := h.tms, io := h.io, size := h.size, frame := h.frame, slots := fun i => hvr (h.slots i), objs := fun q o' ho' => ?_, blocks := fun q k hq hk => h.blocks q k (hne q hq).1 hk, inj := fun q q' k k' hq hq' => h.inj q q' k k' (hne q hq).1 (hne q' hq').1, us := h.us, stay := h.stay }
  obtain ⟨_, o, h1, rfl⟩ := hsub q o' ho'
  obtain ⟨g1, g2⟩ := h.objs q o h1
  refine ⟨g1, ?_⟩
  cases o with
  | boxT ty cs =>
    obtain ⟨k, c, e, a1, a2, a3, a4, a5, a6, a7⟩ := g2
    refine ⟨k, c, e, a1, a2, a3, a4, by rw [a5, frML_length], a6, fun j x hj => ?_⟩
    rw [frML_get, Option.map_eq_some_iff] at hj
    obtain ⟨y, hy, rfl⟩ := hj
    exact hvr (a7 j y hy)
  | _ => exact g2.mono hr (fun _ h => h) hst rfl fun _ _ => rfl
theorem lkA_frM (p : Name) (d : D) (t : Nat) : ∀ l : List (Nat × AV), (lkA .un l t).frM p d = lkA .un (l.map fun q => (q.1, q.2.frM p d)) t
  | [] => rfl
  | q :: r => by
    simp only [lkA, List.map_cons]
    split
    · rfl
    · exact lkA_frM p d t r
theorem lkA_frMo (p : Name) (d : D) (q : Name) : ∀ l : List (Name × Ob), (lkA none (l.map fun x => (x.1, some x.2)) q).map (Ob.frM p d) = lkA none ((l.map fun x => (x.1, x.2.frM p d)).map fun x => (x.1, some x.2)) q
  | [] => rfl
  | x :: r => by
    simp only [lkA, List.map_cons]
    split
    · rfl
    · exact lkA_frMo p d q r
theorem mk_frM (fr : List (Nat × AV)) (hp : List (Name × Ob)) (u : List Nat) (p : Name) (d : D) : (mk fr hp u).frM p d = mk (fr.map fun q => (q.1, q.2.frM p d)) ((delA hp p).map fun q => (q.1, q.2.frM p d)) u := by
  unfold St.frM mk
  congr 1
  · funext t
    exact lkA_frM p d t fr
  · funext q
    rw [← lkA_frMo, map_del, lkA_del]
    rfl
attribute [go_sem] mk_frM AV.frM frML Ob.frM
section
variable {P : Program} {cf : Cf} {Q : Exit → St → Prop} {s : St} {k : List It}
end
end Go.Ab
