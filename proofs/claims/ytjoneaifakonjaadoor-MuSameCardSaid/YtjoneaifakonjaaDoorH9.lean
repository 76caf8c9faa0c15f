/-
  The generic layer, part 41: a slice that is nil is one of no elements: what is plain stands for less, and an empty array may lie behind it. (with the parts that follow it)
-/
import Derived.Test.YtjoneaifakonjaaDoorH6
set_option linter.all false
/-! ### The generic layer, part 41: a slice that is nil is one of no elements: what is plain stands for less, and an empty array may lie behind it. -/
namespace Go.Ab
/-- Whatever stands for the one stands for the other one. -/
def Wk (a b : D) : Prop := ∀ (H : Array Obj) (own : Nat → Prop) (v : Value), Rep H own v a → Rep H own v b
theorem Wk.refl (a : D) : Wk a a := fun _ _ _ h => h
theorem Wk.trans {a b c : D} (h : Wk a b) (g : Wk b c) : Wk a c := fun H own v x => g H own v (h H own v x)
theorem Wk.nils (w : W) : Wk .nils (.sl w []) := fun _ _ _ h => by
  cases h
  exact .sl0 none 0 w
theorem Wk.agg {as bs : List D} (hl : as.length = bs.length) (hs : ∀ b ∈ bs, b.scal = true) (h : ∀ (i : Nat) a b, as[i]? = some a → bs[i]? = some b → Wk a b) : Wk (.agg as) (.agg bs) := fun H own v x => by
  cases x with
  | agg vs _ h1 _ h3 =>
    refine .agg vs bs (h1.trans hl) hs fun i b hb => ?_
    have : i < as.length := by rw [hl]; exact (List.getElem?_eq_some_iff.1 hb).1
    exact h i _ b (List.getElem?_eq_getElem this) hb H own _ (h3 i _ (List.getElem?_eq_getElem this))
theorem Wk.sl {w : W} {as bs : List D} (hl : as.length = bs.length) (hw : ∀ b ∈ bs, okW w b) (h : ∀ (i : Nat) a b, as[i]? = some a → bs[i]? = some b → a.cells.length = b.cells.length ∧ ∀ (j : Nat) c d, a.cells[j]? = some c → b.cells[j]? = some d → Wk c d) : Wk (.sl w as) (.sl w bs) := fun H own v x => by
  cases x with
  | sl0 a cap _ =>
    have : bs = [] := List.length_eq_zero_iff.1 hl.symm
    subst this
    exact .sl0 a cap w
  | sl b o cap c e fz _ _ hb hn hcap hz _ hr =>
    rw [hl]
    refine .sl b o cap c e fz w bs hb hn (by omega) (by rw [← hl]; exact hz) hw fun i x j d hi hj => ?_
    have hlt : i < as.length := by rw [hl]; exact (List.getElem?_eq_some_iff.1 hi).1
    obtain ⟨g1, g2⟩ := h i _ x (List.getElem?_eq_getElem hlt) hi
    have hj2 : j < (as[i]).cells.length := by rw [g1]; exact (List.getElem?_eq_some_iff.1 hj).1
    exact g2 j _ d (List.getElem?_eq_getElem hj2) hj H own _ (hr i _ j _ (List.getElem?_eq_getElem hlt) (List.getElem?_eq_getElem hj2))
def WkL : List D → List D → Prop
  | [], [] => True
  | a :: as, b :: bs => Wk a b ∧ WkL as bs
  | _, _ => False
theorem WkL.get : ∀ {as bs : List D}, WkL as bs → as.length = bs.length ∧ ∀ (i : Nat) a b, as[i]? = some a → bs[i]? = some b → Wk a b
  | [], [], _ => ⟨rfl, fun _ _ _ h => by simp at h⟩
  | _ :: _, _ :: _, h => by
    obtain ⟨g1, g2⟩ := WkL.get h.2
    refine ⟨by simp [g1], fun i a b ha hb => ?_⟩
    cases i with
    | zero => simp at ha hb; subst ha; subst hb; exact h.1
    | succ i => exact g2 i a b (by simpa using ha) (by simpa using hb)
  | [], _ :: _, h => h.elim
  | _ :: _, [], h => h.elim
theorem VR.wk {H : Array Obj} {own : Nat → Prop} {used : List Nat} {hp : Name → Option Ob} {β : Name → Option Blk} {v : Value} {a b : D} (h : Wk a b) (hv : VR H own used hp β v (.d a)) : VR H own used hp β v (.d b) :=
  .d _ _ (h _ _ _ hv.toD)
section
variable {P : Program}
theorem Sim.slotsWk {B : Base} {β : Name → Option Blk} {s s' : St} {tm : Array Value} {w : World} (h : Sim B β s tm w) (h1 : s'.hp = s.hp) (h2 : s'.used = s.used) (h3 : ∀ t, s'.fr t = s.fr t ∨ ∃ a b, s.fr t = .d a ∧ s'.fr t = .d b ∧ Wk a b) : Sim B β s' tm w := by
  obtain ⟨fr, hp, us⟩ := s
  obtain ⟨fr2, hp2, us2⟩ := s'
  simp only at h1 h2 h3
  subst h1; subst h2
  exact { tms := h.tms, io := h.io, size := h.size, frame := h.frame, slots := fun t => (by
    have := h.slots t
    rcases h3 t with e | ⟨a, b, e1, e2, hw⟩
    · show VR _ _ _ _ _ _ (fr2 t)
      rw [e]; exact this
    · show VR _ _ _ _ _ _ (fr2 t)
      rw [e2]
      have this : VR _ _ _ _ _ _ (fr t) := this
      rw [e1] at this
      exact this.wk hw), objs := h.objs, blocks := h.blocks, inj := h.inj, us := h.us, stay := h.stay }
/-- What is handed in may stand for more. -/
theorem HP.wk {G : List (Nat × Obj)} {f : FuncId} {as bs : List D} {Q : AV → Prop} (h : HP P G f bs Q) (hw : WkL as bs) : HP P G f as Q := by
  obtain ⟨g1, g2⟩ := hw.get
  refine ⟨h.1, fun B β vs w h1 h2 h3 h4 hs => h.2 B β vs w (by rw [h1]; simp [g1]) h2 h3 h4 (hs.slotsWk rfl rfl fun t => ?_)⟩
  rw [mk_fr, mk_fr, argsFr_get, argsFr_get, if_pos (Nat.zero_le _), if_pos (Nat.zero_le _), Nat.sub_zero, List.getElem?_map, List.getElem?_map]
  by_cases ht : t < as.length
  · have ht' : t < bs.length := by omega
    rw [List.getElem?_eq_getElem ht, List.getElem?_eq_getElem ht']
    exact .inr ⟨_, _, rfl, rfl, g2 t _ _ (List.getElem?_eq_getElem ht) (List.getElem?_eq_getElem ht')⟩
  · rw [List.getElem?_eq_none (by omega), List.getElem?_eq_none (by omega)]
    exact .inl rfl
/-- What is handed back may stand for less. -/
theorem HP.wkr {G : List (Nat × Obj)} {f : FuncId} {as : List D} {Q Q' : AV → Prop} (h : HP P G f as Q) (hw : ∀ r, Q r → ∃ a b, r = .d a ∧ Wk a b ∧ Q' (.d b)) : HP P G f as Q' := by
  refine ⟨h.1, fun B β vs w h1 h2 h3 h4 hs => (h.2 B β vs w h1 h2 h3 h4 hs).mono ?_⟩
  rintro e w' ⟨v, r, hp', u', β', rfl, ⟨hQ, hin, rfl⟩, hsim⟩
  obtain ⟨a, b, rfl, hwk, hq⟩ := hw r hQ
  refine ⟨v, .d b, [], u', β', rfl, ⟨hq, rfl, rfl⟩, hsim.slotsWk rfl rfl fun t => ?_⟩
  rw [mk_fr, mk_fr, lkA_cons, lkA_cons, lkA_nil]
  by_cases ht : t = 0
  · rw [if_pos ht, if_pos ht]
    exact .inr ⟨a, b, rfl, rfl, hwk⟩
  · rw [if_neg ht, if_neg ht]
    exact .inl rfl
end
/-- A variable's cells are read otherwise. -/
theorem Sim.rebox {B : Base} {β : Name → Option Blk} {s : St} {tm : Array Value} {w : World} (h : Sim B β s tm w) {p : Name} {cs cs' : List AV} (hp : s.hp p = some (.box cs)) (hl : cs'.length = cs.length)
    (hv : ∀ (v : Value) (j : Nat) x x', cs[j]? = some x → cs'[j]? = some x' → VR w.heap (s.own B.A β) s.used s.hp β v x → VR w.heap (s.own B.A β) s.used s.hp β v x') : Sim B β (s.set p (some (.box cs'))) tm w := by
  have hhq : ∀ q, q ≠ p → (s.set p (some (.box cs'))).hp q = s.hp q := fun q h1 => by simp [St.set, updP, h1]
  have hhp : (s.set p (some (.box cs'))).hp p = some (.box cs') := by simp [St.set, updP]
  have hnn : ∀ q, (s.set p (some (.box cs'))).hp q ≠ none ↔ s.hp q ≠ none := fun q => by
    by_cases e : q = p
    · subst e; rw [hhp, hp]; simp
    · rw [hhq q e]
  have hown : (s.set p (some (.box cs'))).own B.A β = s.own B.A β := by
    funext b
    refine propext (or_congr_right ⟨?_, ?_⟩)
    · rintro ⟨q, l, hq, hl, rfl⟩; exact ⟨q, l, (hnn q).1 hq, hl, rfl⟩
    · rintro ⟨q, l, hq, hl, rfl⟩; exact ⟨q, l, (hnn q).2 hq, hl, rfl⟩
  have hst : ∀ q, nm s.used q → Stays s.hp (s.set p (some (.box cs'))).hp β β q := by
    intro q _ o ho
    by_cases e : q = p
    · subst e
      rw [hhp] at ho
      cases ho
      exact ⟨_, hp, by simp [Ob.like, hl], rfl⟩
    · exact ⟨o, by rwa [hhq q e] at ho, Ob.like_refl _, rfl⟩
  refine { tms := h.tms, io := h.io, size := h.size, frame := h.frame, slots := fun i => ?_, objs := ?_, blocks := fun q l hq hl => h.blocks q l ((hnn q).1 hq) hl, inj := fun q q' l l' hq hq' => h.inj q q' l l' ((hnn q).1 hq) ((hnn q').1 hq'), us := h.us, stay := h.stay }
  · rw [hown]; exact (h.slots i).mono (fun _ _ h => h) (fun _ h => h) hst
  · intro q o ho
    rw [hown]
    by_cases e : q = p
    · subst e
      rw [hhp] at ho
      cases ho
      obtain ⟨h1, k, c, e, g1, g2, g3, g4, g5, g6, g7⟩ := h.objs q _ hp
      refine ⟨h1, k, c, e, g1, g2, g3, g4, by rw [g5, hl], g6, fun j x' hx' => ?_⟩
      have hlt : j < cs.length := by rw [← hl]; exact (List.getElem?_eq_some_iff.1 hx').1
      exact (hv _ j _ x' (List.getElem?_eq_getElem hlt) hx' (g7 j _ (List.getElem?_eq_getElem hlt))).mono (fun _ _ h => h) (fun _ h => h) hst
    · rw [hhq q e] at ho
      obtain ⟨h1, h2⟩ := h.objs q o ho
      exact ⟨h1, h2.mono (fun _ _ h => h) (fun _ h => h) hst rfl fun _ _ => rfl⟩
theorem vw_nils {H : Array Obj} {own : Nat → Prop} {used : List Nat} {hp : Name → Option Ob} {β : Name → Option Blk} {v : Value} {p : Name} {w : W} (hu : nm used p) (ho : hp p = some (.arr w [])) (h : VR H own used hp β v (.d .nils)) : VR H own used hp β v (.vw p 0 0) := by
  have := h.toD
  cases this
  exact .vw _ _ _ _ hu rfl fun w' xs hx => by
    rw [ho] at hx
    cases hx
    exact ⟨Nat.le_refl _, none, 0, rfl, .inl ⟨rfl, rfl⟩⟩
section
variable {P : Program} {cf : Cf} {Q : Exit → St → Prop} {s : St} {k : List It}
/-- Behind a slice that is nil lies an empty array. -/
theorem c_thaw (E : Eng P cf Q) {c : Code} (t n : Nat) (w : W) (ht : s.fr t = .d .nils) (hn : n ∉ s.used) (h : CodeE E c ((s.add n (.arr w [])).put t (.vw [n] 0 0)) k) : CodeE E c s k := by
  intro B hB ds β a w' hds hs
  have h1 := hs.addNone hn w
  have h2 := h1.slots t
  rw [show (s.add n (.arr w [])).fr t = .d .nils from ht] at h2
  exact h B hB ds _ a w' hds (h1.setv (vw_nils (w := w) ⟨n, [], rfl, List.mem_cons_self⟩ (by simp [St.add, updP]) h2))
/-- So in a variable's cell. -/
theorem c_thawB (E : Eng P cf Q) {c : Code} (p : Name) (j n : Nat) (w : W) (cs : List AV) (hp : s.hp p = some (.box cs)) (hj : cs[j]? = some (.d .nils)) (hn : n ∉ s.used) (h : CodeE E c ((s.add n (.arr w [])).set p (some (.box (cs.set j (.vw [n] 0 0))))) k) : CodeE E c s k := by
  intro B hB ds β a w' hds hs
  have h1 := hs.addNone hn w
  have hpn : p ≠ [n] := nm_ne (hs.objs p _ hp).1 hn
  refine h B hB ds _ a w' hds (h1.rebox (cs := cs) (by simpa [St.add, updP, hpn] using hp) (by simp) fun v i x x' hx hx' hv => ?_)
  by_cases e : j = i
  · subst e
    rw [hj] at hx
    cases hx
    rw [List.getElem?_set_self (List.getElem?_eq_some_iff.1 hj).1] at hx'
    cases hx'
    exact vw_nils (w := w) ⟨n, [], rfl, List.mem_cons_self⟩ (by simp [St.add, updP]) hv
  · rw [List.getElem?_set_ne e, hx] at hx'
    cases hx'
    exact hv
/-- What is plain may stand for less. -/
theorem c_wk (E : Eng P cf Q) {c : Code} (t : Nat) (a b : D) (ht : s.fr t = .d a) (hw : Wk a b) (h : CodeE E c (s.put t (.d b)) k) : CodeE E c s k := by
  intro B hB ds β a' w' hds hs
  have h2 := hs.slots t
  rw [ht] at h2
  exact h B hB ds _ a' w' hds (hs.setv (h2.wk hw))
theorem e_thaw (E : Eng P cf Q) {d : Option Nat} {op : Op} {ty : TypeId} {ps : String} {af : Array Edge} (t n : Nat) (w : W) (ht : s.fr t = .d .nils) (hn : n ∉ s.used) (h : E.stp { dst := d, op := op, type := ty, pos := ps, after := af, guard := none } ((s.add n (.arr w [])).put t (.vw [n] 0 0)) k (opR P.ti cf.n op d ((s.add n (.arr w [])).put t (.vw [n] 0 0)))) :
    E.stp { dst := d, op := op, type := ty, pos := ps, after := af, guard := none } s k .no := by
  rw [e_stp_no]
  rw [E.stp_eq] at h
  have h0 := aok_of_stp (o := { dst := d, op := op, type := ty, pos := ps, after := af, guard := none }) rfl h
  intro B hB ds β a w' hds hs Q'
  have h1 := hs.addNone hn w
  have h2 := h1.slots t
  rw [show (s.add n (.arr w [])).fr t = .d .nils from ht] at h2
  exact h0 B hB ds _ a w' hds (h1.setv (vw_nils (w := w) ⟨n, [], rfl, List.mem_cons_self⟩ (by simp [St.add, updP]) h2)) Q'
attribute [go_sem] List.set_cons_zero List.set_cons_succ
end
end Go.Ab
/-! ### The generic layer, part 42: guards that hang on what is not known, without a split: what is done just if it is wanted. -/
namespace Go.Ab
/-- A value where it is wanted, else none. -/
def gv (c : Bool) (x : AV) : AV := if c = true then x else .tup []
def cb (c w : Bool) : Bool := if w = true then c else !c
theorem cb_t (c : Bool) : cb c true = c := rfl
theorem cb_f (c : Bool) : cb c false = !c := rfl
theorem gv_t (x : AV) : gv true x = x := rfl
theorem gv_f (x : AV) : gv false x = .tup [] := rfl
def pk (c : Bool) (x y : AV) : AV := if c = true then x else y
theorem pk_t (x y : AV) : pk true x y = x := rfl
theorem pk_f (x y : AV) : pk false x y = y := rfl
theorem pk_or (c b : Bool) : pk c (.d (.bool true)) (gv (!c) (.d (.bool b))) = .d (.bool (c || b)) := by cases c <;> rfl
theorem pk_or' (c b : Bool) : pk (!c) (.d (.bool true)) (gv c (.d (.bool b))) = .d (.bool (!c || b)) := by cases c <;> rfl
theorem pk_and (c b : Bool) : pk c (gv c (.d (.bool b))) (.d (.bool false)) = .d (.bool (c && b)) := by cases c <;> rfl
attribute [go_sem] gv_t gv_f cb_t cb_f pk_t pk_f pk_or pk_or' pk_and Bool.not_not Option.bind_some
theorem frB_gv (p : Name) (d : D) (c : Bool) (x : AV) : (gv c x).frB p d = gv c (x.frB p d) := by cases c <;> rfl
theorem frz_gv (p : Name) (w : W) (xs : List D) (c : Bool) (x : AV) : (gv c x).frz p w xs = gv c (x.frz p w xs) := by cases c <;> rfl
attribute [go_sem] frB_gv frz_gv
theorem cb_eq {c want : Bool} (h : c = want) : cb c want = true := by subst h; cases c <;> rfl
theorem cb_ne {c want : Bool} (h : ¬ c = want) : cb c want = false := by cases c <;> cases want <;> first | rfl | exact absurd rfl h
section
variable {P : Program} {cf : Cf} {Q : Exit → St → Prop} {s : St} {k : List It}
theorem e_gmx (E : Eng P cf Q) {t : Nat} {c want : Bool} {all : Array Oper} {r : List Oper} {d : Nat} {op : Op} {ty : TypeId} {ps : String} {af : Array Edge} {g : Option (Nat × Bool)} {x : AV} (hd : d < cf.n)
    (hx : c = want → E.run (.ops all r :: k) ((s.put t (.d (.bool want))).put d x) → E.stp { dst := some d, op := op, type := ty, pos := ps, after := af, guard := none } (s.put t (.d (.bool want))) (.ops all r :: k) (opR P.ti cf.n op (some d) (s.put t (.d (.bool want)))))
    (h : E.run (.ops all r :: k) ((s.put t (.d (.bool c))).put d (gv (cb c want) x))) : E.gd want all { dst := some d, op := op, type := ty, pos := ps, after := af, guard := g } r s k (some (t, .d (.bool c))) := by
  by_cases hc : c = want
  · have h1 := hx hc
    rw [cb_eq hc, gv_t] at h
    subst hc
    have h2 := h1 h
    cases c
    · rw [e_gd_ff]; exact h2
    · rw [e_gd_tt]; exact h2
  · rw [cb_ne hc, gv_f] at h
    cases c <;> cases want <;> first
      | exact absurd rfl hc
      | (rw [e_gd_tf, e_skp_some (h := hd)]; exact h)
      | (rw [e_gd_ft, e_skp_some (h := hd)]; exact h)
/-- So where the guard itself may not be there. -/
theorem e_gmx2 (E : Eng P cf Q) {t : Nat} {c e want : Bool} {all : Array Oper} {r : List Oper} {d : Nat} {op : Op} {ty : TypeId} {ps : String} {af : Array Edge} {g : Option (Nat × Bool)} {x : AV} (hd : d < cf.n) (hs : s.fr t = gv c (.d (.bool e)))
    (hx : c = true → e = want → E.run (.ops all r :: k) ((s.put t (.d (.bool want))).put d x) → E.stp { dst := some d, op := op, type := ty, pos := ps, after := af, guard := none } (s.put t (.d (.bool want))) (.ops all r :: k) (opR P.ti cf.n op (some d) (s.put t (.d (.bool want)))))
    (h : E.run (.ops all r :: k) (s.put d (gv (c && cb e want) x))) : E.gd want all { dst := some d, op := op, type := ty, pos := ps, after := af, guard := g } r s k (some (t, gv c (.d (.bool e)))) := by
  by_cases hc : c = true
  · subst hc
    rw [gv_t] at hs ⊢
    refine e_gmx E hd (hx rfl) ?_
    rw [put_same hs]
    exact h
  · have hc : c = false := by simpa using hc
    subst hc
    rw [gv_f]
    rw [Bool.false_and, gv_f] at h
    rw [e_gd_un, e_skp_some (h := hd)]
    exact h
theorem stp_of_run (E : Eng P cf Q) {x : R St} {o : Oper} {s2 : St} (h : x.run (fun s' => s' = s2) False) (hk : E.run k s2) : E.stp o s k x := by
  induction x with
  | ok a => rw [e_stp_ok]; obtain rfl : a = s2 := h; exact hk
  | need p r ih => rw [e_stp_need]; exact ⟨h.1, ih h.2⟩
  | no => exact h.elim
theorem e_gm (E : Eng P cf Q) {t : Nat} {c want : Bool} {all : Array Oper} {r : List Oper} {d : Nat} {op : Op} {ty : TypeId} {ps : String} {af : Array Edge} {g : Option (Nat × Bool)} {x : AV} (hd : d < cf.n)
    (hx : c = want → (opR P.ti cf.n op (some d) (s.put t (.d (.bool want)))).run (fun s' => s' = (s.put t (.d (.bool want))).put d x) False)
    (h : E.run (.ops all r :: k) ((s.put t (.d (.bool c))).put d (gv (cb c want) x))) : E.gd want all { dst := some d, op := op, type := ty, pos := ps, after := af, guard := g } r s k (some (t, .d (.bool c))) :=
  e_gmx E hd (fun hc hk => stp_of_run E (hx hc) hk) h
theorem e_gm2 (E : Eng P cf Q) {t : Nat} {c e want : Bool} {all : Array Oper} {r : List Oper} {d : Nat} {op : Op} {ty : TypeId} {ps : String} {af : Array Edge} {g : Option (Nat × Bool)} {x : AV} (hd : d < cf.n) (hs : s.fr t = gv c (.d (.bool e)))
    (hx : c = true → e = want → (opR P.ti cf.n op (some d) (s.put t (.d (.bool want)))).run (fun s' => s' = (s.put t (.d (.bool want))).put d x) False)
    (h : E.run (.ops all r :: k) (s.put d (gv (c && cb e want) x))) : E.gd want all { dst := some d, op := op, type := ty, pos := ps, after := af, guard := g } r s k (some (t, gv c (.d (.bool e)))) :=
  e_gmx2 E hd hs (fun h1 h2 hk => stp_of_run E (hx h1 h2) hk) h
theorem e_pk (E : Eng P cf Q) {d : Nat} {n : Nat} {c : Bool} {x y : AV} {o : Oper} (hd : d < n) (h : E.run k (s.put d (pk c x y))) : E.stp o s k ((pickR (.d (.bool c)) x y).bind (putR n (some d) s)) := by
  cases c <;> (simp only [pickR, R.bind, putR, hd, if_true, e_stp_ok]; exact h)
/-- A choice that is made under a guard. -/
theorem e_gpk (E : Eng P cf Q) {t : Nat} {c want : Bool} {all : Array Oper} {r : List Oper} {d : Nat} {a b b' : Operand} {ty : TypeId} {ps : String} {af : Array Edge} {g : Option (Nat × Bool)} {c2 : Bool} {z : AV} (hd : d < cf.n)
    (hx : c = want → ev (s.put t (.d (.bool want))) a = .d (.bool c2)) (hz : c = want → pk c2 (ev (s.put t (.d (.bool want))) b) (ev (s.put t (.d (.bool want))) b') = z)
    (h : E.run (.ops all r :: k) ((s.put t (.d (.bool c))).put d (gv (cb c want) z))) : E.gd want all { dst := some d, op := .pick a b b', type := ty, pos := ps, after := af, guard := g } r s k (some (t, .d (.bool c))) :=
  e_gmx E hd (fun hc hk => by
    have e : opR P.ti cf.n (.pick a b b') (some d) (s.put t (.d (.bool want))) = (pickR (.d (.bool c2)) (ev (s.put t (.d (.bool want))) b) (ev (s.put t (.d (.bool want))) b')).bind (putR cf.n (some d) (s.put t (.d (.bool want)))) := by
      rw [← hx hc]; rfl
    rw [e]
    refine e_pk E hd ?_
    rw [hz hc]
    exact hk) h
theorem e_gpk2 (E : Eng P cf Q) {t : Nat} {c e want : Bool} {all : Array Oper} {r : List Oper} {d : Nat} {a b b' : Operand} {ty : TypeId} {ps : String} {af : Array Edge} {g : Option (Nat × Bool)} {c2 : Bool} {z : AV} (hd : d < cf.n) (hs : s.fr t = gv c (.d (.bool e)))
    (hx : c = true → e = want → ev (s.put t (.d (.bool want))) a = .d (.bool c2)) (hz : c = true → e = want → pk c2 (ev (s.put t (.d (.bool want))) b) (ev (s.put t (.d (.bool want))) b') = z)
    (h : E.run (.ops all r :: k) (s.put d (gv (c && cb e want) z))) : E.gd want all { dst := some d, op := .pick a b b', type := ty, pos := ps, after := af, guard := g } r s k (some (t, gv c (.d (.bool e)))) :=
  e_gmx2 E hd hs (fun h1 h2 hk => by
    have e' : opR P.ti cf.n (.pick a b b') (some d) (s.put t (.d (.bool want))) = (pickR (.d (.bool c2)) (ev (s.put t (.d (.bool want))) b) (ev (s.put t (.d (.bool want))) b')).bind (putR cf.n (some d) (s.put t (.d (.bool want)))) := by
      rw [← hx h1 h2]; rfl
    rw [e']
    refine e_pk E hd ?_
    rw [hz h1 h2]
    exact hk) h
theorem and_t (b : Bool) : (true && b) = b := rfl
/-- What is asked at the end, out of sight. -/
theorem hideQ (E : Eng P cf Q) (h : ∀ (Q' : Exit → St → Prop) (_ : Q' = Q) (E' : Eng P cf Q'), E'.run k s) : E.run k s := h Q rfl E
/-- A slice compared with nil. -/
theorem e_nileq (E : Eng P cf Q) {t e : TypeId} {x : Operand} {yt : TypeId} {dst : Nat} {ty : TypeId} {ps : String} {af : Array Edge} {w0 : W} {xs : List D} (hk : (P.ti t).k = .slice e) (hd : dst < cf.n) (hx : ev s x = .d (.sl w0 xs))
    (h : ∀ b : Bool, (b = true → xs = []) → E.run k (s.put dst (.d (.bool b)))) :
    E.stp { dst := some dst, op := .binOp .eql t x (.const (.slice none 0 0)) yt, type := ty, pos := ps, after := af, guard := none } s k .no :=
  e_nilcmp E false hk hd hx h
end
end Go.Ab
/-! ### The generic layer, part 43: what is handed back, read otherwise: a slice that is nil as an empty array. -/
namespace Go.Ab
section
variable {P : Program}
/-- A slice that is handed back and may be nil: an array, empty then. -/
theorem HCall.thaw {G : List (Nat × Obj)} {f : FuncId} {args : List AV} {hp : List (Name × Ob)} {u : List Nat} {Q Q' : AV → List (Name × Ob) → Prop} (h : HCall P G f args hp u Q) (n : Nat) (w : W) (hn : n ∉ u)
    (hQ : ∀ r hp', Q r hp' → Q' r hp' ∨ (r = .d .nils ∧ hp' = [] ∧ Q' (.vw [n] 0 0) [([n], .arr w [])])) : HCall P G f args hp u Q' := by
  refine ⟨h.1, fun B β vs W h1 h2 h3 h4 h5 => ?_⟩
  refine (h.2 B β vs W h1 h2 h3 h4 h5).mono ?_
  rintro e w' ⟨v, r, hp', u', β', he, hq, hs⟩
  rcases hQ r hp' hq with hq' | ⟨rfl, rfl, hq'⟩
  · exact ⟨v, r, hp', u', β', he, hq', hs⟩
  · have hle : Le ({ B with n := 1 } : Base).U0 id (mk [(0, .d .nils)] [] u') (mk [(0, .d .nils)] [] u) := by
      refine LeL.le ?_
      refine ⟨⟨⟨rfl, rfl⟩, trivial⟩, trivial, trivial, ?_, trivial⟩
      rw [show ({ B with n := 1 } : Base).U0 = u from h3]
      simp
    obtain ⟨β2, hs2, _⟩ := hs.le hle
    have h6 := hs2.addNone (t := n) (by rw [mk_used]; exact hn) w
    have h7 := h6.slots 0
    rw [show ((mk [(0, AV.d .nils)] [] u).add n (.arr w [])).fr 0 = .d .nils from rfl] at h7
    have h8 := h6.setv (vw_nils (p := [n]) (w := w) ⟨n, [], rfl, List.mem_cons_self⟩ (by simp [St.add, updP]) h7)
    have e2 : ((mk [(0, AV.d .nils)] [] u).add n (.arr w [])).put 0 (.vw [n] 0 0) = mk [(0, .vw [n] 0 0)] [([n], .arr w [])] (n :: u) := by
      rw [mk_add, mk_put]; rfl
    rw [e2] at h8
    exact ⟨v, _, _, _, _, he, hq', h8⟩
end
end Go.Ab
