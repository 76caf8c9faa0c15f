/-
  How a type is printed, in plain words; a piece made of pieces.
-/
import Derived.Test.YtjoneaifakonjaaDoorZ4
import Derived.Test.YtjoneaifakonjaaDoorS1
set_option linter.all false
namespace Go.Proofs.YtjoneaifakonjaaDoor
open Go.Ab
/-- A piece: its text, how tight it is, which depths it names (none: the text was too long). -/
structure Pc where
  s : List UInt8
  t : Int
  nm : Option (List Nat)
def nmL (o : Option (List Nat)) : List Nat := o.getD []
def madeS (lg : Bool) (s : List UInt8) (t : Int) (nms : List Nat) : Pc × Bool :=
  if lg = true ∨ 4000 < s.length then (⟨[], 4, none⟩, true) else (⟨s, t, some nms⟩, false)
abbrev PSt := List Int × Bool
def childS (x : Pc) (least : Int) : Pc := if x.t < least then { x with s := ([40] ++ x.s) ++ [41] } else x
def varS (a : Int) (v : List Int) : Nat × List Int := if a ∈ v then (v.idxOf a, v) else (v.length, v ++ [a])
def pairS (rec : Int → PSt → Pc × PSt) (n : TN) (sign : List UInt8) (left right tight : Int) (st : PSt) : Pc × PSt :=
  let a := rec n.a st
  let b := rec n.b a.2
  let m := madeS b.2.2 (((childS a.1 left).s ++ sign) ++ (childS b.1 right).s) tight (nmL a.1.nm ++ nmL b.1.nm)
  (m.1, (b.2.1, m.2))
def wideL (rec : Int → PSt → Pc × PSt) : List Fld → Nat → List UInt8 → List Nat → PSt → List UInt8 × List Nat × PSt
  | [], _, s, nms, st => (s, nms, st)
  | f :: r, i, s, nms, st =>
    let x := rec f.2 st
    let s2 := (if 0 < i then s ++ [44, 32] else s) ++ ((f.1 ++ [58, 32]) ++ (childS x.1 0).s)
    if x.2.2 then (s2, nms ++ nmL x.1.nm, x.2) else wideL rec r (i + 1) s2 (nms ++ nmL x.1.nm) x.2
def wideS (rec : Int → PSt → Pc × PSt) (n : TN) (op sh : List UInt8) (st : PSt) : Pc × PSt :=
  let w := wideL rec n.l 0 op [] st
  let m := madeS w.2.2.2 (w.1 ++ sh) 4 w.2.1
  (m.1, (w.2.2.1, m.2))
def leafS (s : List UInt8) (st : PSt) : Pc × PSt := let m := madeS st.2 s 4 []; (m.1, (st.1, m.2))
def varbS (a : Int) (st : PSt) : Pc × PSt :=
  let q := varS a st.1
  let m := madeS st.2 ([39, 118] ++ Lib.decDigits q.1) 4 []
  (m.1, (q.2, m.2))
def headS (rec : Int → PSt → Pc × PSt) (n : TN) (st : PSt) : Pc × PSt :=
  if n.k = 1 then leafS [116, 111, 112] st else if n.k = 2 then leafS [98, 111, 116] st else if n.k = 3 then leafS [105, 110, 116] st else if n.k = 4 then leafS [98, 111, 111, 108] st else if n.k = 5 then leafS [115, 116, 114, 105, 110, 103] st
  else if n.k = 6 then pairS rec n [32, 45, 62, 32] 2 0 1 st else if n.k = 9 then pairS rec n [32, 124, 32] 2 3 2 st else if n.k = 10 then pairS rec n [32, 38, 32] 3 4 3 st
  else if n.k = 7 then wideS rec n [123] [125] st else if n.k = 8 then wideS rec n [60] [62] st else varbS n.a st
def nameT (k : Nat) : List UInt8 := [39, 109] ++ Lib.decDigits k
def nodeS (ns : List TN) : Nat → List Int → Int → PSt → Pc × PSt
  | 0, _, _, st => (⟨[], 4, none⟩, st)
  | m + 1, path, i, st =>
    if i ∈ path then
      let q := madeS st.2 (nameT (path.idxOf i)) 4 []
      ({ q.1 with nm := q.1.nm.map fun l => path.idxOf i :: l }, (st.1, q.2))
    else if st.2 = true then (⟨[], 4, none⟩, st)
    else
      let x := headS (nodeS ns m (path ++ [i])) (nd ns i.toNat) st
      if path.length ∈ nmL x.1.nm then
        let y := madeS x.2.2 (((([109, 117, 32] ++ nameT path.length) ++ [46, 32])) ++ x.1.s) 0 (nmL x.1.nm)
        ({ y.1 with nm := y.1.nm.map fun l => l.filter (· ≠ path.length) }, (x.2.1, y.2))
      else x

/-! ### In memory -/
def ki (n : Int) : D := i64 n
def setM (ks : List Int) : List (Int × D) := ks.map fun k => (k, D.bool true)
def Set (ks : List Int) (l : List Nat) : Prop := ks.Nodup ∧ ∀ k : Int, k ∈ ks ↔ ∃ n ∈ l, k = (n : Int)
/-- A map of depths that is data. -/
def NmD (d : D) : Option (List Nat) → Prop
  | none => d = .nilm
  | some l => ∃ clk bs ks, Stamps clk bs (menc ki (setM ks)) ∧ d = mpD clk bs (menc ki (setM ks)) ∧ Set ks l
def PO (ar : Name) (ns : List TN) (root : Int) (v : List Int) (path rest : List Int) (lg : Bool) : List (Name × Ob) :=
  [([100], .box [.d (.sl (some 4) (ns.map nodeD)), .d (i64 root), .mp [101], .vw ar 0 path.length, .d (.bool lg)]), ([101], .map (menc ki (atMs v v.length))), (ar, .arr none ((path ++ rest).map i64))]
def PU : List Nat := [100, 101, 102]
def pcD (s : List UInt8) (t : Int) (d : D) : D := .agg [.str s, i64 t, d]
structure PcD where
  s : List UInt8
  t : Int
  d : D
def psD (l : List PcD) : D := .sl (some 3) (l.map fun q => pcD q.s q.t q.d)
def NmsD : List PcD → List (List Nat) → Prop
  | [], [] => True
  | q :: r, l :: ls => NmD q.d (some l) ∧ NmsD r ls
  | _, _ => False
theorem mlook_set : ∀ (ks : List Int) (k : Int), mlook (setM ks) k = if k ∈ ks then some (.bool true) else none
  | [], k => by simp [setM, mlook]
  | x :: r, k => by
    have := mlook_set r k
    simp only [setM, List.map_cons, mlook] at this ⊢
    by_cases e : x = k
    · subst e; simp
    · rw [if_neg e, this]
      have e' : ¬ k = x := fun h => e h.symm
      simp [e']
theorem mset_set : ∀ (ks : List Int) (k : Int), mset (setM ks) k (.bool true) = setM (if k ∈ ks then ks else ks ++ [k])
  | [], k => rfl
  | x :: r, k => by
    have := mset_set r k
    simp only [setM, List.map_cons, mset] at this ⊢
    by_cases e : x = k
    · subst e; simp
    · rw [if_neg e, this]
      have e' : ¬ k = x := fun h => e h.symm
      by_cases hk : k ∈ r <;> simp [e', hk]
theorem nodup_ins {ks : List Int} (h : ks.Nodup) (k : Int) : (if k ∈ ks then ks else ks ++ [k]).Nodup := by
  split
  · exact h
  · rename_i hm
    rw [List.nodup_append]
    exact ⟨h, by simp, fun x hx y hy => by rw [List.mem_singleton.1 hy]; exact fun e => hm (e ▸ hx)⟩
theorem set_ins {ks : List Int} {l : List Nat} (h : Set ks l) (n : Nat) : Set (if (n : Int) ∈ ks then ks else ks ++ [(n : Int)]) (l ++ [n]) := by
  refine ⟨nodup_ins h.1 _, ?_⟩
  obtain ⟨_, h⟩ := h
  intro k
  have := h k
  split
  · rename_i hm
    rw [this]
    constructor
    · rintro ⟨a, ha, rfl⟩; exact ⟨a, by simp [ha], rfl⟩
    · rintro ⟨a, ha, rfl⟩
      rcases List.mem_append.1 ha with ha | ha
      · exact ⟨a, ha, rfl⟩
      · rw [List.mem_singleton.1 ha]; exact (h _).1 hm
  · rw [List.mem_append, this]
    constructor
    · rintro (⟨a, ha, rfl⟩ | hk)
      · exact ⟨a, by simp [ha], rfl⟩
      · rw [List.mem_singleton.1 hk]; exact ⟨n, by simp, rfl⟩
    · rintro ⟨a, ha, rfl⟩
      rcases List.mem_append.1 ha with ha | ha
      · exact .inl ⟨a, ha, rfl⟩
      · rw [List.mem_singleton.1 ha]; exact .inr (by simp)
theorem set_cg {ks : List Int} {l l' : List Nat} (h : Set ks l) (hl : ∀ n, n ∈ l ↔ n ∈ l') : Set ks l' := ⟨h.1, fun k => (h.2 k).trans ⟨fun ⟨n, hn, e⟩ => ⟨n, (hl n).1 hn, e⟩, fun ⟨n, hn, e⟩ => ⟨n, (hl n).2 hn, e⟩⟩⟩
theorem keyK : KeyE Tryd.prog 3 ki (fun n => .int .i64 n) := keyI
/-- What is handed back of a piece that is made. -/
def MQ (ar : Name) (ns : List TN) (root : Int) (v path rest : List Int) (m : Pc × Bool) (r : AV) (hp' : List (Name × Ob)) : Prop :=
  match m.1.nm with
  | none => r = .d (pcD m.1.s m.1.t .nilm) ∧ hp' = PO ar ns root v path rest m.2
  | some l => ∃ ks, Set ks l ∧ r = .agg [.d (.str m.1.s), .d (i64 m.1.t), .mp [104]] ∧ hp' = ([104], .map (menc ki (setM ks))) :: PO ar ns root v path rest m.2
theorem f19_long {G} (ar : Name) (har : ar = [102]) (ns : List TN) (root : Int) (v path rest : List Int) (s : List UInt8) (t : Int) (L : D) : HCall Tryd.prog G 19 [.bx [100] 0, .d (.str s), .d (i64 t), .d L] (PO ar ns root v path rest true) PU (MQ ar ns root v path rest (⟨[], 4, none⟩, true)) := by
  subst har
  unfold PO PU
  refine funO_ok Tryd.func19 rfl (by decide +kernel) (by simp [Tryd.ntmps19]) (veil fun E => ?_)
  simp only [go_sem, Nat.reduceEqDiff, Nat.reduceLT, ↓reduceIte, Nat.reduceAdd, Nat.reduceMul, Nat.reduceLeDiff, Nat.reduceSub, Nat.reduceBEq, Int.reduceEq, Int.reduceLT, Int.reduceLE, Int.reduceToNat, Int.reduceAdd, Int.reduceSub, Int.reduceNeg, UInt8.reduceToNat]
  refine ⟨_, _, [100, 101, 102], id, ⟨rfl, rfl⟩, ?_⟩
  unfold pcD PO
  simp only [go_sem, Nat.reduceEqDiff, Nat.reduceLT, ↓reduceIte, Nat.reduceAdd, Nat.reduceMul, Nat.reduceLeDiff, Nat.reduceSub, Nat.reduceBEq, Int.reduceEq, Int.reduceLT, Int.reduceLE, Int.reduceToNat, Int.reduceAdd, Int.reduceSub, Int.reduceNeg, UInt8.reduceToNat]
theorem f19_over {G} (ar : Name) (har : ar = [102]) (ns : List TN) (root : Int) (v path rest : List Int) (s : List UInt8) (t : Int) (L : D) (h : 4000 < s.length) (hs : s.length ≤ 1000000000) : HCall Tryd.prog G 19 [.bx [100] 0, .d (.str s), .d (i64 t), .d L] (PO ar ns root v path rest false) PU (MQ ar ns root v path rest (⟨[], 4, none⟩, true)) := by
  subst har
  unfold PO PU
  refine funO_ok Tryd.func19 rfl (by decide +kernel) (by simp [Tryd.ntmps19]) (veil fun E => ?_)
  simp only [go_sem, Nat.reduceEqDiff, Nat.reduceLT, ↓reduceIte, Nat.reduceAdd, Nat.reduceMul, Nat.reduceLeDiff, Nat.reduceSub, Nat.reduceBEq, Int.reduceEq, Int.reduceLT, Int.reduceLE, Int.reduceToNat, Int.reduceAdd, Int.reduceSub, Int.reduceNeg, UInt8.reduceToNat]
  have h' : (4000 : Int) < (s.length : Int) := by omega
  rw [show decide ((4000 : Int) < (s.length : Int)) = true from decide_eq_true h']
  simp only [go_sem, Nat.reduceEqDiff, Nat.reduceLT, ↓reduceIte, Nat.reduceAdd, Nat.reduceMul, Nat.reduceLeDiff, Nat.reduceSub, Nat.reduceBEq, Int.reduceEq, Int.reduceLT, Int.reduceLE, Int.reduceToNat, Int.reduceAdd, Int.reduceSub, Int.reduceNeg, UInt8.reduceToNat]
  refine ⟨_, _, [100, 101, 102], id, ⟨rfl, rfl⟩, ?_⟩
  unfold pcD PO
  simp only [go_sem, Nat.reduceEqDiff, Nat.reduceLT, ↓reduceIte, Nat.reduceAdd, Nat.reduceMul, Nat.reduceLeDiff, Nat.reduceSub, Nat.reduceBEq, Int.reduceEq, Int.reduceLT, Int.reduceLE, Int.reduceToNat, Int.reduceAdd, Int.reduceSub, Int.reduceNeg, UInt8.reduceToNat]
theorem setM_split {td : List Int} {l1 l2 : List (D × D)} {y : D × D} (h : menc ki (setM td) = l1 ++ y :: l2) : ∃ a k b, td = a ++ k :: b ∧ l1 = menc ki (setM a) ∧ y = (i64 k, .bool true) ∧ l2 = menc ki (setM b) := by
  have e : menc ki (setM td) = td.map fun k => (i64 k, D.bool true) := by simp [menc, setM, ki]
  rw [e] at h
  obtain ⟨a, c, rfl, h1, h2⟩ := List.map_eq_append_iff.1 h
  obtain ⟨k, b, rfl, h3, h4⟩ := List.map_eq_cons_iff.1 h2
  exact ⟨a, k, b, rfl, by rw [← h1]; simp [menc, setM, ki], h3.symm, by rw [← h4]; simp [menc, setM, ki]⟩
theorem setM_app (a b : List Int) : menc ki (setM a) ++ menc ki (setM b) = menc ki (setM (a ++ b)) := by simp [menc, setM]
theorem nms_get : ∀ {l : List PcD} {ls : List (List Nat)}, NmsD l ls → l.length = ls.length ∧ ∀ j (_ : j < l.length), ∃ (q : PcD) (n : List Nat), l[j]? = some q ∧ ls[j]? = some n ∧ NmD q.d (some n)
  | [], [], _ => ⟨rfl, fun j h => by simp at h⟩
  | q :: r, n :: ns, h => by
    obtain ⟨h1, h2⟩ := nms_get h.2
    refine ⟨by simp [h1], fun j hj => ?_⟩
    cases j with
    | zero => exact ⟨q, n, rfl, rfl, h.1⟩
    | succ j => exact h2 j (by simpa using hj)
  | [], _ :: _, h => h.elim
  | _ :: _, [], h => h.elim
set_option maxHeartbeats 1000000 in
theorem f19_fits {G} (ar : Name) (har : ar = [102]) (ns : List TN) (root : Int) (v path rest : List Int) (s : List UInt8) (t : Int) (L : D) (ls : List (List Nat)) (h : ¬ 4000 < s.length) (hL : (L = .nils ∧ ls = []) ∨ ∃ l, L = psD l ∧ NmsD l ls ∧ l.length ≤ 1000) :
    HCall Tryd.prog G 19 [.bx [100] 0, .d (.str s), .d (i64 t), .d L] (PO ar ns root v path rest false) PU (MQ ar ns root v path rest (⟨s, t, some ls.flatten⟩, false)) := by
  subst har
  unfold PO PU
  refine funO_ok Tryd.func19 rfl (by decide +kernel) (by simp [Tryd.ntmps19]) (veil fun E => ?_)
  simp only [go_sem, Nat.reduceEqDiff, Nat.reduceLT, ↓reduceIte, Nat.reduceAdd, Nat.reduceMul, Nat.reduceLeDiff, Nat.reduceSub, Nat.reduceBEq, Int.reduceEq, Int.reduceLT, Int.reduceLE, Int.reduceToNat, Int.reduceAdd, Int.reduceSub, Int.reduceNeg, UInt8.reduceToNat]
  have h' : ¬ (4000 : Int) < (s.length : Int) := by omega
  rw [show decide ((4000 : Int) < (s.length : Int)) = false from decide_eq_false h']
  simp only [go_sem, Nat.reduceEqDiff, Nat.reduceLT, ↓reduceIte, Nat.reduceAdd, Nat.reduceMul, Nat.reduceLeDiff, Nat.reduceSub, Nat.reduceBEq, Int.reduceEq, Int.reduceLT, Int.reduceLE, Int.reduceToNat, Int.reduceAdd, Int.reduceSub, Int.reduceNeg, UInt8.reduceToNat]
  refine e_makeMap E (by simp only [go_sem, Nat.reduceEqDiff, Nat.reduceLT, ↓reduceIte, Nat.reduceAdd, Nat.reduceMul, Nat.reduceLeDiff, Nat.reduceSub, Nat.reduceBEq, Int.reduceEq, Int.reduceLT, Int.reduceLE, Int.reduceToNat, Int.reduceAdd, Int.reduceSub, Int.reduceNeg, UInt8.reduceToNat]) (by rw [mk_used]; decide) ?_
  simp only [go_sem, Nat.reduceEqDiff, Nat.reduceLT, ↓reduceIte, Nat.reduceAdd, Nat.reduceMul, Nat.reduceLeDiff, Nat.reduceSub, Nat.reduceBEq, Int.reduceEq, Int.reduceLT, Int.reduceLE, Int.reduceToNat, Int.reduceAdd, Int.reduceSub, Int.reduceNeg, UInt8.reduceToNat]
  rcases hL with ⟨rfl, rfl⟩ | ⟨l, rfl, hN, hl⟩
  · simp only [go_sem, Nat.reduceEqDiff, Nat.reduceLT, ↓reduceIte, Nat.reduceAdd, Nat.reduceMul, Nat.reduceLeDiff, Nat.reduceSub, Nat.reduceBEq, Int.reduceEq, Int.reduceLT, Int.reduceLE, Int.reduceToNat, Int.reduceAdd, Int.reduceSub, Int.reduceNeg, UInt8.reduceToNat]
    refine loopO_e E (X := Unit) (fun _ => [(8, .bx [8] 0), (9, .bx [9] 0), (31, .d (i64 0)), (32, .d (i64 0))]) (fun _ => [([100], .box [.d (.sl (some 4) (ns.map nodeD)), .d (i64 root), .mp [101], .vw [102] 0 path.length, .d (.bool false)]), ([101], .map (menc ki (atMs v v.length))), ([102], .arr none ((path ++ rest).map i64)),
      ([8], .box [.d (.str []), .d (i64 0), .d .nilm]), ([9], .box [.d (.str s), .d (i64 t), .mp [28]]), ([28], .map [])]) [8, 9, 28, 100, 101, 102] (fun _ => 0) () ?_ ?_
    · simp only [go_sem, Nat.reduceEqDiff, Nat.reduceLT, ↓reduceIte, Nat.reduceAdd, Nat.reduceMul, Nat.reduceLeDiff, Nat.reduceSub, Nat.reduceBEq, Int.reduceEq, Int.reduceLT, Int.reduceLE, Int.reduceToNat, Int.reduceAdd, Int.reduceSub, Int.reduceNeg, UInt8.reduceToNat]
      all_goals rfl
    rintro ⟨⟩ E0
    refine hideQ E0 fun Q' hQ E' => ?_
    simp only [go_sem, Nat.reduceEqDiff, Nat.reduceLT, ↓reduceIte, Nat.reduceAdd, Nat.reduceMul, Nat.reduceLeDiff, Nat.reduceSub, Nat.reduceBEq, Int.reduceEq, Int.reduceLT, Int.reduceLE, Int.reduceToNat, Int.reduceAdd, Int.reduceSub, Int.reduceNeg, UInt8.reduceToNat]
    rw [hQ]
    simp only [go_sem, Nat.reduceEqDiff, Nat.reduceLT, ↓reduceIte, Nat.reduceAdd, Nat.reduceMul, Nat.reduceLeDiff, Nat.reduceSub, Nat.reduceBEq, Int.reduceEq, Int.reduceLT, Int.reduceLE, Int.reduceToNat, Int.reduceAdd, Int.reduceSub, Int.reduceNeg, UInt8.reduceToNat]
    refine ⟨_, _, [104, 100, 101, 102], tau [([104], [28])], ⟨[], ⟨List.nodup_nil, fun k => by simp⟩, rfl, rfl⟩, ?_⟩
    unfold PO
    simp only [go_sem, Nat.reduceEqDiff, Nat.reduceLT, ↓reduceIte, Nat.reduceAdd, Nat.reduceMul, Nat.reduceLeDiff, Nat.reduceSub, Nat.reduceBEq, Int.reduceEq, Int.reduceLT, Int.reduceLE, Int.reduceToNat, Int.reduceAdd, Int.reduceSub, Int.reduceNeg, UInt8.reduceToNat]
    rfl
  obtain ⟨hll, hget⟩ := nms_get hN
  unfold psD
  simp only [go_sem, Nat.reduceEqDiff, Nat.reduceLT, ↓reduceIte, Nat.reduceAdd, Nat.reduceMul, Nat.reduceLeDiff, Nat.reduceSub, Nat.reduceBEq, Int.reduceEq, Int.reduceLT, Int.reduceLE, Int.reduceToNat, Int.reduceAdd, Int.reduceSub, Int.reduceNeg, UInt8.reduceToNat]
  refine loopO_e E (X := { x : Nat × List Int // x.1 ≤ l.length ∧ Set x.2 (ls.take x.1).flatten }) (fun x => [(8, .bx [8] 0), (9, .bx [9] 0), (30, .d (.sl (some 3) (l.map fun q => pcD q.s q.t q.d))), (31, .d (i64 l.length)), (32, .d (i64 x.1.1))]) (fun x => [([100], .box [.d (.sl (some 4) (ns.map nodeD)), .d (i64 root), .mp [101], .vw [102] 0 path.length, .d (.bool false)]), ([101], .map (menc ki (atMs v v.length))), ([102], .arr none ((path ++ rest).map i64)),
    ([8], .box [.d (.str []), .d (i64 0), .d .nilm]), ([9], .box [.d (.str s), .d (i64 t), .mp [28]]), ([28], .map (menc ki (setM x.1.2)))]) [8, 9, 28, 100, 101, 102] (fun x => l.length - x.1.1) ⟨(0, []), Nat.zero_le _, List.nodup_nil, fun k => by simp⟩ ?_ ?_
  · simp only [go_sem, Nat.reduceEqDiff, Nat.reduceLT, ↓reduceIte, Nat.reduceAdd, Nat.reduceMul, Nat.reduceLeDiff, Nat.reduceSub, Nat.reduceBEq, Int.reduceEq, Int.reduceLT, Int.reduceLE, Int.reduceToNat, Int.reduceAdd, Int.reduceSub, Int.reduceNeg, UInt8.reduceToNat]
    all_goals rfl
  rintro ⟨⟨j, ks⟩, hj, hks⟩ E0
  refine hideQ E0 fun Q' hQ E' => ?_
  simp only at hj hks ⊢
  simp only [go_sem, Nat.reduceEqDiff, Nat.reduceLT, ↓reduceIte, Nat.reduceAdd, Nat.reduceMul, Nat.reduceLeDiff, Nat.reduceSub, Nat.reduceBEq, Int.reduceEq, Int.reduceLT, Int.reduceLE, Int.reduceToNat, Int.reduceAdd, Int.reduceSub, Int.reduceNeg, UInt8.reduceToNat]
  refine e_ifd E' (fun h1 => ?_) (fun h1 => ?_) <;> simp only [go_sem, Nat.reduceEqDiff, Nat.reduceLT, ↓reduceIte, Nat.reduceAdd, Nat.reduceMul, Nat.reduceLeDiff, Nat.reduceSub, Nat.reduceBEq, Int.reduceEq, Int.reduceLT, Int.reduceLE, Int.reduceToNat, Int.reduceAdd, Int.reduceSub, Int.reduceNeg, UInt8.reduceToNat]
  · have hj' : j < l.length := by omega
    obtain ⟨q, n, hq, hn, clk, bs, kj, hst, hqd, hkj⟩ := hget j hj'
    refine ⟨⟨by omega, by omega⟩, ?_⟩
    have hg : (List.map (fun q : PcD => pcD q.s q.t q.d) l).getD j .nilp = .agg [.str q.s, i64 q.t, mpD clk bs (menc ki (setM kj))] := by
      rw [List.getD_eq_getElem?_getD, List.getElem?_map, hq, ← hqd]; rfl
    rw [hg]
    simp only [go_sem, Nat.reduceEqDiff, Nat.reduceLT, ↓reduceIte, Nat.reduceAdd, Nat.reduceMul, Nat.reduceLeDiff, Nat.reduceSub, Nat.reduceBEq, Int.reduceEq, Int.reduceLT, Int.reduceLE, Int.reduceToNat, Int.reduceAdd, Int.reduceSub, Int.reduceNeg, UInt8.reduceToNat]
    refine e_rangeM E' hst (by rw [ti44]) rfl (by simp only [go_sem, Nat.reduceEqDiff, Nat.reduceLT, ↓reduceIte, Nat.reduceAdd, Nat.reduceMul, Nat.reduceLeDiff, Nat.reduceSub, Nat.reduceBEq, Int.reduceEq, Int.reduceLT, Int.reduceLE, Int.reduceToNat, Int.reduceAdd, Int.reduceSub, Int.reduceNeg, UInt8.reduceToNat]) (by rw [mk_used]; decide) ?_
    simp only [go_sem, Nat.reduceEqDiff, Nat.reduceLT, ↓reduceIte, Nat.reduceAdd, Nat.reduceMul, Nat.reduceLeDiff, Nat.reduceSub, Nat.reduceBEq, Int.reduceEq, Int.reduceLT, Int.reduceLE, Int.reduceToNat, Int.reduceAdd, Int.reduceSub, Int.reduceNeg, UInt8.reduceToNat]
    have hfl : (ls.take (j + 1)).flatten = (ls.take j).flatten ++ n := by
      have hjl : j < ls.length := by omega
      rw [List.take_succ_eq_append_getElem hjl, List.flatten_append]
      have : ls[j] = n := by rw [List.getElem?_eq_getElem hjl] at hn; exact Option.some.inj hn
      rw [this]; simp
    refine loopO_e E' (X := { x : List Int × List Int × Option (D × D) // x.1.Nodup ∧ ∀ k, (k ∈ x.1 ∨ k ∈ x.2.1) ↔ (k ∈ ks ∨ k ∈ kj) }) (fun x => [(8, .bx [8] 0), (9, .bx [9] 0), (30, .d (.sl (some 3) (l.map fun q => pcD q.s q.t q.d))), (31, .d (i64 l.length)), (32, .d (i64 j)), (38, .it [38])]) (fun x => [([100], .box [.d (.sl (some 4) (ns.map nodeD)), .d (i64 root), .mp [101], .vw [102] 0 path.length, .d (.bool false)]), ([101], .map (menc ki (atMs v v.length))), ([102], .arr none ((path ++ rest).map i64)),
      ([8], .box [.d (.str []), .d (i64 0), .d .nilm]), ([9], .box [.d (.str s), .d (i64 t), .mp [28]]), ([28], .map (menc ki (setM x.1.1))), ([38], .miter (mpD clk bs (menc ki (setM kj))) x.1.2.2 (menc ki (setM x.1.2.1)))]) [38, 8, 9, 28, 100, 101, 102] (fun x => x.1.2.1.length) ⟨(ks, kj, none), hks.1, fun _ => Iff.rfl⟩ ?_ ?_
    · simp only [go_sem, Nat.reduceEqDiff, Nat.reduceLT, ↓reduceIte, Nat.reduceAdd, Nat.reduceMul, Nat.reduceLeDiff, Nat.reduceSub, Nat.reduceBEq, Int.reduceEq, Int.reduceLT, Int.reduceLE, Int.reduceToNat, Int.reduceAdd, Int.reduceSub, Int.reduceNeg, UInt8.reduceToNat]
      all_goals rfl
    rintro ⟨⟨kc, td, cur⟩, hnd, hun⟩ E1
    refine hideQ E1 fun Q2 hQ2 E2 => ?_
    simp only at hnd hun ⊢
    simp only [go_sem, Nat.reduceEqDiff, Nat.reduceLT, ↓reduceIte, Nat.reduceAdd, Nat.reduceMul, Nat.reduceLeDiff, Nat.reduceSub, Nat.reduceBEq, Int.reduceEq, Int.reduceLT, Int.reduceLE, Int.reduceToNat, Int.reduceAdd, Int.reduceSub, Int.reduceNeg, UInt8.reduceToNat]
    refine e_nextM E2 [38] (mpD clk bs (menc ki (setM kj))) cur (menc ki (setM td)) rfl rfl (by simp only [go_sem, Nat.reduceEqDiff, Nat.reduceLT, ↓reduceIte, Nat.reduceAdd, Nat.reduceMul, Nat.reduceLeDiff, Nat.reduceSub, Nat.reduceBEq, Int.reduceEq, Int.reduceLT, Int.reduceLE, Int.reduceToNat, Int.reduceAdd, Int.reduceSub, Int.reduceNeg, UInt8.reduceToNat]) ?_ ?_
    · intro l1 y l2 hsp
      obtain ⟨a, k, b, rfl, rfl, rfl, rfl⟩ := setM_split hsp
      simp only [go_sem, Nat.reduceEqDiff, Nat.reduceLT, ↓reduceIte, Nat.reduceAdd, Nat.reduceMul, Nat.reduceLeDiff, Nat.reduceSub, Nat.reduceBEq, Int.reduceEq, Int.reduceLT, Int.reduceLE, Int.reduceToNat, Int.reduceAdd, Int.reduceSub, Int.reduceNeg, UInt8.reduceToNat]
      refine e_entryM E2 [38] (mpD clk bs (menc ki (setM kj))) (i64 k, .bool true) (menc ki (setM a) ++ menc ki (setM b)) rfl rfl (by simp only [go_sem, Nat.reduceEqDiff, Nat.reduceLT, ↓reduceIte, Nat.reduceAdd, Nat.reduceMul, Nat.reduceLeDiff, Nat.reduceSub, Nat.reduceBEq, Int.reduceEq, Int.reduceLT, Int.reduceLE, Int.reduceToNat, Int.reduceAdd, Int.reduceSub, Int.reduceNeg, UInt8.reduceToNat]) ?_
      simp only [go_sem, Nat.reduceEqDiff, Nat.reduceLT, ↓reduceIte, Nat.reduceAdd, Nat.reduceMul, Nat.reduceLeDiff, Nat.reduceSub, Nat.reduceBEq, Int.reduceEq, Int.reduceLT, Int.reduceLE, Int.reduceToNat, Int.reduceAdd, Int.reduceSub, Int.reduceNeg, UInt8.reduceToNat]
      refine e_mapUpdate E2 [28] (setM kc) k (.bool true) (by rw [ti44]) keyK rfl rfl rfl rfl rfl ?_
      rw [mset_set, setM_app]
      simp only [go_sem, Nat.reduceEqDiff, Nat.reduceLT, ↓reduceIte, Nat.reduceAdd, Nat.reduceMul, Nat.reduceLeDiff, Nat.reduceSub, Nat.reduceBEq, Int.reduceEq, Int.reduceLT, Int.reduceLE, Int.reduceToNat, Int.reduceAdd, Int.reduceSub, Int.reduceNeg, UInt8.reduceToNat]
      rw [hQ2]
      simp only [go_sem, Nat.reduceEqDiff, Nat.reduceLT, ↓reduceIte, Nat.reduceAdd, Nat.reduceMul, Nat.reduceLeDiff, Nat.reduceSub, Nat.reduceBEq, Int.reduceEq, Int.reduceLT, Int.reduceLE, Int.reduceToNat, Int.reduceAdd, Int.reduceSub, Int.reduceNeg, UInt8.reduceToNat]
      refine ⟨⟨((if k ∈ kc then kc else kc ++ [k]), a ++ b, some (i64 k, .bool true)), nodup_ins hnd k, fun x => ?_⟩, ?_, ?_⟩
      · rw [← hun x]
        simp only
        split
        · rename_i hm
          simp only [List.mem_append, List.mem_cons]
          constructor
          · rintro (h | h | h) <;> simp [h]
          · rintro (h | h | rfl | h)
            · exact .inl h
            · exact .inr (.inl h)
            · exact .inl hm
            · exact .inr (.inr h)
        · simp only [List.mem_append, List.mem_cons, List.not_mem_nil, or_false]
          constructor
          · rintro ((h | h) | h | h) <;> simp [h]
          · rintro (h | h | h | h) <;> simp [h]
      · show (a ++ b).length < (a ++ k :: b).length
        simp only [List.length_append, List.length_cons]
        omega
      · simp only [go_sem, Nat.reduceEqDiff, Nat.reduceLT, ↓reduceIte, Nat.reduceAdd, Nat.reduceMul, Nat.reduceLeDiff, Nat.reduceSub, Nat.reduceBEq, Int.reduceEq, Int.reduceLT, Int.reduceLE, Int.reduceToNat, Int.reduceAdd, Int.reduceSub, Int.reduceNeg, UInt8.reduceToNat]
        all_goals rfl
    · intro hnil
      have htd : td = [] := by
        cases td with
        | nil => rfl
        | cons q r => simp [menc, setM] at hnil
      subst htd
      simp only [go_sem, Nat.reduceEqDiff, Nat.reduceLT, ↓reduceIte, Nat.reduceAdd, Nat.reduceMul, Nat.reduceLeDiff, Nat.reduceSub, Nat.reduceBEq, Int.reduceEq, Int.reduceLT, Int.reduceLE, Int.reduceToNat, Int.reduceAdd, Int.reduceSub, Int.reduceNeg, UInt8.reduceToNat]
      rw [hQ2]
      simp only [go_sem, Nat.reduceEqDiff, Nat.reduceLT, ↓reduceIte, Nat.reduceAdd, Nat.reduceMul, Nat.reduceLeDiff, Nat.reduceSub, Nat.reduceBEq, Int.reduceEq, Int.reduceLT, Int.reduceLE, Int.reduceToNat, Int.reduceAdd, Int.reduceSub, Int.reduceNeg, UInt8.reduceToNat]
      rw [hQ]
      simp only [go_sem, Nat.reduceEqDiff, Nat.reduceLT, ↓reduceIte, Nat.reduceAdd, Nat.reduceMul, Nat.reduceLeDiff, Nat.reduceSub, Nat.reduceBEq, Int.reduceEq, Int.reduceLT, Int.reduceLE, Int.reduceToNat, Int.reduceAdd, Int.reduceSub, Int.reduceNeg, UInt8.reduceToNat]
      refine ⟨⟨(j + 1, kc), by omega, ?_⟩, by show l.length - (j + 1) < _; omega, ?_⟩
      · simp only
        rw [hfl]
        refine ⟨hnd, fun x => ?_⟩
        have := hun x
        simp only [List.not_mem_nil, or_false] at this
        rw [this, hks.2 x, hkj.2 x]
        constructor
        · rintro (⟨m, hm, e⟩ | ⟨m, hm, e⟩)
          · exact ⟨m, List.mem_append_left _ hm, e⟩
          · exact ⟨m, List.mem_append_right _ hm, e⟩
        · rintro ⟨m, hm, e⟩
          rcases List.mem_append.1 hm with hm | hm
          · exact .inl ⟨m, hm, e⟩
          · exact .inr ⟨m, hm, e⟩
      · rw [w64_in ⟨by omega, by omega⟩]
        exact ⟨rfl, rfl⟩
  · rw [hQ]
    simp only [go_sem, Nat.reduceEqDiff, Nat.reduceLT, ↓reduceIte, Nat.reduceAdd, Nat.reduceMul, Nat.reduceLeDiff, Nat.reduceSub, Nat.reduceBEq, Int.reduceEq, Int.reduceLT, Int.reduceLE, Int.reduceToNat, Int.reduceAdd, Int.reduceSub, Int.reduceNeg, UInt8.reduceToNat]
    have hjl : j = l.length := by omega
    subst hjl
    rw [hll, List.take_length] at hks
    refine ⟨_, _, [104, 100, 101, 102], tau [([104], [28])], ⟨ks, hks, rfl, rfl⟩, ?_⟩
    unfold PO
    simp only [go_sem, Nat.reduceEqDiff, Nat.reduceLT, ↓reduceIte, Nat.reduceAdd, Nat.reduceMul, Nat.reduceLeDiff, Nat.reduceSub, Nat.reduceBEq, Int.reduceEq, Int.reduceLT, Int.reduceLE, Int.reduceToNat, Int.reduceAdd, Int.reduceSub, Int.reduceNeg, UInt8.reduceToNat]
end Go.Proofs.YtjoneaifakonjaaDoor
