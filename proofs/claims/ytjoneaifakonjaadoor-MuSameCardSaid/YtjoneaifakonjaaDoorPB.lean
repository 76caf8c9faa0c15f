/-
  Small pieces: names, variables; where a number stands in a slice.
-/
import Derived.Test.YtjoneaifakonjaaDoorPA
set_option linter.all false
namespace Go.Proofs.YtjoneaifakonjaaDoor
open Go.Ab
theorem madeS_long (s : List UInt8) (t : Int) (nms : List Nat) : madeS true s t nms = (⟨[], 4, none⟩, true) := by simp [madeS]
theorem madeS_over {s : List UInt8} (h : 4000 < s.length) (lg : Bool) (t : Int) (nms : List Nat) : madeS lg s t nms = (⟨[], 4, none⟩, true) := by simp [madeS, h]
theorem madeS_fits {s : List UInt8} (h : ¬ 4000 < s.length) (t : Int) (nms : List Nat) : madeS false s t nms = (⟨s, t, some nms⟩, false) := by
  unfold madeS; rw [if_neg (by simp; omega)]
def LsOk (lg : Bool) (L : D) (ls : List (List Nat)) : Prop := lg = false → (L = .nils ∧ ls = []) ∨ ∃ l, L = psD l ∧ NmsD l ls ∧ l.length ≤ 1000
theorem made_ok {G} (ns : List TN) (root : Int) (v path rest : List Int) (lg : Bool) (s : List UInt8) (t : Int) (L : D) (ls : List (List Nat)) (hs : s.length ≤ 1000000000) (hL : LsOk lg L ls) :
    HCall Tryd.prog G 19 [.bx [100] 0, .d (.str s), .d (i64 t), .d L] (PO [102] ns root v path rest lg) PU (MQ [102] ns root v path rest (madeS lg s t ls.flatten)) := by
  cases lg with
  | true => rw [madeS_long]; exact f19_long [102] rfl ns root v path rest s t L
  | false =>
    by_cases h : 4000 < s.length
    · rw [madeS_over h]; exact f19_over [102] rfl ns root v path rest s t L h hs
    · rw [madeS_fits h]; exact f19_fits [102] rfl ns root v path rest s t L ls h (hL rfl)
/-- What is handed back of a piece, its map data. -/
def PQ (ar : Name) (ns : List TN) (root : Int) (v path rest : List Int) (m : Pc × Bool) (r : AV) (hp' : List (Name × Ob)) : Prop :=
  ∃ d, r = .d (pcD m.1.s m.1.t d) ∧ NmD d m.1.nm ∧ hp' = PO ar ns root v path rest m.2
theorem made_fz {G} (ns : List TN) (root : Int) (v path rest : List Int) (lg : Bool) (s : List UInt8) (t : Int) (L : D) (ls : List (List Nat)) (hs : s.length ≤ 1000000000) (hL : LsOk lg L ls) :
    HCall Tryd.prog G 19 [.bx [100] 0, .d (.str s), .d (i64 t), .d L] (PO [102] ns root v path rest lg) PU (PQ [102] ns root v path rest (madeS lg s t ls.flatten)) := by
  refine HCall.fM (made_ok ns root v path rest lg s t L ls hs hL) [104] fun r hp' hq => ?_
  generalize madeS lg s t ls.flatten = m at hq
  unfold MQ at hq
  split at hq
  · rename_i hn
    obtain ⟨rfl, rfl⟩ := hq
    exact .inl ⟨.nilm, rfl, by rw [hn]; rfl, rfl⟩
  · rename_i l hn
    obtain ⟨ks, hks, rfl, rfl⟩ := hq
    refine .inr ⟨_, rfl, fun clk bs hst => ⟨mpD clk bs (menc ki (setM ks)), ?_, by rw [hn]; exact ⟨clk, bs, ks, hst, rfl, hks⟩, ?_⟩⟩
    · unfold pcD
      simp only [go_sem, Nat.reduceEqDiff, Nat.reduceLT, ↓reduceIte, Nat.reduceAdd, Nat.reduceMul, Nat.reduceLeDiff, Nat.reduceSub, Nat.reduceBEq, Int.reduceEq, Int.reduceLT, Int.reduceLE, Int.reduceToNat, Int.reduceAdd, Int.reduceSub, Int.reduceNeg, UInt8.reduceToNat]
    · unfold PO
      simp only [go_sem, Nat.reduceEqDiff, Nat.reduceLT, ↓reduceIte, Nat.reduceAdd, Nat.reduceMul, Nat.reduceLeDiff, Nat.reduceSub, Nat.reduceBEq, Int.reduceEq, Int.reduceLT, Int.reduceLE, Int.reduceToNat, Int.reduceAdd, Int.reduceSub, Int.reduceNeg, UInt8.reduceToNat]
theorem dig_len : ∀ k, k < 100 → (Lib.decDigits k).length ≤ 2 := by decide +kernel
theorem f20_ok {G} (k : Nat) (hk : k < 100) : HP Tryd.prog G 20 [i64 k] (fun r => r = .d (.str (nameT k))) := by
  refine funP_ok Tryd.func20 rfl (by decide +kernel) (by simp [Tryd.ntmps20]) (veil fun E => ?_)
  simp only [go_sem, Nat.reduceEqDiff, Nat.reduceLT, ↓reduceIte, Nat.reduceAdd, Nat.reduceMul, Nat.reduceLeDiff, Nat.reduceSub, Nat.reduceBEq, Int.reduceEq, Int.reduceLT, Int.reduceLE, Int.reduceToNat, Int.reduceAdd, Int.reduceSub, Int.reduceNeg, UInt8.reduceToNat]
  refine e_call E (f35_ok k hk) rfl rfl (by simp) ?_
  rintro _ rfl
  simp only [go_sem, Nat.reduceEqDiff, Nat.reduceLT, ↓reduceIte, Nat.reduceAdd, Nat.reduceMul, Nat.reduceLeDiff, Nat.reduceSub, Nat.reduceBEq, Int.reduceEq, Int.reduceLT, Int.reduceLE, Int.reduceToNat, Int.reduceAdd, Int.reduceSub, Int.reduceNeg, UInt8.reduceToNat]
  have := dig_len k hk
  exact ⟨by omega, rfl⟩
def idx1 (l : List Int) (x : Int) : Int := if x ∈ l then (l.idxOf x : Nat) else -1
theorem idx_first {l : List Int} {i : Nat} (h : i < l.length) (hn : ∀ q, q < i → l.getD q 0 ≠ l.getD i 0) : l.idxOf (l.getD i 0) = i := by
  induction l generalizing i with
  | nil => simp at h
  | cons a l ih =>
    cases i with
    | zero => simp
    | succ i =>
      have h0 := hn 0 (by omega)
      simp only [List.getD_cons_zero, List.getD_cons_succ] at h0 ⊢
      rw [List.idxOf_cons]
      have : (a == l.getD i 0) = false := by simpa using h0
      rw [this]
      simp only [cond_false]
      rw [ih (by simpa using h) (fun q hq => by have := hn (q + 1) (by omega); simpa using this)]
theorem f18_ok {G} (l : List Int) (x : Int) (hl : l.length ≤ 1000000) : HP Tryd.prog G 18 [intsD l, i64 x] (fun r => r = .d (i64 (idx1 l x))) := by
  unfold intsD
  refine funP_ok Tryd.func18 rfl (by decide +kernel) (by simp [Tryd.ntmps18]) (veil fun E => ?_)
  simp only [go_sem, Nat.reduceEqDiff, Nat.reduceLT, ↓reduceIte, Nat.reduceAdd, Nat.reduceMul, Nat.reduceLeDiff, Nat.reduceSub, Nat.reduceBEq, Int.reduceEq, Int.reduceLT, Int.reduceLE, Int.reduceToNat, Int.reduceAdd, Int.reduceSub, Int.reduceNeg, UInt8.reduceToNat]
  refine loopP_e E (X := { i : Nat // i ≤ l.length ∧ ∀ q, q < i → l.getD q 0 ≠ x }) (fun y => [(0, .d (.sl none (l.map i64))), (1, .d (i64 x)), (4, .d (i64 0)), (7, .d (i64 l.length)), (8, .d (i64 y.1))]) (fun y => l.length - y.1) rfl ⟨0, Nat.zero_le _, fun q hq => by omega⟩ ?_ ?_
  · simp only [go_sem, Nat.reduceEqDiff, Nat.reduceLT, ↓reduceIte, Nat.reduceAdd, Nat.reduceMul, Nat.reduceLeDiff, Nat.reduceSub, Nat.reduceBEq, Int.reduceEq, Int.reduceLT, Int.reduceLE, Int.reduceToNat, Int.reduceAdd, Int.reduceSub, Int.reduceNeg, UInt8.reduceToNat]
    all_goals rfl
  rintro ⟨i, hi, hn⟩ E0
  refine hideQ E0 fun Q' hQ E' => ?_
  simp only at hi hn ⊢
  simp only [go_sem, Nat.reduceEqDiff, Nat.reduceLT, ↓reduceIte, Nat.reduceAdd, Nat.reduceMul, Nat.reduceLeDiff, Nat.reduceSub, Nat.reduceBEq, Int.reduceEq, Int.reduceLT, Int.reduceLE, Int.reduceToNat, Int.reduceAdd, Int.reduceSub, Int.reduceNeg, UInt8.reduceToNat]
  refine e_ifd E' (fun h1 => ?_) (fun h1 => ?_) <;> simp only [go_sem, Nat.reduceEqDiff, Nat.reduceLT, ↓reduceIte, Nat.reduceAdd, Nat.reduceMul, Nat.reduceLeDiff, Nat.reduceSub, Nat.reduceBEq, Int.reduceEq, Int.reduceLT, Int.reduceLE, Int.reduceToNat, Int.reduceAdd, Int.reduceSub, Int.reduceNeg, UInt8.reduceToNat]
  · have h1' : i < l.length := by omega
    refine ⟨⟨by omega, by omega⟩, ?_⟩
    rw [ints_getD h1']
    simp only [go_sem, Nat.reduceEqDiff, Nat.reduceLT, ↓reduceIte, Nat.reduceAdd, Nat.reduceMul, Nat.reduceLeDiff, Nat.reduceSub, Nat.reduceBEq, Int.reduceEq, Int.reduceLT, Int.reduceLE, Int.reduceToNat, Int.reduceAdd, Int.reduceSub, Int.reduceNeg, UInt8.reduceToNat]
    refine e_ifd E' (fun h2 => ?_) (fun h2 => ?_) <;> simp only [go_sem, Nat.reduceEqDiff, Nat.reduceLT, ↓reduceIte, Nat.reduceAdd, Nat.reduceMul, Nat.reduceLeDiff, Nat.reduceSub, Nat.reduceBEq, Int.reduceEq, Int.reduceLT, Int.reduceLE, Int.reduceToNat, Int.reduceAdd, Int.reduceSub, Int.reduceNeg, UInt8.reduceToNat]
    · rw [hQ]
      simp only [go_sem, Nat.reduceEqDiff, Nat.reduceLT, ↓reduceIte, Nat.reduceAdd, Nat.reduceMul, Nat.reduceLeDiff, Nat.reduceSub, Nat.reduceBEq, Int.reduceEq, Int.reduceLT, Int.reduceLE, Int.reduceToNat, Int.reduceAdd, Int.reduceSub, Int.reduceNeg, UInt8.reduceToNat]
      have hx : x = l.getD i 0 := h2
      have hm : x ∈ l := by rw [hx]; simp [h1']
      rw [idx1, if_pos hm, hx, idx_first h1' (fun q hq => by rw [← hx]; exact hn q hq)]
    · rw [hQ]
      simp only [go_sem, Nat.reduceEqDiff, Nat.reduceLT, ↓reduceIte, Nat.reduceAdd, Nat.reduceMul, Nat.reduceLeDiff, Nat.reduceSub, Nat.reduceBEq, Int.reduceEq, Int.reduceLT, Int.reduceLE, Int.reduceToNat, Int.reduceAdd, Int.reduceSub, Int.reduceNeg, UInt8.reduceToNat]
      rw [w64_in ⟨by omega, by omega⟩]
      refine ⟨⟨i + 1, by omega, fun q hq => ?_⟩, by show l.length - (i + 1) < _; omega, rfl⟩
      by_cases e : q = i
      · subst e; exact fun h => h2 h.symm
      · exact hn q (by omega)
  · rw [hQ]
    simp only [go_sem, Nat.reduceEqDiff, Nat.reduceLT, ↓reduceIte, Nat.reduceAdd, Nat.reduceMul, Nat.reduceLeDiff, Nat.reduceSub, Nat.reduceBEq, Int.reduceEq, Int.reduceLT, Int.reduceLE, Int.reduceToNat, Int.reduceAdd, Int.reduceSub, Int.reduceNeg, UInt8.reduceToNat]
    have hm : x ∉ l := fun hm => by
      obtain ⟨q, hq, e⟩ := List.getElem_of_mem hm
      exact hn q (by omega) (by simp [hq, e])
    rw [idx1, if_neg hm]
def VI (ns : List TN) (v : List Int) : Prop := v.Nodup ∧ v.length ≤ ns.length ∧ ∀ a ∈ v, a ∈ (ns.map (·.a))
theorem nodup_sub {α : Type} [DecidableEq α] : ∀ {l m : List α}, l.Nodup → (∀ a ∈ l, a ∈ m) → l.length ≤ m.length
  | [], _, _, _ => Nat.zero_le _
  | a :: l, m, hn, hs => by
    obtain ⟨h1, h2⟩ := List.nodup_cons.1 hn
    have ha : a ∈ m := hs a List.mem_cons_self
    have := nodup_sub (l := l) (m := m.erase a) h2 (fun b hb => (List.mem_erase_of_ne (fun e : b = a => h1 (e ▸ hb))).2 (hs b (List.mem_cons_of_mem _ hb)))
    rw [List.length_erase_of_mem ha] at this
    have hpos : 0 < m.length := List.length_pos_of_mem ha
    simp only [List.length_cons]
    omega
theorem VI.add {ns : List TN} {v : List Int} (h : VI ns v) {a : Int} (ha : a ∈ ns.map (·.a)) : VI ns (varS a v).2 := by
  unfold varS
  split
  · exact h
  · rename_i hm
    have hn : (v ++ [a]).Nodup := by
      rw [List.nodup_append]
      exact ⟨h.1, by simp, fun x hx y hy => by rw [List.mem_singleton.1 hy]; exact fun e => hm (e ▸ hx)⟩
    have hs : ∀ b ∈ v ++ [a], b ∈ ns.map (·.a) := fun b hb => by
      rcases List.mem_append.1 hb with hb | hb
      · exact h.2.2 b hb
      · rw [List.mem_singleton.1 hb]; exact ha
    refine ⟨hn, ?_, hs⟩
    have := nodup_sub hn hs
    simpa using this
theorem atMs_none {l : List Int} {x : Int} (h : x ∉ l) : ∀ {k : Nat}, k ≤ l.length → mlook (atMs l k) x = none := by
  intro k hk
  have key : ∀ (a : List (Int × D)), (∀ q ∈ a, q.1 ≠ x) → mlook a x = none := by
    intro a ha
    induction a with
    | nil => rfl
    | cons q r ih =>
      simp only [mlook]
      rw [if_neg (ha q List.mem_cons_self)]
      exact ih fun y hy => ha y (List.mem_cons_of_mem _ hy)
  refine key _ fun q hq => ?_
  obtain ⟨i, hi, rfl⟩ := List.mem_map.1 hq
  have hi := List.mem_range.1 hi
  intro e
  apply h
  have hil : i < l.length := by omega
  have : l[i] = x := by simpa [hil] using e
  rw [← this]; exact List.getElem_mem hil
theorem atMs_snoc {l : List Int} {a : Int} (hn : (l ++ [a]).Nodup) : mset (atMs l l.length) a (i64 (l.length : Nat)) = atMs (l ++ [a]) (l ++ [a]).length := by
  have h1 : atMs (l ++ [a]) l.length = atMs l l.length := by
    unfold atMs
    refine List.map_congr_left fun i hi => ?_
    have hi := List.mem_range.1 hi
    simp [List.getElem?_append_left, hi]
  have h2 := atMs_new hn (k := l.length) (by simp)
  rw [h1] at h2
  simpa using h2
theorem varS_lt {ns : List TN} {v : List Int} (_h : VI ns v) {a : Int} (_ha : a ∈ ns.map (·.a)) : (varS a v).1 < (varS a v).2.length := by
  unfold varS
  split
  · rename_i hm; exact List.idxOf_lt_length_of_mem hm
  · simp
theorem f38_ok {G} (ns : List TN) (root : Int) (v path rest : List Int) (lg : Bool) (a : Int) (hN : ns.length ≤ 16) (hv : VI ns v) (ha : a ∈ ns.map (·.a)) :
    HCall Tryd.prog G 38 [.bx [100] 0, .d (i64 a)] (PO [102] ns root v path rest lg) PU (PQ [102] ns root (varS a v).2 path rest (madeS lg ([39, 118] ++ Lib.decDigits (varS a v).1) 4 [])) := by
  have hlt := varS_lt hv ha
  have hv2 := hv.add ha
  have hle := hv2.2.1
  have hdl := dig_len (varS a v).1 (by omega)
  unfold PO PU
  refine funO_ok Tryd.func38 rfl (by decide +kernel) (by simp [Tryd.ntmps38]) (veil fun E => ?_)
  simp only [go_sem, Nat.reduceEqDiff, Nat.reduceLT, ↓reduceIte, Nat.reduceAdd, Nat.reduceMul, Nat.reduceLeDiff, Nat.reduceSub, Nat.reduceBEq, Int.reduceEq, Int.reduceLT, Int.reduceLE, Int.reduceToNat, Int.reduceAdd, Int.reduceSub, Int.reduceNeg, UInt8.reduceToNat]
  refine e_lookup E [101] (atMs v v.length) a (i64 0) (by rw [ti40]) keyK zero3 rfl rfl rfl (by simp) ?_
  by_cases hm : a ∈ v
  · have e1 : varS a v = (v.idxOf a, v) := by simp [varS, hm]
    rw [atMs_look hv.1 (Nat.le_refl _) a (List.idxOf_lt_length_of_mem hm)]
    have hvl := hv.2.1
    simp only [e1] at hlt hdl ⊢
    simp only [go_sem, Nat.reduceEqDiff, Nat.reduceLT, ↓reduceIte, Nat.reduceAdd, Nat.reduceMul, Nat.reduceLeDiff, Nat.reduceSub, Nat.reduceBEq, Int.reduceEq, Int.reduceLT, Int.reduceLE, Int.reduceToNat, Int.reduceAdd, Int.reduceSub, Int.reduceNeg, UInt8.reduceToNat]
    refine e_call E (f35_ok (v.idxOf a) (by omega)) rfl rfl (by simp) ?_
    rintro _ rfl
    simp only [go_sem, Nat.reduceEqDiff, Nat.reduceLT, ↓reduceIte, Nat.reduceAdd, Nat.reduceMul, Nat.reduceLeDiff, Nat.reduceSub, Nat.reduceBEq, Int.reduceEq, Int.reduceLT, Int.reduceLE, Int.reduceToNat, Int.reduceAdd, Int.reduceSub, Int.reduceNeg, UInt8.reduceToNat]
    refine ⟨by omega, ?_⟩
    refine e_callO E [.bx [100] 0, .d (.str ([39, 118] ++ Lib.decDigits (v.idxOf a))), .d (i64 4), .d .nils] (PO [102] ns root v path rest lg) PU (made_fz ns root v path rest lg _ 4 .nils [] (by simp; omega) (fun _ => .inl ⟨rfl, rfl⟩)) rfl rfl ⟨by simp only [go_sem, Nat.reduceEqDiff, Nat.reduceLT, ↓reduceIte, Nat.reduceAdd, Nat.reduceMul, Nat.reduceLeDiff, Nat.reduceSub, Nat.reduceBEq, Int.reduceEq, Int.reduceLT, Int.reduceLE, Int.reduceToNat, Int.reduceAdd, Int.reduceSub, Int.reduceNeg, UInt8.reduceToNat], by rw [mk_used]; decide⟩ rfl (by unfold PO PU; simp only [go_sem, Nat.reduceEqDiff, Nat.reduceLT, ↓reduceIte, Nat.reduceAdd, Nat.reduceMul, Nat.reduceLeDiff, Nat.reduceSub, Nat.reduceBEq, Int.reduceEq, Int.reduceLT, Int.reduceLE, Int.reduceToNat, Int.reduceAdd, Int.reduceSub, Int.reduceNeg, UInt8.reduceToNat]) (by unfold PO; simp only [go_sem, Nat.reduceEqDiff, Nat.reduceLT, ↓reduceIte, Nat.reduceAdd, Nat.reduceMul, Nat.reduceLeDiff, Nat.reduceSub, Nat.reduceBEq, Int.reduceEq, Int.reduceLT, Int.reduceLE, Int.reduceToNat, Int.reduceAdd, Int.reduceSub, Int.reduceNeg, UInt8.reduceToNat]) ?_
    rintro r hp' ⟨d, rfl, hd, rfl⟩
    unfold PO pcD
    rw [List.flatten_nil] at hd ⊢
    simp only [go_sem, Nat.reduceEqDiff, Nat.reduceLT, ↓reduceIte, Nat.reduceAdd, Nat.reduceMul, Nat.reduceLeDiff, Nat.reduceSub, Nat.reduceBEq, Int.reduceEq, Int.reduceLT, Int.reduceLE, Int.reduceToNat, Int.reduceAdd, Int.reduceSub, Int.reduceNeg, UInt8.reduceToNat]
    rw [e1]
    refine ⟨Nat.le_refl _, _, _, [100, 101, 102], id, ⟨d, rfl, hd, rfl⟩, ?_⟩
    unfold PO pcD
    simp only [go_sem, Nat.reduceEqDiff, Nat.reduceLT, ↓reduceIte, Nat.reduceAdd, Nat.reduceMul, Nat.reduceLeDiff, Nat.reduceSub, Nat.reduceBEq, Int.reduceEq, Int.reduceLT, Int.reduceLE, Int.reduceToNat, Int.reduceAdd, Int.reduceSub, Int.reduceNeg, UInt8.reduceToNat]
  · have e1 : varS a v = (v.length, v ++ [a]) := by simp [varS, hm]
    rw [atMs_none hm (Nat.le_refl _)]
    simp only [e1] at hlt hdl hv2 hle ⊢
    simp only [go_sem, Nat.reduceEqDiff, Nat.reduceLT, ↓reduceIte, Nat.reduceAdd, Nat.reduceMul, Nat.reduceLeDiff, Nat.reduceSub, Nat.reduceBEq, Int.reduceEq, Int.reduceLT, Int.reduceLE, Int.reduceToNat, Int.reduceAdd, Int.reduceSub, Int.reduceNeg, UInt8.reduceToNat]
    rw [show (menc ki (atMs v v.length)).length = v.length by simp [menc, atMs]]
    refine e_mapUpdate E [101] (atMs v v.length) a (i64 (v.length : Nat)) (by rw [ti40]) keyK rfl rfl rfl rfl rfl ?_
    rw [atMs_snoc hv2.1]
    simp only [go_sem, Nat.reduceEqDiff, Nat.reduceLT, ↓reduceIte, Nat.reduceAdd, Nat.reduceMul, Nat.reduceLeDiff, Nat.reduceSub, Nat.reduceBEq, Int.reduceEq, Int.reduceLT, Int.reduceLE, Int.reduceToNat, Int.reduceAdd, Int.reduceSub, Int.reduceNeg, UInt8.reduceToNat]
    refine e_call E (f35_ok v.length (by simp at hle; omega)) rfl rfl (by simp) ?_
    rintro _ rfl
    simp only [go_sem, Nat.reduceEqDiff, Nat.reduceLT, ↓reduceIte, Nat.reduceAdd, Nat.reduceMul, Nat.reduceLeDiff, Nat.reduceSub, Nat.reduceBEq, Int.reduceEq, Int.reduceLT, Int.reduceLE, Int.reduceToNat, Int.reduceAdd, Int.reduceSub, Int.reduceNeg, UInt8.reduceToNat]
    refine ⟨by omega, ?_⟩
    refine e_callO E [.bx [100] 0, .d (.str ([39, 118] ++ Lib.decDigits v.length)), .d (i64 4), .d .nils] (PO [102] ns root (v ++ [a]) path rest lg) PU (made_fz ns root (v ++ [a]) path rest lg _ 4 .nils [] (by simp; omega) (fun _ => .inl ⟨rfl, rfl⟩)) rfl rfl ⟨by simp only [go_sem, Nat.reduceEqDiff, Nat.reduceLT, ↓reduceIte, Nat.reduceAdd, Nat.reduceMul, Nat.reduceLeDiff, Nat.reduceSub, Nat.reduceBEq, Int.reduceEq, Int.reduceLT, Int.reduceLE, Int.reduceToNat, Int.reduceAdd, Int.reduceSub, Int.reduceNeg, UInt8.reduceToNat], by rw [mk_used]; decide⟩ rfl (by unfold PO PU; simp only [go_sem, Nat.reduceEqDiff, Nat.reduceLT, ↓reduceIte, Nat.reduceAdd, Nat.reduceMul, Nat.reduceLeDiff, Nat.reduceSub, Nat.reduceBEq, Int.reduceEq, Int.reduceLT, Int.reduceLE, Int.reduceToNat, Int.reduceAdd, Int.reduceSub, Int.reduceNeg, UInt8.reduceToNat]) (by unfold PO; simp only [go_sem, Nat.reduceEqDiff, Nat.reduceLT, ↓reduceIte, Nat.reduceAdd, Nat.reduceMul, Nat.reduceLeDiff, Nat.reduceSub, Nat.reduceBEq, Int.reduceEq, Int.reduceLT, Int.reduceLE, Int.reduceToNat, Int.reduceAdd, Int.reduceSub, Int.reduceNeg, UInt8.reduceToNat]) ?_
    rintro r hp' ⟨d, rfl, hd, rfl⟩
    unfold PO pcD
    rw [List.flatten_nil] at hd ⊢
    simp only [go_sem, Nat.reduceEqDiff, Nat.reduceLT, ↓reduceIte, Nat.reduceAdd, Nat.reduceMul, Nat.reduceLeDiff, Nat.reduceSub, Nat.reduceBEq, Int.reduceEq, Int.reduceLT, Int.reduceLE, Int.reduceToNat, Int.reduceAdd, Int.reduceSub, Int.reduceNeg, UInt8.reduceToNat]
    rw [e1]
    refine ⟨Nat.le_refl _, _, _, [100, 101, 102], id, ⟨d, rfl, hd, rfl⟩, ?_⟩
    unfold PO pcD
    simp only [go_sem, Nat.reduceEqDiff, Nat.reduceLT, ↓reduceIte, Nat.reduceAdd, Nat.reduceMul, Nat.reduceLeDiff, Nat.reduceSub, Nat.reduceBEq, Int.reduceEq, Int.reduceLT, Int.reduceLE, Int.reduceToNat, Int.reduceAdd, Int.reduceSub, Int.reduceNeg, UInt8.reduceToNat]
end Go.Proofs.YtjoneaifakonjaaDoor
