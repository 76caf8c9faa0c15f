/-
  Programs of texts, in plain words: what is read may be a tree, in order; an error lies within the text. (with the parts that follow it)
-/
import Derived.Test.YtejpnabbmgpmaaaGreatWG
import Derived.Test.YtejpnabbmgpmaaaGreatWF
import Derived.Test.YtejpnabbmgpmaaaGreatWH
import Derived.Test.YtejpnabbmgpmaaaGreatWI
set_option linter.unusedSimpArgs false
namespace Go.Proofs.YtejpnabbmgpmaaaGreat
open Go.Ab
/-- A tree that was read, or its error. -/
def checkS (s : PS) (ns : List EN) : List EN × Int × Int :=
  if s.err ≠ 0 then ([], s.pos, s.err) else if ns.any (fun n => decide (1048576 < n.pos)) then ([], 0, 7) else if mayE ns ≠ 0 then ([], 0, mayE ns) else (ns, 0, 0)
def startS (l : List Tok) (n : Int) : PS := ⟨l, n, 0, 0, 0⟩
def doneS (s : PS) : PS := if s.l.isEmpty then s else s.wrong
def parseS (s : List UInt8) : List EN × Int × Int :=
  if (lexS s).2.2 ≠ 0 then ([], (lexS s).2.1, (lexS s).2.2)
  else checkS (doneS (exprS 100 (startS (lexS s).1 (lexS s).2.1)).2) (exprS 100 (startS (lexS s).1 (lexS s).2.1)).1
theorem start_po {s : List UInt8} (_h : (lexS s).2.2 = 0) : PSo s.length (startS (lexS s).1 (lexS s).2.1) := by
  obtain ⟨h1, h2, _, h4⟩ := lex_in s
  exact ⟨h2, ⟨by show 0 ≤ ((lexS s).2.1 : Int); omega, by show ((lexS s).2.1 : Int) ≤ _; omega⟩, ⟨Int.le_refl 0, by show (0 : Int) ≤ s.length; omega⟩⟩
theorem SS.done (s : PS) : SS s (doneS s) := by
  unfold doneS
  split
  · exact SS.refl s
  · exact SS.wrong s
theorem parse_bad {s : List UInt8} (h : (parseS s).2.2 ≠ 0) : (parseS s).1 = [] ∧ 0 ≤ (parseS s).2.1 ∧ (parseS s).2.1 ≤ s.length := by
  obtain ⟨h1, h2, _, h4⟩ := lex_in s
  unfold parseS at h ⊢
  split
  · exact ⟨rfl, by simp only; omega, by simp only; omega⟩
  rename_i he
  have he : (lexS s).2.2 = 0 := by simpa using he
  have hp := ((expr_good 100 (startS (lexS s).1 (lexS s).2.1)).ss.trans (SS.done _)).pos _ (start_po he)
  rw [if_neg (by simpa using he)] at h
  unfold checkS at h ⊢
  split
  · exact ⟨rfl, hp⟩
  split
  · exact ⟨rfl, Int.le_refl 0, by simp only; omega⟩
  split
  · exact ⟨rfl, Int.le_refl 0, by simp only; omega⟩
  · rename_i g1 g2 g3
    rw [if_neg g1, if_neg g2, if_neg g3] at h
    exact absurd rfl h
theorem parse_ok {s : List UInt8} (h : (parseS s).2.2 = 0) : Tr (parseS s).1 ∧ mayE (parseS s).1 = 0 ∧ (parseS s).2.1 = 0 := by
  unfold parseS at h ⊢
  split
  · rename_i g; rw [if_pos g] at h; exact absurd h g
  rename_i he
  rw [if_neg he] at h
  have ht := (expr_good 100 (startS (lexS s).1 (lexS s).2.1)).tr
  unfold checkS at h ⊢
  split
  · rename_i g; rw [if_pos g] at h; exact absurd h g
  rename_i g1
  rw [if_neg g1] at h
  split
  · rename_i g; rw [if_pos g] at h; exact absurd h (by decide)
  rename_i g2
  rw [if_neg g2] at h
  split
  · rename_i g; rw [if_pos g] at h; exact absurd h g
  rename_i g3
  exact ⟨ht, by simpa using g3, rfl⟩
def exT : List UInt8 := [102, 117, 110, 32, 120, 32, 45, 62, 32, 120, 32, 43, 32, 49]
/-- The document's example. -/
theorem parse_ex : (parseS exT).2.2 = 0 ∧ (parseS exT).2.1 = 0 ∧ (parseS exT).1.length = 4 ∧ (ndE (parseS exT).1 0).k = 4 ∧ (ndE (parseS exT).1 2).k = 10 ∧ (ndE (parseS exT).1 3).k = 5 := by
  decide +kernel
/-- What is handed back: a tree, or none and an error. -/
def resD (q : List EN × Int × Int) : AV := .tup [.d (if q.2.2 = 0 then exD q.1 else .agg [.nils]), .d (i64 q.2.1), .d (i64 q.2.2)]
theorem f56_ok {G} (s : PS) (ns : List EN) (hN : ns.length ≤ 1000000) (hs : ∀ n ∈ ns, SaneN BIG n) : HCall Tryz.prog G 56 [.at [100] 0, .d (exD ns)] (RO s) [100, 101] (fun r hp' => r = resD (checkS s ns) ∧ hp' = RO s) := by
  generalize hR : checkS s ns = R
  unfold checkS at hR
  have c1 := f101_ok (G := G) ns (fun n => decide (1048576 < n.pos)) 102 [] hN (fun x _ => f102_ok x)
  have c2 := f17_ok (G := G) ns hs hN
  generalize (ns.any fun n => decide (1048576 < n.pos)) = b at c1 hR
  generalize mayE ns = m at c2 hR
  have c3 := HP.clo (args := [.d (.sl (some 9) (ns.map enD)), .clo 102 []]) rfl (fun i x y hx hy => by
      rcases i with _ | _ | i
      · cases hx; cases hy; exact .inl rfl
      · cases hx; cases hy; exact .inr ⟨102, rfl, rfl⟩
      · cases hx) c1
  unfold exD at *
  unfold RO TO tksD
  refine funO_ok Tryz.func56 rfl (by decide +kernel) (by simp [Tryz.ntmps56]) (veil fun E => ?_)
  simp only [go_sem]
  refine e_callO E [.at [100] 0] (RO s) [100, 101] (f92_ok s) rfl rfl ⟨by simp only [go_sem], by first | (rw [mk_used]; decide) | (simp only [go_sem]; done) | (simp only [go_sem]; rw [mk_used]; decide) | (simp only [go_sem]; decide)⟩ rfl (by unfold RO TO tksD; simp only [go_sem]) (by unfold RO TO; simp only [go_sem]) ?_
  rintro _ _ ⟨rfl, rfl⟩
  unfold RO TO tksD
  simp only [go_sem]
  refine e_if E (fun h => ?_) (fun h => ?_) <;> simp only [go_sem]
  · have h' : ¬ s.err = 0 := by simpa using h
    rw [if_pos h'] at hR
    refine region_xv mixed E fun X => ?_
    simp only [go_sem]
    refine x_nilc X (d := 13) [100] 0 none [.at [101] 0, .d (i64 s.err), .d (i64 s.pos), .d (i64 s.nest)] (by simp only [go_sem]) rfl rfl ?_
    simp only [go_sem]
    refine x_nilc X (d := 17) [100] 0 none [.at [101] 0, .d (i64 s.err), .d (i64 s.pos), .d (i64 s.nest)] (by simp only [go_sem]) rfl rfl ?_
    simp only [go_sem]
    refine ⟨by decide +kernel, ?_⟩
    subst hR
    have he : resD ([], s.pos, s.err) = .tup [.d (.agg [.nils]), .d (i64 s.pos), .d (i64 s.err)] := by unfold resD; rw [if_neg h']
    rw [he]
    refine ⟨_, _, [100, 101], id, ⟨rfl, rfl⟩, ?_⟩
    simp only [go_sem]
  rw [if_neg (by simpa using h)] at hR
  refine e_callO E [.d (.sl (some 9) (ns.map enD)), .clo 102 []] [] [] c3 rfl rfl ⟨by simp only [go_sem], by rw [mk_used]; decide⟩ rfl (by simp only [go_sem]) (by simp only [go_sem]) ?_
  rintro _ _ ⟨rfl, _, rfl⟩
  simp only [go_sem]
  refine e_if E (fun h => ?_) (fun h => ?_) <;> simp only [go_sem]
  · rw [if_pos h] at hR
    subst hR
    have he : resD ([], 0, 7) = .tup [.d (.agg [.nils]), .d (i64 0), .d (i64 7)] := by unfold resD; rw [if_neg (by decide)]
    rw [he]
    refine ⟨_, _, [100, 101], id, ⟨rfl, rfl⟩, ?_⟩
    simp only [go_sem]
  rw [if_neg (by rw [h]; decide)] at hR
  refine e_call E c2 rfl rfl (by simp) ?_
  rintro _ rfl
  simp only [go_sem]
  refine e_if E (fun h => ?_) (fun h => ?_) <;> simp only [go_sem]
  · have h' : ¬ m = 0 := by simpa using h
    rw [if_pos h'] at hR
    subst hR
    have he : resD ([], 0, m) = .tup [.d (.agg [.nils]), .d (i64 0), .d (i64 m)] := by unfold resD; rw [if_neg h']
    rw [he]
    refine ⟨_, _, [100, 101], id, ⟨rfl, rfl⟩, ?_⟩
    simp only [go_sem]
  · have h' : m = 0 := by simpa using h
    rw [if_neg (by simpa using h')] at hR
    subst hR
    have he : resD (ns, 0, 0) = .tup [.d (.agg [.sl (some 9) (ns.map enD)]), .d (i64 0), .d (i64 0)] := by unfold resD; rw [if_pos rfl]; rfl
    rw [he]
    refine ⟨_, _, [100, 101], id, ⟨rfl, rfl⟩, ?_⟩
    simp only [go_sem]
theorem f52_raw {G} (l : List Tok) (fin : Int) (hl : l.length ≤ 1000000) : HCall Tryz.prog G 52 [.d (tksD l), .d (i64 fin)] [] [] (fun r hp' => r = .at [101] 0 ∧ hp' = [([101], .box [.vw [102] 0 l.length, .d (i64 fin)]), ([102], .arr (some 4) (l.map tokD))]) := by
  unfold tksD
  refine funO_ok Tryz.func52 rfl (by decide +kernel) (by simp [Tryz.ntmps52]) (veil fun E => ?_)
  simp only [go_sem]
  refine ⟨by omega, ?_⟩
  refine ⟨_, _, [101, 102], tau [([101], [9]), ([102], [6])], ⟨rfl, rfl⟩, ?_⟩
  simp only [go_sem]
  all_goals rfl
theorem f52_ok {G} (l : List Tok) (fin : Int) (hl : l.length ≤ 1000000) : HCall Tryz.prog G 52 [.d (tksD l), .d (i64 fin)] [] [] (fun r hp' => r = .at [101] 0 ∧ hp' = TO l fin) :=
  HCall.fA (f52_raw l fin hl) [102] (by
    rintro r hp' ⟨rfl, rfl⟩
    refine ⟨some 4, l.map tokD, by simp only [go_sem], by simp only [go_sem], ?_⟩
    unfold TO tksD
    simp only [go_sem])
theorem sane_of {s : PS} {ns : List EN} {r : PS} (h : GP 1 s (ns, r)) (hl : s.l.length ≤ 100000) (hn : Sm 200 ns) : ns.length ≤ 1000000 ∧ ∀ n ∈ ns, SaneN BIG n := by
  have h1 := h.sz
  have h2 := h.wd
  simp only at h1
  refine ⟨by omega, fun n hm => ?_⟩
  obtain ⟨a, b, c⟩ := hn n hm
  have := h2 n hm
  simp only at this
  exact ⟨by unfold BIG; omega, by unfold BIG; omega, by omega, fun f hf => ⟨by have := (c f hf).1; unfold BIG; omega, by have := (c f hf).2; unfold BIG; omega⟩⟩
set_option maxHeartbeats 1000000 in
theorem f15_ok {G} (s : List UInt8) (hl : s.length ≤ 100000) : HP Tryz.prog G 15 [.str s] (fun r => r = resD (parseS s)) := by
  generalize hR : parseS s = R
  unfold parseS at hR
  obtain ⟨hl1, hl2, hl3, hl4⟩ := lex_in s
  have hls := lex_s s
  cases hb : badT (toksS s) with
  | some q =>
    obtain ⟨i, e⟩ := q
    have c1 := f51_bad (G := G) s (by omega) hb
    have hne := badT_ne hb
    have hlx : lexS s = ([], i, e) := by unfold lexS; rw [hb]
    rw [hlx, if_pos hne] at hR
    simp only at hR hne
    have he : resD R = .tup [.d (.agg [.nils]), .d (i64 i), .d (i64 e)] := by rw [← hR]; unfold resD; rw [if_neg hne]
    rw [he]
    refine funZ_ok Tryz.func15 rfl (by decide +kernel) (by simp [Tryz.ntmps15]) (veil fun E => ?_)
    simp only [go_sem]
    refine e_call E c1 rfl rfl (by simp) ?_
    rintro _ rfl
    simp only [go_sem]
    refine e_if E (fun h => ?_) (fun h => absurd (by simpa using h) hne) <;> simp only [go_sem]
    refine ⟨[], ?_⟩
    simp only [go_sem]
  | none =>
    have c1 := f51_ok (G := G) s (by omega) hb
    have hz : (lexS s).2.2 = 0 := by unfold lexS; rw [hb]
    rw [if_neg (by rw [hz]; decide)] at hR
    rw [hz] at c1
    generalize lexS s = q at c1 hR hl1 hl2 hl3 hls
    obtain ⟨l, n, z⟩ := q
    simp only at c1 hR hl1 hl2 hl3 hls
    have c2 := f52_ok (G := G) l n (by omega)
    have hst : startS l n = ⟨l, n, 0, 0, 0⟩ := rfl
    obtain ⟨st, hs⟩ : ∃ st, st = startS l n := ⟨_, rfl⟩
    rw [← hs] at hR hst
    have hsl : st.l.length ≤ 100000 := by rw [hst]; simp only; omega
    have c3 := f53_ok (G := G) 100 0 rfl st hsl (by rw [hst])
    have g3 := expr_good 100 st
    have n3 := expr_nm (B := 200) 100 st (by rw [hst]; exact hls)
    obtain ⟨x, s2, hx⟩ : ∃ x s2, exprS 100 st = (x, s2) := ⟨_, _, rfl⟩
    rw [hx] at c3 g3 n3 hR
    simp only at c3 n3 hR
    have hl2' := g3.ss.len
    simp only at hl2'
    obtain ⟨hxl, hxs⟩ := sane_of g3 hsl n3
    have c4 := f54_ok (G := G) s2.l s2.fin
    have c5 := f55_ok (G := G) s2 (by omega)
    have c6 := f56_ok (G := G) (doneS s2) x hxl hxs
    unfold doneS at hR c6
    unfold exD at c3 c6
    unfold tksD at c2
    refine funZ_ok Tryz.func15 rfl (by decide +kernel) (by simp [Tryz.ntmps15]) (veil fun E => ?_)
    simp only [go_sem]
    refine e_call E c1 rfl rfl (by simp) ?_
    rintro _ rfl
    simp only [go_sem]
    refine e_callO E [.d (.sl (some 4) (l.map tokD)), .d (i64 n)] [] [] c2 rfl rfl ⟨by simp only [go_sem], by rw [mk_used]; decide⟩ rfl (by simp only [go_sem]) (by simp only [go_sem]) ?_
    rintro _ _ ⟨rfl, rfl⟩
    unfold TO tksD
    simp only [go_sem]
    rw [hst] at c3
    refine e_callS E (tau [([100], [25]), ([101], [23, 101])]) [.at [100] 0] (RO ⟨l, n, 0, 0, 0⟩) [100, 101] (c3) rfl (by simp only [go_sem]; try rfl) ⟨by simp only [go_sem], by first | (rw [mk_used]; decide) | (simp only [go_sem]; done) | (simp only [go_sem]; rw [mk_used]; decide) | (simp only [go_sem]; decide)⟩ rfl (by unfold RO TO tksD; simp only [go_sem]; try rfl) (by unfold RO TO; simp only [go_sem]) ?_
    rintro _ _ ⟨rfl, rfl⟩
    unfold RO TO tksD
    simp only [go_sem]
    refine e_callS E (tau [([101], [23, 101])]) [.at [101] 0] (TO s2.l s2.fin) [101] c4 rfl (by simp only [go_sem]; try rfl) ⟨by simp only [go_sem], by rw [mk_used]; decide⟩ rfl (by unfold TO tksD; simp only [go_sem]; try rfl) (by unfold TO; simp only [go_sem]) ?_
    rintro _ _ ⟨rfl, rfl⟩
    unfold TO tksD
    simp only [go_sem]
    refine e_if E (fun h => ?_) (fun h => ?_) <;> simp only [go_sem]
    · have h' : s2.l.isEmpty = false := by simpa using h
      rw [h'] at hR c6
      simp only [Bool.false_eq_true, if_false] at hR c6
      refine e_callS E (tau [([100], [25]), ([101], [23, 101])]) [.at [100] 0] (RO s2) [100, 101] (c5) rfl (by simp only [go_sem]; try rfl) ⟨by simp only [go_sem], by first | (rw [mk_used]; decide) | (simp only [go_sem]; done) | (simp only [go_sem]; rw [mk_used]; decide) | (simp only [go_sem]; decide)⟩ rfl (by unfold RO TO tksD; simp only [go_sem]; try rfl) (by unfold RO TO; simp only [go_sem]) ?_
      rintro _ _ ⟨rfl, rfl⟩
      unfold RO TO tksD
      simp only [go_sem]
      refine e_callS E (tau [([100], [25]), ([101], [23, 101])]) [.at [100] 0, .d (.agg [.sl (some 9) (x.map enD)])] (RO s2.wrong) [100, 101] (c6) rfl (by simp only [go_sem]; try rfl) ⟨by simp only [go_sem], by first | (rw [mk_used]; decide) | (simp only [go_sem]; done) | (simp only [go_sem]; rw [mk_used]; decide) | (simp only [go_sem]; decide)⟩ rfl (by unfold RO TO tksD; simp only [go_sem]; try rfl) (by unfold RO TO; simp only [go_sem]) ?_
      rintro _ _ ⟨rfl, rfl⟩
      unfold RO TO tksD
      simp only [go_sem]
      rw [hR]
      unfold resD exD
      by_cases hz : R.2.2 = 0
      · simp only [if_pos hz]
        simp only [go_sem]
        refine ⟨[], ?_⟩
        simp only [go_sem]
        unfold resD exD
        rw [if_pos hz]
      · simp only [if_neg hz]
        simp only [go_sem]
        refine ⟨[], ?_⟩
        simp only [go_sem]
        unfold resD
        rw [if_neg hz]
    · have h' : s2.l.isEmpty = true := by simpa using h
      rw [h'] at hR c6
      simp only [if_true] at hR c6
      refine e_callS E (tau [([100], [25]), ([101], [23, 101])]) [.at [100] 0, .d (.agg [.sl (some 9) (x.map enD)])] (RO s2) [100, 101] (c6) rfl (by simp only [go_sem]; try rfl) ⟨by simp only [go_sem], by first | (rw [mk_used]; decide) | (simp only [go_sem]; done) | (simp only [go_sem]; rw [mk_used]; decide) | (simp only [go_sem]; decide)⟩ rfl (by unfold RO TO tksD; simp only [go_sem]; try rfl) (by unfold RO TO; simp only [go_sem]) ?_
      rintro _ _ ⟨rfl, rfl⟩
      unfold RO TO tksD
      simp only [go_sem]
      rw [hR]
      unfold resD exD
      by_cases hz : R.2.2 = 0
      · simp only [if_pos hz]
        simp only [go_sem]
        refine ⟨[], ?_⟩
        simp only [go_sem]
        unfold resD exD
        rw [if_pos hz]
      · simp only [if_neg hz]
        simp only [go_sem]
        refine ⟨[], ?_⟩
        simp only [go_sem]
        unfold resD
        rw [if_neg hz]
theorem parse_sane {s : List UInt8} (hl : s.length ≤ 100000) (h : (parseS s).2.2 = 0) : (parseS s).1.length ≤ 1000000 ∧ ∀ n ∈ (parseS s).1, SaneN BIG n := by
  obtain ⟨_, _, hl3, _⟩ := lex_in s
  have hls := lex_s s
  unfold parseS at h ⊢
  split
  · rename_i g; rw [if_pos g] at h; exact absurd h g
  rename_i he
  rw [if_neg he] at h
  have g3 := expr_good 100 (startS (lexS s).1 (lexS s).2.1)
  have n3 := expr_nm (B := 200) 100 (startS (lexS s).1 (lexS s).2.1) hls
  have hx := sane_of g3 (by show (lexS s).1.length ≤ _; omega) n3
  unfold checkS at h ⊢
  repeat' split
  · exact ⟨Nat.zero_le _, fun _ h => by cases h⟩
  · exact ⟨Nat.zero_le _, fun _ h => by cases h⟩
  · exact ⟨Nat.zero_le _, fun _ h => by cases h⟩
  · exact hx
theorem f14_ok {G} (s : List UInt8) : HP Tryz.prog G 14 [.str s] (fun r => r = .d (.str (s.take 1500))) := by
  refine funP_ok Tryz.func14 rfl (by decide +kernel) (by simp [Tryz.ntmps14]) (veil fun E => ?_)
  simp only [go_sem]
  split
  · refine ⟨⟨by omega, by omega⟩, ?_⟩
    rfl
  · refine ⟨⟨by omega, by omega⟩, ?_⟩
    rw [List.take_of_length_le (by omega), List.take_of_length_le (by omega)]
theorem f13_ok {G} : HP Tryz.prog G 13 [] (fun r => r = .d (.bool true)) := by
  have c := f15_ok (G := G) exT (by decide)
  obtain ⟨h1, h2, h3, h4, h5, h6⟩ := parse_ex
  generalize parseS exT = R at c h1 h2 h3 h4 h5 h6
  have he : resD R = .tup [.d (.agg [.sl (some 9) (R.1.map enD)]), .d (i64 0), .d (i64 0)] := by unfold resD exD; rw [if_pos h1, h1, h2]
  rw [he] at c
  unfold exT at c
  refine funP_ok Tryz.func13 rfl (by decide +kernel) (by simp [Tryz.ntmps13]) (veil fun E => ?_)
  simp only [go_sem]
  refine e_call E c rfl rfl (by simp) ?_
  rintro _ rfl
  simp only [go_sem]
  rw [h3]
  simp only [go_sem]
  rw [ens_get (by omega), h4]
  simp only [go_sem]
  refine ⟨by omega, by omega, ?_⟩
  rw [ens_get (by omega), h5]
  simp only [go_sem]
  refine ⟨by omega, ?_⟩
  rw [ens_get (by omega), h6]
  simp only [go_sem]
theorem f3_ok {G} (s : List UInt8) : HP Tryz.prog G 3 [.str s] (fun r => r = .d (.bool true)) := by
  have c := f15_ok (G := G) (s.take 1500) (by rw [List.length_take]; omega)
  have hb := parse_bad (s := s.take 1500)
  have ho := parse_ok (s := s.take 1500)
  have hsn := parse_sane (s := s.take 1500) (by rw [List.length_take]; omega)
  generalize parseS (s.take 1500) = R at c hb ho hsn
  by_cases hz : R.2.2 = 0
  · obtain ⟨ht, hm, hp⟩ := ho hz
    obtain ⟨hl, hs⟩ := hsn hz
    have c1 := f16_tr (G := G) ht hm hs
    have c2 := f17_ok (G := G) R.1 hs hl
    have c3 := f18_ok (G := G) R.1 hl (fun n hn => (hs n hn).l)
    rw [hm] at c2
    have he : resD R = .tup [.d (.agg [.sl (some 9) (R.1.map enD)]), .d (i64 0), .d (i64 0)] := by unfold resD exD; rw [if_pos hz, hz, hp]
    rw [he] at c
    unfold exD at c1 c2 c3
    refine funP_ok Tryz.func3 rfl (by decide +kernel) (by simp [Tryz.ntmps3]) (veil fun E => ?_)
    simp only [go_sem]
    refine e_call E f13_ok rfl rfl (by simp) ?_
    rintro _ rfl
    simp only [go_sem]
    refine e_call E (f14_ok s) rfl rfl (by simp) ?_
    rintro _ rfl
    simp only [go_sem]
    refine e_call E (c) rfl rfl (by simp) ?_
    rintro _ rfl
    simp only [go_sem]
    refine e_call E (c1) rfl rfl (by simp) ?_
    rintro _ rfl
    simp only [go_sem]
    refine e_call E (c2) rfl rfl (by simp) ?_
    rintro _ rfl
    simp only [go_sem]
    refine e_call E (c3) rfl rfl (by simp) ?_
    rintro _ rfl
    simp only [go_sem]
  · obtain ⟨h1, h2, h3⟩ := hb hz
    have he : resD R = .tup [.d (.agg [.nils]), .d (i64 R.2.1), .d (i64 R.2.2)] := by unfold resD; rw [if_neg hz]
    rw [he] at c
    refine funP_ok Tryz.func3 rfl (by decide +kernel) (by simp [Tryz.ntmps3]) (veil fun E => ?_)
    simp only [go_sem]
    refine e_call E f13_ok rfl rfl (by simp) ?_
    rintro _ rfl
    simp only [go_sem]
    refine e_call E (f14_ok s) rfl rfl (by simp) ?_
    rintro _ rfl
    simp only [go_sem]
    refine e_call E (c) rfl rfl (by simp) ?_
    rintro _ rfl
    simp only [go_sem]
    refine e_ifd E (fun h => ?_) (fun h => absurd (by simpa using h) hz) <;> simp only [go_sem]
    rw [decide_eq_true h2]
    simp only [go_sem]
    rw [decide_eq_true h3]
end Go.Proofs.YtejpnabbmgpmaaaGreat
