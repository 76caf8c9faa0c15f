/-
  A reader of tokens, in memory. (with the parts that follow it)
-/
import Derived.Test.YtejpnabbmgpmaaaGreatWG
import Derived.Test.YtejpnabbmgpmaaaGreatWD
set_option linter.unusedSimpArgs false
namespace Go.Proofs.YtejpnabbmgpmaaaGreat
open Go.Ab
def tksD (l : List Tok) : D := .sl (some 4) (l.map tokD)
def TO (l : List Tok) (fin : Int) : List (Name × Ob) := [([101], .box [.d (tksD l), .d (i64 fin)])]
def peekT (l : List Tok) (fin : Int) : Tok := match l with
  | [] => ⟨0, [], 0, fin⟩
  | t :: _ => t
theorem f54_ok {G} (l : List Tok) (fin : Int) : HCall Tryz.prog G 54 [.at [101] 0] (TO l fin) [101] (fun r hp' => r = .d (.bool l.isEmpty) ∧ hp' = TO l fin) := by
  unfold TO tksD
  refine funO_ok Tryz.func54 rfl (by decide +kernel) (by simp [Tryz.ntmps54]) (veil fun E => ?_)
  simp only [go_sem]
  refine e_pnil E (e := 157) false (by rw [ti89]) (by simp only [go_sem]) rfl ?_
  simp only [go_sem]
  refine ⟨_, _, [101], id, ⟨rfl, rfl⟩, ?_⟩
  simp only [go_sem]
  cases l with
  | nil => rfl
  | cons t r => simp only [List.length_cons, List.length_map, List.isEmpty_cons, decide_eq_false (show ¬ ((r.length + 1 : Nat) : Int) = 0 by omega), and_self]
theorem f90_ok {G} (l : List Tok) (fin : Int) (hl : l.length ≤ 1000000) : HCall Tryz.prog G 90 [.at [101] 0] (TO l fin) [101] (fun r hp' => r = .d (.agg [i64 (peekT l fin).k, .str (peekT l fin).s, i64 (peekT l fin).n, i64 (peekT l fin).pos]) ∧ hp' = TO l fin) := by
  unfold TO tksD
  refine funO_ok Tryz.func90 rfl (by decide +kernel) (by simp [Tryz.ntmps90]) (veil fun E => ?_)
  simp only [go_sem]
  refine e_pnil E (e := 157) false (by rw [ti89]) (by simp only [go_sem]) rfl ?_
  simp only [go_sem]
  refine e_ifd E (fun h => ?_) (fun h => ?_) <;> simp only [go_sem]
  · cases l with
    | nil =>
      refine ⟨_, _, [101], id, ⟨rfl, rfl⟩, ?_⟩
      simp only [go_sem]
      rfl
    | cons t r => simp at h; omega
  · cases l with
    | nil => exact absurd (by simp) h
    | cons t r =>
      refine ⟨by simp, ?_⟩
      rw [show (List.map tokD (t :: r)).getD 0 .nilp = .agg [i64 t.k, .str t.s, i64 t.n, i64 t.pos] from rfl]
      simp only [go_sem]
      refine ⟨_, _, [101], id, ⟨rfl, rfl⟩, ?_⟩
      simp only [go_sem]
      rfl
theorem f148_ok {G} (l : List Tok) (fin : Int) (hl : l.length ≤ 1000000) : HCall Tryz.prog G 148 [.at [101] 0] (TO l fin) [101] (fun r hp' => r = .d (.agg [i64 (peekT l fin).k, .str (peekT l fin).s, i64 (peekT l fin).n, i64 (peekT l fin).pos]) ∧ hp' = TO l.tail fin) := by
  unfold TO tksD
  refine funO_ok Tryz.func148 rfl (by decide +kernel) (by simp [Tryz.ntmps148]) (veil fun E => ?_)
  simp only [go_sem]
  refine e_callO E [.at [101] 0] (TO l fin) [101] (f90_ok l fin hl) rfl rfl ⟨by simp only [go_sem], by rw [mk_used]; decide⟩ rfl (by unfold TO tksD; simp only [go_sem]) (by unfold TO; simp only [go_sem]) ?_
  rintro _ _ ⟨rfl, rfl⟩
  unfold TO tksD
  simp only [go_sem]
  refine e_callO E [.at [101] 0] (TO l fin) [101] (f54_ok l fin) rfl rfl ⟨by simp only [go_sem], by rw [mk_used]; decide⟩ rfl (by unfold TO tksD; simp only [go_sem]) (by unfold TO; simp only [go_sem]) ?_
  rintro _ _ ⟨rfl, rfl⟩
  unfold TO tksD
  simp only [go_sem]
  refine e_if E (fun h => ?_) (fun h => ?_) <;> simp only [go_sem]
  · cases l with
    | nil => exact absurd h (by simp)
    | cons t r =>
      refine ⟨by simp only [List.length_cons]; omega, _, _, [101], id, ⟨rfl, rfl⟩, ?_⟩
      simp only [go_sem]
      rfl
  · cases l with
    | nil =>
      refine ⟨_, _, [101], id, ⟨rfl, rfl⟩, ?_⟩
      simp only [go_sem]
      rfl
    | cons t r => exact absurd h (by simp)
def isT (l : List Tok) (fin k : Int) (t : List UInt8) : Bool := !l.isEmpty && decide ((peekT l fin).k = k) && decide ((peekT l fin).s = t)
theorem f270_ok {G} (l : List Tok) (fin k : Int) (t : List UInt8) (hl : l.length ≤ 1000000) (hk : k ≠ 0 ∧ k ≠ 4) : HCall Tryz.prog G 270 [.at [101] 0, .d (i64 k), .d (.str t)] (TO l fin) [101] (fun r hp' => r = .d (.bool (isT l fin k t)) ∧ hp' = TO l fin) := by
  unfold isT
  unfold TO tksD
  refine funO_ok Tryz.func270 rfl (by decide +kernel) (by simp [Tryz.ntmps270]) (veil fun E => ?_)
  simp only [go_sem]
  refine e_callO E [.at [101] 0] (TO l fin) [101] (f90_ok l fin hl) rfl rfl ⟨by simp only [go_sem], by rw [mk_used]; decide⟩ rfl (by unfold TO tksD; simp only [go_sem]) (by unfold TO; simp only [go_sem]) ?_
  rintro _ _ ⟨rfl, rfl⟩
  unfold TO tksD
  simp only [go_sem]
  refine e_callO E [.at [101] 0] (TO l fin) [101] (f54_ok l fin) rfl rfl ⟨by simp only [go_sem], by rw [mk_used]; decide⟩ rfl (by unfold TO tksD; simp only [go_sem]) (by unfold TO; simp only [go_sem]) ?_
  rintro _ _ ⟨rfl, rfl⟩
  unfold TO tksD
  simp only [go_sem]
  refine e_gif E (fun h1 => ?_) (fun h1 => ?_) <;> simp only [go_sem]
  · refine e_gifd E (fun h2 => ?_) (fun h2 => ?_) <;> simp only [go_sem]
    · refine e_gifd E (fun h3 => ?_) (fun h3 => absurd hk.1 h3)
      simp only [go_sem]
      refine e_gif E (fun h4 => ?_) (fun h4 => ?_) <;> simp only [go_sem]
      · refine ⟨_, _, [101], id, ⟨rfl, rfl⟩, ?_⟩
        simp only [go_sem]
        rw [h1, decide_eq_true h2, decide_eq_true (show (peekT l fin).s = t by simpa using h4)]
        rfl
      · refine ⟨_, _, [101], id, ⟨rfl, rfl⟩, ?_⟩
        simp only [go_sem]
        rw [h1, decide_eq_true h2, decide_eq_false (show ¬ (peekT l fin).s = t by simpa using h4), decide_eq_false hk.2]
        rfl
    · refine ⟨_, _, [101], id, ⟨rfl, rfl⟩, ?_⟩
      simp only [go_sem]
      rw [decide_eq_false h2, Bool.and_false, Bool.false_and]
  · refine ⟨_, _, [101], id, ⟨rfl, rfl⟩, ?_⟩
    simp only [go_sem]
    rw [h1, Bool.false_and, Bool.false_and]
theorem f222_ok {G} (l : List Tok) (fin k : Int) (t : List UInt8) (hl : l.length ≤ 1000000) (hk : k ≠ 0 ∧ k ≠ 4) : HCall Tryz.prog G 222 [.at [101] 0, .d (i64 k), .d (.str t)] (TO l fin) [101] (fun r hp' => r = .d (.bool (isT l fin k t)) ∧ hp' = TO (if isT l fin k t then l.tail else l) fin) := by
  obtain ⟨b, hb⟩ : ∃ b, b = isT l fin k t := ⟨_, rfl⟩
  have h0 := f270_ok (G := G) l fin k t hl hk
  have h1 := f148_ok (G := G) l fin hl
  rw [← hb] at h0 ⊢
  generalize hX : (if b then l.tail else l) = X
  unfold TO tksD at *
  refine funO_ok Tryz.func222 rfl (by decide +kernel) (by simp [Tryz.ntmps222]) (veil fun E => ?_)
  simp only [go_sem]
  refine e_callO E [.at [101] 0, .d (i64 k), .d (.str t)] (TO l fin) [101] (h0) rfl rfl ⟨by simp only [go_sem], by rw [mk_used]; decide⟩ rfl (by unfold TO tksD; simp only [go_sem]) (by unfold TO; simp only [go_sem]) ?_
  rintro _ _ ⟨rfl, rfl⟩
  unfold TO tksD
  simp only [go_sem]
  refine e_if E (fun h => ?_) (fun h => ?_) <;> simp only [go_sem]
  · refine e_callO E [.at [101] 0] (TO l fin) [101] (h1) rfl rfl ⟨by simp only [go_sem], by rw [mk_used]; decide⟩ rfl (by unfold TO tksD; simp only [go_sem]) (by unfold TO; simp only [go_sem]) ?_
    rintro _ _ ⟨rfl, rfl⟩
    unfold TO tksD
    simp only [go_sem]
    refine ⟨_, _, [101], id, ⟨rfl, rfl⟩, ?_⟩
    simp only [go_sem]
    rw [← hX, h]
    rfl
  · refine ⟨_, _, [101], id, ⟨rfl, rfl⟩, ?_⟩
    simp only [go_sem]
    rw [← hX, h]
    rfl
def RO (s : PS) : List (Name × Ob) := ([100], .box [.at [101] 0, .d (i64 s.err), .d (i64 s.pos), .d (i64 s.nest)]) :: TO s.l s.fin
theorem f92_ok {G} (s : PS) : HCall Tryz.prog G 92 [.at [100] 0] (RO s) [100, 101] (fun r hp' => r = .d (.bool (decide (s.err = 0))) ∧ hp' = RO s) := by
  unfold RO TO tksD
  refine funO_ok Tryz.func92 rfl (by decide +kernel) (by simp [Tryz.ntmps92]) (veil fun E => ?_)
  simp only [go_sem]
  refine ⟨_, _, [100, 101], id, ⟨rfl, rfl⟩, ?_⟩
  simp only [go_sem]
theorem f91_ok {G} (s : PS) (e p : Int) : HCall Tryz.prog G 91 [.at [100] 0, .d (i64 e), .d (i64 p)] (RO s) [100, 101] (fun r hp' => r = .tup [] ∧ hp' = RO (s.fail e p)) := by
  generalize hX : s.fail e p = X
  unfold PS.fail at hX
  unfold RO TO tksD
  refine funO_ok Tryz.func91 rfl (by decide +kernel) (by simp [Tryz.ntmps91]) (veil fun E => ?_)
  simp only [go_sem]
  refine e_callO E [.at [100] 0] (RO s) [100, 101] (f92_ok s) rfl rfl ⟨by simp only [go_sem], by rw [mk_used]; decide⟩ rfl (by unfold RO TO tksD; simp only [go_sem]) (by unfold RO TO; simp only [go_sem]) ?_
  rintro _ _ ⟨rfl, rfl⟩
  unfold RO TO tksD
  simp only [go_sem]
  refine e_ifd E (fun h => ?_) (fun h => ?_) <;> simp only [go_sem]
  · refine ⟨_, _, [100, 101], id, ⟨rfl, rfl⟩, ?_⟩
    rw [← hX, if_pos h]
    simp only [go_sem]
  · refine ⟨_, _, [100, 101], id, ⟨rfl, rfl⟩, ?_⟩
    rw [← hX, if_neg h]
    simp only [go_sem]
theorem peek_eq (s : PS) : s.peek = peekT s.l s.fin := rfl
theorem f55_ok {G} (s : PS) (hl : s.l.length ≤ 1000000) : HCall Tryz.prog G 55 [.at [100] 0] (RO s) [100, 101] (fun r hp' => r = .tup [] ∧ hp' = RO s.wrong) := by
  generalize hX : s.wrong = X
  unfold PS.wrong at hX
  rw [peek_eq] at hX
  unfold RO TO tksD
  refine funO_ok Tryz.func55 rfl (by decide +kernel) (by simp [Tryz.ntmps55]) (veil fun E => ?_)
  simp only [go_sem]
  refine e_callO E [.at [101] 0] (TO s.l s.fin) [101] (f90_ok s.l s.fin hl) rfl rfl ⟨by simp only [go_sem], by rw [mk_used]; decide⟩ rfl (by unfold TO tksD; simp only [go_sem]) (by unfold TO; simp only [go_sem]) ?_
  rintro _ _ ⟨rfl, rfl⟩
  unfold TO tksD
  simp only [go_sem]
  refine e_callO E [.at [100] 0, .d (i64 5), .d (i64 (peekT s.l s.fin).pos)] (RO s) [100, 101] (f91_ok s 5 (peekT s.l s.fin).pos) rfl rfl ⟨by simp only [go_sem], by rw [mk_used]; decide⟩ rfl (by unfold RO TO tksD; simp only [go_sem]) (by unfold RO TO; simp only [go_sem]) ?_
  rintro _ _ ⟨rfl, rfl⟩
  unfold RO TO tksD
  simp only [go_sem]
  refine ⟨_, _, [100, 101], id, ⟨rfl, rfl⟩, ?_⟩
  rw [← hX]
  simp only [go_sem]
theorem f147_ok {G} (s : PS) (k : Int) (t : List UInt8) (hl : s.l.length ≤ 1000000) (hk : k ≠ 0 ∧ k ≠ 4) : HCall Tryz.prog G 147 [.at [100] 0, .d (i64 k), .d (.str t)] (RO s) [100, 101] (fun r hp' => r = .d (.bool (s.sees k t)) ∧ hp' = RO (s.may k t)) := by
  have h0 := f222_ok (G := G) s.l s.fin k t hl hk
  generalize hb : isT s.l s.fin k t = b at h0
  obtain ⟨c, hc⟩ : ∃ c, c = s.sees k t := ⟨_, rfl⟩
  generalize hX : s.may k t = X
  rw [← hc]
  have hc' : c = (decide (s.err = 0) && b) := by rw [hc, ← hb]; rfl
  have hX' : X = if c then s.next else s := by rw [hc, ← hX]; rfl
  unfold PS.next at hX'
  generalize hY : (if b then s.l.tail else s.l) = Y at h0
  unfold RO TO tksD
  refine funO_ok Tryz.func147 rfl (by decide +kernel) (by simp [Tryz.ntmps147]) (veil fun E => ?_)
  simp only [go_sem]
  refine e_callO E [.at [100] 0] (RO s) [100, 101] (f92_ok s) rfl rfl ⟨by simp only [go_sem], by first | (rw [mk_used]; decide) | (simp only [go_sem]; done) | (simp only [go_sem]; rw [mk_used]; decide) | (simp only [go_sem]; decide)⟩ rfl (by unfold RO TO tksD; simp only [go_sem]) (by unfold RO TO; simp only [go_sem]) ?_
  rintro _ _ ⟨rfl, rfl⟩
  unfold RO TO tksD
  simp only [go_sem]
  refine e_gifd E (fun h => ?_) (fun h => ?_) <;> simp only [go_sem]
  · refine e_callO E [.at [101] 0, .d (i64 k), .d (.str t)] (TO s.l s.fin) [101] (h0) rfl rfl ⟨by simp only [go_sem], by first | (rw [mk_used]; decide) | (simp only [go_sem]; done) | (simp only [go_sem]; rw [mk_used]; decide) | (simp only [go_sem]; decide)⟩ rfl (by unfold TO tksD; simp only [go_sem]) (by unfold TO; simp only [go_sem]) ?_
    rintro _ _ ⟨rfl, rfl⟩
    unfold TO tksD
    simp only [go_sem]
    refine ⟨_, _, [100, 101], id, ⟨rfl, rfl⟩, ?_⟩
    simp only [go_sem]
    rw [decide_eq_true h, Bool.true_and] at hc'
    rw [hc'] at hX'
    rw [hc']
    subst hX' hY
    cases b <;> exact ⟨rfl, rfl, rfl⟩
  · refine ⟨_, _, [100, 101], id, ⟨rfl, rfl⟩, ?_⟩
    simp only [go_sem]
    rw [decide_eq_false h, Bool.false_and] at hc'
    rw [hc'] at hX'
    subst hX'
    rw [hc']
    exact ⟨rfl, rfl, rfl⟩
theorem f95_ok {G} (s : PS) (t : List UInt8) (hl : s.l.length ≤ 1000000) : HCall Tryz.prog G 95 [.at [100] 0, .d (.str t)] (RO s) [100, 101] (fun r hp' => r = .d (.bool (s.sees 1 t)) ∧ hp' = RO (s.may 1 t)) := by
  have h0 := f147_ok (G := G) s 1 t hl (by decide)
  generalize s.sees 1 t = c at h0 ⊢
  generalize s.may 1 t = X at h0 ⊢
  unfold RO TO tksD
  refine funO_ok Tryz.func95 rfl (by decide +kernel) (by simp [Tryz.ntmps95]) (veil fun E => ?_)
  simp only [go_sem]
  refine e_callO E [.at [100] 0, .d (i64 1), .d (.str t)] (RO s) [100, 101] (h0) rfl rfl ⟨by simp only [go_sem], by first | (rw [mk_used]; decide) | (simp only [go_sem]; done) | (simp only [go_sem]; rw [mk_used]; decide) | (simp only [go_sem]; decide)⟩ rfl (by unfold RO TO tksD; simp only [go_sem]) (by unfold RO TO; simp only [go_sem]) ?_
  rintro _ _ ⟨rfl, rfl⟩
  unfold RO TO tksD
  simp only [go_sem]
  refine ⟨_, _, [100, 101], id, ⟨rfl, rfl⟩, ?_⟩
  simp only [go_sem]
theorem f224_ok {G} (s : PS) (t : List UInt8) (hl : s.l.length ≤ 1000000) : HCall Tryz.prog G 224 [.at [100] 0, .d (.str t)] (RO s) [100, 101] (fun r hp' => r = .d (.bool (s.sees 7 t)) ∧ hp' = RO (s.may 7 t)) := by
  have h0 := f147_ok (G := G) s 7 t hl (by decide)
  generalize s.sees 7 t = c at h0 ⊢
  generalize s.may 7 t = X at h0 ⊢
  unfold RO TO tksD
  refine funO_ok Tryz.func224 rfl (by decide +kernel) (by simp [Tryz.ntmps224]) (veil fun E => ?_)
  simp only [go_sem]
  refine e_callO E [.at [100] 0, .d (i64 7), .d (.str t)] (RO s) [100, 101] (h0) rfl rfl ⟨by simp only [go_sem], by first | (rw [mk_used]; decide) | (simp only [go_sem]; done) | (simp only [go_sem]; rw [mk_used]; decide) | (simp only [go_sem]; decide)⟩ rfl (by unfold RO TO tksD; simp only [go_sem]) (by unfold RO TO; simp only [go_sem]) ?_
  rintro _ _ ⟨rfl, rfl⟩
  unfold RO TO tksD
  simp only [go_sem]
  refine ⟨_, _, [100, 101], id, ⟨rfl, rfl⟩, ?_⟩
  simp only [go_sem]
theorem f97_ok {G} (s : PS) (k : Int) (t : List UInt8) (hl : s.l.length ≤ 1000000) (hk : k ≠ 0 ∧ k ≠ 4) : HCall Tryz.prog G 97 [.at [100] 0, .d (i64 k), .d (.str t)] (RO s) [100, 101] (fun r hp' => r = .tup [] ∧ hp' = RO (s.must k t)) := by
  have h0 := f147_ok (G := G) s k t hl hk
  have h1 := f55_ok (G := G) s hl
  generalize hX : s.must k t = X
  generalize hY : s.may k t = Y at h0
  generalize hZ : s.wrong = Z at h1
  generalize hb : s.sees k t = b at h0
  have hX' : X = if b then Y else Z := by rw [← hX, ← hY, ← hZ, ← hb]; unfold PS.must PS.may; cases s.sees k t <;> rfl
  have hYs : b = false → Y = s := by rw [← hY, ← hb]; unfold PS.may; intro h; rw [h]; rfl
  unfold RO TO tksD
  refine funO_ok Tryz.func97 rfl (by decide +kernel) (by simp [Tryz.ntmps97]) (veil fun E => ?_)
  simp only [go_sem]
  refine e_callO E [.at [100] 0, .d (i64 k), .d (.str t)] (RO s) [100, 101] (h0) rfl rfl ⟨by simp only [go_sem], by first | (rw [mk_used]; decide) | (simp only [go_sem]; done) | (simp only [go_sem]; rw [mk_used]; decide) | (simp only [go_sem]; decide)⟩ rfl (by unfold RO TO tksD; simp only [go_sem]) (by unfold RO TO; simp only [go_sem]) ?_
  rintro _ _ ⟨rfl, rfl⟩
  unfold RO TO tksD
  simp only [go_sem]
  refine e_if E (fun h => ?_) (fun h => ?_) <;> simp only [go_sem]
  · have h' : b = false := by simpa using h
    rw [hYs h']
    refine e_callO E [.at [100] 0] (RO s) [100, 101] (h1) rfl rfl ⟨by simp only [go_sem], by first | (rw [mk_used]; decide) | (simp only [go_sem]; done) | (simp only [go_sem]; rw [mk_used]; decide) | (simp only [go_sem]; decide)⟩ rfl (by unfold RO TO tksD; simp only [go_sem]) (by unfold RO TO; simp only [go_sem]) ?_
    rintro _ _ ⟨rfl, rfl⟩
    unfold RO TO tksD
    simp only [go_sem]
    refine ⟨_, _, [100, 101], id, ⟨rfl, rfl⟩, ?_⟩
    simp only [go_sem]
    rw [hX', h']
    exact ⟨rfl, rfl⟩
  · have h' : b = true := by simpa using h
    refine ⟨_, _, [100, 101], id, ⟨rfl, rfl⟩, ?_⟩
    simp only [go_sem]
    rw [hX', h']
    exact ⟨rfl, rfl⟩
theorem f96_ok {G} (s : PS) (k : Int) (hl : s.l.length ≤ 1000000) : HCall Tryz.prog G 96 [.at [100] 0, .d (i64 k)] (RO s) [100, 101] (fun r hp' => r = .d (.str (s.of k).1) ∧ hp' = RO (s.of k).2) := by
  have h0 := f55_ok (G := G) s hl
  have h1 := f148_ok (G := G) s.l s.fin hl
  generalize hX : s.of k = X
  unfold PS.of PS.has at hX
  rw [peek_eq] at hX
  unfold RO TO tksD
  refine funO_ok Tryz.func96 rfl (by decide +kernel) (by simp [Tryz.ntmps96]) (veil fun E => ?_)
  simp only [go_sem]
  refine e_callO E [.at [100] 0] (RO s) [100, 101] (f92_ok s) rfl rfl ⟨by simp only [go_sem], by first | (rw [mk_used]; decide) | (simp only [go_sem]; done) | (simp only [go_sem]; rw [mk_used]; decide) | (simp only [go_sem]; decide)⟩ rfl (by unfold RO TO tksD; simp only [go_sem]) (by unfold RO TO; simp only [go_sem]) ?_
  rintro _ _ ⟨rfl, rfl⟩
  unfold RO TO tksD
  simp only [go_sem]
  refine e_gif E (fun h => ?_) (fun h => ?_) <;> simp only [go_sem]
  · have h' : ¬ s.err = 0 := by simpa using h
    refine e_callO E [.at [100] 0] (RO s) [100, 101] (h0) rfl rfl ⟨by simp only [go_sem], by first | (rw [mk_used]; decide) | (simp only [go_sem]; done) | (simp only [go_sem]; rw [mk_used]; decide) | (simp only [go_sem]; decide)⟩ rfl (by unfold RO TO tksD; simp only [go_sem]) (by unfold RO TO; simp only [go_sem]) ?_
    rintro _ _ ⟨rfl, rfl⟩
    unfold RO TO tksD
    simp only [go_sem]
    refine ⟨_, _, [100, 101], id, ⟨rfl, rfl⟩, ?_⟩
    simp only [go_sem]
    rw [← hX, decide_eq_false h']
    exact ⟨rfl, rfl, rfl⟩
  · have h' : s.err = 0 := by simpa using h
    refine e_callO E [.at [101] 0] (TO s.l s.fin) [101] (f90_ok s.l s.fin hl) rfl rfl ⟨by simp only [go_sem], by first | (rw [mk_used]; decide) | (simp only [go_sem]; done) | (simp only [go_sem]; rw [mk_used]; decide) | (simp only [go_sem]; decide)⟩ rfl (by unfold TO tksD; simp only [go_sem]) (by unfold TO; simp only [go_sem]) ?_
    rintro _ _ ⟨rfl, rfl⟩
    unfold TO tksD
    simp only [go_sem]
    refine e_ifd E (fun h2 => ?_) (fun h2 => ?_) <;> simp only [go_sem]
    · refine e_callO E [.at [100] 0] (RO s) [100, 101] (h0) rfl rfl ⟨by simp only [go_sem], by first | (rw [mk_used]; decide) | (simp only [go_sem]; done) | (simp only [go_sem]; rw [mk_used]; decide) | (simp only [go_sem]; decide)⟩ rfl (by unfold RO TO tksD; simp only [go_sem]) (by unfold RO TO; simp only [go_sem]) ?_
      rintro _ _ ⟨rfl, rfl⟩
      unfold RO TO tksD
      simp only [go_sem]
      refine ⟨_, _, [100, 101], id, ⟨rfl, rfl⟩, ?_⟩
      simp only [go_sem]
      rw [← hX, decide_eq_true h', decide_eq_false h2]
      exact ⟨rfl, rfl, rfl⟩
    · have h2' : (peekT s.l s.fin).k = k := by simpa using h2
      refine e_callO E [.at [101] 0] (TO s.l s.fin) [101] (h1) rfl rfl ⟨by simp only [go_sem], by first | (rw [mk_used]; decide) | (simp only [go_sem]; done) | (simp only [go_sem]; rw [mk_used]; decide) | (simp only [go_sem]; decide)⟩ rfl (by unfold TO tksD; simp only [go_sem]) (by unfold TO; simp only [go_sem]) ?_
      rintro _ _ ⟨rfl, rfl⟩
      unfold TO tksD
      simp only [go_sem]
      refine ⟨_, _, [100, 101], id, ⟨rfl, rfl⟩, ?_⟩
      simp only [go_sem]
      rw [← hX, decide_eq_true h', decide_eq_true h2']
      exact ⟨rfl, rfl, rfl⟩
inductive DLe : D → D → Prop
  | refl (x) : DLe x x
  | nil (w) : DLe .nils (.sl w [])
  | agg (cs ds : List D) (hl : cs.length = ds.length) (hc : ∀ d ∈ ds, d.scal = true) (h : ∀ (i : Nat) x y, cs[i]? = some x → ds[i]? = some y → x = y ∨ ∃ w, x = .nils ∧ y = .sl w []) : DLe (.agg cs) (.agg ds)
theorem DLe.rep {x y : D} (h : DLe x y) {H own v} (hr : Rep H own v x) : Rep H own v y := by
  cases h with
  | refl => exact hr
  | nil w => cases hr; exact .sl0 _ _ _
  | agg cs ds hl hc h =>
    cases hr with
    | agg vs _ hs _ h' =>
      refine .agg vs ds (hs.trans hl) hc fun i d hd => ?_
      have hlt := (List.getElem?_eq_some_iff.1 hd).1
      have hx : cs[i]? = some (cs[i]'(by omega)) := List.getElem?_eq_getElem _
      have hr := h' i _ hx
      rcases h i _ _ hx hd with e | ⟨w, e1, e2⟩
      · rw [← e]; exact hr
      · rw [e1] at hr
        rw [e2]
        generalize vs.getD i undef = v at hr ⊢
        cases hr
        exact .sl0 _ _ _
theorem HP.le {P : Program} {G : List (Nat × Obj)} {f : FuncId} {args args' : List D} {Q : AV → Prop} (hl : args.length = args'.length)
    (hr : ∀ (i : Nat) x y, args[i]? = some x → args'[i]? = some y → DLe x y) (h : HP P G f args' Q) : HP P G f args Q := by
  refine ⟨h.1, fun B β vs w h1 h2 h3 h4 h5 => h.2 B β vs w (h1.trans (by simpa using hl)) h2 h3 h4 { tms := h5.tms, io := h5.io, size := h5.size, frame := h5.frame, slots := fun t => ?_, objs := h5.objs, blocks := h5.blocks, inj := h5.inj, us := h5.us, stay := h5.stay }⟩
  have hv := h5.slots t
  rw [mk_fr, argsFr_get, if_pos (Nat.zero_le _), Nat.sub_zero] at hv ⊢
  show VR w.heap ((mk (argsFr 0 (args.map .d)) [] []).own B.A β) [] _ β _ _
  rw [List.getElem?_map] at hv ⊢
  cases hx : args[t]? with
  | none => 
    rw [List.getElem?_eq_none (by rw [← hl]; exact List.getElem?_eq_none_iff.1 hx)]
    exact .un _
  | some x =>
    have hlt := (List.getElem?_eq_some_iff.1 hx).1
    have hy : args'[t]? = some args'[t] := List.getElem?_eq_getElem (by omega)
    rw [hx] at hv
    rw [hy]
    simp only [Option.map_some] at hv ⊢
    generalize vs.getD t undef = v at hv ⊢
    cases hv with
    | d _ _ hv => exact .d _ _ ((hr t _ _ hx hy).rep hv)
def ndN (n : EN) : D := .agg [i64 n.k, i64 n.a, i64 n.b, i64 n.c, i64 n.n, .str n.name, .str n.s, .nils, i64 n.pos]
theorem ndN_le {n : EN} (h : n.l = []) : DLe (ndN n) (enD n) := by
  unfold ndN enD efD
  rw [h]
  refine .agg _ _ rfl (by simp [D.scal]) fun i x y hx hy => ?_
  by_cases hi : i = 7
  · subst hi
    cases hx; cases hy
    exact .inr ⟨_, rfl, rfl⟩
  · left
    have : i < 9 := by have := (List.getElem?_eq_some_iff.1 hx).1; simpa using this
    rcases i with _ | _ | _ | _ | _ | _ | _ | _ | _ | i <;> first | omega | (cases hx; cases hy; rfl)
theorem f86_N {G} (n : EN) (ls : List (List EN)) (hn : n.l = []) (hL : ls.length ≤ 1000000) (hS : sumL ls ≤ 1000000) (hk : ∀ l ∈ ls, ∀ m ∈ l, KidsLt l.length m) (hw : ∀ l ∈ ls, WideL 900000 l) :
    HP Tryz.prog G 86 [ndN n, .sl (some 1) (ls.map exD)] (fun r => r = .d (exD (joinE n ls))) :=
  HP.le (args' := [enD n, .sl (some 1) (ls.map exD)]) rfl (h := f86_ok n ls (by rw [hn]; exact Nat.zero_le _) hL hS hk hw) fun i x y hx hy => by
    rcases i with _ | _ | i
    · cases hx; cases hy; exact ndN_le hn
    · cases hx; cases hy; exact .refl _
    · cases hx
theorem f86_0 {G} (n : EN) (hn : n.l = []) : HP Tryz.prog G 86 [ndN n, .nils] (fun r => r = .d (exD (leafE n))) :=
  HP.le (args' := [enD n, .sl (some 1) ([].map exD)]) rfl (h := f86_ok n [] (by rw [hn]; exact Nat.zero_le _) (Nat.zero_le _) (Nat.zero_le _) (fun l h => by cases h) (fun l h => by cases h)) fun i x y hx hy => by
    rcases i with _ | _ | i
    · cases hx; cases hy; exact ndN_le hn
    · cases hx; cases hy; exact .nil _
    · cases hx
theorem f93_ok {G} (n : EN) (hn : n.l = []) : HP Tryz.prog G 93 [ndN n] (fun r => r = .d (exD (leafE n))) := by
  have h0 := f86_0 (G := G) n hn
  generalize leafE n = X at h0 ⊢
  unfold ndN at *
  refine funZ_ok Tryz.func93 rfl (by decide +kernel) (by simp [Tryz.ntmps93]) (veil fun E => ?_)
  simp only [go_sem]
  refine e_call E h0 rfl rfl (by simp) ?_
  rintro _ rfl
  unfold exD
  simp only [go_sem]
  refine ⟨[], ?_⟩
  simp only [go_sem]
  rfl
abbrev OPS := List (List UInt8 × Int)
def opL (l : OPS) : D := .sl (some 2) (l.map fun q => .agg [.str q.1, i64 q.2])
def opN (s : PS) (l : OPS) : EN := match opS s l with | some n => { nd0 10 s.peek.pos with n := n } | none => nd0 0 0
def opR (s : PS) (l : OPS) : PS := match opS s l with | some _ => s.next | none => s
theorem opS_drop {s : PS} {l : OPS} {i : Nat} (h : i < l.length) : opS s (l.drop i) = if s.sees 7 l[i].1 then some l[i].2 else opS s (l.drop (i + 1)) := by
  rw [List.drop_eq_getElem_cons h, opS]
theorem f150_ok {G} (s : PS) (l : OPS) (hl : s.l.length ≤ 1000000) (hn : l.length ≤ 1000) : HCall Tryz.prog G 150 [.at [100] 0, .d (opL l)] (RO s) [100, 101] (fun r hp' => r = .tup [.d (ndN (opN s l)), .d (.bool (opS s l).isSome)] ∧ hp' = RO (opR s l)) := by
  generalize hO : opS s l = o
  generalize hN : opN s l = N
  generalize hR : opR s l = R
  unfold RO TO tksD opL
  refine funO_ok Tryz.func150 rfl (by decide +kernel) (by simp [Tryz.ntmps150]) (veil fun E => ?_)
  simp only [go_sem]
  refine e_callO E [.at [101] 0] (TO s.l s.fin) [101] (f90_ok s.l s.fin hl) rfl rfl ⟨by simp only [go_sem], by first | (rw [mk_used]; decide) | (simp only [go_sem]; done) | (simp only [go_sem]; rw [mk_used]; decide) | (simp only [go_sem]; decide)⟩ rfl (by unfold TO tksD; simp only [go_sem]) (by unfold TO; simp only [go_sem]) ?_
  rintro _ _ ⟨rfl, rfl⟩
  unfold TO tksD
  simp only [go_sem]
  refine loopT_e E (X := { i : Nat // i ≤ l.length ∧ opS s (l.drop i) = o }) (fun x => [(0, .at [100] 0), (4, .at [4] 0), (5, .d (.bool false)), (6, .d (i64 (peekT s.l s.fin).pos)), (15, .d (.sl (some 2) (l.map fun q => .agg [.str q.1, i64 q.2]))), (16, .d (i64 l.length)), (17, .d (i64 x.1))])
    (fun x => [([4], .box [.d (i64 0), .d (i64 0), .d (i64 0), .d (i64 0), .d (i64 0), .d (.str []), .d (.str []), .d .nils, .d (i64 0)]), ([100], .box [.at [101] 0, .d (i64 s.err), .d (i64 s.pos), .d (i64 s.nest)]), ([101], .box [.d (.sl (some 4) (s.l.map tokD)), .d (i64 s.fin)])]) [4, 100, 101] (fun x => l.length - x.1) ⟨0, Nat.zero_le _, by rw [List.drop_zero]; exact hO⟩ id ?_ ?_
  · simp only [go_sem]
    all_goals rfl
  rintro ⟨i, hi, ho⟩ E0
  refine hideQ E0 fun Q' hQ E' => ?_
  simp only at hi ⊢
  simp only [go_sem]
  refine e_ifd E' (fun h1 => ?_) (fun h1 => ?_) <;> simp only [go_sem]
  · have h1' : i < l.length := by omega
    rw [opS_drop h1'] at ho
    refine ⟨⟨by omega, by omega⟩, ?_⟩
    rw [show (l.map fun q => D.agg [.str q.1, i64 q.2]).getD i .nilp = .agg [.str l[i].1, i64 l[i].2] by simp [h1']]
    simp only [go_sem]
    have h0 := f224_ok (G := G) s l[i].1 hl
    generalize hb : s.sees 7 l[i].1 = b at h0 ho
    generalize hM : s.may 7 l[i].1 = M at h0
    refine e_callO E' [.at [100] 0, .d (.str l[i].1)] (RO s) [100, 101] (h0) rfl rfl ⟨by simp only [go_sem], by first | (rw [mk_used]; decide) | (simp only [go_sem]; done) | (simp only [go_sem]; rw [mk_used]; decide) | (simp only [go_sem]; decide)⟩ rfl (by unfold RO TO tksD; simp only [go_sem]) (by unfold RO TO; simp only [go_sem]) ?_
    rintro _ _ ⟨rfl, rfl⟩
    unfold RO TO tksD
    simp only [go_sem]
    refine e_if E' (fun h => ?_) (fun h => ?_) <;> simp only [go_sem]
    · rw [hQ]
      simp only [go_sem]
      rw [if_pos h] at ho
      refine ⟨_, _, [100, 101], id, ⟨rfl, rfl⟩, ?_⟩
      simp only [go_sem]
      have hM' : M = s.next := by rw [← hM]; unfold PS.may; rw [hb, h]; rfl
      rw [← hN, ← hR, hM', ← ho]
      unfold opN opR
      rw [hO, ← ho]
      exact ⟨rfl, rfl, rfl⟩
    · rw [hQ]
      simp only [go_sem]
      rw [if_neg (by simpa using h)] at ho
      have hM' : M = s := by rw [← hM]; unfold PS.may; rw [hb, h]; rfl
      rw [hM', w64_in ⟨by omega, by omega⟩]
      refine ⟨⟨i + 1, by omega, ho⟩, by show l.length - (i + 1) < _; omega, id, ?_⟩
      simp only [go_sem]
      all_goals rfl
  · rw [hQ]
    have hi2 : i = l.length := by omega
    rw [hi2, List.drop_length] at ho
    simp only [go_sem]
    refine ⟨_, _, [100, 101], id, ⟨rfl, rfl⟩, ?_⟩
    simp only [go_sem]
    rw [← hN, ← hR]
    unfold opN opR
    rw [hO, ← ho]
    exact ⟨rfl, rfl, rfl⟩
def Reads (f : Nat) (G : List (Nat × Obj)) (N : Nat) (sub : PS → PR) : Prop := ∀ s : PS, s.l.length ≤ 100000 → s.nest = N → HCall Tryz.prog G f [.at [100] 0] (RO s) [100, 101] (fun r hp' => r = .d (exD (sub s).1) ∧ hp' = RO (sub s).2)
theorem f223_ok {G} {N : Nat} {ex : PS → PR} (hex : ∀ s, GP 1 s (ex s)) (hc : Reads 271 G N (appS ex)) : Reads 223 G N (prodS ex) := by
  intro s hl hN
  have hsg := app_good hex
  obtain ⟨sub, hsub⟩ : ∃ sub, sub = appS ex := ⟨_, rfl⟩
  have hF : prodS ex s = binS opsProd sub (sub s).2.l.length.succ (sub s).1 (sub s).2 := by rw [hsub]; rfl
  rw [hF]
  rw [← hsub] at hc hsg
  generalize hR : binS opsProd sub (sub s).2.l.length.succ (sub s).1 (sub s).2 = R
  have h0 := hsg s
  obtain ⟨a0, s0, hs0⟩ : ∃ a0 s0, sub s = (a0, s0) := ⟨_, _, rfl⟩
  have hc0 := hc s hl hN
  rw [hs0] at hR h0 hc0
  simp only at hR hc0
  unfold RO TO tksD
  refine funO_ok Tryz.func223 rfl (by decide +kernel) (by simp [Tryz.ntmps223]) (veil fun E => ?_)
  simp only [go_sem]
  refine e_callO E [.at [100] 0] (RO s) [100, 101] (hc0) rfl rfl ⟨by simp only [go_sem], by first | (rw [mk_used]; decide) | (simp only [go_sem]; done) | (simp only [go_sem]; rw [mk_used]; decide) | (simp only [go_sem]; decide)⟩ rfl (by unfold RO TO tksD; simp only [go_sem]) (by unfold RO TO; simp only [go_sem]) ?_
  rintro _ _ ⟨rfl, rfl⟩
  unfold RO TO tksD
  simp only [go_sem]
  unfold exD
  simp only [go_sem]
  refine loopT_e E (X := { x : Nat × List EN × PS // binS opsProd sub x.1 x.2.1 x.2.2 = R ∧ GP 1 s x.2 ∧ x.2.2.l.length < x.1 }) (fun x => [(0, .at [100] 0), (2, .at [2] 0), (3, .at [3] 0)])
    (fun x => [([2], .box [.d .nils]), ([3], .box [.d (.sl (some 9) (x.1.2.1.map enD))]), ([100], .box [.at [101] 0, .d (i64 x.1.2.2.err), .d (i64 x.1.2.2.pos), .d (i64 x.1.2.2.nest)]), ([101], .box [.d (.sl (some 4) (x.1.2.2.l.map tokD)), .d (i64 x.1.2.2.fin)])]) [2, 3, 100, 101] (fun x => x.1.2.2.l.length) ⟨(s0.l.length.succ, a0, s0), hR, h0, Nat.lt_succ_self _⟩ id ?_ ?_
  · simp only [go_sem]
    all_goals rfl
  rintro ⟨⟨m, a, q⟩, hb, hg, hm⟩ E0
  refine hideQ E0 fun Q' hQ E' => ?_
  simp only at hb hg hm ⊢
  have hql : q.l.length ≤ s.l.length := hg.ss.len
  obtain ⟨m, rfl⟩ : ∃ k, m = k + 1 := ⟨m - 1, by omega⟩
  rw [binS] at hb
  simp only [go_sem]
  refine e_frz E' [12] (some 2) [.agg [.str [42], i64 3], .agg [.str [47], i64 4]] rfl ?_
  rw [mk_frz]
  simp only [go_sem]
  have h1 := f150_ok (G := G) q opsProd (by omega) (by decide)
  unfold opR opN at h1
  cases ho : opS q opsProd with
  | none =>
    rw [ho] at h1 hb
    simp only at h1 hb
    subst hb
    unfold ndN at h1
    refine e_callO E' [.at [100] 0, .d (opL opsProd)] (RO q) [100, 101] (h1) rfl rfl ⟨by simp only [go_sem], by first | (rw [mk_used]; decide) | (simp only [go_sem]; done) | (simp only [go_sem]; rw [mk_used]; decide) | (simp only [go_sem]; decide)⟩ rfl (by unfold RO TO tksD; simp only [go_sem]) (by unfold RO TO; simp only [go_sem]) ?_
    rintro _ _ ⟨rfl, rfl⟩
    unfold RO TO tksD
    simp only [go_sem]
    rw [hQ]
    simp only [go_sem]
    refine ⟨_, _, [100, 101], id, ⟨rfl, rfl⟩, ?_⟩
    simp only [go_sem]
    rfl
  | some n =>
    rw [ho] at h1 hb
    simp only at h1 hb
    unfold ndN at h1
    refine e_callO E' [.at [100] 0, .d (opL opsProd)] (RO q) [100, 101] (h1) rfl rfl ⟨by simp only [go_sem], by first | (rw [mk_used]; decide) | (simp only [go_sem]; done) | (simp only [go_sem]; rw [mk_used]; decide) | (simp only [go_sem]; decide)⟩ rfl (by unfold RO TO tksD; simp only [go_sem]) (by unfold RO TO; simp only [go_sem]) ?_
    rintro _ _ ⟨rfl, rfl⟩
    unfold RO TO tksD
    simp only [go_sem]
    refine region_xv mixed E' fun X => ?_
    simp only [go_sem]
    obtain ⟨b0, q1, hq1⟩ : ∃ b0 q1, sub q.next = (b0, q1) := ⟨_, _, rfl⟩
    have h2 := hc q.next (by have := (SS.next q).len; omega) ((SS.next q).nest.trans (hg.ss.nest.trans hN))
    have h3 := hsg q.next
    rw [hq1] at h2 h3 hb
    unfold exD at h2
    refine x_callO X [.at [100] 0] (RO q.next) [100, 101] _ _ h2 rfl rfl ⟨by simp only [go_sem], by rw [mk_used]; decide⟩ rfl (by unfold RO TO tksD; simp only [go_sem]) (by unfold RO TO; simp only [go_sem]) (by unfold RO TO; simp only [go_sem]) ?_
    unfold RO TO tksD
    simp only [go_sem]
    have ht2 := h3.tr
    have hz1 := hg.sz
    have hz2 := h3.sz
    have hn2 := (SS.next q).len
    simp only at ht2 hz1 hz2
    have h4 := f86_N (G := G) { nd0 10 q.peek.pos with n := n } [a, b0] rfl (by simp) (by simp only [sumL, List.map_cons, List.map_nil, List.sum_cons, List.sum_nil]; omega)
      (fun l h => by
        rcases List.mem_cons.1 h with rfl | h
        · exact hg.tr.kids.2
        · rw [List.mem_singleton.1 h]; exact ht2.kids.2)
      (fun l h => by
        rcases List.mem_cons.1 h with rfl | h
        · exact hg.wd.mono (by omega)
        · rw [List.mem_singleton.1 h]; exact h3.wd.mono (by omega))
    have h5 := GP.join2 (e := 1) (n := { nd0 10 q.peek.pos with n := n }) (s1 := s) (a := (a, q)) (b := (b0, q1)) hg h3 (SS.refl s) (SS.next q) rfl rfl (by have := op_len ho; simp only; omega)
    simp only at h5
    generalize joinE { nd0 10 q.peek.pos with n := n } [a, b0] = J at h4 h5 hb
    unfold exD at h4
    refine x_callF X 23 [23] (some 1) [.agg [.sl (some 9) (a.map enD)], .agg [.sl (some 9) (b0.map enD)]] h4 (fun _ => rfl) rfl rfl rfl (by simp) rfl (by simp only [go_sem]) ?_
    simp only [go_sem]
    refine ⟨by decide +kernel, ?_⟩
    rw [hQ]
    simp only [go_sem]
    refine ⟨⟨(m, J, q1), hb, h5, by have := op_len ho; have := h3.ss.len; show q1.l.length < m; simp only at this; omega⟩, by have := op_len ho; have := h3.ss.len; show q1.l.length < q.l.length; simp only at this; omega, id, ?_⟩
    simp only [go_sem]
    all_goals rfl
theorem f149_ok {G} {N : Nat} {ex : PS → PR} (hex : ∀ s, GP 1 s (ex s)) (hc : Reads 223 G N (prodS ex)) : Reads 149 G N (sumS ex) := by
  intro s hl hN
  have hsg := prod_good hex
  obtain ⟨sub, hsub⟩ : ∃ sub, sub = prodS ex := ⟨_, rfl⟩
  have hF : sumS ex s = binS opsSum sub (sub s).2.l.length.succ (sub s).1 (sub s).2 := by rw [hsub]; rfl
  rw [hF]
  rw [← hsub] at hc hsg
  generalize hR : binS opsSum sub (sub s).2.l.length.succ (sub s).1 (sub s).2 = R
  have h0 := hsg s
  obtain ⟨a0, s0, hs0⟩ : ∃ a0 s0, sub s = (a0, s0) := ⟨_, _, rfl⟩
  have hc0 := hc s hl hN
  rw [hs0] at hR h0 hc0
  simp only at hR hc0
  unfold RO TO tksD
  refine funO_ok Tryz.func149 rfl (by decide +kernel) (by simp [Tryz.ntmps149]) (veil fun E => ?_)
  simp only [go_sem]
  refine e_callO E [.at [100] 0] (RO s) [100, 101] (hc0) rfl rfl ⟨by simp only [go_sem], by first | (rw [mk_used]; decide) | (simp only [go_sem]; done) | (simp only [go_sem]; rw [mk_used]; decide) | (simp only [go_sem]; decide)⟩ rfl (by unfold RO TO tksD; simp only [go_sem]) (by unfold RO TO; simp only [go_sem]) ?_
  rintro _ _ ⟨rfl, rfl⟩
  unfold RO TO tksD
  simp only [go_sem]
  unfold exD
  simp only [go_sem]
  refine loopT_e E (X := { x : Nat × List EN × PS // binS opsSum sub x.1 x.2.1 x.2.2 = R ∧ GP 1 s x.2 ∧ x.2.2.l.length < x.1 }) (fun x => [(0, .at [100] 0), (2, .at [2] 0), (3, .at [3] 0)])
    (fun x => [([2], .box [.d .nils]), ([3], .box [.d (.sl (some 9) (x.1.2.1.map enD))]), ([100], .box [.at [101] 0, .d (i64 x.1.2.2.err), .d (i64 x.1.2.2.pos), .d (i64 x.1.2.2.nest)]), ([101], .box [.d (.sl (some 4) (x.1.2.2.l.map tokD)), .d (i64 x.1.2.2.fin)])]) [2, 3, 100, 101] (fun x => x.1.2.2.l.length) ⟨(s0.l.length.succ, a0, s0), hR, h0, Nat.lt_succ_self _⟩ id ?_ ?_
  · simp only [go_sem]
    all_goals rfl
  rintro ⟨⟨m, a, q⟩, hb, hg, hm⟩ E0
  refine hideQ E0 fun Q' hQ E' => ?_
  simp only at hb hg hm ⊢
  have hql : q.l.length ≤ s.l.length := hg.ss.len
  obtain ⟨m, rfl⟩ : ∃ k, m = k + 1 := ⟨m - 1, by omega⟩
  rw [binS] at hb
  simp only [go_sem]
  refine e_frz E' [13] (some 2) [.agg [.str [43], i64 1], .agg [.str [45], i64 2], .agg [.str [94], i64 7]] rfl ?_
  rw [mk_frz]
  simp only [go_sem]
  have h1 := f150_ok (G := G) q opsSum (by omega) (by decide)
  unfold opR opN at h1
  cases ho : opS q opsSum with
  | none =>
    rw [ho] at h1 hb
    simp only at h1 hb
    subst hb
    unfold ndN at h1
    refine e_callO E' [.at [100] 0, .d (opL opsSum)] (RO q) [100, 101] (h1) rfl rfl ⟨by simp only [go_sem], by first | (rw [mk_used]; decide) | (simp only [go_sem]; done) | (simp only [go_sem]; rw [mk_used]; decide) | (simp only [go_sem]; decide)⟩ rfl (by unfold RO TO tksD; simp only [go_sem]) (by unfold RO TO; simp only [go_sem]) ?_
    rintro _ _ ⟨rfl, rfl⟩
    unfold RO TO tksD
    simp only [go_sem]
    rw [hQ]
    simp only [go_sem]
    refine ⟨_, _, [100, 101], id, ⟨rfl, rfl⟩, ?_⟩
    simp only [go_sem]
    rfl
  | some n =>
    rw [ho] at h1 hb
    simp only at h1 hb
    unfold ndN at h1
    refine e_callO E' [.at [100] 0, .d (opL opsSum)] (RO q) [100, 101] (h1) rfl rfl ⟨by simp only [go_sem], by first | (rw [mk_used]; decide) | (simp only [go_sem]; done) | (simp only [go_sem]; rw [mk_used]; decide) | (simp only [go_sem]; decide)⟩ rfl (by unfold RO TO tksD; simp only [go_sem]) (by unfold RO TO; simp only [go_sem]) ?_
    rintro _ _ ⟨rfl, rfl⟩
    unfold RO TO tksD
    simp only [go_sem]
    refine region_xv mixed E' fun X => ?_
    simp only [go_sem]
    obtain ⟨b0, q1, hq1⟩ : ∃ b0 q1, sub q.next = (b0, q1) := ⟨_, _, rfl⟩
    have h2 := hc q.next (by have := (SS.next q).len; omega) ((SS.next q).nest.trans (hg.ss.nest.trans hN))
    have h3 := hsg q.next
    rw [hq1] at h2 h3 hb
    unfold exD at h2
    refine x_callO X [.at [100] 0] (RO q.next) [100, 101] _ _ h2 rfl rfl ⟨by simp only [go_sem], by rw [mk_used]; decide⟩ rfl (by unfold RO TO tksD; simp only [go_sem]) (by unfold RO TO; simp only [go_sem]) (by unfold RO TO; simp only [go_sem]) ?_
    unfold RO TO tksD
    simp only [go_sem]
    have ht2 := h3.tr
    have hz1 := hg.sz
    have hz2 := h3.sz
    have hn2 := (SS.next q).len
    simp only at ht2 hz1 hz2
    have h4 := f86_N (G := G) { nd0 10 q.peek.pos with n := n } [a, b0] rfl (by simp) (by simp only [sumL, List.map_cons, List.map_nil, List.sum_cons, List.sum_nil]; omega)
      (fun l h => by
        rcases List.mem_cons.1 h with rfl | h
        · exact hg.tr.kids.2
        · rw [List.mem_singleton.1 h]; exact ht2.kids.2)
      (fun l h => by
        rcases List.mem_cons.1 h with rfl | h
        · exact hg.wd.mono (by omega)
        · rw [List.mem_singleton.1 h]; exact h3.wd.mono (by omega))
    have h5 := GP.join2 (e := 1) (n := { nd0 10 q.peek.pos with n := n }) (s1 := s) (a := (a, q)) (b := (b0, q1)) hg h3 (SS.refl s) (SS.next q) rfl rfl (by have := op_len ho; simp only; omega)
    simp only at h5
    generalize joinE { nd0 10 q.peek.pos with n := n } [a, b0] = J at h4 h5 hb
    unfold exD at h4
    refine x_callF X 24 [24] (some 1) [.agg [.sl (some 9) (a.map enD)], .agg [.sl (some 9) (b0.map enD)]] h4 (fun _ => rfl) rfl rfl rfl (by simp) rfl (by simp only [go_sem]) ?_
    simp only [go_sem]
    refine ⟨by decide +kernel, ?_⟩
    rw [hQ]
    simp only [go_sem]
    refine ⟨⟨(m, J, q1), hb, h5, by have := op_len ho; have := h3.ss.len; show q1.l.length < m; simp only at this; omega⟩, by have := op_len ho; have := h3.ss.len; show q1.l.length < q.l.length; simp only at this; omega, id, ?_⟩
    simp only [go_sem]
    all_goals rfl
theorem f100_ok {G} {N : Nat} {ex : PS → PR} (hex : ∀ s, GP 1 s (ex s)) (hc : Reads 149 G N (sumS ex)) : Reads 100 G N (cmpS ex) := by
  intro s hl hN
  have hsg := sum_good hex
  obtain ⟨sub, hsub⟩ : ∃ sub, sub = sumS ex := ⟨_, rfl⟩
  have hF : cmpS ex s = match opS (sub s).2 opsCmp with
    | some n => (joinE { nd0 10 (sub s).2.peek.pos with n := n } [(sub s).1, (sub (sub s).2.next).1], (sub (sub s).2.next).2)
    | none => sub s := by rw [hsub]; rfl
  rw [hF]
  rw [← hsub] at hc hsg
  generalize hR : (match opS (sub s).2 opsCmp with
    | some n => (joinE { nd0 10 (sub s).2.peek.pos with n := n } [(sub s).1, (sub (sub s).2.next).1], (sub (sub s).2.next).2)
    | none => sub s : PR) = R
  have hg := hsg s
  obtain ⟨a, q, hs0⟩ : ∃ a q, sub s = (a, q) := ⟨_, _, rfl⟩
  have hc0 := hc s hl hN
  rw [hs0] at hR hg hc0
  simp only at hR hc0
  have hql : q.l.length ≤ s.l.length := hg.ss.len
  unfold exD at hc0
  have h1 := f150_ok (G := G) q opsCmp (by omega) (by decide)
  unfold opR opN at h1
  unfold RO TO tksD
  refine funO_ok Tryz.func100 rfl (by decide +kernel) (by simp [Tryz.ntmps100]) (veil fun E => ?_)
  simp only [go_sem]
  refine e_callO E [.at [100] 0] (RO s) [100, 101] (hc0) rfl rfl ⟨by simp only [go_sem], by first | (rw [mk_used]; decide) | (simp only [go_sem]; done) | (simp only [go_sem]; rw [mk_used]; decide) | (simp only [go_sem]; decide)⟩ rfl (by unfold RO TO tksD; simp only [go_sem]) (by unfold RO TO; simp only [go_sem]) ?_
  rintro _ _ ⟨rfl, rfl⟩
  unfold RO TO tksD
  simp only [go_sem]
  refine e_frz E [12] (some 2) [.agg [.str [60], i64 5], .agg [.str [61, 61], i64 6]] rfl ?_
  rw [mk_frz]
  simp only [go_sem]
  cases ho : opS q opsCmp with
  | none =>
    rw [ho] at h1 hR
    simp only at h1 hR
    subst hR
    unfold ndN at h1
    refine e_callO E [.at [100] 0, .d (opL opsCmp)] (RO q) [100, 101] (h1) rfl rfl ⟨by simp only [go_sem], by first | (rw [mk_used]; decide) | (simp only [go_sem]; done) | (simp only [go_sem]; rw [mk_used]; decide) | (simp only [go_sem]; decide)⟩ rfl (by unfold RO TO tksD; simp only [go_sem]) (by unfold RO TO; simp only [go_sem]) ?_
    rintro _ _ ⟨rfl, rfl⟩
    unfold RO TO tksD
    simp only [go_sem]
    refine ⟨_, _, [100, 101], id, ⟨rfl, rfl⟩, ?_⟩
    simp only [go_sem]
    rfl
  | some n =>
    rw [ho] at h1 hR
    simp only at h1 hR
    unfold ndN at h1
    refine e_callO E [.at [100] 0, .d (opL opsCmp)] (RO q) [100, 101] (h1) rfl rfl ⟨by simp only [go_sem], by first | (rw [mk_used]; decide) | (simp only [go_sem]; done) | (simp only [go_sem]; rw [mk_used]; decide) | (simp only [go_sem]; decide)⟩ rfl (by unfold RO TO tksD; simp only [go_sem]) (by unfold RO TO; simp only [go_sem]) ?_
    rintro _ _ ⟨rfl, rfl⟩
    unfold RO TO tksD
    simp only [go_sem]
    refine region_xv mixed E fun X => ?_
    simp only [go_sem]
    obtain ⟨b0, q1, hq1⟩ : ∃ b0 q1, sub q.next = (b0, q1) := ⟨_, _, rfl⟩
    have h2 := hc q.next (by have := (SS.next q).len; omega) ((SS.next q).nest.trans (hg.ss.nest.trans hN))
    have h3 := hsg q.next
    rw [hq1] at h2 h3 hR
    unfold exD at h2
    refine x_callO X [.at [100] 0] (RO q.next) [100, 101] _ _ h2 rfl rfl ⟨by simp only [go_sem], by rw [mk_used]; decide⟩ rfl (by unfold RO TO tksD; simp only [go_sem]) (by unfold RO TO; simp only [go_sem]) (by unfold RO TO; simp only [go_sem]) ?_
    unfold RO TO tksD
    simp only [go_sem]
    have ht2 := h3.tr
    have hz1 := hg.sz
    have hz2 := h3.sz
    have hn2 := (SS.next q).len
    simp only at ht2 hz1 hz2
    have h4 := f86_N (G := G) { nd0 10 q.peek.pos with n := n } [a, b0] rfl (by simp) (by simp only [sumL, List.map_cons, List.map_nil, List.sum_cons, List.sum_nil]; omega)
      (fun l h => by
        rcases List.mem_cons.1 h with rfl | h
        · exact hg.tr.kids.2
        · rw [List.mem_singleton.1 h]; exact ht2.kids.2)
      (fun l h => by
        rcases List.mem_cons.1 h with rfl | h
        · exact hg.wd.mono (by omega)
        · rw [List.mem_singleton.1 h]; exact h3.wd.mono (by omega))
    generalize joinE { nd0 10 q.peek.pos with n := n } [a, b0] = J at h4 hR
    unfold exD at h4
    refine x_callF X 21 [21] (some 1) [.agg [.sl (some 9) (a.map enD)], .agg [.sl (some 9) (b0.map enD)]] h4 (fun _ => rfl) rfl rfl rfl (by simp) rfl (by simp only [go_sem]) ?_
    simp only [go_sem]
    refine ⟨by decide +kernel, ?_⟩
    rw [← hR]
    refine ⟨_, _, [100, 101], id, ⟨rfl, rfl⟩, ?_⟩
    simp only [go_sem]
    rfl
theorem may_yes {s : PS} {k : Int} {t : List UInt8} (h : s.sees k t = true) : s.may k t = s.next := by unfold PS.may; rw [h]; rfl
theorem may_no {s : PS} {k : Int} {t : List UInt8} (h : s.sees k t = false) : s.may k t = s := by unfold PS.may; rw [h]; rfl
theorem f305_ok {G} {N : Nat} {ex : PS → PR} (hex : ∀ s, GP 1 s (ex s)) (hc : Reads 329 G N (atomS ex)) : Reads 305 G N (postS ex) := by
  intro s hl hN
  have hg0 := atom_good hex s
  have hc0 := hc s hl hN
  have hF : postS ex s = getsS (atomS ex s).2.l.length.succ (atomS ex s).1 (atomS ex s).2 := rfl
  rw [hF]
  obtain ⟨a0, s0, hs0⟩ : ∃ a0 s0, atomS ex s = (a0, s0) := ⟨_, _, rfl⟩
  rw [hs0] at hg0 hc0 ⊢
  simp only at hc0 ⊢
  generalize hR : getsS s0.l.length.succ a0 s0 = R
  unfold exD at hc0
  unfold RO TO tksD
  refine funO_ok Tryz.func305 rfl (by decide +kernel) (by simp [Tryz.ntmps305]) (veil fun E => ?_)
  simp only [go_sem]
  refine e_callO E [.at [100] 0] (RO s) [100, 101] (hc0) rfl rfl ⟨by simp only [go_sem], by first | (rw [mk_used]; decide) | (simp only [go_sem]; done) | (simp only [go_sem]; rw [mk_used]; decide) | (simp only [go_sem]; decide)⟩ rfl (by unfold RO TO tksD; simp only [go_sem]) (by unfold RO TO; simp only [go_sem]) ?_
  rintro _ _ ⟨rfl, rfl⟩
  unfold RO TO tksD
  simp only [go_sem]
  refine loopT_e E (X := { x : Nat × List EN × PS // getsS x.1 x.2.1 x.2.2 = R ∧ GQ s x.2 ∧ x.2.2.l.length < x.1 }) (fun x => [(0, .at [100] 0), (2, .at [2] 0), (3, .at [3] 0)])
    (fun x => [([2], .box [.d .nils]), ([3], .box [.d (.sl (some 9) (x.1.2.1.map enD))]), ([100], .box [.at [101] 0, .d (i64 x.1.2.2.err), .d (i64 x.1.2.2.pos), .d (i64 x.1.2.2.nest)]), ([101], .box [.d (.sl (some 4) (x.1.2.2.l.map tokD)), .d (i64 x.1.2.2.fin)])]) [2, 3, 100, 101] (fun x => x.1.2.2.l.length) ⟨(s0.l.length.succ, a0, s0), hR, hg0, Nat.lt_succ_self _⟩ id ?_ ?_
  · simp only [go_sem]
    all_goals rfl
  rintro ⟨⟨m, a, q⟩, hb, hg, hm⟩ E0
  refine hideQ E0 fun Q' hQ E' => ?_
  simp only at hb hg hm ⊢
  have hql : q.l.length ≤ s.l.length := hg.1.ss.len
  obtain ⟨m, rfl⟩ : ∃ k, m = k + 1 := ⟨m - 1, by omega⟩
  have hgn := gets_good s 1 a q hg
  rw [getsS] at hb
  rw [show getsS 1 a q = if q.sees 7 [46] then (joinE { nd0 12 q.peek.pos with name := (q.next.of 2).1 } [a], (q.next.of 2).2) else (a, q) from rfl] at hgn
  simp only [go_sem]
  refine e_callO E' [.at [101] 0] (TO q.l q.fin) [101] (f90_ok q.l q.fin (by omega)) rfl rfl ⟨by simp only [go_sem], by first | (rw [mk_used]; decide) | (simp only [go_sem]; done) | (simp only [go_sem]; rw [mk_used]; decide) | (simp only [go_sem]; decide)⟩ rfl (by unfold TO tksD; simp only [go_sem]) (by unfold TO; simp only [go_sem]) ?_
  rintro _ _ ⟨rfl, rfl⟩
  unfold TO tksD
  simp only [go_sem]
  refine e_callO E' [.at [100] 0, .d (.str [46])] (RO q) [100, 101] (f224_ok q [46] (by omega)) rfl rfl ⟨by simp only [go_sem], by first | (rw [mk_used]; decide) | (simp only [go_sem]; done) | (simp only [go_sem]; rw [mk_used]; decide) | (simp only [go_sem]; decide)⟩ rfl (by unfold RO TO tksD; simp only [go_sem]) (by unfold RO TO; simp only [go_sem]) ?_
  rintro _ _ ⟨rfl, rfl⟩
  unfold RO TO tksD
  simp only [go_sem]
  refine e_if E' (fun h => ?_) (fun h => ?_) <;> simp only [go_sem]
  · have h' : q.sees 7 [46] = false := by simpa using h
    rw [h'] at hb
    rw [may_no h', hQ]
    simp only [Bool.false_eq_true, if_false] at hb
    subst hb
    simp only [go_sem]
    refine ⟨_, _, [100, 101], id, ⟨rfl, rfl⟩, ?_⟩
    simp only [go_sem]
    rfl
  · have h' : q.sees 7 [46] = true := by simpa using h
    have hsl := sees_len h'
    rw [h'] at hb hgn
    simp only [if_true] at hb hgn
    rw [may_yes h']
    refine region_xv mixed E' fun X => ?_
    simp only [go_sem]
    have h2 := f96_ok (G := G) q.next 2 (by omega)
    obtain ⟨nm, q1, hq1⟩ : ∃ nm q1, q.next.of 2 = (nm, q1) := ⟨_, _, rfl⟩
    have hq1l := (SS.of q.next 2).len
    rw [hq1] at h2 hb hgn hq1l
    simp only at hq1l
    refine x_callO X [.at [100] 0, .d (i64 2)] (RO q.next) [100, 101] _ _ h2 rfl rfl ⟨by simp only [go_sem], by rw [mk_used]; decide⟩ rfl (by unfold RO TO tksD; simp only [go_sem]) (by unfold RO TO; simp only [go_sem]) (by unfold RO TO; simp only [go_sem]) ?_
    unfold RO TO tksD
    simp only [go_sem]
    have hz1 := hg.1.sz
    simp only at hz1
    have h4 := f86_N (G := G) { nd0 12 q.peek.pos with name := nm } [a] rfl (by simp) (by simp only [sumL, List.map_cons, List.map_nil, List.sum_cons, List.sum_nil]; omega)
      (fun l h => by rw [List.mem_singleton.1 h]; exact hg.1.tr.kids.2)
      (fun l h => by rw [List.mem_singleton.1 h]; exact hg.1.wd.mono (by omega))
    simp only at hb hgn
    generalize joinE { nd0 12 q.peek.pos with name := nm } [a] = J at h4 hb hgn
    unfold exD at h4
    refine x_callF X 22 [22] (some 1) [.agg [.sl (some 9) (a.map enD)]] h4 (fun _ => rfl) rfl rfl rfl (by simp) rfl (by simp only [go_sem]) ?_
    simp only [go_sem]
    refine ⟨by decide +kernel, ?_⟩
    rw [hQ]
    simp only [go_sem]
    refine ⟨⟨(m, J, q1), hb, hgn, by show q1.l.length < m; omega⟩, by show q1.l.length < q.l.length; omega, id, ?_⟩
    simp only [go_sem]
    all_goals rfl
def begT (k : Int) (t : List UInt8) : Bool := decide (k = 4) || decide (k = 5) || decide (k = 2) || (decide (k = 1) && (decide (t = bTrue) || decide (t = bFalse) || decide (t = bCase))) || (decide (k = 7) && (decide (t = [40]) || decide (t = [123])))
theorem f306_ok {G} (s : PS) (hl : s.l.length ≤ 1000000) : HCall Tryz.prog G 306 [.at [100] 0] (RO s) [100, 101] (fun r hp' => r = .d (.bool s.begins) ∧ hp' = RO s) := by
  have hB : s.begins = begT (peekT s.l s.fin).k (peekT s.l s.fin).s := rfl
  rw [hB]
  have h0 := f90_ok (G := G) s.l s.fin hl
  generalize peekT s.l s.fin = t at h0 ⊢
  generalize hb : begT t.k t.s = b
  unfold begT at hb
  unfold RO TO tksD
  refine funO_ok Tryz.func306 rfl (by decide +kernel) (by simp [Tryz.ntmps306]) (veil fun E => ?_)
  simp only [go_sem]
  refine e_callO E [.at [101] 0] (TO s.l s.fin) [101] (h0) rfl rfl ⟨by simp only [go_sem], by first | (rw [mk_used]; decide) | (simp only [go_sem]; done) | (simp only [go_sem]; rw [mk_used]; decide) | (simp only [go_sem]; decide)⟩ rfl (by unfold TO tksD; simp only [go_sem]) (by unfold TO; simp only [go_sem]) ?_
  rintro _ _ ⟨rfl, rfl⟩
  unfold TO tksD
  simp only [go_sem]
  refine e_ifd E (fun h1 => ?_) (fun h1 => ?_) <;> simp only [go_sem]
  · rw [decide_eq_true h1]
    simp only [go_sem]
    refine ⟨_, _, [100, 101], id, ⟨rfl, rfl⟩, ?_⟩
    simp only [go_sem]
    simp [← hb, h1]
  refine e_ifd E (fun h2 => ?_) (fun h2 => ?_) <;> simp only [go_sem]
  · rw [decide_eq_true h2]
    simp only [go_sem]
    refine ⟨_, _, [100, 101], id, ⟨rfl, rfl⟩, ?_⟩
    simp only [go_sem]
    simp [← hb, h2]
  refine e_ifd E (fun h3 => ?_) (fun h3 => ?_) <;> simp only [go_sem]
  · refine ⟨_, _, [100, 101], id, ⟨rfl, rfl⟩, ?_⟩
    simp only [go_sem]
    simp [← hb, h3]
  refine e_ifd E (fun h4 => ?_) (fun h4 => ?_) <;> simp only [go_sem]
  · refine e_gif E (fun h6 => ?_) (fun h6 => ?_) <;> simp only [go_sem]
    · refine ⟨_, _, [100, 101], id, ⟨rfl, rfl⟩, ?_⟩
      simp only [go_sem]
      have h6' : t.s = bTrue := by simpa [bTrue] using h6
      simp [← hb, h4, h6']
    refine e_gif E (fun h7 => ?_) (fun h7 => ?_) <;> simp only [go_sem]
    · refine ⟨_, _, [100, 101], id, ⟨rfl, rfl⟩, ?_⟩
      simp only [go_sem]
      have h7' : t.s = bFalse := by simpa [bFalse] using h7
      simp [← hb, h4, h7']
    · refine ⟨_, _, [100, 101], id, ⟨rfl, rfl⟩, ?_⟩
      simp only [go_sem]
      have h6' : ¬ t.s = bTrue := by simpa [bTrue] using h6
      have h7' : ¬ t.s = bFalse := by simpa [bFalse] using h7
      by_cases h8 : t.s = bCase
      · simp [← hb, h4, h8, bCase]
      · have h8' := h8; unfold bCase at h8'; simp [← hb, h4, h6', h7', h8, h8']
  refine e_ifd E (fun h5 => ?_) (fun h5 => ?_) <;> simp only [go_sem]
  · refine e_gif E (fun h6 => ?_) (fun h6 => ?_) <;> simp only [go_sem]
    · refine ⟨_, _, [100, 101], id, ⟨rfl, rfl⟩, ?_⟩
      simp only [go_sem]
      have h6' : t.s = [40] := by simpa using h6
      simp [← hb, h5, h6']
    · refine ⟨_, _, [100, 101], id, ⟨rfl, rfl⟩, ?_⟩
      simp only [go_sem]
      have h6' : ¬ t.s = [40] := by simpa using h6
      by_cases h8 : t.s = [123] <;> simp [← hb, h5, h6', h8]
  · refine ⟨_, _, [100, 101], id, ⟨rfl, rfl⟩, ?_⟩
    simp only [go_sem]
    simp [← hb, h1, h2, h3, h4, h5]
theorem f271_ok {G} {N : Nat} {ex : PS → PR} (hex : ∀ s, GP 1 s (ex s)) (hc : Reads 305 G N (postS ex)) : Reads 271 G N (appS ex) := by
  intro s hl hN
  generalize hR : appS ex s = R
  unfold appS PS.has at hR
  rw [peek_eq] at hR
  have hsg := post_good hex
  have hpk := f90_ok (G := G) s.l s.fin (by omega)
  generalize peekT s.l s.fin = t at hpk hR
  unfold RO TO tksD
  refine funO_ok Tryz.func271 rfl (by decide +kernel) (by simp [Tryz.ntmps271]) (veil fun E => ?_)
  simp only [go_sem]
  refine e_callO E [.at [101] 0] (TO s.l s.fin) [101] (hpk) rfl rfl ⟨by simp only [go_sem], by first | (rw [mk_used]; decide) | (simp only [go_sem]; done) | (simp only [go_sem]; rw [mk_used]; decide) | (simp only [go_sem]; decide)⟩ rfl (by unfold TO tksD; simp only [go_sem]) (by unfold TO; simp only [go_sem]) ?_
  rintro _ _ ⟨rfl, rfl⟩
  unfold TO tksD
  simp only [go_sem]
  refine e_callO E [.at [100] 0] (RO s) [100, 101] (f92_ok s) rfl rfl ⟨by simp only [go_sem], by first | (rw [mk_used]; decide) | (simp only [go_sem]; done) | (simp only [go_sem]; rw [mk_used]; decide) | (simp only [go_sem]; decide)⟩ rfl (by unfold RO TO tksD; simp only [go_sem]) (by unfold RO TO; simp only [go_sem]) ?_
  rintro _ _ ⟨rfl, rfl⟩
  unfold RO TO tksD
  simp only [go_sem]
  obtain ⟨a0, s0, hs0⟩ : ∃ a0 s0, postS ex s = (a0, s0) := ⟨_, _, rfl⟩
  have h0 := (hsg s).1
  have hc0 := hc s hl hN
  rw [hs0] at h0 hc0
  unfold exD at hc0
  simp only [hs0] at hR
  refine e_gifd E (fun h1 => ?_) (fun h1 => ?_) <;> simp only [go_sem]
  · refine e_ifd E (fun h2 => ?_) (fun h2 => ?_) <;> simp only [go_sem]
    · simp only [decide_eq_true h1, decide_eq_true h2, Bool.and_self, if_true] at hR
      refine e_callO E [.at [101] 0] (TO s.l s.fin) [101] (f148_ok s.l s.fin (by omega)) rfl rfl ⟨by simp only [go_sem], by first | (rw [mk_used]; decide) | (simp only [go_sem]; done) | (simp only [go_sem]; rw [mk_used]; decide) | (simp only [go_sem]; decide)⟩ rfl (by unfold TO tksD; simp only [go_sem]) (by unfold TO; simp only [go_sem]) ?_
      rintro _ _ ⟨rfl, rfl⟩
      unfold TO tksD
      simp only [go_sem]
      refine region_xv mixed E fun X => ?_
      simp only [go_sem]
      obtain ⟨b0, q1, hq1⟩ : ∃ b0 q1, postS ex s.next = (b0, q1) := ⟨_, _, rfl⟩
      have hn2 := (SS.next s).len
      have g2 := hc s.next (by omega) ((SS.next s).nest.trans hN)
      have h3 := (hsg s.next).1
      rw [hq1] at g2 h3 hR
      unfold exD at g2
      refine x_callO X [.at [100] 0] (RO s.next) [100, 101] _ _ g2 rfl rfl ⟨by simp only [go_sem], by rw [mk_used]; decide⟩ rfl (by unfold RO TO tksD PS.next; simp only [go_sem]) (by unfold RO TO; simp only [go_sem]) (by unfold RO TO; simp only [go_sem]) ?_
      unfold RO TO tksD
      simp only [go_sem]
      have ht2 := h3.tr
      have hz2 := h3.sz
      simp only at ht2 hz2 hR
      have h4 := f86_N (G := G) { nd0 13 t.pos with name := t.s } [b0] rfl (by simp) (by simp only [sumL, List.map_cons, List.map_nil, List.sum_cons, List.sum_nil]; omega)
        (fun l h => by rw [List.mem_singleton.1 h]; exact ht2.kids.2)
        (fun l h => by rw [List.mem_singleton.1 h]; exact h3.wd.mono (by omega))
      generalize joinE { nd0 13 t.pos with name := t.s } [b0] = J at h4 hR
      unfold exD at h4
      refine x_callF X 29 [29] (some 1) [.agg [.sl (some 9) (b0.map enD)]] h4 (fun _ => rfl) rfl rfl rfl (by simp) rfl (by simp only [go_sem]) ?_
      simp only [go_sem]
      refine ⟨by decide +kernel, ?_⟩
      rw [← hR]
      refine ⟨_, _, [100, 101], id, ⟨rfl, rfl⟩, ?_⟩
      simp only [go_sem]
      rfl
    · simp only [decide_eq_true h1, decide_eq_false h2, Bool.and_false, Bool.false_eq_true, if_false] at hR
      refine e_callO E [.at [100] 0] (RO s) [100, 101] (hc0) rfl rfl ⟨by simp only [go_sem], by first | (rw [mk_used]; decide) | (simp only [go_sem]; done) | (simp only [go_sem]; rw [mk_used]; decide) | (simp only [go_sem]; decide)⟩ rfl (by unfold RO TO tksD; simp only [go_sem]) (by unfold RO TO; simp only [go_sem]) ?_
      rintro _ _ ⟨rfl, rfl⟩
      unfold RO TO tksD
      simp only [go_sem]
      refine loopT_e E (X := { x : Nat × List EN × PS // appsS ex x.1 x.2.1 x.2.2 = R ∧ GP 1 s x.2 ∧ x.2.2.l.length < x.1 }) (fun x => [(0, .at [100] 0), (2, .at [2] 0), (4, .at [4] 0)])
        (fun x => [([2], .box [.d .nils]), ([4], .box [.d (.sl (some 9) (x.1.2.1.map enD))]), ([100], .box [.at [101] 0, .d (i64 x.1.2.2.err), .d (i64 x.1.2.2.pos), .d (i64 x.1.2.2.nest)]), ([101], .box [.d (.sl (some 4) (x.1.2.2.l.map tokD)), .d (i64 x.1.2.2.fin)])]) [2, 4, 100, 101] (fun x => x.1.2.2.l.length) ⟨(s0.l.length.succ, a0, s0), hR, h0, Nat.lt_succ_self _⟩ id ?_ ?_
      · simp only [go_sem]
        all_goals rfl
      rintro ⟨⟨m, a, q⟩, hb, hg, hm⟩ E0
      refine hideQ E0 fun Q' hQ E' => ?_
      simp only at hb hg hm ⊢
      have hql : q.l.length ≤ s.l.length := hg.ss.len
      obtain ⟨m, rfl⟩ : ∃ k, m = k + 1 := ⟨m - 1, by omega⟩
      have hgn := apps_good hex s 1 a q hg
      rw [appsS] at hb
      rw [show appsS ex 1 a q = if decide (q.err = 0) && q.begins then (joinE (nd0 6 (rootE a).pos) [a, (postS ex q).1], (postS ex q).2) else (a, q) from rfl] at hgn
      simp only [go_sem]
      refine e_callO E' [.at [100] 0] (RO q) [100, 101] (f92_ok q) rfl rfl ⟨by simp only [go_sem], by first | (rw [mk_used]; decide) | (simp only [go_sem]; done) | (simp only [go_sem]; rw [mk_used]; decide) | (simp only [go_sem]; decide)⟩ rfl (by unfold RO TO tksD; simp only [go_sem]) (by unfold RO TO; simp only [go_sem]) ?_
      rintro _ _ ⟨rfl, rfl⟩
      unfold RO TO tksD
      simp only [go_sem]
      refine e_gifd E' (fun g1 => ?_) (fun g1 => ?_) <;> simp only [go_sem]
      · refine e_callO E' [.at [100] 0] (RO q) [100, 101] (f306_ok q (by omega)) rfl rfl ⟨by simp only [go_sem], by first | (rw [mk_used]; decide) | (simp only [go_sem]; done) | (simp only [go_sem]; rw [mk_used]; decide) | (simp only [go_sem]; decide)⟩ rfl (by unfold RO TO tksD; simp only [go_sem]) (by unfold RO TO; simp only [go_sem]) ?_
        rintro _ _ ⟨rfl, rfl⟩
        unfold RO TO tksD
        simp only [go_sem]
        refine e_if E' (fun g2 => ?_) (fun g2 => ?_) <;> simp only [go_sem]
        · simp only [decide_eq_true g1, g2, Bool.true_and, if_true] at hb hgn
          have hap := hg.tr.kids.1
          have hz1 := hg.sz
          simp only at hap hz1
          refine region_xv mixed E' fun X => ?_
          simp only [go_sem]
          rw [w64_in (n := (a.length : Int) - 1) ⟨by omega, by omega⟩]
          refine ⟨⟨by omega, by omega⟩, ?_⟩
          rw [show ((a.length : Int) - 1).toNat = a.length - 1 by omega, ens_get (show a.length - 1 < a.length by omega)]
          have hrt : rootE a = ndE a (a.length - 1) := rfl
          rw [← hrt]
          generalize rootE a = rt at hb hgn ⊢
          simp only [go_sem]
          obtain ⟨b0, q1, hq1⟩ : ∃ b0 q1, postS ex q = (b0, q1) := ⟨_, _, rfl⟩
          have h2 := hc q (by omega) (hg.ss.nest.trans hN)
          have h3 := (hsg q).1
          have hlt := post_less hex g1 g2
          rw [hq1] at h2 h3 hb hgn hlt
          unfold exD at h2
          refine x_callO X [.at [100] 0] (RO q) [100, 101] _ _ h2 rfl rfl ⟨by simp only [go_sem], by rw [mk_used]; decide⟩ rfl (by unfold RO TO tksD; simp only [go_sem]) (by unfold RO TO; simp only [go_sem]) (by unfold RO TO; simp only [go_sem]) ?_
          unfold RO TO tksD
          simp only [go_sem]
          have ht2 := h3.tr
          have hz2 := h3.sz
          simp only at ht2 hz2 hlt
          have h4 := f86_N (G := G) (nd0 6 rt.pos) [a, b0] rfl (by simp) (by simp only [sumL, List.map_cons, List.map_nil, List.sum_cons, List.sum_nil]; omega)
            (fun l h => by
              rcases List.mem_cons.1 h with rfl | h
              · exact hg.tr.kids.2
              · rw [List.mem_singleton.1 h]; exact ht2.kids.2)
            (fun l h => by
              rcases List.mem_cons.1 h with rfl | h
              · exact hg.wd.mono (by omega)
              · rw [List.mem_singleton.1 h]; exact h3.wd.mono (by omega))
          simp only at hb hgn
          generalize joinE (nd0 6 rt.pos) [a, b0] = J at h4 hb hgn
          unfold exD at h4
          refine x_callF X 52 [52] (some 1) [.agg [.sl (some 9) (a.map enD)], .agg [.sl (some 9) (b0.map enD)]] h4 (fun _ => rfl) rfl rfl rfl (by simp) rfl (by simp only [go_sem]) ?_
          simp only [go_sem]
          refine ⟨by decide +kernel, ?_⟩
          rw [hQ]
          simp only [go_sem]
          refine ⟨⟨(m, J, q1), hb, hgn, by show q1.l.length < m; omega⟩, hlt, id, ?_⟩
          simp only [go_sem]
          all_goals rfl
        · simp only [g2, Bool.and_false, Bool.false_eq_true, if_false] at hb
          subst hb
          rw [hQ]
          simp only [go_sem]
          refine ⟨_, _, [100, 101], id, ⟨rfl, rfl⟩, ?_⟩
          simp only [go_sem]
          rfl
      · simp only [decide_eq_false g1, Bool.false_and, Bool.false_eq_true, if_false] at hb
        subst hb
        rw [hQ]
        simp only [go_sem]
        refine ⟨_, _, [100, 101], id, ⟨rfl, rfl⟩, ?_⟩
        simp only [go_sem]
        rfl
  · simp only [decide_eq_false h1, Bool.false_and, Bool.false_eq_true, if_false] at hR
    refine e_callO E [.at [100] 0] (RO s) [100, 101] (hc0) rfl rfl ⟨by simp only [go_sem], by first | (rw [mk_used]; decide) | (simp only [go_sem]; done) | (simp only [go_sem]; rw [mk_used]; decide) | (simp only [go_sem]; decide)⟩ rfl (by unfold RO TO tksD; simp only [go_sem]) (by unfold RO TO; simp only [go_sem]) ?_
    rintro _ _ ⟨rfl, rfl⟩
    unfold RO TO tksD
    simp only [go_sem]
    refine loopT_e E (X := { x : Nat × List EN × PS // appsS ex x.1 x.2.1 x.2.2 = R ∧ GP 1 s x.2 ∧ x.2.2.l.length < x.1 }) (fun x => [(0, .at [100] 0), (2, .at [2] 0), (4, .at [4] 0)])
      (fun x => [([2], .box [.d .nils]), ([4], .box [.d (.sl (some 9) (x.1.2.1.map enD))]), ([100], .box [.at [101] 0, .d (i64 x.1.2.2.err), .d (i64 x.1.2.2.pos), .d (i64 x.1.2.2.nest)]), ([101], .box [.d (.sl (some 4) (x.1.2.2.l.map tokD)), .d (i64 x.1.2.2.fin)])]) [2, 4, 100, 101] (fun x => x.1.2.2.l.length) ⟨(s0.l.length.succ, a0, s0), hR, h0, Nat.lt_succ_self _⟩ id ?_ ?_
    · simp only [go_sem]
      all_goals rfl
    rintro ⟨⟨m, a, q⟩, hb, hg, hm⟩ E0
    refine hideQ E0 fun Q' hQ E' => ?_
    simp only at hb hg hm ⊢
    have hql : q.l.length ≤ s.l.length := hg.ss.len
    obtain ⟨m, rfl⟩ : ∃ k, m = k + 1 := ⟨m - 1, by omega⟩
    have hgn := apps_good hex s 1 a q hg
    rw [appsS] at hb
    rw [show appsS ex 1 a q = if decide (q.err = 0) && q.begins then (joinE (nd0 6 (rootE a).pos) [a, (postS ex q).1], (postS ex q).2) else (a, q) from rfl] at hgn
    simp only [go_sem]
    refine e_callO E' [.at [100] 0] (RO q) [100, 101] (f92_ok q) rfl rfl ⟨by simp only [go_sem], by first | (rw [mk_used]; decide) | (simp only [go_sem]; done) | (simp only [go_sem]; rw [mk_used]; decide) | (simp only [go_sem]; decide)⟩ rfl (by unfold RO TO tksD; simp only [go_sem]) (by unfold RO TO; simp only [go_sem]) ?_
    rintro _ _ ⟨rfl, rfl⟩
    unfold RO TO tksD
    simp only [go_sem]
    refine e_gifd E' (fun g1 => ?_) (fun g1 => ?_) <;> simp only [go_sem]
    · refine e_callO E' [.at [100] 0] (RO q) [100, 101] (f306_ok q (by omega)) rfl rfl ⟨by simp only [go_sem], by first | (rw [mk_used]; decide) | (simp only [go_sem]; done) | (simp only [go_sem]; rw [mk_used]; decide) | (simp only [go_sem]; decide)⟩ rfl (by unfold RO TO tksD; simp only [go_sem]) (by unfold RO TO; simp only [go_sem]) ?_
      rintro _ _ ⟨rfl, rfl⟩
      unfold RO TO tksD
      simp only [go_sem]
      refine e_if E' (fun g2 => ?_) (fun g2 => ?_) <;> simp only [go_sem]
      · simp only [decide_eq_true g1, g2, Bool.true_and, if_true] at hb hgn
        have hap := hg.tr.kids.1
        have hz1 := hg.sz
        simp only at hap hz1
        refine region_xv mixed E' fun X => ?_
        simp only [go_sem]
        rw [w64_in (n := (a.length : Int) - 1) ⟨by omega, by omega⟩]
        refine ⟨⟨by omega, by omega⟩, ?_⟩
        rw [show ((a.length : Int) - 1).toNat = a.length - 1 by omega, ens_get (show a.length - 1 < a.length by omega)]
        have hrt : rootE a = ndE a (a.length - 1) := rfl
        rw [← hrt]
        generalize rootE a = rt at hb hgn ⊢
        simp only [go_sem]
        obtain ⟨b0, q1, hq1⟩ : ∃ b0 q1, postS ex q = (b0, q1) := ⟨_, _, rfl⟩
        have h2 := hc q (by omega) (hg.ss.nest.trans hN)
        have h3 := (hsg q).1
        have hlt := post_less hex g1 g2
        rw [hq1] at h2 h3 hb hgn hlt
        unfold exD at h2
        refine x_callO X [.at [100] 0] (RO q) [100, 101] _ _ h2 rfl rfl ⟨by simp only [go_sem], by rw [mk_used]; decide⟩ rfl (by unfold RO TO tksD; simp only [go_sem]) (by unfold RO TO; simp only [go_sem]) (by unfold RO TO; simp only [go_sem]) ?_
        unfold RO TO tksD
        simp only [go_sem]
        have ht2 := h3.tr
        have hz2 := h3.sz
        simp only at ht2 hz2 hlt
        have h4 := f86_N (G := G) (nd0 6 rt.pos) [a, b0] rfl (by simp) (by simp only [sumL, List.map_cons, List.map_nil, List.sum_cons, List.sum_nil]; omega)
          (fun l h => by
            rcases List.mem_cons.1 h with rfl | h
            · exact hg.tr.kids.2
            · rw [List.mem_singleton.1 h]; exact ht2.kids.2)
          (fun l h => by
            rcases List.mem_cons.1 h with rfl | h
            · exact hg.wd.mono (by omega)
            · rw [List.mem_singleton.1 h]; exact h3.wd.mono (by omega))
        simp only at hb hgn
        generalize joinE (nd0 6 rt.pos) [a, b0] = J at h4 hb hgn
        unfold exD at h4
        refine x_callF X 52 [52] (some 1) [.agg [.sl (some 9) (a.map enD)], .agg [.sl (some 9) (b0.map enD)]] h4 (fun _ => rfl) rfl rfl rfl (by simp) rfl (by simp only [go_sem]) ?_
        simp only [go_sem]
        refine ⟨by decide +kernel, ?_⟩
        rw [hQ]
        simp only [go_sem]
        refine ⟨⟨(m, J, q1), hb, hgn, by show q1.l.length < m; omega⟩, hlt, id, ?_⟩
        simp only [go_sem]
        all_goals rfl
      · simp only [g2, Bool.and_false, Bool.false_eq_true, if_false] at hb
        subst hb
        rw [hQ]
        simp only [go_sem]
        refine ⟨_, _, [100, 101], id, ⟨rfl, rfl⟩, ?_⟩
        simp only [go_sem]
        rfl
    · simp only [decide_eq_false g1, Bool.false_and, Bool.false_eq_true, if_false] at hb
      subst hb
      rw [hQ]
      simp only [go_sem]
      refine ⟨_, _, [100, 101], id, ⟨rfl, rfl⟩, ?_⟩
      simp only [go_sem]
      rfl
def ReadsP (f : Nat) (G : List (Nat × Obj)) (N : Nat) (sub : PS → Int → PR) : Prop := ∀ (s : PS) (p : Int), s.l.length ≤ 100000 → s.nest = N → HCall Tryz.prog G f [.at [100] 0, .d (i64 p)] (RO s) [100, 101] (fun r hp' => r = .d (exD (sub s p).1) ∧ hp' = RO (sub s p).2)
theorem f99_ok {G} {N : Nat} {ex : PS → PR} (hex : ∀ s, GP 1 s (ex s)) (hc : Reads 53 G N ex) : ReadsP 99 G N (ifS ex) := by
  intro s p hl hN
  generalize hR : ifS ex s p = R
  unfold ifS at hR
  have ha := hex s
  have ca := hc s hl hN
  obtain ⟨a, sa, ea⟩ : ∃ a sa, ex s = (a, sa) := ⟨_, _, rfl⟩
  rw [ea] at ha ca hR
  have la := ha.ss.len
  have na := ha.ss.nest
  have cm := f97_ok (G := G) sa 1 bThen (by simp only at la; omega) (by decide)
  have hm := SS.must sa 1 bThen
  simp only at hR la na
  generalize sa.must 1 bThen = s2 at hR cm hm
  have l2 := hm.len
  have n2 := hm.nest
  have hb := hex s2
  have cb := hc s2 (by omega) (by rw [n2, na, hN])
  obtain ⟨b, sb, eb⟩ : ∃ b sb, ex s2 = (b, sb) := ⟨_, _, rfl⟩
  rw [eb] at hb cb hR
  have lb := hb.ss.len
  have nb := hb.ss.nest
  simp only at hR lb nb
  have cm2 := f97_ok (G := G) sb 1 bElse (by omega) (by decide)
  have hm2 := SS.must sb 1 bElse
  generalize sb.must 1 bElse = s3 at hR cm2 hm2
  have l3 := hm2.len
  have n3 := hm2.nest
  have hd := hex s3
  have cd := hc s3 (by omega) (by rw [n3, nb, n2, na, hN])
  obtain ⟨d, sd, ed⟩ : ∃ d sd, ex s3 = (d, sd) := ⟨_, _, rfl⟩
  rw [ed] at hd cd hR
  simp only at hR
  have za := ha.sz
  have zb := hb.sz
  have zd := hd.sz
  simp only at za zb zd
  have h4 := f86_N (G := G) (nd0 9 p) [a, b, d] rfl (by simp) (by simp only [sumL, List.map_cons, List.map_nil, List.sum_cons, List.sum_nil]; omega)
    (fun l h => by
      simp only [List.mem_cons, List.mem_singleton, List.not_mem_nil, or_false] at h
      rcases h with rfl | rfl | rfl
      · exact ha.tr.kids.2
      · exact hb.tr.kids.2
      · exact hd.tr.kids.2)
    (fun l h => by
      simp only [List.mem_cons, List.mem_singleton, List.not_mem_nil, or_false] at h
      rcases h with rfl | rfl | rfl
      · exact ha.wd.mono (by omega)
      · exact hb.wd.mono (by omega)
      · exact hd.wd.mono (by omega))
  generalize joinE (nd0 9 p) [a, b, d] = J at h4 hR
  unfold exD at h4 ca cb cd
  subst hR
  unfold RO TO tksD
  refine funO_ok Tryz.func99 rfl (by decide +kernel) (by simp [Tryz.ntmps99]) (veil fun E => ?_)
  simp only [go_sem]
  refine e_callO E [.at [100] 0] (RO s) [100, 101] (ca) rfl rfl ⟨by simp only [go_sem], by first | (rw [mk_used]; decide) | (simp only [go_sem]; done) | (simp only [go_sem]; rw [mk_used]; decide) | (simp only [go_sem]; decide)⟩ rfl (by unfold RO TO tksD; simp only [go_sem]) (by unfold RO TO; simp only [go_sem]) ?_
  rintro _ _ ⟨rfl, rfl⟩
  unfold RO TO tksD
  simp only [go_sem]
  refine e_callO E [.at [100] 0, .d (i64 1), .d (.str bThen)] (RO sa) [100, 101] (cm) rfl rfl ⟨by simp only [go_sem], by first | (rw [mk_used]; decide) | (simp only [go_sem]; done) | (simp only [go_sem]; rw [mk_used]; decide) | (simp only [go_sem]; decide)⟩ rfl (by unfold RO TO tksD; simp only [go_sem]) (by unfold RO TO; simp only [go_sem]) ?_
  rintro _ _ ⟨rfl, rfl⟩
  unfold RO TO tksD
  simp only [go_sem]
  refine e_callO E [.at [100] 0] (RO s2) [100, 101] (cb) rfl rfl ⟨by simp only [go_sem], by first | (rw [mk_used]; decide) | (simp only [go_sem]; done) | (simp only [go_sem]; rw [mk_used]; decide) | (simp only [go_sem]; decide)⟩ rfl (by unfold RO TO tksD; simp only [go_sem]) (by unfold RO TO; simp only [go_sem]) ?_
  rintro _ _ ⟨rfl, rfl⟩
  unfold RO TO tksD
  simp only [go_sem]
  refine e_callO E [.at [100] 0, .d (i64 1), .d (.str bElse)] (RO sb) [100, 101] (cm2) rfl rfl ⟨by simp only [go_sem], by first | (rw [mk_used]; decide) | (simp only [go_sem]; done) | (simp only [go_sem]; rw [mk_used]; decide) | (simp only [go_sem]; decide)⟩ rfl (by unfold RO TO tksD; simp only [go_sem]) (by unfold RO TO; simp only [go_sem]) ?_
  rintro _ _ ⟨rfl, rfl⟩
  unfold RO TO tksD
  simp only [go_sem]
  refine region_xv mixed E fun X => ?_
  simp only [go_sem]
  refine x_callO X [.at [100] 0] (RO s3) [100, 101] _ _ cd rfl rfl ⟨by simp only [go_sem], by rw [mk_used]; decide⟩ rfl (by unfold RO TO tksD; simp only [go_sem]) (by unfold RO TO; simp only [go_sem]) (by unfold RO TO; simp only [go_sem]) ?_
  unfold RO TO tksD
  simp only [go_sem]
  refine x_callF X 21 [21] (some 1) [.agg [.sl (some 9) (a.map enD)], .agg [.sl (some 9) (b.map enD)], .agg [.sl (some 9) (d.map enD)]] h4 (fun _ => rfl) rfl rfl rfl (by simp) rfl (by simp only [go_sem]) ?_
  simp only [go_sem]
  refine ⟨by decide +kernel, ?_⟩
  refine ⟨_, _, [100, 101], id, ⟨rfl, rfl⟩, ?_⟩
  simp only [go_sem]
  rfl
theorem f98_ok {G} {N : Nat} {ex : PS → PR} (hex : ∀ s, GP 1 s (ex s)) (hc : Reads 53 G N ex) : ReadsP 98 G N (letS ex) := by
  intro s p hl hN
  generalize hR : letS ex s p = R
  unfold letS at hR
  have cw := f95_ok (G := G) s bRec (by omega)
  have hw := SS.may s 1 bRec
  obtain ⟨c, hcc⟩ : ∃ c, c = s.sees 1 bRec := ⟨_, rfl⟩
  rw [← hcc] at cw
  simp only [← hcc] at hR
  generalize s.may 1 bRec = s1 at hR cw hw
  have l1 := hw.len
  have n1 := hw.nest
  have co := f96_ok (G := G) s1 2 (by omega)
  have ho := SS.of s1 2
  obtain ⟨nm, so, eo⟩ : ∃ nm so, s1.of 2 = (nm, so) := ⟨_, _, rfl⟩
  rw [eo] at co ho hR
  simp only at co ho hR
  have lo := ho.len
  have no := ho.nest
  have cm := f97_ok (G := G) so 7 [61] (by omega) (by decide)
  have hm := SS.must so 7 [61]
  generalize so.must 7 [61] = s2 at hR cm hm
  have l2 := hm.len
  have n2 := hm.nest
  have cp := f90_ok (G := G) s2.l s2.fin (by omega)
  rw [peek_eq] at hR
  generalize peekT s2.l s2.fin = t at hR cp
  have ha := hex s2
  have ca := hc s2 (by omega) (by rw [n2, no, n1, hN])
  obtain ⟨a, sa, ea⟩ : ∃ a sa, ex s2 = (a, sa) := ⟨_, _, rfl⟩
  rw [ea] at ha ca hR
  have la := ha.ss.len
  have na := ha.ss.nest
  simp only at hR la na
  have hap := ha.tr.kids.1
  have za := ha.sz
  simp only at hap za
  have cf := f91_ok (G := G) sa 5 t.pos
  have key : ∀ s3 : PS, s3.l = sa.l → s3.nest = sa.nest → ∀ k : Int, (joinE { nd0 k p with name := nm } [a, (ex (s3.must 1 bIn)).1], (ex (s3.must 1 bIn)).2) = R →
      HCall Tryz.prog G 97 [.at [100] 0, .d (i64 1), .d (.str bIn)] (RO s3) [100, 101] (fun r hp' => r = .tup [] ∧ hp' = RO (s3.must 1 bIn)) ∧ ∃ b sb J, R = (J, sb) ∧
      HCall Tryz.prog G 53 [.at [100] 0] (RO (s3.must 1 bIn)) [100, 101] (fun r hp' => r = .d (.agg [.sl (some 9) (b.map enD)]) ∧ hp' = RO sb) ∧
      HP Tryz.prog G 86 [ndN { nd0 k p with name := nm }, .sl (some 1) ([a, b].map exD)] (fun r => r = .d (.agg [.sl (some 9) (J.map enD)])) := by
    intro s3 e1 e2 k hk
    have cm3 := f97_ok (G := G) s3 1 bIn (by rw [e1]; omega) (by decide)
    have hm3 := SS.must s3 1 bIn
    generalize s3.must 1 bIn = s4 at hk cm3 hm3 ⊢
    have l4 := hm3.len
    have n4 := hm3.nest
    rw [e1] at l4
    have hb := hex s4
    have cb := hc s4 (by omega) (by rw [n4, e2, na, n2, no, n1, hN])
    obtain ⟨b, sb, eb⟩ : ∃ b sb, ex s4 = (b, sb) := ⟨_, _, rfl⟩
    rw [eb] at hb cb hk
    have zb := hb.sz
    simp only at zb hk
    have h4 := f86_N (G := G) { nd0 k p with name := nm } [a, b] rfl (by simp) (by simp only [sumL, List.map_cons, List.map_nil, List.sum_cons, List.sum_nil]; omega)
      (fun l h => by
        simp only [List.mem_cons, List.mem_singleton, List.not_mem_nil, or_false] at h
        rcases h with rfl | rfl
        · exact ha.tr.kids.2
        · exact hb.tr.kids.2)
      (fun l h => by
        simp only [List.mem_cons, List.mem_singleton, List.not_mem_nil, or_false] at h
        rcases h with rfl | rfl
        · exact ha.wd.mono (by omega)
        · exact hb.wd.mono (by omega))
    exact ⟨cm3, b, sb, _, hk.symm, cb, h4⟩
  unfold exD at ca
  unfold RO TO tksD
  refine funO_ok Tryz.func98 rfl (by decide +kernel) (by simp [Tryz.ntmps98]) (veil fun E => ?_)
  simp only [go_sem]
  refine e_callO E [.at [100] 0, .d (.str bRec)] (RO s) [100, 101] (cw) rfl rfl ⟨by simp only [go_sem], by first | (rw [mk_used]; decide) | (simp only [go_sem]; done) | (simp only [go_sem]; rw [mk_used]; decide) | (simp only [go_sem]; decide)⟩ rfl (by unfold RO TO tksD; simp only [go_sem]) (by unfold RO TO; simp only [go_sem]) ?_
  rintro _ _ ⟨rfl, rfl⟩
  unfold RO TO tksD
  simp only [go_sem]
  refine e_if E (fun g => ?_) (fun g => ?_) <;> simp only [go_sem]
  · rw [if_pos g] at hR
    refine e_callO E [.at [100] 0, .d (i64 2)] (RO s1) [100, 101] (co) rfl rfl ⟨by simp only [go_sem], by first | (rw [mk_used]; decide) | (simp only [go_sem]; done) | (simp only [go_sem]; rw [mk_used]; decide) | (simp only [go_sem]; decide)⟩ rfl (by unfold RO TO tksD; simp only [go_sem]) (by unfold RO TO; simp only [go_sem]) ?_
    rintro _ _ ⟨rfl, rfl⟩
    unfold RO TO tksD
    simp only [go_sem]
    refine e_callO E [.at [100] 0, .d (i64 7), .d (.str [61])] (RO so) [100, 101] (cm) rfl rfl ⟨by simp only [go_sem], by first | (rw [mk_used]; decide) | (simp only [go_sem]; done) | (simp only [go_sem]; rw [mk_used]; decide) | (simp only [go_sem]; decide)⟩ rfl (by unfold RO TO tksD; simp only [go_sem]) (by unfold RO TO; simp only [go_sem]) ?_
    rintro _ _ ⟨rfl, rfl⟩
    unfold RO TO tksD
    simp only [go_sem]
    refine e_callO E [.at [101] 0] (TO s2.l s2.fin) [101] (cp) rfl rfl ⟨by simp only [go_sem], by first | (rw [mk_used]; decide) | (simp only [go_sem]; done) | (simp only [go_sem]; rw [mk_used]; decide) | (simp only [go_sem]; decide)⟩ rfl (by unfold TO tksD; simp only [go_sem]) (by unfold TO; simp only [go_sem]) ?_
    rintro _ _ ⟨rfl, rfl⟩
    unfold TO tksD
    simp only [go_sem]
    refine e_callO E [.at [100] 0] (RO s2) [100, 101] (ca) rfl rfl ⟨by simp only [go_sem], by first | (rw [mk_used]; decide) | (simp only [go_sem]; done) | (simp only [go_sem]; rw [mk_used]; decide) | (simp only [go_sem]; decide)⟩ rfl (by unfold RO TO tksD; simp only [go_sem]) (by unfold RO TO; simp only [go_sem]) ?_
    rintro _ _ ⟨rfl, rfl⟩
    unfold RO TO tksD
    simp only [go_sem]
    rw [w64_in (n := (a.length : Int) - 1) ⟨by omega, by omega⟩]
    refine ⟨⟨by omega, by omega⟩, ?_⟩
    rw [show ((a.length : Int) - 1).toNat = a.length - 1 by omega, ens_get (show a.length - 1 < a.length by omega)]
    have hrt : rootE a = ndE a (a.length - 1) := rfl
    rw [← hrt]
    simp only [go_sem]
    refine e_ifd E (fun h => ?_) (fun h => ?_) <;> simp only [go_sem]
    · rw [if_pos ⟨rfl, h⟩] at hR
      refine e_callO E [.at [100] 0, .d (i64 5), .d (i64 t.pos)] (RO sa) [100, 101] (cf) rfl rfl ⟨by simp only [go_sem], by first | (rw [mk_used]; decide) | (simp only [go_sem]; done) | (simp only [go_sem]; rw [mk_used]; decide) | (simp only [go_sem]; decide)⟩ rfl (by unfold RO TO tksD; simp only [go_sem]) (by unfold RO TO; simp only [go_sem]) ?_
      rintro _ _ ⟨rfl, rfl⟩
      unfold RO TO tksD
      simp only [go_sem]
      obtain ⟨k1, b, sb, J, eR, k2, k3⟩ := key (sa.fail 5 t.pos) (fail_l _ _ _) (by unfold PS.fail; split <;> rfl) 8 hR
      subst eR
      refine e_callO E [.at [100] 0, .d (i64 1), .d (.str bIn)] (RO (sa.fail 5 t.pos)) [100, 101] (k1) rfl rfl ⟨by simp only [go_sem], by first | (rw [mk_used]; decide) | (simp only [go_sem]; done) | (simp only [go_sem]; rw [mk_used]; decide) | (simp only [go_sem]; decide)⟩ rfl (by unfold RO TO tksD; simp only [go_sem]) (by unfold RO TO; simp only [go_sem]) ?_
      rintro _ _ ⟨rfl, rfl⟩
      unfold RO TO tksD
      simp only [go_sem]
      refine region_xv mixed E fun X => ?_
      simp only [go_sem]
      refine x_callO X [.at [100] 0] (RO ((sa.fail 5 t.pos).must 1 bIn)) [100, 101] _ _ k2 rfl rfl ⟨by simp only [go_sem], by rw [mk_used]; decide⟩ rfl (by unfold RO TO tksD; simp only [go_sem]) (by unfold RO TO; simp only [go_sem]) (by unfold RO TO; simp only [go_sem]) ?_
      unfold RO TO tksD
      simp only [go_sem]
      refine x_callF X 50 [50] (some 1) [.agg [.sl (some 9) (a.map enD)], .agg [.sl (some 9) (b.map enD)]] k3 (fun _ => rfl) rfl rfl rfl (by simp) rfl (by simp only [go_sem]) ?_
      simp only [go_sem]
      refine ⟨by decide +kernel, ?_⟩
      refine ⟨_, _, [100, 101], id, ⟨rfl, rfl⟩, ?_⟩
      simp only [go_sem]
      rfl
    · rw [if_neg (fun q => h q.2)] at hR
      obtain ⟨k1, b, sb, J, eR, k2, k3⟩ := key sa rfl rfl 8 hR
      subst eR
      refine e_callO E [.at [100] 0, .d (i64 1), .d (.str bIn)] (RO sa) [100, 101] (k1) rfl rfl ⟨by simp only [go_sem], by first | (rw [mk_used]; decide) | (simp only [go_sem]; done) | (simp only [go_sem]; rw [mk_used]; decide) | (simp only [go_sem]; decide)⟩ rfl (by unfold RO TO tksD; simp only [go_sem]) (by unfold RO TO; simp only [go_sem]) ?_
      rintro _ _ ⟨rfl, rfl⟩
      unfold RO TO tksD
      simp only [go_sem]
      refine region_xv mixed E fun X => ?_
      simp only [go_sem]
      refine x_callO X [.at [100] 0] (RO (sa.must 1 bIn)) [100, 101] _ _ k2 rfl rfl ⟨by simp only [go_sem], by rw [mk_used]; decide⟩ rfl (by unfold RO TO tksD; simp only [go_sem]) (by unfold RO TO; simp only [go_sem]) (by unfold RO TO; simp only [go_sem]) ?_
      unfold RO TO tksD
      simp only [go_sem]
      refine x_callF X 50 [50] (some 1) [.agg [.sl (some 9) (a.map enD)], .agg [.sl (some 9) (b.map enD)]] k3 (fun _ => rfl) rfl rfl rfl (by simp) rfl (by simp only [go_sem]) ?_
      simp only [go_sem]
      refine ⟨by decide +kernel, ?_⟩
      refine ⟨_, _, [100, 101], id, ⟨rfl, rfl⟩, ?_⟩
      simp only [go_sem]
      rfl
  · rw [if_neg (by rw [g]; decide)] at hR
    refine e_callO E [.at [100] 0, .d (i64 2)] (RO s1) [100, 101] (co) rfl rfl ⟨by simp only [go_sem], by first | (rw [mk_used]; decide) | (simp only [go_sem]; done) | (simp only [go_sem]; rw [mk_used]; decide) | (simp only [go_sem]; decide)⟩ rfl (by unfold RO TO tksD; simp only [go_sem]) (by unfold RO TO; simp only [go_sem]) ?_
    rintro _ _ ⟨rfl, rfl⟩
    unfold RO TO tksD
    simp only [go_sem]
    refine e_callO E [.at [100] 0, .d (i64 7), .d (.str [61])] (RO so) [100, 101] (cm) rfl rfl ⟨by simp only [go_sem], by first | (rw [mk_used]; decide) | (simp only [go_sem]; done) | (simp only [go_sem]; rw [mk_used]; decide) | (simp only [go_sem]; decide)⟩ rfl (by unfold RO TO tksD; simp only [go_sem]) (by unfold RO TO; simp only [go_sem]) ?_
    rintro _ _ ⟨rfl, rfl⟩
    unfold RO TO tksD
    simp only [go_sem]
    refine e_callO E [.at [101] 0] (TO s2.l s2.fin) [101] (cp) rfl rfl ⟨by simp only [go_sem], by first | (rw [mk_used]; decide) | (simp only [go_sem]; done) | (simp only [go_sem]; rw [mk_used]; decide) | (simp only [go_sem]; decide)⟩ rfl (by unfold TO tksD; simp only [go_sem]) (by unfold TO; simp only [go_sem]) ?_
    rintro _ _ ⟨rfl, rfl⟩
    unfold TO tksD
    simp only [go_sem]
    refine e_callO E [.at [100] 0] (RO s2) [100, 101] (ca) rfl rfl ⟨by simp only [go_sem], by first | (rw [mk_used]; decide) | (simp only [go_sem]; done) | (simp only [go_sem]; rw [mk_used]; decide) | (simp only [go_sem]; decide)⟩ rfl (by unfold RO TO tksD; simp only [go_sem]) (by unfold RO TO; simp only [go_sem]) ?_
    rintro _ _ ⟨rfl, rfl⟩
    unfold RO TO tksD
    simp only [go_sem]
    rw [if_neg (fun q => absurd q.1 (by decide))] at hR
    obtain ⟨k1, b, sb, J, eR, k2, k3⟩ := key sa rfl rfl 7 hR
    subst eR
    refine e_callO E [.at [100] 0, .d (i64 1), .d (.str bIn)] (RO sa) [100, 101] (k1) rfl rfl ⟨by simp only [go_sem], by first | (rw [mk_used]; decide) | (simp only [go_sem]; done) | (simp only [go_sem]; rw [mk_used]; decide) | (simp only [go_sem]; decide)⟩ rfl (by unfold RO TO tksD; simp only [go_sem]) (by unfold RO TO; simp only [go_sem]) ?_
    rintro _ _ ⟨rfl, rfl⟩
    unfold RO TO tksD
    simp only [go_sem]
    refine region_xv mixed E fun X => ?_
    simp only [go_sem]
    refine x_callO X [.at [100] 0] (RO (sa.must 1 bIn)) [100, 101] _ _ k2 rfl rfl ⟨by simp only [go_sem], by rw [mk_used]; decide⟩ rfl (by unfold RO TO tksD; simp only [go_sem]) (by unfold RO TO; simp only [go_sem]) (by unfold RO TO; simp only [go_sem]) ?_
    unfold RO TO tksD
    simp only [go_sem]
    refine x_callF X 50 [50] (some 1) [.agg [.sl (some 9) (a.map enD)], .agg [.sl (some 9) (b.map enD)]] k3 (fun _ => rfl) rfl rfl rfl (by simp) rfl (by simp only [go_sem]) ?_
    simp only [go_sem]
    refine ⟨by decide +kernel, ?_⟩
    refine ⟨_, _, [100, 101], id, ⟨rfl, rfl⟩, ?_⟩
    simp only [go_sem]
    rfl
theorem any_take' {α : Type} {l : List α} {p : α → Bool} {i : Nat} (h : i < l.length) (ha : (l.take i).any p = false) (hb : p l[i] = false) : (l.take (i + 1)).any p = false := by
  rw [List.take_succ_eq_append_getElem h, List.any_append, ha]
  simp [hb]
theorem fds_at {l : List EF} {i : Nat} (h : i < l.length) : (l.map fD).getD i .nilp = .agg [.str l[i].nm, .str l[i].var, i64 l[i].to] := by simp [h, fD]
theorem f237_ok {G} (l : List EF) (p : EF → Bool) (f : Nat) (caps : List D) (hl : l.length ≤ 1000000) (hc : ∀ x ∈ l, HP Tryz.prog G f (fD x :: caps) (fun r => r = .d (.bool (p x)))) :
    HP Tryz.prog G 237 [.sl (some 3) (l.map fD), .clo f caps] (fun r => ∃ z : Int, r = .d (i64 z) ∧ decide (0 ≤ z) = l.any p) := by
  have hget : ∀ {i : Nat} (h : i < l.length), (l.map fD).getD i .nilp = .agg [.str l[i].nm, .str l[i].var, i64 l[i].to] := fun h => fds_at h
  refine funP_ok Tryz.func237 rfl (by decide +kernel) (by simp [Tryz.ntmps237]) (veil fun E => ?_)
  simp only [go_sem]
  refine loopP_e E (X := { i : Nat // i ≤ l.length ∧ (l.take i).any p = false }) (fun x => [(0, .d (.sl (some 3) (l.map fD))), (1, .d (.clo f caps)), (6, .d (.sl (some 3) (l.map fD))), (7, .d (i64 l.length)), (8, .d (i64 x.1))]) (fun x => l.length - x.1) rfl ⟨0, Nat.zero_le _, by simp⟩ ?_ ?_
  · simp only [go_sem]
    all_goals rfl
  rintro ⟨i, hi, hab⟩ E'
  simp only [go_sem]
  refine e_ifd E' (fun h1 => ?_) (fun h1 => ?_) <;> simp only [go_sem]
  · have h1' : i < l.length := by omega
    refine ⟨⟨by omega, by omega⟩, ?_⟩
    rw [hget h1']
    simp only [go_sem]
    refine e_callD E' (hc l[i] (List.getElem_mem h1')) rfl rfl (by simp) ?_
    rintro _ rfl
    simp only [go_sem]
    refine e_if E' (fun h2 => ?_) (fun h2 => ?_) <;> simp only [go_sem]
    · refine ⟨_, rfl, ?_⟩
      have : l.any p = true := List.any_eq_true.2 ⟨l[i], List.getElem_mem h1', h2⟩
      rw [this]
      exact decide_eq_true (Int.natCast_nonneg _)
    · refine ⟨⟨i + 1, by omega, any_take' h1' hab h2⟩, by show l.length - (i + 1) < _; omega, ?_⟩
      rw [w64_in ⟨by omega, by omega⟩]; rfl
  · have h3 : i = l.length := by omega
    subst h3
    rw [List.take_length] at hab
    refine ⟨_, rfl, ?_⟩
    rw [hab]
    decide
theorem f179_ok {G} (l : List EF) (p : EF → Bool) (f : Nat) (caps : List D) (hl : l.length ≤ 1000000) (hc : ∀ x ∈ l, HP Tryz.prog G f (fD x :: caps) (fun r => r = .d (.bool (p x)))) :
    HP Tryz.prog G 179 [.sl (some 3) (l.map fD), .clo f caps] (fun r => r = .d (.bool (l.any p))) := by
  refine funP_ok Tryz.func179 rfl (by decide +kernel) (by simp [Tryz.ntmps179]) (veil fun E => ?_)
  simp only [go_sem]
  refine e_call E (f237_ok l p f caps hl hc) rfl rfl (by simp) ?_
  rintro _ ⟨z, rfl, hz⟩
  simp only [go_sem]
  rw [hz]
theorem f371_ok {G} (x : EF) (t : Tok) : HP Tryz.prog G 371 [fD x, .ptr (tokD t)] (fun r => r = .d (.bool (decide (x.nm = t.s)))) := by
  unfold fD
  rw [show tokD t = .agg [i64 t.k, .str t.s, i64 t.n, i64 t.pos] from rfl]
  refine funZ_ok Tryz.func371 rfl (by decide +kernel) (by simp [Tryz.ntmps371]) (veil fun E => ?_)
  simp only [go_sem]
  refine ⟨[], ?_⟩
  simp only [go_sem]
  by_cases h : x.nm = t.s <;> simp [h]
def FO (s : PS) (l : List EF) : List (Name × Ob) := ([103], .arr (some 3) (l.map fD)) :: RO s
theorem f355_ok {G} (s : PS) (t : Tok) (n : EN) (l : List EF) (hl : l.length ≤ 100000) : HCall Tryz.prog G 355 [.at [100] 0, .d (.agg [i64 t.k, .str t.s, i64 t.n, i64 t.pos]), .agg [.d (i64 n.k), .d (i64 n.a), .d (i64 n.b), .d (i64 n.c), .d (i64 n.n), .d (.str n.name), .d (.str n.s), .vw [103] 0 l.length, .d (i64 n.pos)]] (FO s l) [100, 101, 103] (fun r hp' => r = .tup [] ∧ hp' = FO (s.parted t l) l) := by
  generalize hR : s.parted t l = R
  unfold PS.parted at hR
  have c8 := f91_ok (G := G) s 8 t.pos
  have c5 := f91_ok (G := G) s 5 t.pos
  unfold FO RO TO tksD
  refine funO_ok Tryz.func355 rfl (by decide +kernel) (by simp [Tryz.ntmps355]) (veil fun E => ?_)
  simp only [go_sem]
  refine e_callO E [.at [100] 0] (RO s) [100, 101] (f92_ok s) rfl rfl ⟨by simp only [go_sem], by first | (rw [mk_used]; decide) | (simp only [go_sem]; done) | (simp only [go_sem]; rw [mk_used]; decide) | (simp only [go_sem]; decide)⟩ rfl (by unfold RO TO tksD; simp only [go_sem]) (by unfold RO TO; simp only [go_sem]) ?_
  rintro _ _ ⟨rfl, rfl⟩
  unfold RO TO tksD
  simp only [go_sem]
  refine e_if E (fun h1 => ?_) (fun h1 => ?_) <;> simp only [go_sem]
  · rw [if_pos (by simpa using h1)] at hR
    rw [← hR]
    refine ⟨_, _, [100, 101, 103], id, ⟨rfl, rfl⟩, ?_⟩
    simp only [go_sem]
  rw [if_neg (by simpa using h1)] at hR
  refine e_ifd E (fun h2 => ?_) (fun h2 => ?_) <;> simp only [go_sem]
  · rw [if_pos (by omega)] at hR
    refine e_callO E [.at [100] 0, .d (i64 8), .d (i64 t.pos)] (RO s) [100, 101] (c8) rfl rfl ⟨by simp only [go_sem], by first | (rw [mk_used]; decide) | (simp only [go_sem]; done) | (simp only [go_sem]; rw [mk_used]; decide) | (simp only [go_sem]; decide)⟩ rfl (by unfold RO TO tksD; simp only [go_sem]) (by unfold RO TO; simp only [go_sem]) ?_
    rintro _ _ ⟨rfl, rfl⟩
    unfold RO TO tksD
    simp only [go_sem]
    rw [← hR]
    refine ⟨_, _, [100, 101, 103], id, ⟨rfl, rfl⟩, ?_⟩
    simp only [go_sem]
  · rw [if_neg (by omega)] at hR
    refine e_frB E [4] (.agg [i64 t.k, .str t.s, i64 t.n, i64 t.pos]) rfl rfl ?_
    simp only [go_sem]
    refine e_callB E [([103], some 3, l.map fD)] (f179_ok l (fun x => decide (x.nm = t.s)) 371 [.ptr (.agg [i64 t.k, .str t.s, i64 t.n, i64 t.pos])] (by omega) (fun x _ => f371_ok x t)) (by rintro _ rfl; rfl) (by simp only [go_sem]) rfl (by simp only [go_sem]) (by simp) ?_
    rintro _ rfl
    simp only [go_sem]
    refine e_if E (fun h3 => ?_) (fun h3 => ?_) <;> simp only [go_sem]
    · rw [if_pos h3] at hR
      refine e_callO E [.at [100] 0, .d (i64 5), .d (i64 t.pos)] (RO s) [100, 101] (c5) rfl rfl ⟨by simp only [go_sem], by first | (rw [mk_used]; decide) | (simp only [go_sem]; done) | (simp only [go_sem]; rw [mk_used]; decide) | (simp only [go_sem]; decide)⟩ rfl (by unfold RO TO tksD; simp only [go_sem]) (by unfold RO TO; simp only [go_sem]) ?_
      rintro _ _ ⟨rfl, rfl⟩
      unfold RO TO tksD
      simp only [go_sem]
      rw [← hR]
      refine ⟨_, _, [100, 101, 103], id, ⟨rfl, rfl⟩, ?_⟩
      simp only [go_sem]
    · rw [if_neg (by rw [h3]; decide)] at hR
      rw [← hR]
      refine ⟨_, _, [100, 101, 103], id, ⟨rfl, rfl⟩, ?_⟩
      simp only [go_sem]
def NO (s : PS) (n : EN) (l : List EF) : List (Name × Ob) := ([105], .box [.at [100] 0]) :: ([102], .box [.d (i64 n.k), .d (i64 n.a), .d (i64 n.b), .d (i64 n.c), .d (i64 n.n), .d (.str n.name), .d (.str n.s), .vw [103] 0 l.length, .d (i64 n.pos)]) :: FO s l
def fieldT (s : PS) (t : Tok) (l : List EF) : EF × PS := (⟨(s.of 2).1, [], 0⟩, (((s.of 2).2.parted t l).must 7 [61]))
def branchT (s : PS) (t : Tok) (l : List EF) : EF × PS := (⟨(s.of 3).1, (((s.of 3).2.parted t l).of 2).1, 0⟩, (((s.of 3).2.parted t l).of 2).2.must 7 bTo)
theorem parted_l (s : PS) (t : Tok) (l : List EF) : (s.parted t l).l = s.l := by
  unfold PS.parted
  split
  · rfl
  split
  · exact fail_l _ _ _
  split
  · exact fail_l _ _ _
  · rfl
def PartC (G : List (Nat × Obj)) (f : Nat) (part : PS → Tok → List EF → EF × PS) : Prop := ∀ (s : PS) (t : Tok) (n : EN) (l : List EF), s.l.length ≤ 100000 → l.length ≤ 100000 →
  HCall Tryz.prog G f [.d (.agg [i64 t.k, .str t.s, i64 t.n, i64 t.pos]), .at [105] 0, .at [102] 0] (NO s n l) [100, 101, 102, 103, 105] (fun r hp' => r = .d (fD (part s t l).1) ∧ hp' = NO (part s t l).2 n l)
theorem f354_ok {G} : PartC G 354 fieldT := by
  intro s t n l hs hl
  generalize hR : fieldT s t l = R
  unfold fieldT at hR
  have c1 := f96_ok (G := G) s 2 (by omega)
  have h1 := SS.of s 2
  obtain ⟨nm, s1, e1⟩ : ∃ nm s1, s.of 2 = (nm, s1) := ⟨_, _, rfl⟩
  rw [e1] at c1 h1 hR
  simp only at c1 h1 hR
  have l1 := h1.len
  have c2 := f355_ok (G := G) s1 t n l hl
  have l2 := parted_l s1 t l
  generalize s1.parted t l = s2 at c2 l2 hR
  have c3 := f97_ok (G := G) s2 7 [61] (by rw [l2]; omega) (by decide)
  generalize s2.must 7 [61] = s3 at c3 hR
  subst hR
  unfold NO FO RO TO tksD
  refine funO_ok Tryz.func354 rfl (by decide +kernel) (by simp [Tryz.ntmps354]) (veil fun E => ?_)
  simp only [go_sem]
  refine e_callO E [.at [100] 0, .d (i64 2)] (RO s) [100, 101] (c1) rfl rfl ⟨by simp only [go_sem], by first | (rw [mk_used]; decide) | (simp only [go_sem]; done) | (simp only [go_sem]; rw [mk_used]; decide) | (simp only [go_sem]; decide)⟩ rfl (by unfold RO TO tksD; simp only [go_sem]) (by unfold RO TO; simp only [go_sem]) ?_
  rintro _ _ ⟨rfl, rfl⟩
  unfold RO TO tksD
  simp only [go_sem]
  refine e_callO E [.at [100] 0, .d (.agg [i64 t.k, .str t.s, i64 t.n, i64 t.pos]), .agg [.d (i64 n.k), .d (i64 n.a), .d (i64 n.b), .d (i64 n.c), .d (i64 n.n), .d (.str n.name), .d (.str n.s), .vw [103] 0 l.length, .d (i64 n.pos)]] (FO s1 l) [100, 101, 103] (c2) rfl rfl ⟨by simp only [go_sem], by first | (rw [mk_used]; decide) | (simp only [go_sem]; done) | (simp only [go_sem]; rw [mk_used]; decide) | (simp only [go_sem]; decide)⟩ rfl (by unfold FO RO TO tksD; simp only [go_sem]) (by unfold FO RO TO; simp only [go_sem]) ?_
  rintro _ _ ⟨rfl, rfl⟩
  unfold FO RO TO tksD
  simp only [go_sem]
  refine ⟨Nat.le_refl _, ?_⟩
  refine e_callO E [.at [100] 0, .d (i64 7), .d (.str [61])] (RO s2) [100, 101] (c3) rfl rfl ⟨by simp only [go_sem], by first | (rw [mk_used]; decide) | (simp only [go_sem]; done) | (simp only [go_sem]; rw [mk_used]; decide) | (simp only [go_sem]; decide)⟩ rfl (by unfold RO TO tksD; simp only [go_sem]) (by unfold RO TO; simp only [go_sem]) ?_
  rintro _ _ ⟨rfl, rfl⟩
  unfold RO TO tksD
  simp only [go_sem]
  refine ⟨_, _, [100, 101, 102, 103, 105], id, ⟨rfl, rfl⟩, ?_⟩
  simp only [go_sem]
  all_goals rfl
theorem f356_ok {G} : PartC G 356 branchT := by
  intro s t n l hs hl
  generalize hR : branchT s t l = R
  unfold branchT at hR
  have c1 := f96_ok (G := G) s 3 (by omega)
  have h1 := SS.of s 3
  obtain ⟨nm, s1, e1⟩ : ∃ nm s1, s.of 3 = (nm, s1) := ⟨_, _, rfl⟩
  rw [e1] at c1 h1 hR
  simp only at c1 h1 hR
  have l1 := h1.len
  have c2 := f355_ok (G := G) s1 t n l hl
  have l2 := parted_l s1 t l
  generalize s1.parted t l = s2 at c2 l2 hR
  have co := f96_ok (G := G) s2 2 (by rw [l2]; omega)
  have ho := SS.of s2 2
  obtain ⟨nv, so, eo⟩ : ∃ nv so, s2.of 2 = (nv, so) := ⟨_, _, rfl⟩
  rw [eo] at co ho hR
  simp only at co ho hR
  have lo := ho.len
  rw [l2] at lo
  have c3 := f97_ok (G := G) so 7 bTo (by omega) (by decide)
  generalize so.must 7 bTo = s3 at c3 hR
  subst hR
  unfold NO FO RO TO tksD
  refine funO_ok Tryz.func356 rfl (by decide +kernel) (by simp [Tryz.ntmps356]) (veil fun E => ?_)
  simp only [go_sem]
  refine e_callO E [.at [100] 0, .d (i64 3)] (RO s) [100, 101] (c1) rfl rfl ⟨by simp only [go_sem], by first | (rw [mk_used]; decide) | (simp only [go_sem]; done) | (simp only [go_sem]; rw [mk_used]; decide) | (simp only [go_sem]; decide)⟩ rfl (by unfold RO TO tksD; simp only [go_sem]) (by unfold RO TO; simp only [go_sem]) ?_
  rintro _ _ ⟨rfl, rfl⟩
  unfold RO TO tksD
  simp only [go_sem]
  refine e_callO E [.at [100] 0, .d (.agg [i64 t.k, .str t.s, i64 t.n, i64 t.pos]), .agg [.d (i64 n.k), .d (i64 n.a), .d (i64 n.b), .d (i64 n.c), .d (i64 n.n), .d (.str n.name), .d (.str n.s), .vw [103] 0 l.length, .d (i64 n.pos)]] (FO s1 l) [100, 101, 103] (c2) rfl rfl ⟨by simp only [go_sem], by first | (rw [mk_used]; decide) | (simp only [go_sem]; done) | (simp only [go_sem]; rw [mk_used]; decide) | (simp only [go_sem]; decide)⟩ rfl (by unfold FO RO TO tksD; simp only [go_sem]) (by unfold FO RO TO; simp only [go_sem]) ?_
  rintro _ _ ⟨rfl, rfl⟩
  unfold FO RO TO tksD
  simp only [go_sem]
  refine ⟨Nat.le_refl _, ?_⟩
  refine e_callO E [.at [100] 0, .d (i64 2)] (RO s2) [100, 101] (co) rfl rfl ⟨by simp only [go_sem], by first | (rw [mk_used]; decide) | (simp only [go_sem]; done) | (simp only [go_sem]; rw [mk_used]; decide) | (simp only [go_sem]; decide)⟩ rfl (by unfold RO TO tksD; simp only [go_sem]) (by unfold RO TO; simp only [go_sem]) ?_
  rintro _ _ ⟨rfl, rfl⟩
  unfold RO TO tksD
  simp only [go_sem]
  refine e_callO E [.at [100] 0, .d (i64 7), .d (.str bTo)] (RO so) [100, 101] (c3) rfl rfl ⟨by simp only [go_sem], by first | (rw [mk_used]; decide) | (simp only [go_sem]; done) | (simp only [go_sem]; rw [mk_used]; decide) | (simp only [go_sem]; decide)⟩ rfl (by unfold RO TO tksD; simp only [go_sem]) (by unfold RO TO; simp only [go_sem]) ?_
  rintro _ _ ⟨rfl, rfl⟩
  unfold RO TO tksD
  simp only [go_sem]
  refine ⟨_, _, [100, 101, 102, 103, 105], id, ⟨rfl, rfl⟩, ?_⟩
  simp only [go_sem]
  all_goals rfl
def NQ (s : PS) (n : EN) (l : List EF) (ks : List (List EN)) : List (Name × Ob) := ([105], .box [.at [100] 0]) :: ([102], .box [.d (i64 n.k), .d (i64 n.a), .d (i64 n.b), .d (i64 n.c), .d (i64 n.n), .d (.str n.name), .d (.str n.s), .vw [106] 0 l.length, .d (i64 n.pos)]) :: ([106], .arr (some 3) (l.map fD)) :: ([107], .arr (some 1) (ks.map exD)) :: RO s
theorem f353_ok {G} {N : Nat} {ex : PS → PR} {f : Nat} {part : PS → Tok → List EF → EF × PS} {b : List UInt8} (hex : ∀ s, GP 1 s (ex s)) (hc : Reads 53 G N ex) (hp : PartC G f part) (hps : ∀ s l, SS s (part s s.peek l).2)
    (s : PS) (n : EN) (hl : s.l.length ≤ 100000) (hN : s.nest = N) :
    HCall Tryz.prog G 353 [.at [100] 0, .at [102] 0, .d (.str b), .clo f [.at [105] 0, .at [102] 0]] (NO s n []) [100, 101, 102, 103, 105]
      (fun r hp' => r = .vw [107] 0 (partsS ex b (fun s l => part s s.peek l) s.l.length.succ s [] []).2.1.length ∧ hp' = NQ (partsS ex b (fun s l => part s s.peek l) s.l.length.succ s [] []).2.2 n (partsS ex b (fun s l => part s s.peek l) s.l.length.succ s [] []).1 (partsS ex b (fun s l => part s s.peek l) s.l.length.succ s [] []).2.1) := by
  generalize hR : partsS ex b (fun s l => part s s.peek l) s.l.length.succ s [] [] = R
  unfold NO FO RO TO tksD
  refine funO_ok Tryz.func353 rfl (by decide +kernel) (by simp [Tryz.ntmps353]) (veil fun E => ?_)
  simp only [go_sem]
  refine c_thaw E 9 98 (some 1) rfl (by rw [mk_used]; decide) ?_
  simp only [go_sem]
  refine loopT_e E (X := { x : Nat × PS × List EF × List (List EN) // partsS ex b (fun s l => part s s.peek l) x.1 x.2.1 x.2.2.1 x.2.2.2 = R ∧ (x.2.1.l.length < x.1 ∧ x.2.2.1.length = x.2.2.2.length ∧ x.2.2.1.length + x.2.1.l.length ≤ s.l.length ∧ x.2.1.nest = N) })
    (fun x => [(0, .at [100] 0), (1, .at [102] 0), (2, .d (.str b)), (3, .clo f [.at [105] 0, .at [102] 0]), (8, .d .nils), (9, .vw [98] 0 x.1.2.2.2.length)])
    (fun x => [([105], .box [.at [100] 0]), ([102], .box [.d (i64 n.k), .d (i64 n.a), .d (i64 n.b), .d (i64 n.c), .d (i64 n.n), .d (.str n.name), .d (.str n.s), .vw [97] 0 x.1.2.2.1.length, .d (i64 n.pos)]), ([97], .arr (some 3) (x.1.2.2.1.map fD)), ([98], .arr (some 1) (x.1.2.2.2.map exD)), ([100], .box [.at [101] 0, .d (i64 x.1.2.1.err), .d (i64 x.1.2.1.pos), .d (i64 x.1.2.1.nest)]), ([101], .box [.d (.sl (some 4) (x.1.2.1.l.map tokD)), .d (i64 x.1.2.1.fin)])]) [97, 98, 100, 101, 102, 103, 105] (fun x => x.1.2.1.l.length) ⟨(s.l.length.succ, s, [], []), hR, Nat.lt_succ_self _, rfl, by simp, hN⟩ (tau [([97], [103])]) ?_ ?_
  · simp only [go_sem]
    all_goals rfl
  rintro ⟨⟨m, q, l, ks⟩, hb, hm, hlk, hls, hqn⟩ E0
  refine hideQ E0 fun Q' hQ E' => ?_
  simp only at hb hm hlk hls hqn ⊢
  obtain ⟨m, rfl⟩ : ∃ k, m = k + 1 := ⟨m - 1, by omega⟩
  rw [partsS] at hb
  simp only [go_sem]
  have h1 := hp q q.peek n l (by omega) (by omega)
  have g1 := hps q l
  obtain ⟨fd, s1, e1⟩ : ∃ fd s1, part q q.peek l = (fd, s1) := ⟨_, _, rfl⟩
  rw [e1] at h1 g1 hb
  simp only at h1 g1 hb
  rw [show fD fd = .agg [.str fd.nm, .str fd.var, i64 fd.to] from rfl] at h1
  have n1 := g1.len
  have h2 := hc s1 (by omega) (g1.nest.trans hqn)
  have g2 := hex s1
  obtain ⟨x1, s2, e2⟩ : ∃ x1 s2, ex s1 = (x1, s2) := ⟨_, _, rfl⟩
  rw [e2] at h2 g2 hb
  simp only at h2 hb
  have n2 := g2.ss.len
  have z2 := g2.ss.nest
  simp only at n2 z2
  have h3 := f224_ok (G := G) s2 b (by omega)
  unfold exD at h2
  refine e_callO E' [.at [101] 0] (TO q.l q.fin) [101] (f90_ok q.l q.fin (by omega)) rfl rfl ⟨by simp only [go_sem], by first | (rw [mk_used]; decide) | (simp only [go_sem]; done) | (simp only [go_sem]; rw [mk_used]; decide) | (simp only [go_sem]; decide)⟩ rfl (by unfold TO tksD; simp only [go_sem]) (by unfold TO; simp only [go_sem]) ?_
  rintro _ _ ⟨rfl, rfl⟩
  unfold TO tksD
  simp only [go_sem]
  refine e_callS E' (tau [([103], [97])]) [.d (.agg [i64 q.peek.k, .str q.peek.s, i64 q.peek.n, i64 q.peek.pos]), .at [105] 0, .at [102] 0] (NO q n l) [100, 101, 102, 103, 105] (h1) rfl (by simp only [go_sem]; try rfl) ⟨by simp only [go_sem], by first | (rw [mk_used]; decide) | (simp only [go_sem]; done) | (simp only [go_sem]; rw [mk_used]; decide) | (simp only [go_sem]; decide)⟩ rfl (by unfold NO FO RO TO tksD; simp only [go_sem]) (by unfold NO FO RO TO; simp only [go_sem]) ?_
  rintro _ _ ⟨rfl, rfl⟩
  unfold NO FO RO TO tksD
  simp only [go_sem]
  refine ⟨Nat.le_refl _, ?_⟩
  refine e_callO E' [.at [100] 0] (RO s1) [100, 101] (h2) rfl rfl ⟨by simp only [go_sem], by first | (rw [mk_used]; decide) | (simp only [go_sem]; done) | (simp only [go_sem]; rw [mk_used]; decide) | (simp only [go_sem]; decide)⟩ rfl (by unfold RO TO tksD; simp only [go_sem]) (by unfold RO TO; simp only [go_sem]) ?_
  rintro _ _ ⟨rfl, rfl⟩
  unfold RO TO tksD
  simp only [go_sem]
  refine ⟨by omega, ?_⟩
  rw [show List.map exD ks ++ [.agg [.sl (some 9) (List.map enD x1)]] = (ks ++ [x1]).map exD by rw [List.map_append]; rfl]
  refine region_xv mixed E' fun X => ?_
  simp only [go_sem]
  refine x_nilc X (d := 27) [102] 0 none [.d (i64 n.k), .d (i64 n.a), .d (i64 n.b), .d (i64 n.c), .d (i64 n.n), .d (.str n.name), .d (.str n.s), .vw [97] 0 l.length, .d (i64 n.pos)] (by simp only [go_sem]) rfl rfl ?_
  simp only [go_sem]
  rw [show List.map fD l ++ [.agg [.str fd.nm, .str fd.var, i64 fd.to]] = (l ++ [fd]).map fD by rw [List.map_append]; rfl]
  refine ⟨by omega, ?_⟩
  refine x_nilc X (d := 33) [102] 0 none [.d (i64 n.k), .d (i64 n.a), .d (i64 n.b), .d (i64 n.c), .d (i64 n.n), .d (.str n.name), .d (.str n.s), .vw [97] 0 l.length, .d (i64 n.pos)] (by simp only [go_sem]) rfl rfl ?_
  simp only [go_sem]
  refine ⟨by decide +kernel, ?_⟩
  refine e_callO E' [.at [100] 0, .d (.str b)] (RO s2) [100, 101] (h3) rfl rfl ⟨by simp only [go_sem], by first | (rw [mk_used]; decide) | (simp only [go_sem]; done) | (simp only [go_sem]; rw [mk_used]; decide) | (simp only [go_sem]; decide)⟩ rfl (by unfold RO TO tksD; simp only [go_sem]) (by unfold RO TO; simp only [go_sem]) ?_
  rintro _ _ ⟨rfl, rfl⟩
  unfold RO TO tksD
  simp only [go_sem]
  refine e_if E' (fun h => ?_) (fun h => ?_) <;> simp only [go_sem]
  · have h' : s2.sees 7 b = false := by simpa using h
    rw [may_no h', hQ]
    rw [if_neg (by rw [h']; decide)] at hb
    subst hb
    simp only [go_sem]
    refine ⟨_, _, [100, 101, 102, 103, 105, 106, 107], tau [([106], [32]), ([107], [24])], ⟨rfl, rfl⟩, ?_⟩
    unfold NQ RO TO tksD
    simp only [go_sem]
    simp only [List.length_append, List.length_singleton, and_self]
  · have h' : s2.sees 7 b = true := by simpa using h
    have hsl := sees_len h'
    rw [may_yes h', hQ]
    rw [if_pos h'] at hb
    simp only [go_sem]
    refine ⟨⟨(m, s2.next, l ++ [fd], ks ++ [x1]), hb, by show s2.next.l.length < m; omega, by simp [hlk], by show (l ++ [fd]).length + s2.next.l.length ≤ _; rw [List.length_append, List.length_singleton]; omega, by show s2.next.nest = N; rw [← hqn, ← g1.nest, ← z2]; rfl⟩, by show s2.next.l.length < q.l.length; omega, tau [([97], [32]), ([98], [24])], ?_, ?_, ?_, ?_, ?_⟩ <;> simp only [go_sem]
    all_goals simp only [List.length_append, List.length_singleton, and_self]
theorem f340_ok {G} {N : Nat} {ex : PS → PR} (hex : ∀ s, GP 1 s (ex s)) (hc : Reads 53 G N ex) : ReadsP 340 G N (recordS ex) := by
  intro s p hl hN
  generalize hR : recordS ex s p = R
  unfold recordS at hR
  have h0 := f224_ok (G := G) s [125] (by omega)
  have hg := parts_good hex [44] fieldS SS.field s.l.length.succ s [] [] rfl (fun _ h => by cases h)
  have hp := f353_ok (G := G) (b := [44]) hex hc (f354_ok (G := G)) (fun s l => SS.field s l) s (nd0 11 p) hl hN
  rw [show (fun s l => fieldT s s.peek l) = fieldS from rfl] at hp
  obtain ⟨F, hF⟩ : ∃ F, F = partsS ex [44] fieldS s.l.length.succ s [] [] := ⟨_, rfl⟩
  rw [← hF] at hg hp
  simp only [← hF] at hR
  obtain ⟨fl, ks, q⟩ := F
  simp only at hp hR
  have g1 := hg.sz
  have g2 := hg.ln
  have g3 := hg.ss.len
  have g4 := hg.eq
  simp only [sumL, List.map_nil, List.sum_nil, List.length_nil] at g1 g2 g3 g4
  have hm := f97_ok (G := G) q 7 [125] (by omega) (by decide)
  have h4 := f86_ok (G := G) { nd0 11 p with l := fl } ks (by simp only; omega) (by omega) (by simp only [sumL]; omega)
    (fun l h => (hg.tr l h).kids.2) (fun l h => (hg.wd (s.l.length + 1) (fun _ h => by cases h) (by simp only; omega) l h).mono (by omega))
  unfold RO TO tksD
  refine funO_ok Tryz.func340 rfl (by decide +kernel) (by simp [Tryz.ntmps340]) (veil fun E => ?_)
  simp only [go_sem]
  refine e_callO E [.at [100] 0, .d (.str [125])] (RO s) [100, 101] (h0) rfl rfl ⟨by simp only [go_sem], by first | (rw [mk_used]; decide) | (simp only [go_sem]; done) | (simp only [go_sem]; rw [mk_used]; decide) | (simp only [go_sem]; decide)⟩ rfl (by unfold RO TO tksD; simp only [go_sem]) (by unfold RO TO; simp only [go_sem]) ?_
  rintro _ _ ⟨rfl, rfl⟩
  unfold RO TO tksD
  simp only [go_sem]
  refine e_if E (fun h => ?_) (fun h => ?_) <;> simp only [go_sem]
  · rw [if_pos h] at hR
    rw [may_yes h]
    have hlf := f93_ok (G := G) (nd0 11 p) rfl
    generalize leafE (nd0 11 p) = L at hlf hR
    unfold exD at hlf
    refine e_call E hlf rfl rfl (by simp) ?_
    rintro _ rfl
    simp only [go_sem]
    subst hR
    refine ⟨_, _, [100, 101], id, ⟨rfl, rfl⟩, ?_⟩
    simp only [go_sem]
    rfl
  · rw [if_neg (by rw [h]; decide)] at hR
    rw [may_no h]
    refine e_thawB E [5] 7 98 (some 3) [.d (i64 11), .d (i64 0), .d (i64 0), .d (i64 0), .d (i64 0), .d (.str []), .d (.str []), .d .nils, .d (i64 p)] rfl rfl (by rw [mk_used]; decide) rfl ?_
    simp only [go_sem]
    refine e_callS E (tau [([105], [2]), ([102], [5]), ([103], [98])]) [.at [100] 0, .at [102] 0, .d (.str [44]), .clo 354 [.at [105] 0, .at [102] 0]] (NO s (nd0 11 p) []) [100, 101, 102, 103, 105] (hp) rfl (by simp only [go_sem]; try rfl) ⟨by simp only [go_sem], by first | (rw [mk_used]; decide) | (simp only [go_sem]; done) | (simp only [go_sem]; rw [mk_used]; decide) | (simp only [go_sem]; decide)⟩ rfl (by unfold NO FO RO TO tksD; simp only [go_sem]; try rfl) (by unfold NO FO RO TO; simp only [go_sem]) ?_
    rintro _ _ ⟨rfl, rfl⟩
    unfold NQ NO FO RO TO tksD nd0
    simp only [go_sem]
    refine e_callO E [.at [100] 0, .d (i64 7), .d (.str [125])] (RO q) [100, 101] (hm) rfl rfl ⟨by simp only [go_sem], by first | (rw [mk_used]; decide) | (simp only [go_sem]; done) | (simp only [go_sem]; rw [mk_used]; decide) | (simp only [go_sem]; decide)⟩ rfl (by unfold RO TO tksD; simp only [go_sem]) (by unfold RO TO; simp only [go_sem]) ?_
    rintro _ _ ⟨rfl, rfl⟩
    unfold RO TO tksD
    simp only [go_sem]
    refine e_frzA E [15, 107] (some 1) (ks.map exD) rfl (by simp only [go_sem]; rfl) ?_
    simp only [go_sem]
    refine e_frzA E [15, 106] (some 3) (fl.map fD) rfl (by simp only [go_sem]; rfl) ?_
    simp only [go_sem]
    generalize joinE { nd0 11 p with l := fl } ks = J at h4 hR
    unfold exD at h4
    refine e_call E h4 rfl rfl (by simp) ?_
    rintro _ rfl
    simp only [go_sem]
    subst hR
    refine ⟨_, _, [100, 101], id, ⟨rfl, rfl⟩, ?_⟩
    simp only [go_sem]
    rfl
theorem f341_ok {G} {N : Nat} {ex : PS → PR} (hex : ∀ s, GP 1 s (ex s)) (hc : Reads 53 G N ex) : ReadsP 341 G N (casesS ex) := by
  intro s p hl hN
  generalize hR : casesS ex s p = R
  unfold casesS at hR
  have ce := hc s hl hN
  have he := hex s
  obtain ⟨e, s0, e0⟩ : ∃ e s0, ex s = (e, s0) := ⟨_, _, rfl⟩
  rw [e0] at ce he hR
  simp only at ce hR
  have le := he.ss.len
  have ne := he.ss.nest
  have ze := he.sz
  simp only at le ne ze
  have cm := f97_ok (G := G) s0 1 bOf (by omega) (by decide)
  have hm := SS.must s0 1 bOf
  generalize s0.must 1 bOf = s1 at cm hm hR
  have lm := hm.len
  have nm := hm.nest
  have hg := parts_good hex [124] branchS SS.branch s1.l.length.succ s1 [] [] rfl (fun _ h => by cases h)
  have hp := f353_ok (G := G) (b := [124]) hex hc (f356_ok (G := G)) (fun s l => SS.branch s l) s1 (nd0 14 p) (by omega) (by rw [nm, ne, hN])
  rw [show (fun s l => branchT s s.peek l) = branchS from rfl] at hp
  obtain ⟨F, hF⟩ : ∃ F, F = partsS ex [124] branchS s1.l.length.succ s1 [] [] := ⟨_, rfl⟩
  rw [← hF] at hg hp
  simp only [← hF] at hR
  obtain ⟨fl, ks, q⟩ := F
  simp only at hp hR
  have g1 := hg.sz
  have g2 := hg.ln
  have g3 := hg.ss.len
  have g4 := hg.eq
  simp only [sumL, List.map_nil, List.sum_nil, List.length_nil] at g1 g2 g3 g4
  have cx := f97_ok (G := G) q 1 bEnd (by omega) (by decide)
  have h4 := f86_ok (G := G) { nd0 14 p with l := fl } (e :: ks) (by simp only; omega) (by rw [List.length_cons]; omega) (by simp only [sumL, List.map_cons, List.sum_cons]; omega)
    (fun l h => by
      rcases List.mem_cons.1 h with rfl | h
      · exact he.tr.kids.2
      · exact (hg.tr l h).kids.2)
    (fun l h => by
      rcases List.mem_cons.1 h with rfl | h
      · exact he.wd.mono (by omega)
      · exact (hg.wd (s1.l.length + 1) (fun _ h => by cases h) (by simp only; omega) l h).mono (by omega))
  unfold exD at ce
  unfold RO TO tksD
  refine funO_ok Tryz.func341 rfl (by decide +kernel) (by simp [Tryz.ntmps341]) (veil fun E => ?_)
  simp only [go_sem]
  refine e_callO E [.at [100] 0] (RO s) [100, 101] (ce) rfl rfl ⟨by simp only [go_sem], by first | (rw [mk_used]; decide) | (simp only [go_sem]; done) | (simp only [go_sem]; rw [mk_used]; decide) | (simp only [go_sem]; decide)⟩ rfl (by unfold RO TO tksD; simp only [go_sem]) (by unfold RO TO; simp only [go_sem]) ?_
  rintro _ _ ⟨rfl, rfl⟩
  unfold RO TO tksD
  simp only [go_sem]
  refine e_callO E [.at [100] 0, .d (i64 1), .d (.str bOf)] (RO s0) [100, 101] (cm) rfl rfl ⟨by simp only [go_sem], by first | (rw [mk_used]; decide) | (simp only [go_sem]; done) | (simp only [go_sem]; rw [mk_used]; decide) | (simp only [go_sem]; decide)⟩ rfl (by unfold RO TO tksD; simp only [go_sem]) (by unfold RO TO; simp only [go_sem]) ?_
  rintro _ _ ⟨rfl, rfl⟩
  unfold RO TO tksD
  simp only [go_sem]
  refine e_thawB E [5] 7 98 (some 3) [.d (i64 14), .d (i64 0), .d (i64 0), .d (i64 0), .d (i64 0), .d (.str []), .d (.str []), .d .nils, .d (i64 p)] rfl rfl (by rw [mk_used]; decide) rfl ?_
  simp only [go_sem]
  refine e_callS E (tau [([105], [2]), ([102], [5]), ([103], [98])]) [.at [100] 0, .at [102] 0, .d (.str [124]), .clo 356 [.at [105] 0, .at [102] 0]] (NO s1 (nd0 14 p) []) [100, 101, 102, 103, 105] (hp) rfl (by simp only [go_sem]; try rfl) ⟨by simp only [go_sem], by first | (rw [mk_used]; decide) | (simp only [go_sem]; done) | (simp only [go_sem]; rw [mk_used]; decide) | (simp only [go_sem]; decide)⟩ rfl (by unfold NO FO RO TO tksD; simp only [go_sem]; try rfl) (by unfold NO FO RO TO; simp only [go_sem]) ?_
  rintro _ _ ⟨rfl, rfl⟩
  unfold NQ NO FO RO TO tksD nd0
  simp only [go_sem]
  refine e_callO E [.at [100] 0, .d (i64 1), .d (.str bEnd)] (RO q) [100, 101] (cx) rfl rfl ⟨by simp only [go_sem], by first | (rw [mk_used]; decide) | (simp only [go_sem]; done) | (simp only [go_sem]; rw [mk_used]; decide) | (simp only [go_sem]; decide)⟩ rfl (by unfold RO TO tksD; simp only [go_sem]) (by unfold RO TO; simp only [go_sem]) ?_
  rintro _ _ ⟨rfl, rfl⟩
  unfold RO TO tksD
  simp only [go_sem]
  refine c_frzA E [16, 107] (some 1) (ks.map exD) rfl ?_
  simp only [go_sem]
  refine c_frzA E [16, 106] (some 3) (fl.map fD) rfl ?_
  simp only [go_sem]
  refine region_xv mixed E fun X => ?_
  simp only [go_sem]
  refine ⟨by omega, ?_⟩
  generalize joinE { nd0 14 p with l := fl } (e :: ks) = J at h4 hR
  unfold exD at h4
  refine x_callF X 23 [23] (some 1) (.agg [.sl (some 9) (e.map enD)] :: ks.map exD) h4 (fun _ => rfl) rfl rfl rfl (by simp) (by rw [List.drop_zero, List.take_of_length_le (by simp; omega)]; rfl) (by simp only [go_sem]) ?_
  simp only [go_sem]
  refine ⟨by decide +kernel, ?_⟩
  subst hR
  refine ⟨_, _, [100, 101], id, ⟨rfl, rfl⟩, ?_⟩
  simp only [go_sem]
  rfl
theorem f329_ok {G} {N : Nat} {ex : PS → PR} (hex : ∀ s, GP 1 s (ex s)) (hc : Reads 53 G N ex) : Reads 329 G N (atomS ex) := by
  intro s hl hN
  generalize hR : atomS ex s = R
  unfold atomS at hR
  rw [peek_eq] at hR
  have hpk := f90_ok (G := G) s.l s.fin (by omega)
  generalize peekT s.l s.fin = t at hpk hR
  simp only at hR
  have hnx : s.next.nest = N := hN
  have hnl : s.next.l.length ≤ 100000 := by have := (SS.next s).len; omega
  have c1 := f95_ok (G := G) s bTrue (by omega)
  have c2 := f95_ok (G := G) s bFalse (by omega)
  have c3 := f224_ok (G := G) s [40] (by omega)
  have c4 := f224_ok (G := G) s [123] (by omega)
  have c5 := f95_ok (G := G) s bCase (by omega)
  have cr := f340_ok (G := G) hex hc s.next t.pos hnl hnx
  have cc := f341_ok (G := G) hex hc s.next t.pos hnl hnx
  have ce := hc s.next hnl hnx
  have he := hex s.next
  generalize recordS ex s.next t.pos = R1 at hR cr
  generalize casesS ex s.next t.pos = R2 at hR cc
  obtain ⟨e0, s0, h0⟩ : ∃ e0 s0, ex s.next = (e0, s0) := ⟨_, _, rfl⟩
  rw [h0] at ce hR he
  have ln := he.ss.len
  simp only at hR ce ln
  have cm := f97_ok (G := G) s0 7 [41] (by omega) (by decide)
  unfold exD at cr cc ce
  unfold RO TO tksD
  refine funO_ok Tryz.func329 rfl (by decide +kernel) (by simp [Tryz.ntmps329]) (veil fun E => ?_)
  simp only [go_sem]
  refine e_callO E [.at [101] 0] (TO s.l s.fin) [101] (hpk) rfl rfl ⟨by simp only [go_sem], by first | (rw [mk_used]; decide) | (simp only [go_sem]; done) | (simp only [go_sem]; rw [mk_used]; decide) | (simp only [go_sem]; decide)⟩ rfl (by unfold TO tksD; simp only [go_sem]) (by unfold TO; simp only [go_sem]) ?_
  rintro _ _ ⟨rfl, rfl⟩
  unfold TO tksD
  simp only [go_sem]
  refine e_callO E [.at [100] 0] (RO s) [100, 101] (f92_ok s) rfl rfl ⟨by simp only [go_sem], by first | (rw [mk_used]; decide) | (simp only [go_sem]; done) | (simp only [go_sem]; rw [mk_used]; decide) | (simp only [go_sem]; decide)⟩ rfl (by unfold RO TO tksD; simp only [go_sem]) (by unfold RO TO; simp only [go_sem]) ?_
  rintro _ _ ⟨rfl, rfl⟩
  unfold RO TO tksD
  simp only [go_sem]
  refine e_if E (fun h => ?_) (fun h => ?_) <;> simp only [go_sem]
  · rw [if_pos (by simpa using h)] at hR
    refine e_callO E [.at [100] 0] (RO s) [100, 101] (f55_ok s (by omega)) rfl rfl ⟨by simp only [go_sem], by first | (rw [mk_used]; decide) | (simp only [go_sem]; done) | (simp only [go_sem]; rw [mk_used]; decide) | (simp only [go_sem]; decide)⟩ rfl (by unfold RO TO tksD; simp only [go_sem]) (by unfold RO TO; simp only [go_sem]) ?_
    rintro _ _ ⟨rfl, rfl⟩
    unfold RO TO tksD
    simp only [go_sem]
    have hlf := f93_ok (G := G) (nd0 1 0) rfl
    unfold noE at hR
    generalize leafE (nd0 1 0) = L at hlf hR
    unfold exD at hlf
    refine e_call E hlf rfl rfl (by simp) ?_
    rintro _ rfl
    simp only [go_sem]
    subst hR
    refine ⟨_, _, [100, 101], id, ⟨rfl, rfl⟩, ?_⟩
    simp only [go_sem]
    all_goals first | rfl | exact ⟨rfl, rfl, rfl⟩
  rw [if_neg (by simpa using h)] at hR
  refine e_ifd E (fun h => ?_) (fun h => ?_) <;> simp only [go_sem]
  · rw [if_pos h] at hR
    refine e_callO E [.at [101] 0] (TO s.l s.fin) [101] (f148_ok s.l s.fin (by omega)) rfl rfl ⟨by simp only [go_sem], by first | (rw [mk_used]; decide) | (simp only [go_sem]; done) | (simp only [go_sem]; rw [mk_used]; decide) | (simp only [go_sem]; decide)⟩ rfl (by unfold TO tksD; simp only [go_sem]) (by unfold TO; simp only [go_sem]) ?_
    rintro _ _ ⟨rfl, rfl⟩
    unfold TO tksD
    simp only [go_sem]
    have hlf := f93_ok (G := G) ({ nd0 1 t.pos with n := t.n }) rfl
    generalize leafE ({ nd0 1 t.pos with n := t.n }) = L at hlf hR
    unfold exD at hlf
    refine e_call E hlf rfl rfl (by simp) ?_
    rintro _ rfl
    simp only [go_sem]
    subst hR
    refine ⟨_, _, [100, 101], id, ⟨rfl, rfl⟩, ?_⟩
    simp only [go_sem]
    all_goals first | rfl | exact ⟨rfl, rfl, rfl⟩
  rw [if_neg h] at hR
  refine e_ifd E (fun h => ?_) (fun h => ?_) <;> simp only [go_sem]
  · rw [if_pos h] at hR
    refine e_callO E [.at [101] 0] (TO s.l s.fin) [101] (f148_ok s.l s.fin (by omega)) rfl rfl ⟨by simp only [go_sem], by first | (rw [mk_used]; decide) | (simp only [go_sem]; done) | (simp only [go_sem]; rw [mk_used]; decide) | (simp only [go_sem]; decide)⟩ rfl (by unfold TO tksD; simp only [go_sem]) (by unfold TO; simp only [go_sem]) ?_
    rintro _ _ ⟨rfl, rfl⟩
    unfold TO tksD
    simp only [go_sem]
    have hlf := f93_ok (G := G) ({ nd0 3 t.pos with s := t.s }) rfl
    generalize leafE ({ nd0 3 t.pos with s := t.s }) = L at hlf hR
    unfold exD at hlf
    refine e_call E hlf rfl rfl (by simp) ?_
    rintro _ rfl
    simp only [go_sem]
    subst hR
    refine ⟨_, _, [100, 101], id, ⟨rfl, rfl⟩, ?_⟩
    simp only [go_sem]
    all_goals first | rfl | exact ⟨rfl, rfl, rfl⟩
  rw [if_neg h] at hR
  refine e_ifd E (fun h => ?_) (fun h => ?_) <;> simp only [go_sem]
  · rw [if_pos h] at hR
    refine e_callO E [.at [101] 0] (TO s.l s.fin) [101] (f148_ok s.l s.fin (by omega)) rfl rfl ⟨by simp only [go_sem], by first | (rw [mk_used]; decide) | (simp only [go_sem]; done) | (simp only [go_sem]; rw [mk_used]; decide) | (simp only [go_sem]; decide)⟩ rfl (by unfold TO tksD; simp only [go_sem]) (by unfold TO; simp only [go_sem]) ?_
    rintro _ _ ⟨rfl, rfl⟩
    unfold TO tksD
    simp only [go_sem]
    have hlf := f93_ok (G := G) ({ nd0 4 t.pos with name := t.s }) rfl
    generalize leafE ({ nd0 4 t.pos with name := t.s }) = L at hlf hR
    unfold exD at hlf
    refine e_call E hlf rfl rfl (by simp) ?_
    rintro _ rfl
    simp only [go_sem]
    subst hR
    refine ⟨_, _, [100, 101], id, ⟨rfl, rfl⟩, ?_⟩
    simp only [go_sem]
    all_goals first | rfl | exact ⟨rfl, rfl, rfl⟩
  rw [if_neg h] at hR
  refine e_callO E [.at [100] 0, .d (.str bTrue)] (RO s) [100, 101] (c1) rfl rfl ⟨by simp only [go_sem], by first | (rw [mk_used]; decide) | (simp only [go_sem]; done) | (simp only [go_sem]; rw [mk_used]; decide) | (simp only [go_sem]; decide)⟩ rfl (by unfold RO TO tksD; simp only [go_sem]) (by unfold RO TO; simp only [go_sem]) ?_
  rintro _ _ ⟨rfl, rfl⟩
  unfold RO TO tksD
  simp only [go_sem]
  refine e_if E (fun h => ?_) (fun h => ?_) <;> simp only [go_sem]
  · rw [if_pos h] at hR
    rw [may_yes h]
    have hlf := f93_ok (G := G) ({ nd0 2 t.pos with n := 1 }) rfl
    generalize leafE ({ nd0 2 t.pos with n := 1 }) = L at hlf hR
    unfold exD at hlf
    refine e_call E hlf rfl rfl (by simp) ?_
    rintro _ rfl
    simp only [go_sem]
    subst hR
    refine ⟨_, _, [100, 101], id, ⟨rfl, rfl⟩, ?_⟩
    simp only [go_sem]
    all_goals first | rfl | exact ⟨rfl, rfl, rfl⟩
  rw [if_neg (by rw [h]; decide)] at hR
  rw [may_no h]
  refine e_callO E [.at [100] 0, .d (.str bFalse)] (RO s) [100, 101] (c2) rfl rfl ⟨by simp only [go_sem], by first | (rw [mk_used]; decide) | (simp only [go_sem]; done) | (simp only [go_sem]; rw [mk_used]; decide) | (simp only [go_sem]; decide)⟩ rfl (by unfold RO TO tksD; simp only [go_sem]) (by unfold RO TO; simp only [go_sem]) ?_
  rintro _ _ ⟨rfl, rfl⟩
  unfold RO TO tksD
  simp only [go_sem]
  refine e_if E (fun h => ?_) (fun h => ?_) <;> simp only [go_sem]
  · rw [if_pos h] at hR
    rw [may_yes h]
    have hlf := f93_ok (G := G) (nd0 2 t.pos) rfl
    generalize leafE (nd0 2 t.pos) = L at hlf hR
    unfold exD at hlf
    refine e_call E hlf rfl rfl (by simp) ?_
    rintro _ rfl
    simp only [go_sem]
    subst hR
    refine ⟨_, _, [100, 101], id, ⟨rfl, rfl⟩, ?_⟩
    simp only [go_sem]
    all_goals first | rfl | exact ⟨rfl, rfl, rfl⟩
  rw [if_neg (by rw [h]; decide)] at hR
  rw [may_no h]
  refine e_callO E [.at [100] 0, .d (.str [40])] (RO s) [100, 101] (c3) rfl rfl ⟨by simp only [go_sem], by first | (rw [mk_used]; decide) | (simp only [go_sem]; done) | (simp only [go_sem]; rw [mk_used]; decide) | (simp only [go_sem]; decide)⟩ rfl (by unfold RO TO tksD; simp only [go_sem]) (by unfold RO TO; simp only [go_sem]) ?_
  rintro _ _ ⟨rfl, rfl⟩
  unfold RO TO tksD
  simp only [go_sem]
  refine e_if E (fun h => ?_) (fun h => ?_) <;> simp only [go_sem]
  · rw [if_pos h] at hR
    rw [may_yes h]
    refine e_callO E [.at [100] 0] (RO s.next) [100, 101] (ce) rfl rfl ⟨by simp only [go_sem], by first | (rw [mk_used]; decide) | (simp only [go_sem]; done) | (simp only [go_sem]; rw [mk_used]; decide) | (simp only [go_sem]; decide)⟩ rfl (by unfold RO TO tksD; simp only [go_sem]) (by unfold RO TO; simp only [go_sem]) ?_
    rintro _ _ ⟨rfl, rfl⟩
    unfold RO TO tksD
    simp only [go_sem]
    refine e_callO E [.at [100] 0, .d (i64 7), .d (.str [41])] (RO s0) [100, 101] (cm) rfl rfl ⟨by simp only [go_sem], by first | (rw [mk_used]; decide) | (simp only [go_sem]; done) | (simp only [go_sem]; rw [mk_used]; decide) | (simp only [go_sem]; decide)⟩ rfl (by unfold RO TO tksD; simp only [go_sem]) (by unfold RO TO; simp only [go_sem]) ?_
    rintro _ _ ⟨rfl, rfl⟩
    unfold RO TO tksD
    simp only [go_sem]
    subst hR
    refine ⟨_, _, [100, 101], id, ⟨rfl, rfl⟩, ?_⟩
    simp only [go_sem]
    all_goals rfl
  rw [if_neg (by rw [h]; decide)] at hR
  rw [may_no h]
  refine e_callO E [.at [100] 0, .d (.str [123])] (RO s) [100, 101] (c4) rfl rfl ⟨by simp only [go_sem], by first | (rw [mk_used]; decide) | (simp only [go_sem]; done) | (simp only [go_sem]; rw [mk_used]; decide) | (simp only [go_sem]; decide)⟩ rfl (by unfold RO TO tksD; simp only [go_sem]) (by unfold RO TO; simp only [go_sem]) ?_
  rintro _ _ ⟨rfl, rfl⟩
  unfold RO TO tksD
  simp only [go_sem]
  refine e_if E (fun h => ?_) (fun h => ?_) <;> simp only [go_sem]
  · rw [if_pos h] at hR
    rw [may_yes h]
    refine e_callO E [.at [100] 0, .d (i64 t.pos)] (RO s.next) [100, 101] (cr) rfl rfl ⟨by simp only [go_sem], by first | (rw [mk_used]; decide) | (simp only [go_sem]; done) | (simp only [go_sem]; rw [mk_used]; decide) | (simp only [go_sem]; decide)⟩ rfl (by unfold RO TO tksD; simp only [go_sem]) (by unfold RO TO; simp only [go_sem]) ?_
    rintro _ _ ⟨rfl, rfl⟩
    unfold RO TO tksD
    simp only [go_sem]
    subst hR
    refine ⟨_, _, [100, 101], id, ⟨rfl, rfl⟩, ?_⟩
    simp only [go_sem]
    all_goals rfl
  rw [if_neg (by rw [h]; decide)] at hR
  rw [may_no h]
  refine e_callO E [.at [100] 0, .d (.str bCase)] (RO s) [100, 101] (c5) rfl rfl ⟨by simp only [go_sem], by first | (rw [mk_used]; decide) | (simp only [go_sem]; done) | (simp only [go_sem]; rw [mk_used]; decide) | (simp only [go_sem]; decide)⟩ rfl (by unfold RO TO tksD; simp only [go_sem]) (by unfold RO TO; simp only [go_sem]) ?_
  rintro _ _ ⟨rfl, rfl⟩
  unfold RO TO tksD
  simp only [go_sem]
  refine e_if E (fun h => ?_) (fun h => ?_) <;> simp only [go_sem]
  · rw [if_pos h] at hR
    rw [may_yes h]
    refine e_callO E [.at [100] 0, .d (i64 t.pos)] (RO s.next) [100, 101] (cc) rfl rfl ⟨by simp only [go_sem], by first | (rw [mk_used]; decide) | (simp only [go_sem]; done) | (simp only [go_sem]; rw [mk_used]; decide) | (simp only [go_sem]; decide)⟩ rfl (by unfold RO TO tksD; simp only [go_sem]) (by unfold RO TO; simp only [go_sem]) ?_
    rintro _ _ ⟨rfl, rfl⟩
    unfold RO TO tksD
    simp only [go_sem]
    subst hR
    refine ⟨_, _, [100, 101], id, ⟨rfl, rfl⟩, ?_⟩
    simp only [go_sem]
    all_goals rfl
  rw [if_neg (by rw [h]; decide)] at hR
  rw [may_no h]
  refine e_callO E [.at [100] 0] (RO s) [100, 101] (f55_ok s (by omega)) rfl rfl ⟨by simp only [go_sem], by first | (rw [mk_used]; decide) | (simp only [go_sem]; done) | (simp only [go_sem]; rw [mk_used]; decide) | (simp only [go_sem]; decide)⟩ rfl (by unfold RO TO tksD; simp only [go_sem]) (by unfold RO TO; simp only [go_sem]) ?_
  rintro _ _ ⟨rfl, rfl⟩
  unfold RO TO tksD
  simp only [go_sem]
  have hlf := f93_ok (G := G) (nd0 1 0) rfl
  unfold noE at hR
  generalize leafE (nd0 1 0) = L at hlf hR
  unfold exD at hlf
  refine e_call E hlf rfl rfl (by simp) ?_
  rintro _ rfl
  simp only [go_sem]
  subst hR
  refine ⟨_, _, [100, 101], id, ⟨rfl, rfl⟩, ?_⟩
  simp only [go_sem]
  all_goals first | rfl | exact ⟨rfl, rfl, rfl⟩
theorem fail_err (s : PS) (e p : Int) (he : e ≠ 0) : (s.fail e p).err ≠ 0 := by
  unfold PS.fail
  split
  · exact he
  · assumption
theorem f53_zero {G} : Reads 53 G 100 (exprS 0) := by
  intro s hl hN
  generalize hR : exprS 0 s = R
  unfold exprS at hR
  rw [peek_eq] at hR
  have hpk := f90_ok (G := G) s.l s.fin (by omega)
  generalize peekT s.l s.fin = t at hpk hR
  have hf := f91_ok (G := G) s 6 t.pos
  have hne := fail_err s 6 t.pos (by decide)
  generalize s.fail 6 t.pos = s2 at hf hne hR
  unfold noE at hR
  have hlf := f93_ok (G := G) (nd0 1 0) rfl
  generalize leafE (nd0 1 0) = L at hlf hR
  subst hR
  unfold exD at hlf
  unfold RO TO tksD
  refine funD_ok Tryz.func53 rfl (by decide +kernel) (by simp [Tryz.ntmps53]) fun B0 hB0 => ?_
  refine Y_seq (Y_codeE fun E => ?_)
  simp only [go_sem]
  refine Y_seq (Y_codeE fun E => ?_)
  simp only [go_sem]
  refine e_callO E [.at [101] 0] (TO s.l s.fin) [101] (hpk) rfl rfl ⟨by simp only [go_sem], by first | (rw [mk_used]; decide) | (simp only [go_sem]; done) | (simp only [go_sem]; rw [mk_used]; decide) | (simp only [go_sem]; decide)⟩ rfl (by unfold TO tksD; simp only [go_sem]) (by unfold TO; simp only [go_sem]) ?_
  rintro _ _ ⟨rfl, rfl⟩
  unfold TO tksD
  simp only [go_sem]
  refine Y_seq (Y_codeE fun E => ?_)
  simp only [go_sem]
  refine e_ifd E (fun h => ?_) (fun h => absurd (by omega) h) <;> simp only [go_sem]
  refine e_callO E [.at [100] 0, .d (i64 6), .d (i64 t.pos)] (RO s) [100, 101] (hf) rfl rfl ⟨by simp only [go_sem], by first | (rw [mk_used]; decide) | (simp only [go_sem]; done) | (simp only [go_sem]; rw [mk_used]; decide) | (simp only [go_sem]; decide)⟩ rfl (by unfold RO TO tksD; simp only [go_sem]) (by unfold RO TO; simp only [go_sem]) ?_
  rintro _ _ ⟨rfl, rfl⟩
  unfold RO TO tksD
  simp only [go_sem]
  refine Y_seq (Y_codeE fun E => ?_)
  simp only [go_sem]
  refine e_callO E [.at [100] 0] (RO s2) [100, 101] (f92_ok s2) rfl rfl ⟨by simp only [go_sem], by first | (rw [mk_used]; decide) | (simp only [go_sem]; done) | (simp only [go_sem]; rw [mk_used]; decide) | (simp only [go_sem]; decide)⟩ rfl (by unfold RO TO tksD; simp only [go_sem]) (by unfold RO TO; simp only [go_sem]) ?_
  rintro _ _ ⟨rfl, rfl⟩
  unfold RO TO tksD
  simp only [go_sem]
  refine e_if E (fun g => ?_) (fun g => absurd (by simpa using g) hne) <;> simp only [go_sem]
  refine e_call E hlf rfl rfl (by simp) ?_
  rintro _ rfl
  simp only [go_sem]
  refine X_retD0 (.inl rfl) hB0 ?_
  simp only [go_sem]
  refine ⟨_, _, [100, 101], id, ⟨rfl, rfl⟩, ?_⟩
  simp only [go_sem]
  rfl
def nestS (ex : PS → PR) (s : PS) : PR := if s.err ≠ 0 then (noE, s) else
  let r := exprB ex { s with nest := s.nest + 1 }
  (r.1, { r.2 with nest := s.nest })
set_option maxHeartbeats 1000000 in
theorem f53_succ {G} {N : Nat} {ex : PS → PR} (hN0 : N < 100) (hex : ∀ s, GP 1 s (ex s)) (hc : Reads 53 G (N + 1) ex) : Reads 53 G N (nestS ex) := by
  intro s hl hN
  generalize hR : nestS ex s = R
  unfold nestS exprB at hR
  have hp1 : ({ s with nest := s.nest + 1 } : PS).peek = peekT s.l s.fin := rfl
  obtain ⟨s1, hs1⟩ : ∃ s1 : PS, s1 = { s with nest := s.nest + 1 } := ⟨_, rfl⟩
  rw [← hs1] at hp1
  simp only [← hs1, hp1] at hR
  have hpk := f90_ok (G := G) s.l s.fin (by omega)
  generalize peekT s.l s.fin = t at hpk hR
  have l1 : s1.l.length ≤ 100000 := by rw [hs1]; exact hl
  have n1 : s1.nest = N + 1 := by rw [hs1]; show s.nest + 1 = _; rw [hN]
  have hlf := f93_ok (G := G) (nd0 1 0) rfl
  unfold noE at hR
  generalize leafE (nd0 1 0) = L at hlf hR
  have c1 := f95_ok (G := G) s1 bFun (by omega)
  have c2 := f95_ok (G := G) s1 bLet (by omega)
  have c3 := f95_ok (G := G) s1 bIf (by omega)
  have nn := (SS.next s1).nest
  have ln := (SS.next s1).len
  have c4 := f98_ok (G := G) hex hc s1.next t.pos (by omega) (nn.trans n1)
  have c5 := f99_ok (G := G) hex hc s1.next t.pos (by omega) (nn.trans n1)
  have c6 := f100_ok (G := G) hex (f149_ok hex (f223_ok hex (f271_ok hex (f305_ok hex (f329_ok hex hc))))) s1 l1 n1
  have g4 := (let_good hex s1.next t.pos).ss.nest
  have g5 := (if_good hex s1.next t.pos).ss.nest
  have g6 := (cmp_good hex s1).ss.nest
  generalize letS ex s1.next t.pos = R4 at c4 g4 hR
  generalize ifS ex s1.next t.pos = R5 at c5 g5 hR
  generalize cmpS ex s1 = R6 at c6 g6 hR
  have c7 := f96_ok (G := G) s1.next 2 (by omega)
  have g7 := SS.of s1.next 2
  obtain ⟨nm, s2, e2⟩ : ∃ nm s2, s1.next.of 2 = (nm, s2) := ⟨_, _, rfl⟩
  rw [e2] at c7 g7
  simp only [e2] at hR
  simp only at c7 g7
  have l2 := g7.len
  have n2 := g7.nest
  have c8 := f97_ok (G := G) s2 7 bTo (by omega) (by decide)
  have g8 := SS.must s2 7 bTo
  generalize s2.must 7 bTo = s3 at c8 g8 hR
  have l3 := g8.len
  have n3 := g8.nest
  have c9 := hc s3 (by omega) (by rw [n3, n2, nn, n1])
  have g9 := hex s3
  obtain ⟨b, s4, e4⟩ : ∃ b s4, ex s3 = (b, s4) := ⟨_, _, rfl⟩
  rw [e4] at c9 g9
  simp only [e4] at hR
  have n4 := g9.ss.nest
  have z4 := g9.sz
  simp only at n4 z4
  have h4 := f86_N (G := G) { nd0 5 t.pos with name := nm } [b] rfl (by simp) (by simp only [sumL, List.map_cons, List.map_nil, List.sum_cons, List.sum_nil]; omega)
    (fun l h => by rw [List.mem_singleton.1 h]; exact g9.tr.kids.2)
    (fun l h => by rw [List.mem_singleton.1 h]; exact g9.wd.mono (by omega))
  generalize joinE { nd0 5 t.pos with name := nm } [b] = J at h4 hR
  unfold exD at hlf c4 c5 c6 c9 h4
  unfold RO TO tksD
  refine funD_ok Tryz.func53 rfl (by decide +kernel) (by simp [Tryz.ntmps53]) fun B0 hB0 => ?_
  refine Y_seq (Y_codeE fun E => ?_)
  simp only [go_sem]
  refine Y_seq (Y_codeE fun E => ?_)
  simp only [go_sem]
  refine e_callO E [.at [101] 0] (TO s.l s.fin) [101] (hpk) rfl rfl ⟨by simp only [go_sem], by first | (rw [mk_used]; decide) | (simp only [go_sem]; done) | (simp only [go_sem]; rw [mk_used]; decide) | (simp only [go_sem]; decide)⟩ rfl (by unfold TO tksD; simp only [go_sem]) (by unfold TO; simp only [go_sem]) ?_
  rintro _ _ ⟨rfl, rfl⟩
  unfold TO tksD
  simp only [go_sem]
  refine Y_seq (Y_codeE fun E => ?_)
  simp only [go_sem]
  refine e_ifd E (fun h => absurd h (by omega)) (fun h => ?_) <;> simp only [go_sem]
  refine Y_seq (Y_codeE fun E => ?_)
  simp only [go_sem]
  refine e_callO E [.at [100] 0] (RO s) [100, 101] (f92_ok s) rfl rfl ⟨by simp only [go_sem], by first | (rw [mk_used]; decide) | (simp only [go_sem]; done) | (simp only [go_sem]; rw [mk_used]; decide) | (simp only [go_sem]; decide)⟩ rfl (by unfold RO TO tksD; simp only [go_sem]) (by unfold RO TO; simp only [go_sem]) ?_
  rintro _ _ ⟨rfl, rfl⟩
  unfold RO TO tksD
  simp only [go_sem]
  refine e_if E (fun g => ?_) (fun g => ?_) <;> simp only [go_sem]
  · rw [if_pos (by simpa using g)] at hR
    refine e_call E hlf rfl rfl (by simp) ?_
    rintro _ rfl
    simp only [go_sem]
    subst hR
    refine X_retD0 (.inl rfl) hB0 ?_
    simp only [go_sem]
    refine ⟨_, _, [100, 101], id, ⟨rfl, rfl⟩, ?_⟩
    simp only [go_sem]
    all_goals first | rfl | exact ⟨rfl, rfl⟩ | exact ⟨rfl, rfl, rfl⟩
  rw [if_neg (by simpa using g)] at hR
  refine Y_seq (Y_codeE fun E => ?_)
  simp only [go_sem]
  rw [w64_in (n := (s.nest : Int) + 1) ⟨by omega, by omega⟩]
  rw [show s.err = s1.err by rw [hs1], show s.pos = s1.pos by rw [hs1], show s.l = s1.l by rw [hs1], show s.fin = s1.fin by rw [hs1], show (s.nest : Int) + 1 = (s1.nest : Int) by rw [n1, ← hN]; rfl]
  refine Y_seq (Y_region ?_)
  refine Y_op rfl ?_
  simp only [go_sem]
  refine Y_defer [[1]] rfl rfl (by intro p hp; rw [List.mem_singleton.1 hp]; exact ⟨_, rfl⟩) ?_
  refine Y_ops_nil ?_
  refine Y_seq (Y_codeE fun E => ?_)
  simp only [go_sem]
  refine e_callO E [.at [100] 0, .d (.str bFun)] (RO s1) [100, 101] (c1) rfl rfl ⟨by simp only [go_sem], by first | (rw [mk_used]; decide) | (simp only [go_sem]; done) | (simp only [go_sem]; rw [mk_used]; decide) | (simp only [go_sem]; decide)⟩ rfl (by unfold RO TO tksD; simp only [go_sem]) (by unfold RO TO; simp only [go_sem]) ?_
  rintro _ _ ⟨rfl, rfl⟩
  unfold RO TO tksD
  simp only [go_sem]
  refine e_if E (fun h => ?_) (fun h => ?_) <;> simp only [go_sem]
  · rw [if_pos h] at hR
    rw [may_yes h]
    refine e_callO E [.at [100] 0, .d (i64 2)] (RO s1.next) [100, 101] (c7) rfl rfl ⟨by simp only [go_sem], by first | (rw [mk_used]; decide) | (simp only [go_sem]; done) | (simp only [go_sem]; rw [mk_used]; decide) | (simp only [go_sem]; decide)⟩ rfl (by unfold RO TO tksD; simp only [go_sem]) (by unfold RO TO; simp only [go_sem]) ?_
    rintro _ _ ⟨rfl, rfl⟩
    unfold RO TO tksD
    simp only [go_sem]
    refine e_callO E [.at [100] 0, .d (i64 7), .d (.str bTo)] (RO s2) [100, 101] (c8) rfl rfl ⟨by simp only [go_sem], by first | (rw [mk_used]; decide) | (simp only [go_sem]; done) | (simp only [go_sem]; rw [mk_used]; decide) | (simp only [go_sem]; decide)⟩ rfl (by unfold RO TO tksD; simp only [go_sem]) (by unfold RO TO; simp only [go_sem]) ?_
    rintro _ _ ⟨rfl, rfl⟩
    unfold RO TO tksD
    simp only [go_sem]
    refine region_xv mixed E fun X => ?_
    simp only [go_sem]
    refine x_callO X [.at [100] 0] (RO s3) [100, 101] _ _ c9 rfl rfl ⟨by simp only [go_sem], by rw [mk_used]; decide⟩ rfl (by unfold RO TO tksD; simp only [go_sem]) (by unfold RO TO; simp only [go_sem]) (by unfold RO TO; simp only [go_sem]) ?_
    unfold RO TO tksD
    simp only [go_sem]
    refine x_callF X 45 [45] (some 1) [.agg [.sl (some 9) (b.map enD)]] h4 (fun _ => rfl) rfl rfl rfl (by simp) rfl (by simp only [go_sem]) ?_
    simp only [go_sem]
    refine ⟨by decide +kernel, ?_⟩
    subst hR
    refine X_retD (ns := [[1]]) (.inl rfl) hB0 Tryz.func94 rfl (by decide +kernel) (by simp [Tryz.ntmps94]) (by intro p hp; rw [List.mem_singleton.1 hp]; simp only [go_sem]) (veil fun E => ?_)
    simp only [go_sem]
    rw [fra_mk]
    simp only [go_sem]
    rw [w64_in (n := (s4.nest : Int) - 1) ⟨by omega, by omega⟩]
    refine ⟨LK_mk (LKL_mem (by simp only [go_sem])), ?_⟩
    simp only [fra_mk]
    simp only [go_sem]
    refine ⟨_, _, [100, 101], id, ⟨rfl, rfl⟩, ?_⟩
    simp only [go_sem]
    have hq : (s4.nest : Int) - 1 = (s.nest : Int) := by omega
    rw [hq]
    exact ⟨rfl, rfl⟩
  rw [if_neg (by rw [h]; decide)] at hR
  rw [may_no h]
  refine e_callO E [.at [100] 0, .d (.str bLet)] (RO s1) [100, 101] (c2) rfl rfl ⟨by simp only [go_sem], by first | (rw [mk_used]; decide) | (simp only [go_sem]; done) | (simp only [go_sem]; rw [mk_used]; decide) | (simp only [go_sem]; decide)⟩ rfl (by unfold RO TO tksD; simp only [go_sem]) (by unfold RO TO; simp only [go_sem]) ?_
  rintro _ _ ⟨rfl, rfl⟩
  unfold RO TO tksD
  simp only [go_sem]
  refine e_if E (fun h => ?_) (fun h => ?_) <;> simp only [go_sem]
  · rw [if_pos h] at hR
    rw [may_yes h]
    refine e_callO E [.at [100] 0, .d (i64 t.pos)] (RO s1.next) [100, 101] (c4) rfl rfl ⟨by simp only [go_sem], by first | (rw [mk_used]; decide) | (simp only [go_sem]; done) | (simp only [go_sem]; rw [mk_used]; decide) | (simp only [go_sem]; decide)⟩ rfl (by unfold RO TO tksD; simp only [go_sem]) (by unfold RO TO; simp only [go_sem]) ?_
    rintro _ _ ⟨rfl, rfl⟩
    unfold RO TO tksD
    simp only [go_sem]
    subst hR
    refine X_retD (ns := [[1]]) (.inl rfl) hB0 Tryz.func94 rfl (by decide +kernel) (by simp [Tryz.ntmps94]) (by intro p hp; rw [List.mem_singleton.1 hp]; simp only [go_sem]) (veil fun E => ?_)
    simp only [go_sem]
    rw [fra_mk]
    simp only [go_sem]
    rw [w64_in (n := (R4.2.nest : Int) - 1) ⟨by omega, by omega⟩]
    refine ⟨LK_mk (LKL_mem (by simp only [go_sem])), ?_⟩
    simp only [fra_mk]
    simp only [go_sem]
    refine ⟨_, _, [100, 101], id, ⟨rfl, rfl⟩, ?_⟩
    simp only [go_sem]
    have hq : (R4.2.nest : Int) - 1 = (s.nest : Int) := by omega
    rw [hq]
    exact ⟨rfl, rfl⟩
  rw [if_neg (by rw [h]; decide)] at hR
  rw [may_no h]
  refine e_callO E [.at [100] 0, .d (.str bIf)] (RO s1) [100, 101] (c3) rfl rfl ⟨by simp only [go_sem], by first | (rw [mk_used]; decide) | (simp only [go_sem]; done) | (simp only [go_sem]; rw [mk_used]; decide) | (simp only [go_sem]; decide)⟩ rfl (by unfold RO TO tksD; simp only [go_sem]) (by unfold RO TO; simp only [go_sem]) ?_
  rintro _ _ ⟨rfl, rfl⟩
  unfold RO TO tksD
  simp only [go_sem]
  refine e_if E (fun h => ?_) (fun h => ?_) <;> simp only [go_sem]
  · rw [if_pos h] at hR
    rw [may_yes h]
    refine e_callO E [.at [100] 0, .d (i64 t.pos)] (RO s1.next) [100, 101] (c5) rfl rfl ⟨by simp only [go_sem], by first | (rw [mk_used]; decide) | (simp only [go_sem]; done) | (simp only [go_sem]; rw [mk_used]; decide) | (simp only [go_sem]; decide)⟩ rfl (by unfold RO TO tksD; simp only [go_sem]) (by unfold RO TO; simp only [go_sem]) ?_
    rintro _ _ ⟨rfl, rfl⟩
    unfold RO TO tksD
    simp only [go_sem]
    subst hR
    refine X_retD (ns := [[1]]) (.inl rfl) hB0 Tryz.func94 rfl (by decide +kernel) (by simp [Tryz.ntmps94]) (by intro p hp; rw [List.mem_singleton.1 hp]; simp only [go_sem]) (veil fun E => ?_)
    simp only [go_sem]
    rw [fra_mk]
    simp only [go_sem]
    rw [w64_in (n := (R5.2.nest : Int) - 1) ⟨by omega, by omega⟩]
    refine ⟨LK_mk (LKL_mem (by simp only [go_sem])), ?_⟩
    simp only [fra_mk]
    simp only [go_sem]
    refine ⟨_, _, [100, 101], id, ⟨rfl, rfl⟩, ?_⟩
    simp only [go_sem]
    have hq : (R5.2.nest : Int) - 1 = (s.nest : Int) := by omega
    rw [hq]
    exact ⟨rfl, rfl⟩
  rw [if_neg (by rw [h]; decide)] at hR
  rw [may_no h]
  refine Y_codeE fun E => ?_
  simp only [go_sem]
  refine e_callO E [.at [100] 0] (RO s1) [100, 101] (c6) rfl rfl ⟨by simp only [go_sem], by first | (rw [mk_used]; decide) | (simp only [go_sem]; done) | (simp only [go_sem]; rw [mk_used]; decide) | (simp only [go_sem]; decide)⟩ rfl (by unfold RO TO tksD; simp only [go_sem]) (by unfold RO TO; simp only [go_sem]) ?_
  rintro _ _ ⟨rfl, rfl⟩
  unfold RO TO tksD
  simp only [go_sem]
  subst hR
  refine X_retD (ns := [[1]]) (.inl rfl) hB0 Tryz.func94 rfl (by decide +kernel) (by simp [Tryz.ntmps94]) (by intro p hp; rw [List.mem_singleton.1 hp]; simp only [go_sem]) (veil fun E => ?_)
  simp only [go_sem]
  rw [fra_mk]
  simp only [go_sem]
  rw [w64_in (n := (R6.2.nest : Int) - 1) ⟨by omega, by omega⟩]
  refine ⟨LK_mk (LKL_mem (by simp only [go_sem])), ?_⟩
  simp only [fra_mk]
  simp only [go_sem]
  refine ⟨_, _, [100, 101], id, ⟨rfl, rfl⟩, ?_⟩
  simp only [go_sem]
  have hq : (R6.2.nest : Int) - 1 = (s.nest : Int) := by omega
  rw [hq]
  exact ⟨rfl, rfl⟩
theorem f53_ok {G} : ∀ (m N : Nat), N + m = 100 → Reads 53 G N (exprS m)
  | 0, N, h => by
    obtain rfl : N = 100 := by omega
    exact f53_zero
  | m + 1, N, h => f53_succ (by omega) (expr_good m) (f53_ok m (N + 1) (by omega))
end Go.Proofs.YtejpnabbmgpmaaaGreat
