/-
  The document's tree: whether a node may be. (with the parts that follow it)
-/
import Derived.Test.YtejpnabbmgpmaaaGreatSEG
import Derived.Test.YtejpnabbmgpmaaaGreatSEH
set_option linter.all false
namespace Go.Proofs.YtejpnabbmgpmaaaGreat
open Go.Ab
theorem qK {P:Program} {cf:Cf} {Φ:Exit→Act→World→Prop} {I:Base→List Deferred→Prop} {k:List It} {s:St} (fr:List (Nat × AV)) (hp:List (Name × Ob)) (u:List Nat) (hle:LeL cf.U id s fr hp u) (h:ARY P cf Φ I k (mk fr hp u)):ARY P cf Φ I k s:=by
 intro B hB ds β a w hds hI hs
 obtain ⟨β2,hs2,_⟩:=hs.le (τ:=id) (by rw [hB.2.1];exact hle.le)
 exact h B hB ds β2 a w hds hI hs2
theorem Be {G} (n:EN) (h:¬ (1≤n.k∧n.k≤14∧0≤n.pos∧n.pos≤1048576)):HP Tryz.prog G 117 [enD n] (fun r=>r=.d (.bool (bL n))):=by
 have:(decide (1≤n.k) && decide (n.k≤14) && decide (0≤n.pos) && decide (n.pos≤1048576))=false:=by
  rw [Bool.eq_false_iff]
  intro hc
  simp only [Bool.and_eq_true,decide_eq_true_eq] at hc
  omega
 have hr:bL n=false:=by rw [bL,this,Bool.false_and]
 rw [hr]
 unfold enD efD
 refine al Tryz.func117 rfl (by decide +kernel) (by simp [Tryz.ntmps117]) (veil fun E=>?_)
 simp only [go_sem]
 repeat (first
  | (apply b6 E;(· simp only [go_sem]);(· intro h;(try simp only [bq] at h);simp only [↓h,go_sem];rfl);simp only [go_sem])
  | (apply ba E;(· simp only [go_sem]);(· intro h;(try simp only [bq] at h);simp only [↓h,go_sem];rfl);(· intro h;(try simp only [bq] at h);simp only [↓h,go_sem];rfl);simp only [go_sem])
  | (apply a8 E;(· simp only [go_sem]);(· rfl);(· intro h h';(try simp only [bq] at h h');simp only [↓h,↓h',go_sem];rfl);simp only [go_sem])
  | (apply aI E;(· simp only [go_sem]);(· rfl);(· intro h h';(try simp only [bq] at h h');simp only [↓h,↓h',go_sem];rfl);(· intro h h';(try simp only [bq] at h h');simp only [↓h,↓h',go_sem];rfl);simp only [go_sem])
  | (apply bV E;(· decide);simp only [go_sem]))
 refine aB E (fun _=>?_) (fun g=>absurd ?_ h)
 ·simp only [go_sem]
 ·simp only [Bool.or_eq_false_iff,decide_eq_false_iff_not] at g
  omega
set_option maxRecDepth 10000 in
set_option maxHeartbeats 4000000 in
theorem Em {G} (n:EN) (h:n.name.length≤BIG) (hp:0≤n.pos∧n.pos≤1048576) (hk:1≤n.k∧n.k≤14) (c3:n.k=11∨n.k=14→HP Tryz.prog G 167 [enD n] (fun r=>r=.d (.bool (bY n)))) :
  HP Tryz.prog G 117 [enD n] (fun r=>r=.d (.bool (bL n))):=by
 have c1:=qS (G:=G) n.name h
 have c2:=xn (G:=G) n.name h
 have hP:=tI n hp hk
 unfold enD efD at *
 refine gf Tryz.func117 rfl (by decide +kernel) (by simp [Tryz.ntmps117]) fun B0 hB0=>?_
 refine aA (ao fun E=>?_)
 simp only [go_sem]
 refine aA (ao fun E=>?_)
 simp only [go_sem]
 repeat (first
  | (apply b6 E;(· simp only [go_sem]);(· intro h;(try simp only [bq] at h);simp only [↓h,go_sem];rfl);simp only [go_sem])
  | (apply ba E;(· simp only [go_sem]);(· intro h;(try simp only [bq] at h);simp only [↓h,go_sem];rfl);(· intro h;(try simp only [bq] at h);simp only [↓h,go_sem];rfl);simp only [go_sem])
  | (apply a8 E;(· simp only [go_sem]);(· rfl);(· intro h h';(try simp only [bq] at h h');simp only [↓h,↓h',go_sem];rfl);simp only [go_sem])
  | (apply aI E;(· simp only [go_sem]);(· rfl);(· intro h h';(try simp only [bq] at h h');simp only [↓h,↓h',go_sem];rfl);(· intro h h';(try simp only [bq] at h h');simp only [↓h,↓h',go_sem];rfl);simp only [go_sem])
  | (apply bV E;(· decide);simp only [go_sem]))
 refine aB E (fun g=>absurd (show n.pos<0∨1048576<n.pos∨n.k<1∨14<n.k by simpa [or_assoc] using g) (by omega)) (fun _=>?_)
 simp only [go_sem]
 refine qK [(1,.bx [1] 0),(2,.d (.bool false))] [([1],.box [.d (i64 n.k),.d (i64 n.a),.d (i64 n.b),.d (i64 n.c),.d (i64 n.n),.d (.str n.name),.d (.str n.s),.d (.sl (some 3) (n.l.map fD)),.d (i64 n.pos)])] [1] (by simp only [go_sem]) ?_
 refine aA (ao fun E=>?_)
 simp only [go_sem]
 refine qK [(1,.bx [1] 0),(2,.d (.bool false)),(3,.d (i64 n.k))] [([1],.box [.d (i64 n.k),.d (i64 n.a),.d (i64 n.b),.d (i64 n.c),.d (i64 n.n),.d (.str n.name),.d (.str n.s),.d (.sl (some 3) (n.l.map fD)),.d (i64 n.pos)])] [1] (by simp only [go_sem]) ?_
 refine aA (ao fun E=>?_)
 simp only [go_sem]
 repeat (first
  | (apply b6 E;(· simp only [go_sem]);(· intro h;(try simp only [bq] at h);simp only [↓h,go_sem];rfl);simp only [go_sem])
  | (apply ba E;(· simp only [go_sem]);(· intro h;(try simp only [bq] at h);simp only [↓h,go_sem];rfl);(· intro h;(try simp only [bq] at h);simp only [↓h,go_sem];rfl);simp only [go_sem])
  | (apply a8 E;(· simp only [go_sem]);(· rfl);(· intro h h';(try simp only [bq] at h h');simp only [↓h,↓h',go_sem];rfl);simp only [go_sem])
  | (apply aI E;(· simp only [go_sem]);(· rfl);(· intro h h';(try simp only [bq] at h h');simp only [↓h,↓h',go_sem];rfl);(· intro h h';(try simp only [bq] at h h');simp only [↓h,↓h',go_sem];rfl);simp only [go_sem])
  | (apply bV E;(· decide);simp only [go_sem]))
 refine aB E (fun g=>?_) (fun g=>?_)
 ·simp only [go_sem]
  refine eW (.inl rfl) hB0 ?_
  simp only [go_sem]
  refine ⟨[],?_⟩
  simp only [go_sem]
  rw [hP,g];simp
 simp only [go_sem]
 refine qK [(1,.bx [1] 0),(2,.d (.bool false)),(3,.d (i64 n.k))] [([1],.box [.d (i64 n.k),.d (i64 n.a),.d (i64 n.b),.d (i64 n.c),.d (i64 n.n),.d (.str n.name),.d (.str n.s),.d (.sl (some 3) (n.l.map fD)),.d (i64 n.pos)])] [1] (by simp only [go_sem]) ?_
 refine aA (ao fun E=>?_)
 simp only [go_sem]
 repeat (first
  | (apply b6 E;(· simp only [go_sem]);(· intro h;(try simp only [bq] at h);simp only [↓h,go_sem];rfl);simp only [go_sem])
  | (apply ba E;(· simp only [go_sem]);(· intro h;(try simp only [bq] at h);simp only [↓h,go_sem];rfl);(· intro h;(try simp only [bq] at h);simp only [↓h,go_sem];rfl);simp only [go_sem])
  | (apply a8 E;(· simp only [go_sem]);(· rfl);(· intro h h';(try simp only [bq] at h h');simp only [↓h,↓h',go_sem];rfl);simp only [go_sem])
  | (apply aI E;(· simp only [go_sem]);(· rfl);(· intro h h';(try simp only [bq] at h h');simp only [↓h,↓h',go_sem];rfl);(· intro h h';(try simp only [bq] at h h');simp only [↓h,↓h',go_sem];rfl);simp only [go_sem])
  | (apply bV E;(· decide);simp only [go_sem]))
 refine qK [(1,.bx [1] 0),(2,.d (.bool false)),(3,.d (i64 n.k)),(4,.d (.bool (decide (n.k=5) || decide (n.k=12) || decide (n.k=13) || decide (n.k=14))))] [([1],.box [.d (i64 n.k),.d (i64 n.a),.d (i64 n.b),.d (i64 n.c),.d (i64 n.n),.d (.str n.name),.d (.str n.s),.d (.sl (some 3) (n.l.map fD)),.d (i64 n.pos)])] [1] (by simp only [go_sem]) ?_
 refine aA (ao fun E=>?_)
 simp only [go_sem]
 repeat (first
  | (apply b6 E;(· simp only [go_sem]);(· intro h;(try simp only [bq] at h);simp only [↓h,go_sem];rfl);simp only [go_sem])
  | (apply ba E;(· simp only [go_sem]);(· intro h;(try simp only [bq] at h);simp only [↓h,go_sem];rfl);(· intro h;(try simp only [bq] at h);simp only [↓h,go_sem];rfl);simp only [go_sem])
  | (apply a8 E;(· simp only [go_sem]);(· rfl);(· intro h h';(try simp only [bq] at h h');simp only [↓h,↓h',go_sem];rfl);simp only [go_sem])
  | (apply aI E;(· simp only [go_sem]);(· rfl);(· intro h h';(try simp only [bq] at h h');simp only [↓h,↓h',go_sem];rfl);(· intro h h';(try simp only [bq] at h h');simp only [↓h,↓h',go_sem];rfl);simp only [go_sem])
  | (apply bV E;(· decide);simp only [go_sem]))
 obtain ⟨one,h1⟩:∃ b,b=(decide (n.k=5) || decide (n.k=12) || decide (n.k=13) || decide (n.k=14)):=⟨_,rfl⟩
 obtain ⟨two,h2⟩:∃ b,b=(decide (n.k=6) || decide (n.k=7) || decide (n.k=8) || decide (n.k=10)):=⟨_,rfl⟩
 refine qK [(1,.bx [1] 0),(2,.d (.bool false)),(3,.d (i64 n.k)),(4,.d (.bool (decide (n.k=5) || decide (n.k=12) || decide (n.k=13) || decide (n.k=14)))),(5,.d (.bool (decide (n.k=6) || decide (n.k=7) || decide (n.k=8) || decide (n.k=10))))] [([1],.box [.d (i64 n.k),.d (i64 n.a),.d (i64 n.b),.d (i64 n.c),.d (i64 n.n),.d (.str n.name),.d (.str n.s),.d (.sl (some 3) (n.l.map fD)),.d (i64 n.pos)])] [1] (by simp only [go_sem]) ?_
 rw [← h1,← h2]
 refine aA (ao fun E=>?_)
 simp only [go_sem]
 repeat (first
  | (apply b6 E;(· simp only [go_sem]);(· intro h;(try simp only [bq] at h);simp only [↓h,go_sem];rfl);simp only [go_sem])
  | (apply ba E;(· simp only [go_sem]);(· intro h;(try simp only [bq] at h);simp only [↓h,go_sem];rfl);(· intro h;(try simp only [bq] at h);simp only [↓h,go_sem];rfl);simp only [go_sem])
  | (apply a8 E;(· simp only [go_sem]);(· rfl);(· intro h h';(try simp only [bq] at h h');simp only [↓h,↓h',go_sem];rfl);simp only [go_sem])
  | (apply aI E;(· simp only [go_sem]);(· rfl);(· intro h h';(try simp only [bq] at h h');simp only [↓h,↓h',go_sem];rfl);(· intro h h';(try simp only [bq] at h h');simp only [↓h,↓h',go_sem];rfl);simp only [go_sem])
  | (apply bV E;(· decide);simp only [go_sem]))
 refine aB E (fun g3=>?_) (fun g3=>?_)
 ·simp only [go_sem]
  refine eW (.inl rfl) hB0 ?_
  simp only [go_sem]
  refine ⟨[],?_⟩
  simp only [go_sem]
  rw [hP,← h1,← h2,g3];simp
 simp only [go_sem]
 refine qK [(1,.bx [1] 0),(2,.d (.bool false)),(3,.d (i64 n.k))] [([1],.box [.d (i64 n.k),.d (i64 n.a),.d (i64 n.b),.d (i64 n.c),.d (i64 n.n),.d (.str n.name),.d (.str n.s),.d (.sl (some 3) (n.l.map fD)),.d (i64 n.pos)])] [1] (by simp only [go_sem]) ?_
 refine aA (ao fun E=>?_)
 simp only [go_sem]
 repeat (first
  | (apply b6 E;(· simp only [go_sem]);(· intro h;(try simp only [bq] at h);simp only [↓h,go_sem];rfl);simp only [go_sem])
  | (apply ba E;(· simp only [go_sem]);(· intro h;(try simp only [bq] at h);simp only [↓h,go_sem];rfl);(· intro h;(try simp only [bq] at h);simp only [↓h,go_sem];rfl);simp only [go_sem])
  | (apply a8 E;(· simp only [go_sem]);(· rfl);(· intro h h';(try simp only [bq] at h h');simp only [↓h,↓h',go_sem];rfl);simp only [go_sem])
  | (apply aI E;(· simp only [go_sem]);(· rfl);(· intro h h';(try simp only [bq] at h h');simp only [↓h,↓h',go_sem];rfl);(· intro h h';(try simp only [bq] at h h');simp only [↓h,↓h',go_sem];rfl);simp only [go_sem])
  | (apply bV E;(· decide);simp only [go_sem]))
 obtain ⟨six,h6⟩:∃ b,b=(decide (n.k=4) || decide (n.k=5) || decide (n.k=7) || decide (n.k=8) || decide (n.k=12)):=⟨_,rfl⟩
 refine qK [(1,.bx [1] 0),(2,.d (.bool false)),(3,.d (i64 n.k)),(6,.d (.bool (decide (n.k=4) || decide (n.k=5) || decide (n.k=7) || decide (n.k=8) || decide (n.k=12))))] [([1],.box [.d (i64 n.k),.d (i64 n.a),.d (i64 n.b),.d (i64 n.c),.d (i64 n.n),.d (.str n.name),.d (.str n.s),.d (.sl (some 3) (n.l.map fD)),.d (i64 n.pos)])] [1] (by simp only [go_sem]) ?_
 rw [← h6]
 refine aA (ao fun E=>?_)
 simp only [go_sem]
 repeat (first
  | (apply b6 E;(· simp only [go_sem]);(· intro h;(try simp only [bq] at h);simp only [↓h,go_sem];rfl);simp only [go_sem])
  | (apply ba E;(· simp only [go_sem]);(· intro h;(try simp only [bq] at h);simp only [↓h,go_sem];rfl);(· intro h;(try simp only [bq] at h);simp only [↓h,go_sem];rfl);simp only [go_sem])
  | (apply a8 E;(· simp only [go_sem]);(· rfl);(· intro h h';(try simp only [bq] at h h');simp only [↓h,↓h',go_sem];rfl);simp only [go_sem])
  | (apply aI E;(· simp only [go_sem]);(· rfl);(· intro h h';(try simp only [bq] at h h');simp only [↓h,↓h',go_sem];rfl);(· intro h h';(try simp only [bq] at h h');simp only [↓h,↓h',go_sem];rfl);simp only [go_sem])
  | (apply bV E;(· decide);simp only [go_sem]))
 (first | (apply iE E;(· simp only [go_sem]);(· intro h hk;(try simp only [bq] at h);refine ag E (c1) rfl (by simp only [↓h,go_sem]<;>rfl) (by simp) ?_;rintro _ rfl;exact hk);simp only [go_sem]) | (apply fI E;(· simp only [go_sem]);(· rfl);(· intro h h' hk;(try simp only [bq] at h h');refine ag E (c1) rfl (by simp only [↓h,↓h',go_sem]<;>rfl) (by simp) ?_;rintro _ rfl;exact hk);simp only [go_sem]))
 repeat (first
  | (apply b6 E;(· simp only [go_sem]);(· intro h;(try simp only [bq] at h);simp only [↓h,go_sem];rfl);simp only [go_sem])
  | (apply ba E;(· simp only [go_sem]);(· intro h;(try simp only [bq] at h);simp only [↓h,go_sem];rfl);(· intro h;(try simp only [bq] at h);simp only [↓h,go_sem];rfl);simp only [go_sem])
  | (apply a8 E;(· simp only [go_sem]);(· rfl);(· intro h h';(try simp only [bq] at h h');simp only [↓h,↓h',go_sem];rfl);simp only [go_sem])
  | (apply aI E;(· simp only [go_sem]);(· rfl);(· intro h h';(try simp only [bq] at h h');simp only [↓h,↓h',go_sem];rfl);(· intro h h';(try simp only [bq] at h h');simp only [↓h,↓h',go_sem];rfl);simp only [go_sem])
  | (apply bV E;(· decide);simp only [go_sem]))
 (first | (apply iE E;(· simp only [go_sem]);(· intro h hk;(try simp only [bq] at h);refine ag E (c2) rfl (by simp only [↓h,go_sem]<;>rfl) (by simp) ?_;rintro _ rfl;exact hk);simp only [go_sem]) | (apply fI E;(· simp only [go_sem]);(· rfl);(· intro h h' hk;(try simp only [bq] at h h');refine ag E (c2) rfl (by simp only [↓h,↓h',go_sem]<;>rfl) (by simp) ?_;rintro _ rfl;exact hk);simp only [go_sem]))
 repeat (first
  | (apply b6 E;(· simp only [go_sem]);(· intro h;(try simp only [bq] at h);simp only [↓h,go_sem];rfl);simp only [go_sem])
  | (apply ba E;(· simp only [go_sem]);(· intro h;(try simp only [bq] at h);simp only [↓h,go_sem];rfl);(· intro h;(try simp only [bq] at h);simp only [↓h,go_sem];rfl);simp only [go_sem])
  | (apply a8 E;(· simp only [go_sem]);(· rfl);(· intro h h';(try simp only [bq] at h h');simp only [↓h,↓h',go_sem];rfl);simp only [go_sem])
  | (apply aI E;(· simp only [go_sem]);(· rfl);(· intro h h';(try simp only [bq] at h h');simp only [↓h,↓h',go_sem];rfl);(· intro h h';(try simp only [bq] at h h');simp only [↓h,↓h',go_sem];rfl);simp only [go_sem])
  | (apply bV E;(· decide);simp only [go_sem]))
 refine aB E (fun g4=>?_) (fun g4=>?_)
 ·simp only [go_sem]
  refine eW (.inl rfl) hB0 ?_
  simp only [go_sem]
  refine ⟨[],?_⟩
  simp only [go_sem]
  rw [hP,← h6,g4];simp
 simp only [go_sem]
 refine qK [(1,.bx [1] 0),(2,.d (.bool false)),(3,.d (i64 n.k))] [([1],.box [.d (i64 n.k),.d (i64 n.a),.d (i64 n.b),.d (i64 n.c),.d (i64 n.n),.d (.str n.name),.d (.str n.s),.d (.sl (some 3) (n.l.map fD)),.d (i64 n.pos)])] [1] (by simp only [go_sem]) ?_
 refine aA (ao fun E=>?_)
 simp only [go_sem]
 repeat (first
  | (apply b6 E;(· simp only [go_sem]);(· intro h;(try simp only [bq] at h);simp only [↓h,go_sem];rfl);simp only [go_sem])
  | (apply ba E;(· simp only [go_sem]);(· intro h;(try simp only [bq] at h);simp only [↓h,go_sem];rfl);(· intro h;(try simp only [bq] at h);simp only [↓h,go_sem];rfl);simp only [go_sem])
  | (apply a8 E;(· simp only [go_sem]);(· rfl);(· intro h h';(try simp only [bq] at h h');simp only [↓h,↓h',go_sem];rfl);simp only [go_sem])
  | (apply aI E;(· simp only [go_sem]);(· rfl);(· intro h h';(try simp only [bq] at h h');simp only [↓h,↓h',go_sem];rfl);(· intro h h';(try simp only [bq] at h h');simp only [↓h,↓h',go_sem];rfl);simp only [go_sem])
  | (apply bV E;(· decide);simp only [go_sem]))
 refine aB E (fun g5=>?_) (fun g5=>?_)
 ·simp only [go_sem]
  refine eW (.inl rfl) hB0 ?_
  simp only [go_sem]
  refine ⟨[],?_⟩
  simp only [go_sem]
  rw [hP,g5];simp
 simp only [go_sem]
 refine qK [(1,.bx [1] 0),(2,.d (.bool false)),(3,.d (i64 n.k))] [([1],.box [.d (i64 n.k),.d (i64 n.a),.d (i64 n.b),.d (i64 n.c),.d (i64 n.n),.d (.str n.name),.d (.str n.s),.d (.sl (some 3) (n.l.map fD)),.d (i64 n.pos)])] [1] (by simp only [go_sem]) ?_
 refine ao fun E=>?_
 simp only [go_sem]
 repeat (first
  | (apply b6 E;(· simp only [go_sem]);(· intro h;(try simp only [bq] at h);simp only [↓h,go_sem];rfl);simp only [go_sem])
  | (apply ba E;(· simp only [go_sem]);(· intro h;(try simp only [bq] at h);simp only [↓h,go_sem];rfl);(· intro h;(try simp only [bq] at h);simp only [↓h,go_sem];rfl);simp only [go_sem])
  | (apply a8 E;(· simp only [go_sem]);(· rfl);(· intro h h';(try simp only [bq] at h h');simp only [↓h,↓h',go_sem];rfl);simp only [go_sem])
  | (apply aI E;(· simp only [go_sem]);(· rfl);(· intro h h';(try simp only [bq] at h h');simp only [↓h,↓h',go_sem];rfl);(· intro h h';(try simp only [bq] at h h');simp only [↓h,↓h',go_sem];rfl);simp only [go_sem])
  | (apply bV E;(· decide);simp only [go_sem]))
 rw [← h1,← h2,← h6,g,g3,g4,g5] at hP
 simp only [Bool.not_false,Bool.true_and] at hP
 refine bU E (fun k1=>?_) (fun k1=>?_)
 ·simp only [go_sem]
  refine eW (.inl rfl) hB0 ?_
  simp only [go_sem]
  refine ⟨[],?_⟩
  simp only [go_sem]
  rw [hP,k1,Bool.true_or]
 ·have k2:n.k=11∨n.k=14:=by
   rw [Bool.and_eq_false_iff] at k1
   simpa using k1
  rw [k1,Bool.false_or] at hP
  have c4:=c3 k2
  generalize bY n=y at c4 hP
  simp only [go_sem]
  refine ag E c4 rfl (by (simp only [↓k1,go_sem])<;>rfl) (by simp) ?_
  rintro _ rfl
  simp only [go_sem]
  refine eW (.inl rfl) hB0 ?_
  simp only [go_sem]
  refine ⟨[],?_⟩
  simp only [go_sem]
  rw [hP]
end Go.Proofs.YtejpnabbmgpmaaaGreat

namespace Go.Proofs.YtejpnabbmgpmaaaGreat
open Go.Ab
theorem uI {k:Int} {f:EF} (hk:k=11∨k=14):(decide (k=11) && (!dQ f.nm || !f.var == []) || decide (k=14) && (!kl f.nm || !dQ f.var))=!fL k f:=by
 unfold fL
 rw [kH]
 rcases hk with rfl | rfl<;>simp
theorem A8 {p:EF→Bool} {l:List EF} {i:Nat} (h:i<l.length) (hb:p l[i]=false):l.all p=false:=List.all_eq_false.2 ⟨_,List.getElem_mem h,by rw [hb];decide⟩
set_option maxHeartbeats 4000000 in
theorem DK {G} (n:EN) (h:dc BIG n) (hk:n.k=11∨n.k=14):HP Tryz.prog G 167 [enD n] (fun r=>r=.d (.bool (bY n))):=by
 have hpz:aH n.k=true:=by rcases hk with e | e<;>rw [e]<;>rfl
 generalize hb:bY n=b
 unfold bY at hb
 rw [if_pos hpz] at hb
 have hl:=h.l
 unfold enD efD
 refine al Tryz.func167 rfl (by decide +kernel) (by simp [Tryz.ntmps167]) (veil fun E=>?_)
 simp only [go_sem]
 refine az E (X:={ i:Nat // i≤n.l.length∧(n.l.take i).all (fL n.k)=true }) (fun x=>[(1,.bx [1] 0),(3,.vw [6] 0 x.1),(4,.d (i64 x.1))])
  (fun x=>[([1],.box [.d (i64 n.k),.d (i64 n.a),.d (i64 n.b),.d (i64 n.c),.d (i64 n.n),.d (.str n.name),.d (.str n.s),.d (.sl (some 3) (n.l.map fD)),.d (i64 n.pos)]),([6],.arr none ((n.l.take x.1).map fun f=>.str f.nm))]) [1,6] (fun x=>n.l.length-x.1) ⟨0,by simp⟩ id ?_ ?_
 ·simp only [go_sem]
  all_goals rfl
 rintro ⟨i,hi,hall⟩ E0
 refine aC E0 fun Q' hQ E'=>?_
 simp only at hi hall ⊢
 simp only [go_sem]
 refine ah E' (fun g1=>?_) (fun g1=>?_)<;>simp only [go_sem]
 ·have hi':i<n.l.length:=by omega
  refine ⟨⟨by omega,by omega⟩,?_⟩
  rw [rP hi']
  simp only [go_sem]
  obtain ⟨q1,q2⟩:=h.f _ (List.getElem_mem hi')
  obtain ⟨f,hf⟩:∃ f,f=n.l[i]:=⟨_,rfl⟩
  have hst:=ql (p:=fL n.k) hi' hall
  have hno:=A8 (p:=fL n.k) hi'
  have hts:(n.l.take (i+1)).map (fun f:EF=>D.str f.nm)=(n.l.take i).map (fun f:EF=>D.str f.nm)++[.str f.nm]:=by
   rw [List.take_succ_eq_append_getElem hi',List.map_append,← hf];rfl
  rw [← hf] at q1 q2 hst hno ⊢
  have c1:=qS (G:=G) f.nm q1
  have c2:=xn (G:=G) f.nm q1
  have c3:=qS (G:=G) f.var q2
  repeat (first
   | (apply b6 E';(· simp only [go_sem]);(· intro h;(try simp only [bq] at h);simp only [↓h,go_sem];rfl);simp only [go_sem])
   | (apply ba E';(· simp only [go_sem]);(· intro h;(try simp only [bq] at h);simp only [↓h,go_sem];rfl);(· intro h;(try simp only [bq] at h);simp only [↓h,go_sem];rfl);simp only [go_sem])
   | (apply a8 E';(· simp only [go_sem]);(· rfl);(· intro h h';(try simp only [bq] at h h');simp only [↓h,↓h',go_sem];rfl);simp only [go_sem])
   | (apply aI E';(· simp only [go_sem]);(· rfl);(· intro h h';(try simp only [bq] at h h');simp only [↓h,↓h',go_sem];rfl);(· intro h h';(try simp only [bq] at h h');simp only [↓h,↓h',go_sem];rfl);simp only [go_sem])
   | (apply bV E';(· decide);simp only [go_sem]))
  (first | (apply iE E';(· simp only [go_sem]);(· intro h hk;(try simp only [bq] at h);refine ag E' (c1) rfl (by simp only [↓h,go_sem]<;>rfl) (by simp) ?_;rintro _ rfl;exact hk);simp only [go_sem]) | (apply fI E';(· simp only [go_sem]);(· rfl);(· intro h h' hk;(try simp only [bq] at h h');refine ag E' (c1) rfl (by simp only [↓h,↓h',go_sem]<;>rfl) (by simp) ?_;rintro _ rfl;exact hk);simp only [go_sem]))
  repeat (first
   | (apply b6 E';(· simp only [go_sem]);(· intro h;(try simp only [bq] at h);simp only [↓h,go_sem];rfl);simp only [go_sem])
   | (apply ba E';(· simp only [go_sem]);(· intro h;(try simp only [bq] at h);simp only [↓h,go_sem];rfl);(· intro h;(try simp only [bq] at h);simp only [↓h,go_sem];rfl);simp only [go_sem])
   | (apply a8 E';(· simp only [go_sem]);(· rfl);(· intro h h';(try simp only [bq] at h h');simp only [↓h,↓h',go_sem];rfl);simp only [go_sem])
   | (apply aI E';(· simp only [go_sem]);(· rfl);(· intro h h';(try simp only [bq] at h h');simp only [↓h,↓h',go_sem];rfl);(· intro h h';(try simp only [bq] at h h');simp only [↓h,↓h',go_sem];rfl);simp only [go_sem])
   | (apply bV E';(· decide);simp only [go_sem]))
  (first | (apply iE E';(· simp only [go_sem]);(· intro h hk;(try simp only [bq] at h);refine ag E' (c2) rfl (by simp only [↓h,go_sem]<;>rfl) (by simp) ?_;rintro _ rfl;exact hk);simp only [go_sem]) | (apply fI E';(· simp only [go_sem]);(· rfl);(· intro h h' hk;(try simp only [bq] at h h');refine ag E' (c2) rfl (by simp only [↓h,↓h',go_sem]<;>rfl) (by simp) ?_;rintro _ rfl;exact hk);simp only [go_sem]))
  repeat (first
   | (apply b6 E';(· simp only [go_sem]);(· intro h;(try simp only [bq] at h);simp only [↓h,go_sem];rfl);simp only [go_sem])
   | (apply ba E';(· simp only [go_sem]);(· intro h;(try simp only [bq] at h);simp only [↓h,go_sem];rfl);(· intro h;(try simp only [bq] at h);simp only [↓h,go_sem];rfl);simp only [go_sem])
   | (apply a8 E';(· simp only [go_sem]);(· rfl);(· intro h h';(try simp only [bq] at h h');simp only [↓h,↓h',go_sem];rfl);simp only [go_sem])
   | (apply aI E';(· simp only [go_sem]);(· rfl);(· intro h h';(try simp only [bq] at h h');simp only [↓h,↓h',go_sem];rfl);(· intro h h';(try simp only [bq] at h h');simp only [↓h,↓h',go_sem];rfl);simp only [go_sem])
   | (apply bV E';(· decide);simp only [go_sem]))
  (first | (apply iE E';(· simp only [go_sem]);(· intro h hk;(try simp only [bq] at h);refine ag E' (c3) rfl (by simp only [↓h,go_sem]<;>rfl) (by simp) ?_;rintro _ rfl;exact hk);simp only [go_sem]) | (apply fI E';(· simp only [go_sem]);(· rfl);(· intro h h' hk;(try simp only [bq] at h h');refine ag E' (c3) rfl (by simp only [↓h,↓h',go_sem]<;>rfl) (by simp) ?_;rintro _ rfl;exact hk);simp only [go_sem]))
  repeat (first
   | (apply b6 E';(· simp only [go_sem]);(· intro h;(try simp only [bq] at h);simp only [↓h,go_sem];rfl);simp only [go_sem])
   | (apply ba E';(· simp only [go_sem]);(· intro h;(try simp only [bq] at h);simp only [↓h,go_sem];rfl);(· intro h;(try simp only [bq] at h);simp only [↓h,go_sem];rfl);simp only [go_sem])
   | (apply a8 E';(· simp only [go_sem]);(· rfl);(· intro h h';(try simp only [bq] at h h');simp only [↓h,↓h',go_sem];rfl);simp only [go_sem])
   | (apply aI E';(· simp only [go_sem]);(· rfl);(· intro h h';(try simp only [bq] at h h');simp only [↓h,↓h',go_sem];rfl);(· intro h h';(try simp only [bq] at h h');simp only [↓h,↓h',go_sem];rfl);simp only [go_sem])
   | (apply bV E';(· decide);simp only [go_sem]))
  refine aB E' (fun g2=>?_) (fun g2=>?_)
  ·simp only [go_sem]
   rw [hQ]
   simp only [go_sem]
   rw [uI hk] at g2
   rw [hno (by simpa using g2),Bool.false_and] at hb
   rw [← hb]
  ·simp only [go_sem]
   rw [uI hk] at g2
   refine ⟨by omega,?_⟩
   rw [ai ⟨by omega,by omega⟩,List.take_of_length_le (l:=List.map (fun f:EF=>D.str f.nm) _) (by simp;omega),← hts]
   rw [hQ]
   simp only [go_sem]
   refine ⟨⟨i+1,by omega,hst (by simpa using g2)⟩,by show n.l.length-(i+1)<_;omega,tau [([6],[54])],?_⟩
   simp only [go_sem]
   all_goals rfl
 ·rw [hQ]
  have h3:i=n.l.length:=by omega
  subst h3
  rw [List.take_length] at *
  rw [hall,Bool.true_and] at hb
  simp only [go_sem]
  repeat (first
   | (apply b6 E;(· simp only [go_sem]);(· intro h;(try simp only [bq] at h);simp only [↓h,go_sem];rfl);simp only [go_sem])
   | (apply ba E;(· simp only [go_sem]);(· intro h;(try simp only [bq] at h);simp only [↓h,go_sem];rfl);(· intro h;(try simp only [bq] at h);simp only [↓h,go_sem];rfl);simp only [go_sem])
   | (apply a8 E;(· simp only [go_sem]);(· rfl);(· intro h h';(try simp only [bq] at h h');simp only [↓h,↓h',go_sem];rfl);simp only [go_sem])
   | (apply aI E;(· simp only [go_sem]);(· rfl);(· intro h h';(try simp only [bq] at h h');simp only [↓h,↓h',go_sem];rfl);(· intro h h';(try simp only [bq] at h h');simp only [↓h,↓h',go_sem];rfl);simp only [go_sem])
   | (apply bV E;(· decide);simp only [go_sem]))
  refine bU E (fun k3=>?_) (fun k3=>?_)<;>simp only [go_sem]
  ·have ht:=Ff (G:=G) (n.l.map (·.nm)) (by rw [List.length_map];exact hl)
   unfold strs at ht
   rw [List.map_map,show (D.str ∘ fun f:EF=>f.nm)=fun f=>D.str f.nm from rfl] at ht
   rw [ij,ij]
   refine mU E [([6],none,n.l.map fun f=>.str f.nm)] ht (by rintro _ rfl;rfl) (by simp only [go_sem]) rfl (by (simp only [↓k3,go_sem])<;>first | rfl | done) (by simp) ?_
   rintro _ rfl
   simp only [go_sem]
   repeat (first
    | (apply b6 E;(· simp only [go_sem]);(· intro h;(try simp only [bq] at h);simp only [↓h,go_sem];rfl);simp only [go_sem])
    | (apply ba E;(· simp only [go_sem]);(· intro h;(try simp only [bq] at h);simp only [↓h,go_sem];rfl);(· intro h;(try simp only [bq] at h);simp only [↓h,go_sem];rfl);simp only [go_sem])
    | (apply a8 E;(· simp only [go_sem]);(· rfl);(· intro h h';(try simp only [bq] at h h');simp only [↓h,↓h',go_sem];rfl);simp only [go_sem])
    | (apply aI E;(· simp only [go_sem]);(· rfl);(· intro h h';(try simp only [bq] at h h');simp only [↓h,↓h',go_sem];rfl);(· intro h h';(try simp only [bq] at h h');simp only [↓h,↓h',go_sem];rfl);simp only [go_sem])
    | (apply bV E;(· decide);simp only [go_sem]))
   rw [← hb,show (decide ((if n.k=14 then 1 else 0)≤n.l.length) && decide (n.l.length≤30))=true by
    simp only [Bool.and_eq_true,Bool.or_eq_true,decide_eq_true_eq] at k3 ⊢
    refine ⟨?_,by omega⟩
    split<;>omega,Bool.true_and]
   simp [twice]
  ·rw [← hb,show (decide ((if n.k=14 then 1 else 0)≤n.l.length) && decide (n.l.length≤30))=false by
    rw [Bool.eq_false_iff] at k3 ⊢
    intro hc
    apply k3
    simp only [Bool.and_eq_true,Bool.or_eq_true,decide_eq_true_eq] at hc ⊢
    refine ⟨by omega,?_⟩
    rcases hk with e | e
    ·exact .inl e
    ·rw [if_pos e] at hc;exact .inr (by omega),Bool.false_and]
theorem De {G} (n:EN) (h:dc BIG n):HP Tryz.prog G 117 [enD n] (fun r=>r=.d (.bool (bL n))):=by
 by_cases g:1≤n.k∧n.k≤14∧0≤n.pos∧n.pos≤1048576
 ·exact Em n h.nm g.2.2 ⟨g.1,g.2.1⟩ (DK n h)
 ·exact Be n g
end Go.Proofs.YtejpnabbmgpmaaaGreat

namespace Go.Proofs.YtejpnabbmgpmaaaGreat
open Go.Ab
set_option maxHeartbeats 1000000 in
theorem l7 {G} (n:EN) (hl:n.l.length≤1000000):HP Tryz.prog G 73 [enD n] (fun r=>r=.d (.sl none ((aj n).map i64))):=by
 obtain ⟨k,a,b,c,m,nm,s,l,p⟩:=n
 simp only at hl
 have hk:k=5∨k=12∨k=13∨k=6∨k=7∨k=8∨k=10∨k=9∨k=14∨k=11∨¬ (k=5∨k=12∨k=13∨k=6∨k=7∨k=8∨k=10∨k=9∨k=14∨k=11):=by omega
 unfold enD efD
 rcases hk with rfl | rfl | rfl | rfl | rfl | rfl | rfl | rfl | rfl | rfl | hk
 iterate 3
  ·refine aw Tryz.func73 rfl (by decide +kernel) (by simp [Tryz.ntmps73]) (veil fun E=>?_)
   simp only [go_sem]
   refine ⟨[([14],none,[i64 a])],?_⟩
   simp only [go_sem]
   try rfl
 iterate 4
  ·refine aw Tryz.func73 rfl (by decide +kernel) (by simp [Tryz.ntmps73]) (veil fun E=>?_)
   simp only [go_sem]
   refine ⟨[([24],none,[i64 a,i64 b])],?_⟩
   simp only [go_sem]
   try rfl
 ·refine aw Tryz.func73 rfl (by decide +kernel) (by simp [Tryz.ntmps73]) (veil fun E=>?_)
  simp only [go_sem]
  refine ⟨[([33],none,[i64 a,i64 b,i64 c])],?_⟩
  simp only [go_sem]
  try rfl
 ·refine aw Tryz.func73 rfl (by decide +kernel) (by simp [Tryz.ntmps73]) (veil fun E=>?_)
  simp only [go_sem]
  obtain ⟨A,hA,hAl⟩:∃ A:List Int,A=[a]∧A.length=1:=⟨_,rfl,rfl⟩
  refine az E (X:={ i:Nat // i≤l.length }) (fun x=>[(1,.bx [1] 0),(3,.vw [97] 0 (1+x.1)),(4,.d (i64 x.1))])
   (fun x=>[([1],.box [.d (i64 14),.d (i64 a),.d (i64 b),.d (i64 c),.d (i64 m),.d (.str nm),.d (.str s),.d (.sl (some 3) (l.map fD)),.d (i64 p)]),([97],.arr none ((A++(l.take x.1).map fun f:EF=>f.to).map i64))]) [1,97] (fun x=>l.length-x.1) ⟨0,Nat.zero_le _⟩ (tau [([97],[38])]) ?_ ?_
  ·simp only [go_sem]
   all_goals (rw [hA];rfl)
  rintro ⟨i,hi⟩ E0
  refine aC E0 fun Q' hQ E'=>?_
  simp only at hi ⊢
  simp only [go_sem]
  refine ah E' (fun g1=>?_) (fun g1=>?_)<;>simp only [go_sem]
  ·have hi':i<l.length:=by omega
   refine ⟨⟨by omega,by omega⟩,?_⟩
   rw [rP hi']
   simp only [go_sem]
   refine ⟨by omega,?_⟩
   rw [ai ⟨by omega,by omega⟩]
   rw [List.take_of_length_le (l:=List.map i64 _) (by simp;omega),show List.map i64 (A++(l.take i).map fun f:EF=>f.to)++[i64 l[i].to]=(A++(l.take (i+1)).map fun f:EF=>f.to).map i64 by
    rw [List.take_succ_eq_append_getElem hi',List.map_append (l₁:=List.take i l),← List.append_assoc,List.map_append (l₁:=A++_)];rfl]
   rw [hQ]
   simp only [go_sem]
   refine ⟨⟨i+1,by omega⟩,by show l.length-(i+1)<_;omega,tau [([97],[62])],?_⟩
   simp only [go_sem]
   all_goals first | rfl | exact ⟨rfl,rfl⟩
  ·rw [hQ]
   have h3:i=l.length:=by omega
   subst h3
   rw [List.take_length]
   simp only [go_sem]
   refine ⟨[([97],none,(A++l.map fun f:EF=>f.to).map i64)],?_⟩
   simp only [go_sem]
   rw [List.take_of_length_le (by simp;omega),hA]
   rfl
 ·refine aw Tryz.func73 rfl (by decide +kernel) (by simp [Tryz.ntmps73]) (veil fun E=>?_)
  simp only [go_sem]
  obtain ⟨A,hA,hAl⟩:∃ A:List Int,A=[]∧A.length=0:=⟨_,rfl,rfl⟩
  refine az E (X:={ i:Nat // i≤l.length }) (fun x=>[(1,.bx [1] 0),(3,.vw [97] 0 (0+x.1)),(4,.d (i64 x.1))])
   (fun x=>[([1],.box [.d (i64 11),.d (i64 a),.d (i64 b),.d (i64 c),.d (i64 m),.d (.str nm),.d (.str s),.d (.sl (some 3) (l.map fD)),.d (i64 p)]),([97],.arr none ((A++(l.take x.1).map fun f:EF=>f.to).map i64))]) [1,97] (fun x=>l.length-x.1) ⟨0,Nat.zero_le _⟩ (tau [([97],[5])]) ?_ ?_
  ·simp only [go_sem]
   all_goals (rw [hA];rfl)
  rintro ⟨i,hi⟩ E0
  refine aC E0 fun Q' hQ E'=>?_
  simp only at hi ⊢
  simp only [go_sem]
  refine ah E' (fun g1=>?_) (fun g1=>?_)<;>simp only [go_sem]
  ·have hi':i<l.length:=by omega
   refine ⟨⟨by omega,by omega⟩,?_⟩
   rw [rP hi']
   simp only [go_sem]
   refine ⟨by omega,?_⟩
   rw [ai ⟨by omega,by omega⟩]
   rw [List.take_of_length_le (l:=List.map i64 _) (by simp;omega),show List.map i64 (A++(l.take i).map fun f:EF=>f.to)++[i64 l[i].to]=(A++(l.take (i+1)).map fun f:EF=>f.to).map i64 by
    rw [List.take_succ_eq_append_getElem hi',List.map_append (l₁:=List.take i l),← List.append_assoc,List.map_append (l₁:=A++_)];rfl]
   rw [hQ]
   simp only [go_sem]
   refine ⟨⟨i+1,by omega⟩,by show l.length-(i+1)<_;omega,tau [([97],[62])],?_⟩
   simp only [go_sem]
   all_goals first | rfl | exact ⟨rfl,rfl⟩
  ·rw [hQ]
   have h3:i=l.length:=by omega
   subst h3
   rw [List.take_length]
   simp only [go_sem]
   refine ⟨[([97],none,(A++l.map fun f:EF=>f.to).map i64)],?_⟩
   simp only [go_sem]
   rw [List.take_of_length_le (by simp;omega),hA]
   rfl
 ·refine aw Tryz.func73 rfl (by decide +kernel) (by simp [Tryz.ntmps73]) (veil fun E=>?_)
  simp only [go_sem]
  iterate 9
   refine ah E (fun h=>absurd h (by omega)) (fun _=>?_)
   simp only [go_sem]
  repeat (first
   | (apply b6 E;(· simp only [go_sem]);(· intro h;(try simp only [bq] at h);simp only [↓h,go_sem];rfl);simp only [go_sem])
   | (apply ba E;(· simp only [go_sem]);(· intro h;(try simp only [bq] at h);simp only [↓h,go_sem];rfl);(· intro h;(try simp only [bq] at h);simp only [↓h,go_sem];rfl);simp only [go_sem])
   | (apply a8 E;(· simp only [go_sem]);(· rfl);(· intro h h';(try simp only [bq] at h h');simp only [↓h,↓h',go_sem];rfl);simp only [go_sem])
   | (apply aI E;(· simp only [go_sem]);(· rfl);(· intro h h';(try simp only [bq] at h h');simp only [↓h,↓h',go_sem];rfl);(· intro h h';(try simp only [bq] at h h');simp only [↓h,↓h',go_sem];rfl);simp only [go_sem])
   | (apply bV E;(· decide);simp only [go_sem]))
  refine aB E (fun h=>absurd (by simpa using h) (show ¬ (k=11∨k=14) by omega)) (fun _=>?_)
  simp only [go_sem]
  refine ⟨[([5],none,[])],?_⟩
  simp only [go_sem]
  have h1:aF k=0:=by
   unfold aF
   repeat' split
   all_goals first | rfl | (exfalso;omega)
  have h2:aH k=false:=by
   unfold aH
   rw [decide_eq_false (show ¬ k=11 by omega),decide_eq_false (show ¬ k=14 by omega)]
   rfl
  unfold aj
  simp only [h1,h2]
  rfl
end Go.Proofs.YtejpnabbmgpmaaaGreat

namespace Go.Proofs.YtejpnabbmgpmaaaGreat
open Go.Ab
theorem Ed {G} (n:EN):HP Tryz.prog G 109 [enD n] (fun r=>r=.d (.bool (ff n))):=by
 generalize hb:ff n=b
 unfold ff at hb
 have hk:=bB n.k
 unfold enD efD
 refine al Tryz.func109 rfl (by decide +kernel) (by simp [Tryz.ntmps109]) (veil fun E=>?_)
 simp only [go_sem]
 refine ak mixed E fun X=>?_
 simp only [go_sem]
 refine bK X (m0 n.k) rfl rfl (by simp) ?_
 simp only [go_sem]
 refine ⟨⟨by omega,by omega⟩,by decide +kernel,?_⟩
 rw [show ([i64 n.a,i64 n.b,i64 n.c]:List D)=[n.a,n.b,n.c].map i64 from rfl]
 obtain ⟨k,hke⟩:∃ k,k=aF n.k:=⟨_,rfl⟩
 rw [← hke] at hk hb ⊢
 have hL:([n.a,n.b,n.c].drop k).length=3-k:=by simp
 have hget:∀ i,i<3-k→(List.map i64 [n.a,n.b,n.c]).getD (k+i) .nilp=i64 (([n.a,n.b,n.c].drop k).getD i 0):=fun i hi=>by
  rw [av (by simp;omega),List.getD_eq_getElem?_getD,List.getD_eq_getElem?_getD,List.getElem?_drop]
 generalize ([n.a,n.b,n.c]:List Int)=A at hb hL hget ⊢
 generalize A.drop k=L at hb hL hget
 refine bl E (X:={ i:Nat // i≤3-k∧(L.take i).all (fun x=>decide (x=0))=true }) (fun x=>[(16,.vw [11] k (3-k)),(17,.d (i64 (3-k:Nat))),(18,.d (i64 x.1))])
  (fun x=>[([1],.box [.d (i64 n.k),.d (i64 n.a),.d (i64 n.b),.d (i64 n.c),.d (i64 n.n),.d (.str n.name),.d (.str n.s),.d (.sl (some 3) (n.l.map fD)),.d (i64 n.pos)]),([11],.arr none (A.map i64))]) [11,1] (fun x=>3-k-x.1) ⟨0,by simp⟩ ?_ ?_
 ·simp only [go_sem]
  all_goals rfl
 rintro ⟨i,hi,hall⟩ E0
 refine aC E0 fun Q' hQ E'=>?_
 simp only at hi hall ⊢
 simp only [go_sem]
 refine ah E' (fun g1=>?_) (fun g1=>?_)<;>simp only [go_sem]
 ·have hi':i<3-k:=by omega
  have hi2:i<L.length:=by omega
  have hLi:L.getD i 0=L[i]:=by simp [hi2]
  refine ⟨⟨by omega,by omega⟩,?_⟩
  rw [hget i hi',hLi]
  simp only [go_sem]
  refine aB E' (fun g2=>?_) (fun g2=>?_)<;>simp only [go_sem]
  ·rw [hQ]
   simp only [go_sem]
   have:L.all (fun x=>decide (x=0))=false:=List.all_eq_false.2 ⟨_,List.getElem_mem hi2,by simpa using g2⟩
   rw [← hb,this]
  ·rw [hQ]
   simp only [go_sem]
   have g3:decide (L[i]=0)=true:=by simpa using g2
   refine ⟨⟨i+1,by omega,by rw [List.take_succ_eq_append_getElem hi2,List.all_append,hall];simpa using g3⟩,by show 3-k-(i+1)<_;omega,?_⟩
   rw [ai ⟨by omega,by omega⟩]
   rfl
 ·rw [hQ]
  have h3:i=L.length:=by omega
  subst h3
  rw [List.take_length] at hall
  simp only [go_sem]
  rw [← hb,hall]
theorem Gi {G} (n:EN) (h:dc BIG n):HP Tryz.prog G 58 [enD n] (fun r=>r=.d (.bool (bL n))):=by
 generalize hb:bL n=b
 unfold bL at hb
 have c1:=DO (G:=G) n h
 have c2:=Dl (G:=G) n
 have c3:=DC (G:=G) n h
 have c4:=Ed (G:=G) n
 generalize ib n=x1 at c1 hb
 generalize dY n=x2 at c2 hb
 generalize bY n=x3 at c3 hb
 generalize ff n=x4 at c4 hb
 unfold enD efD at *
 refine al Tryz.func58 rfl (by decide +kernel) (by simp [Tryz.ntmps58]) (veil fun E=>?_)
 simp only [go_sem]
 repeat (first
  | (apply b6 E;(· simp only [go_sem]);(· intro h;(try simp only [bq] at h);simp only [↓h,go_sem];rfl);simp only [go_sem])
  | (apply ba E;(· simp only [go_sem]);(· intro h;(try simp only [bq] at h);simp only [↓h,go_sem];rfl);(· intro h;(try simp only [bq] at h);simp only [↓h,go_sem];rfl);simp only [go_sem])
  | (apply a8 E;(· simp only [go_sem]);(· rfl);(· intro h h';(try simp only [bq] at h h');simp only [↓h,↓h',go_sem];rfl);simp only [go_sem])
  | (apply aI E;(· simp only [go_sem]);(· rfl);(· intro h h';(try simp only [bq] at h h');simp only [↓h,↓h',go_sem];rfl);(· intro h h';(try simp only [bq] at h h');simp only [↓h,↓h',go_sem];rfl);simp only [go_sem])
  | (apply bV E;(· decide);simp only [go_sem]))
 refine aB E (fun g=>?_) (fun g=>?_)<;>simp only [go_sem]
 ·have g':¬ (1≤n.k∧n.k≤14∧0≤n.pos∧n.pos≤1048576):=by
   simp only [Bool.or_eq_true,decide_eq_true_eq] at g
   omega
  have:(decide (1≤n.k) && decide (n.k≤14) && decide (0≤n.pos) && decide (n.pos≤1048576))=false:=by
   rw [Bool.eq_false_iff]
   intro hc
   simp only [Bool.and_eq_true,decide_eq_true_eq] at hc
   exact g' ⟨hc.1.1.1,hc.1.1.2,hc.1.2,hc.2⟩
  rw [← hb,this,Bool.false_and]
 ·refine ag E (c1) rfl rfl (by simp) ?_
  rintro _ rfl
  simp only [go_sem]
  repeat (first
   | (apply b6 E;(· simp only [go_sem]);(· intro h;(try simp only [bq] at h);simp only [↓h,go_sem];rfl);simp only [go_sem])
   | (apply ba E;(· simp only [go_sem]);(· intro h;(try simp only [bq] at h);simp only [↓h,go_sem];rfl);(· intro h;(try simp only [bq] at h);simp only [↓h,go_sem];rfl);simp only [go_sem])
   | (apply a8 E;(· simp only [go_sem]);(· rfl);(· intro h h';(try simp only [bq] at h h');simp only [↓h,↓h',go_sem];rfl);simp only [go_sem])
   | (apply aI E;(· simp only [go_sem]);(· rfl);(· intro h h';(try simp only [bq] at h h');simp only [↓h,↓h',go_sem];rfl);(· intro h h';(try simp only [bq] at h h');simp only [↓h,↓h',go_sem];rfl);simp only [go_sem])
   | (apply bV E;(· decide);simp only [go_sem]))
  (first | (apply iE E;(· simp only [go_sem]);(· intro h hk;(try simp only [bq] at h);refine ag E (c2) rfl (by simp only [↓h,go_sem]<;>rfl) (by simp) ?_;rintro _ rfl;exact hk);simp only [go_sem]) | (apply fI E;(· simp only [go_sem]);(· rfl);(· intro h h' hk;(try simp only [bq] at h h');refine ag E (c2) rfl (by simp only [↓h,↓h',go_sem]<;>rfl) (by simp) ?_;rintro _ rfl;exact hk);simp only [go_sem]))
  repeat (first
   | (apply b6 E;(· simp only [go_sem]);(· intro h;(try simp only [bq] at h);simp only [↓h,go_sem];rfl);simp only [go_sem])
   | (apply ba E;(· simp only [go_sem]);(· intro h;(try simp only [bq] at h);simp only [↓h,go_sem];rfl);(· intro h;(try simp only [bq] at h);simp only [↓h,go_sem];rfl);simp only [go_sem])
   | (apply a8 E;(· simp only [go_sem]);(· rfl);(· intro h h';(try simp only [bq] at h h');simp only [↓h,↓h',go_sem];rfl);simp only [go_sem])
   | (apply aI E;(· simp only [go_sem]);(· rfl);(· intro h h';(try simp only [bq] at h h');simp only [↓h,↓h',go_sem];rfl);(· intro h h';(try simp only [bq] at h h');simp only [↓h,↓h',go_sem];rfl);simp only [go_sem])
   | (apply bV E;(· decide);simp only [go_sem]))
  (first | (apply iE E;(· simp only [go_sem]);(· intro h hk;(try simp only [bq] at h);refine ag E (c3) rfl (by simp only [↓h,go_sem]<;>rfl) (by simp) ?_;rintro _ rfl;exact hk);simp only [go_sem]) | (apply fI E;(· simp only [go_sem]);(· rfl);(· intro h h' hk;(try simp only [bq] at h h');refine ag E (c3) rfl (by simp only [↓h,↓h',go_sem]<;>rfl) (by simp) ?_;rintro _ rfl;exact hk);simp only [go_sem]))
  repeat (first
   | (apply b6 E;(· simp only [go_sem]);(· intro h;(try simp only [bq] at h);simp only [↓h,go_sem];rfl);simp only [go_sem])
   | (apply ba E;(· simp only [go_sem]);(· intro h;(try simp only [bq] at h);simp only [↓h,go_sem];rfl);(· intro h;(try simp only [bq] at h);simp only [↓h,go_sem];rfl);simp only [go_sem])
   | (apply a8 E;(· simp only [go_sem]);(· rfl);(· intro h h';(try simp only [bq] at h h');simp only [↓h,↓h',go_sem];rfl);simp only [go_sem])
   | (apply aI E;(· simp only [go_sem]);(· rfl);(· intro h h';(try simp only [bq] at h h');simp only [↓h,↓h',go_sem];rfl);(· intro h h';(try simp only [bq] at h h');simp only [↓h,↓h',go_sem];rfl);simp only [go_sem])
   | (apply bV E;(· decide);simp only [go_sem]))
  (first | (apply iE E;(· simp only [go_sem]);(· intro h hk;(try simp only [bq] at h);refine ag E (c4) rfl (by simp only [↓h,go_sem]<;>rfl) (by simp) ?_;rintro _ rfl;exact hk);simp only [go_sem]) | (apply fI E;(· simp only [go_sem]);(· rfl);(· intro h h' hk;(try simp only [bq] at h h');refine ag E (c4) rfl (by simp only [↓h,↓h',go_sem]<;>rfl) (by simp) ?_;rintro _ rfl;exact hk);simp only [go_sem]))
  repeat (first
   | (apply b6 E;(· simp only [go_sem]);(· intro h;(try simp only [bq] at h);simp only [↓h,go_sem];rfl);simp only [go_sem])
   | (apply ba E;(· simp only [go_sem]);(· intro h;(try simp only [bq] at h);simp only [↓h,go_sem];rfl);(· intro h;(try simp only [bq] at h);simp only [↓h,go_sem];rfl);simp only [go_sem])
   | (apply a8 E;(· simp only [go_sem]);(· rfl);(· intro h h';(try simp only [bq] at h h');simp only [↓h,↓h',go_sem];rfl);simp only [go_sem])
   | (apply aI E;(· simp only [go_sem]);(· rfl);(· intro h h';(try simp only [bq] at h h');simp only [↓h,↓h',go_sem];rfl);(· intro h h';(try simp only [bq] at h h');simp only [↓h,↓h',go_sem];rfl);simp only [go_sem])
   | (apply bV E;(· decide);simp only [go_sem]))
  have g':¬ (n.k<1∨14<n.k∨n.pos<0∨1048576<n.pos):=by
   simp only [Bool.or_eq_false_iff,decide_eq_false_iff_not] at g
   omega
  rw [← hb,decide_eq_true (show 1≤n.k by omega),decide_eq_true (show n.k≤14 by omega),decide_eq_true (show 0≤n.pos by omega),decide_eq_true (show n.pos≤1048576 by omega)]
  rfl
end Go.Proofs.YtejpnabbmgpmaaaGreat

namespace Go.Proofs.YtejpnabbmgpmaaaGreat
open Go.Ab
def bump (cs:List Int) (k:Int):List Int:=cs.set k.toNat (cs.getD k.toNat 0+1)
def bumps (cs ks:List Int):List Int:=ks.foldl bump cs
theorem sF (cs:List Int) (k:Int):(bump cs k).length=cs.length:=by simp [bump]
theorem fw (ks:List Int):∀ cs:List Int,(bumps cs ks).length=cs.length:=by
 induction ks with
 | nil=>intro cs;rfl
 | cons k r ih=>intro cs;show (bumps (bump cs k) r).length=_;rw [ih,sF]
theorem ow (cs ks:List Int) (k:Int):bumps cs (ks++[k])=bump (bumps cs ks) k:=by simp [bumps]
def Bd (M:Nat) (cs:List Int):Prop:=∀ c∈cs,0≤c∧c≤(M:Int)
theorem Bd.bump {M:Nat} {cs:List Int} (h:Bd M cs) (k:Int):Bd (M+1) (bump cs k):=by
 intro c hc
 rcases List.mem_or_eq_of_mem_set hc with hc | hc
 ·have:=h c hc;omega
 ·by_cases hk:k.toNat<cs.length
  ·have:=h cs[k.toNat] (List.getElem_mem hk)
   rw [hc,show cs.getD k.toNat 0=cs[k.toNat] by simp [hk]]
   omega
  ·rw [hc,show cs.getD k.toNat 0=0 by simp [hk]]
   omega
theorem Bd.bumps {ks:List Int}:∀ {M:Nat} {cs:List Int},Bd M cs→Bd (M+ks.length) (bumps cs ks):=by
 induction ks with
 | nil=>intro M cs h;exact h
 | cons k r ih =>
   intro M cs h
   have:=ih (h.bump k)
   rw [List.length_cons]
   intro c hc
   have:=this c hc
   omega
theorem Bd.get {M:Nat} {cs:List Int} (h:Bd M cs) (i:Nat):0≤cs.getD i 0∧cs.getD i 0≤(M:Int):=by
 by_cases hi:i<cs.length
 ·rw [show cs.getD i 0=cs[i] by simp [hi]];exact h _ (List.getElem_mem hi)
 ·rw [show cs.getD i 0=0 by simp [hi]];omega
def inB (i:Nat) (k:Int):Bool:=decide (0≤k) && decide (k<(i:Int))
theorem Hd {G} (ns:List EN) (i:Nat) (cs:List Int) (M:Nat) (hi:i<ns.length) (hn:ns.length≤1000000) (hc:cs.length=ns.length) (hl:(ndE ns i).l.length≤1000000) (hM:Bd M cs) (hM2:M≤1000000000000) :
  HCall Tryz.prog G 59 [.d (exD ns),.d (i64 i),.vw [100] 0 ns.length] [([100],.arr none (cs.map i64))] [100]
   (fun r hp'=>∃ cs':List Int,cs'.length=ns.length∧(dN ns i=true→cs'=bumps cs (aj (ndE ns i)))∧r=.d (.bool (dN ns i))∧hp'=[([100],.arr none (cs'.map i64))]):=by
 have hg:=aN hi
 obtain ⟨n,hne⟩:∃ n,n=ndE ns i:=⟨_,rfl⟩
 rw [← hne] at hl hg ⊢
 have hkl:=br n
 have hwl:bf n≤1000003:=by unfold bf;have:=bB n.k;split<;>omega
 obtain ⟨K,hK⟩:∃ K,K=aj n:=⟨_,rfl⟩
 have hlk:dN ns i=(K.all (inB i) && (decide (n.k≠8) || decide ((ndE ns n.a.toNat).k=5))):=by
  unfold dN inB
  rw [← hne,← hK]
 rw [hlk]
 have hkc:=gQ (G:=G) n (by omega)
 rw [← hK] at hkc hkl ⊢
 unfold exD
 refine aq Tryz.func59 rfl (by decide +kernel) (by simp [Tryz.ntmps59]) (veil fun E=>?_)
 simp only [go_sem]
 refine ⟨⟨by omega,by omega⟩,?_⟩
 rw [hg]
 simp only [go_sem]
 refine ab E [.d (enD n)] [] [] hkc rfl rfl ⟨by simp only [go_sem],by rw [aa];decide⟩ rfl (by simp only [go_sem]) (by simp only [go_sem]) ?_
 rintro _ _ ⟨rfl,rfl⟩
 simp only [go_sem]
 refine jb E [14,0] none (K.map i64) rfl ?_
 simp only [go_sem]
 refine bl E (X:={ q:Nat // q≤K.length∧(K.take q).all (inB i)=true }) (fun x=>[(1,.d (i64 i)),(2,.vw [100] 0 ns.length),(3,.bx [3] 0),(6,.d (.bool false)),(14,.d (.sl none (K.map i64))),(15,.d (i64 K.length)),(16,.d (i64 x.1))])
  (fun x=>[([100],.arr none ((bumps cs (K.take x.1)).map i64)),([3],.box [.d (.sl (some 9) (ns.map enD))])]) [3,100] (fun x=>K.length-x.1) ⟨0,by simp⟩ ?_ ?_
 ·simp only [go_sem]
  all_goals rfl
 rintro ⟨q,hq,hall⟩ E0
 refine aC E0 fun Q' hQ E'=>?_
 simp only at hq hall ⊢
 simp only [go_sem]
 refine ah E' (fun g1=>?_) (fun g1=>?_)<;>simp only [go_sem]
 ·have hq':q<K.length:=by omega
  refine ⟨⟨by omega,by omega⟩,?_⟩
  rw [av hq',show K.getD q 0=K[q] by simp [hq']]
  simp only [go_sem]
  repeat (first
   | (apply b6 E';(· simp only [go_sem]);(· intro h;(try simp only [bq] at h);simp only [↓h,go_sem];rfl);simp only [go_sem])
   | (apply ba E';(· simp only [go_sem]);(· intro h;(try simp only [bq] at h);simp only [↓h,go_sem];rfl);(· intro h;(try simp only [bq] at h);simp only [↓h,go_sem];rfl);simp only [go_sem])
   | (apply a8 E';(· simp only [go_sem]);(· rfl);(· intro h h';(try simp only [bq] at h h');simp only [↓h,↓h',go_sem];rfl);simp only [go_sem])
   | (apply aI E';(· simp only [go_sem]);(· rfl);(· intro h h';(try simp only [bq] at h h');simp only [↓h,↓h',go_sem];rfl);(· intro h h';(try simp only [bq] at h h');simp only [↓h,↓h',go_sem];rfl);simp only [go_sem])
   | (apply bV E';(· decide);simp only [go_sem]))
  refine aB E' (fun g2=>?_) (fun g2=>?_)<;>simp only [go_sem]
  ·rw [hQ]
   simp only [go_sem]
   have g3:inB i K[q]=false:=by
    rw [Bool.eq_false_iff]
    intro hc
    simp only [inB,Bool.and_eq_true,decide_eq_true_eq] at hc
    simp only [Bool.or_eq_true,decide_eq_true_eq] at g2
    omega
   have ha:K.all (inB i)=false:=List.all_eq_false.2 ⟨_,List.getElem_mem hq',by rw [g3];decide⟩
   refine ⟨_,_,[100],id,⟨bumps cs (K.take q),by rw [fw,hc],fun h=>by (rw [ha,Bool.false_and] at h;cases h),rfl,rfl⟩,?_⟩
   simp only [go_sem]
   rw [ha]
   rfl
  ·have g3:0≤K[q]∧K[q]<(i:Int):=by
    simp only [Bool.or_eq_false_iff,decide_eq_false_iff_not] at g2
    omega
   have g4:inB i K[q]=true:=by simp only [inB,decide_eq_true g3.1,decide_eq_true g3.2,Bool.and_self]
   have hbl:=fw (K.take q) cs
   have hbd:=(hM.bumps (ks:=K.take q)).get K[q].toNat
   have htl:(K.take q).length≤1000003:=by rw [List.length_take];omega
   refine ⟨⟨by omega,by omega⟩,?_⟩
   rw [av (by omega)]
   simp only [go_sem]
   refine ⟨⟨by omega,by omega⟩,?_⟩
   rw [ai (n:=(bumps cs (K.take q)).getD K[q].toNat 0+1) ⟨by omega,by omega⟩,ai (n:=(q:Int)+1) ⟨by omega,by omega⟩]
   rw [show (List.map i64 (bumps cs (K.take q))).set K[q].toNat (.int .i64 ((bumps cs (K.take q)).getD K[q].toNat 0+1))=(bumps cs (K.take (q+1))).map i64 by
    rw [List.take_succ_eq_append_getElem hq',ow];unfold bump;rw [List.map_set]]
   rw [hQ]
   simp only [go_sem]
   refine ⟨⟨q+1,by omega,by rw [List.take_succ_eq_append_getElem hq',List.all_append,hall];simpa using g4⟩,by show K.length-(q+1)<_;omega,?_⟩
   first | rfl | exact ⟨rfl,rfl⟩
 ·rw [hQ]
  have h3:q=K.length:=by omega
  subst h3
  rw [List.take_length] at *
  simp only [go_sem]
  refine ak mixed E fun X=>?_
  simp only [go_sem]
  refine ⟨⟨by omega,by omega⟩,?_⟩
  rw [hg]
  simp only [go_sem]
  refine om X (fun g1=>?_) (fun g1=>?_)<;>simp only [go_sem]
  ·refine ⟨by decide +kernel,?_⟩
   refine ⟨_,_,[100],id,⟨bumps cs K,by rw [fw,hc],fun _=>rfl,rfl,rfl⟩,?_⟩
   simp only [go_sem]
   rw [hall,decide_eq_true (show n.k≠8 from g1)]
   rfl
  ·have h8:n.k=8:=by omega
   have hka:K=[n.a,n.b]:=by rw [hK];unfold aj;rw [h8];rfl
   have ha:0≤n.a∧n.a<(i:Int):=by
    rw [hka] at hall
    simp only [List.all_cons,inB,Bool.and_eq_true,decide_eq_true_eq] at hall
    exact hall.1
   rw [ij]
   simp only [go_sem]
   refine ⟨⟨by omega,by omega⟩,?_⟩
   rw [hg]
   simp only [go_sem]
   refine ⟨⟨by omega,by omega⟩,?_⟩
   rw [aN (show n.a.toNat<ns.length by omega)]
   simp only [go_sem]
   refine ⟨by decide +kernel,?_⟩
   refine ⟨_,_,[100],id,⟨bumps cs K,by rw [fw,hc],fun _=>rfl,rfl,rfl⟩,?_⟩
   simp only [go_sem]
   rw [hall,decide_eq_false g1]
   rfl
end Go.Proofs.YtejpnabbmgpmaaaGreat

namespace Go.Proofs.YtejpnabbmgpmaaaGreat
open Go.Ab
abbrev OPS:=List (List UInt8 × Int)
def opL (l:OPS):D:=.sl (some 2) (l.map fun q=>.agg [.str q.1,i64 q.2])
def opN (s:PS) (l:OPS):EN:=match opS s l with | some n=>{ nd0 10 s.peek.pos with n:=n } | none=>nd0 0 0
def opR (s:PS) (l:OPS):PS:=match opS s l with | some _=>s.next | none=>s
theorem BT {s:PS} {l:OPS} {i:Nat} (h:i<l.length):opS s (l.drop i)=if s.sees 7 l[i].1 then some l[i].2 else opS s (l.drop (i+1)):=by
 rw [List.drop_eq_getElem_cons h,opS]
theorem rU {G} (s:PS) (l:OPS) (hl:s.l.length≤1000000) (hn:l.length≤1000):HCall Tryz.prog G 150 [.bx [100] 0,.d (opL l)] (RO s) [100,101] (fun r hp'=>r=.tup [.d (ndN (opN s l)),.d (.bool (opS s l).isSome)]∧hp'=RO (opR s l)):=by
 generalize hO:opS s l=o
 generalize hN:opN s l=N
 generalize hR:opR s l=R
 unfold RO TO ae opL
 refine aq Tryz.func150 rfl (by decide +kernel) (by simp [Tryz.ntmps150]) (veil fun E=>?_)
 simp only [go_sem]
 refine ab E [.bx [101] 0] (TO s.l s.fin) [101] (er s.l s.fin hl) rfl rfl ⟨by simp only [go_sem],by first | (rw [aa];decide) | (simp only [go_sem]<;>(try rw [aa])<;>decide)⟩ rfl (by unfold TO ae;simp only [go_sem]) (by unfold TO;simp only [go_sem]) ?_
 rintro _ _ ⟨rfl,rfl⟩
 unfold TO ae
 simp only [go_sem]
 refine az E (X:={ i:Nat // i≤l.length∧opS s (l.drop i)=o }) (fun x=>[(0,.bx [100] 0),(4,.bx [4] 0),(5,.d (.bool false)),(6,.d (i64 (bt s.l s.fin).pos)),(15,.d (.sl (some 2) (l.map fun q=>.agg [.str q.1,i64 q.2]))),(16,.d (i64 l.length)),(17,.d (i64 x.1))])
  (fun x=>[([4],.box [.d (i64 0),.d (i64 0),.d (i64 0),.d (i64 0),.d (i64 0),.d (.str []),.d (.str []),.d .nils,.d (i64 0)]),([100],.box [.bx [101] 0,.d (i64 s.err),.d (i64 s.pos),.d (i64 s.nest)]),([101],.box [.d (.sl (some 4) (s.l.map ck)),.d (i64 s.fin)])]) [4,100,101] (fun x=>l.length-x.1) ⟨0,Nat.zero_le _,by rw [List.drop_zero];exact hO⟩ id ?_ ?_
 ·simp only [go_sem]
  all_goals rfl
 rintro ⟨i,hi,ho⟩ E0
 refine aC E0 fun Q' hQ E'=>?_
 simp only at hi ⊢
 simp only [go_sem]
 refine ah E' (fun h1=>?_) (fun h1=>?_)<;>simp only [go_sem]
 ·have h1':i<l.length:=by omega
  rw [BT h1'] at ho
  refine ⟨⟨by omega,by omega⟩,?_⟩
  rw [show (l.map fun q=>D.agg [.str q.1,i64 q.2]).getD i .nilp=.agg [.str l[i].1,i64 l[i].2] by simp [h1']]
  simp only [go_sem]
  have h0:=jw (G:=G) s l[i].1 hl
  generalize hb:s.sees 7 l[i].1=b at h0 ho
  generalize hM:s.may 7 l[i].1=M at h0
  refine ab E' [.bx [100] 0,.d (.str l[i].1)] (RO s) [100,101] (h0) rfl rfl ⟨by simp only [go_sem],by first | (rw [aa];decide) | (simp only [go_sem]<;>(try rw [aa])<;>decide)⟩ rfl (by unfold RO TO ae;simp only [go_sem]) (by unfold RO TO;simp only [go_sem]) ?_
  rintro _ _ ⟨rfl,rfl⟩
  unfold RO TO ae
  simp only [go_sem]
  refine aB E' (fun h=>?_) (fun h=>?_)<;>simp only [go_sem]
  ·rw [hQ]
   simp only [go_sem]
   rw [if_pos h] at ho
   refine ⟨_,_,[100,101],id,⟨rfl,rfl⟩,?_⟩
   simp only [go_sem]
   have hM':M=s.next:=by rw [← hM];unfold PS.may;rw [hb,h];rfl
   rw [← hN,← hR,hM',← ho]
   unfold opN opR
   rw [hO,← ho]
   exact ⟨rfl,rfl,rfl⟩
  ·rw [hQ]
   simp only [go_sem]
   rw [if_neg (by simpa using h)] at ho
   have hM':M=s:=by rw [← hM];unfold PS.may;rw [hb,h];rfl
   rw [hM',ai ⟨by omega,by omega⟩]
   refine ⟨⟨i+1,by omega,ho⟩,by show l.length-(i+1)<_;omega,id,?_⟩
   simp only [go_sem]
   all_goals rfl
 ·rw [hQ]
  have hi2:i=l.length:=by omega
  rw [hi2,List.drop_length] at ho
  simp only [go_sem]
  refine ⟨_,_,[100,101],id,⟨rfl,rfl⟩,?_⟩
  simp only [go_sem]
  rw [← hN,← hR]
  unfold opN opR
  rw [hO,← ho]
  exact ⟨rfl,rfl,rfl⟩
end Go.Proofs.YtejpnabbmgpmaaaGreat

namespace Go.Proofs.YtejpnabbmgpmaaaGreat
open Go.Ab
def Reads (f:Nat) (G:List (Nat × Obj)) (N:Nat) (sub:PS→PR):Prop:=∀ s:PS,s.l.length≤100000→s.nest=N→HCall Tryz.prog G f [.bx [100] 0] (RO s) [100,101] (fun r hp'=>r=.d (exD (sub s).1)∧hp'=RO (sub s).2)
theorem Fj {G} {N:Nat} {ex:PS→PR} (hex:∀ s,GP 1 s (ex s)) (hc:Reads 271 G N (kq ex)):Reads 223 G N (iW ex):=by
 intro s hl hN
 have hsg:=iP hex
 obtain ⟨sub,hsub⟩:∃ sub,sub=kq ex:=⟨_,rfl⟩
 have hF:iW ex s=dS bP sub (sub s).2.l.length.succ (sub s).1 (sub s).2:=by rw [hsub];rfl
 rw [hF]
 rw [← hsub] at hc hsg
 generalize hR:dS bP sub (sub s).2.l.length.succ (sub s).1 (sub s).2=R
 have h0:=hsg s
 obtain ⟨a0,s0,hs0⟩:∃ a0 s0,sub s=(a0,s0):=⟨_,_,rfl⟩
 have hc0:=hc s hl hN
 rw [hs0] at hR h0 hc0
 simp only at hR hc0
 unfold RO TO ae
 refine aq Tryz.func223 rfl (by decide +kernel) (by simp [Tryz.ntmps223]) (veil fun E=>?_)
 simp only [go_sem]
 refine ab E [.bx [100] 0] (RO s) [100,101] (hc0) rfl rfl ⟨by simp only [go_sem],by first | (rw [aa];decide) | (simp only [go_sem]<;>(try rw [aa])<;>decide)⟩ rfl (by unfold RO TO ae;simp only [go_sem]) (by unfold RO TO;simp only [go_sem]) ?_
 rintro _ _ ⟨rfl,rfl⟩
 unfold RO TO ae
 simp only [go_sem]
 unfold exD
 simp only [go_sem]
 refine az E (X:={ x:Nat × List EN × PS // dS bP sub x.1 x.2.1 x.2.2=R∧GP 1 s x.2∧x.2.2.l.length<x.1 }) (fun x=>[(0,.bx [100] 0),(2,.bx [2] 0),(3,.bx [3] 0)])
  (fun x=>[([2],.box [.d .nils]),([3],.box [.d (.sl (some 9) (x.1.2.1.map enD))]),([100],.box [.bx [101] 0,.d (i64 x.1.2.2.err),.d (i64 x.1.2.2.pos),.d (i64 x.1.2.2.nest)]),([101],.box [.d (.sl (some 4) (x.1.2.2.l.map ck)),.d (i64 x.1.2.2.fin)])]) [2,3,100,101] (fun x=>x.1.2.2.l.length) ⟨(s0.l.length.succ,a0,s0),hR,h0,Nat.lt_succ_self _⟩ id ?_ ?_
 ·simp only [go_sem]
  all_goals rfl
 rintro ⟨⟨m,a,q⟩,hb,hg,hm⟩ E0
 refine aC E0 fun Q' hQ E'=>?_
 simp only at hb hg hm ⊢
 have hql:q.l.length≤s.l.length:=hg.ss.len
 obtain ⟨m,rfl⟩:∃ k,m=k+1:=⟨m-1,by omega⟩
 rw [dS] at hb
 simp only [go_sem]
 refine zS E' [12] (some 2) [.agg [.str [42],i64 3],.agg [.str [47],i64 4]] rfl ?_
 rw [rO]
 simp only [go_sem]
 have h1:=rU (G:=G) q bP (by omega) (by decide)
 unfold opR opN at h1
 cases ho:opS q bP with
 | none =>
   rw [ho] at h1 hb
   simp only at h1 hb
   subst hb
   unfold ndN at h1
   refine ab E' [.bx [100] 0,.d (opL bP)] (RO q) [100,101] (h1) rfl rfl ⟨by simp only [go_sem],by first | (rw [aa];decide) | (simp only [go_sem]<;>(try rw [aa])<;>decide)⟩ rfl (by unfold RO TO ae;simp only [go_sem]) (by unfold RO TO;simp only [go_sem]) ?_
   rintro _ _ ⟨rfl,rfl⟩
   unfold RO TO ae
   simp only [go_sem]
   rw [hQ]
   simp only [go_sem]
   refine ⟨_,_,[100,101],id,⟨rfl,rfl⟩,?_⟩
   simp only [go_sem]
   rfl
 | some n =>
   rw [ho] at h1 hb
   simp only at h1 hb
   unfold ndN at h1
   refine ab E' [.bx [100] 0,.d (opL bP)] (RO q) [100,101] (h1) rfl rfl ⟨by simp only [go_sem],by first | (rw [aa];decide) | (simp only [go_sem]<;>(try rw [aa])<;>decide)⟩ rfl (by unfold RO TO ae;simp only [go_sem]) (by unfold RO TO;simp only [go_sem]) ?_
   rintro _ _ ⟨rfl,rfl⟩
   unfold RO TO ae
   simp only [go_sem]
   refine ak mixed E' fun X=>?_
   simp only [go_sem]
   obtain ⟨b0,q1,hq1⟩:∃ b0 q1,sub q.next=(b0,q1):=⟨_,_,rfl⟩
   have h2:=hc q.next (by have:=(SS.next q).len;omega) ((SS.next q).nest.trans (hg.ss.nest.trans hN))
   have h3:=hsg q.next
   rw [hq1] at h2 h3 hb
   unfold exD at h2
   refine aZ X [.bx [100] 0] (RO q.next) [100,101] _ _ h2 rfl rfl ⟨by simp only [go_sem],by rw [aa];decide⟩ rfl (by unfold RO TO ae;simp only [go_sem]) (by unfold RO TO;simp only [go_sem]) (by unfold RO TO;simp only [go_sem]) ?_
   unfold RO TO ae
   simp only [go_sem]
   have ht2:=h3.tr
   have hz1:=hg.sz
   have hz2:=h3.sz
   have hn2:=(SS.next q).len
   simp only at ht2 hz1 hz2
   have h4:=j2 (G:=G) { nd0 10 q.peek.pos with n:=n } [a,b0] rfl (by simp) (by simp only [aT,List.map_cons,List.map_nil,List.sum_cons,List.sum_nil];omega)
    (fun l h=>by
     rcases List.mem_cons.1 h with rfl | h
     ·exact hg.tr.kids.2
     ·rw [List.mem_singleton.1 h];exact ht2.kids.2)
    (fun l h=>by
     rcases List.mem_cons.1 h with rfl | h
     ·exact hg.wd.mono (by omega)
     ·rw [List.mem_singleton.1 h];exact h3.wd.mono (by omega))
   have h5:=GP.iZ (e:=1) (n:={ nd0 10 q.peek.pos with n:=n }) (s1:=s) (a:=(a,q)) (b:=(b0,q1)) hg h3 (SS.refl s) (SS.next q) rfl rfl (by have:=dG ho;simp only;omega)
   simp only at h5
   generalize au { nd0 10 q.peek.pos with n:=n } [a,b0]=J at h4 h5 hb
   unfold exD at h4
   refine bw X 23 [23] (some 1) [.agg [.sl (some 9) (a.map enD)],.agg [.sl (some 9) (b0.map enD)]] h4 (fun _=>rfl) rfl rfl rfl (by simp) rfl (by simp only [go_sem]) ?_
   simp only [go_sem]
   refine ⟨by decide +kernel,?_⟩
   rw [hQ]
   simp only [go_sem]
   refine ⟨⟨(m,J,q1),hb,h5,by have:=dG ho;have:=h3.ss.len;show q1.l.length<m;simp only at this;omega⟩,by have:=dG ho;have:=h3.ss.len;show q1.l.length<q.l.length;simp only at this;omega,id,?_⟩
   simp only [go_sem]
   all_goals rfl
theorem Fy {G} {N:Nat} {ex:PS→PR} (hex:∀ s,GP 1 s (ex s)) (hc:Reads 223 G N (iW ex)):Reads 149 G N (nW ex):=by
 intro s hl hN
 have hsg:=gO hex
 obtain ⟨sub,hsub⟩:∃ sub,sub=iW ex:=⟨_,rfl⟩
 have hF:nW ex s=dS cl sub (sub s).2.l.length.succ (sub s).1 (sub s).2:=by rw [hsub];rfl
 rw [hF]
 rw [← hsub] at hc hsg
 generalize hR:dS cl sub (sub s).2.l.length.succ (sub s).1 (sub s).2=R
 have h0:=hsg s
 obtain ⟨a0,s0,hs0⟩:∃ a0 s0,sub s=(a0,s0):=⟨_,_,rfl⟩
 have hc0:=hc s hl hN
 rw [hs0] at hR h0 hc0
 simp only at hR hc0
 unfold RO TO ae
 refine aq Tryz.func149 rfl (by decide +kernel) (by simp [Tryz.ntmps149]) (veil fun E=>?_)
 simp only [go_sem]
 refine ab E [.bx [100] 0] (RO s) [100,101] (hc0) rfl rfl ⟨by simp only [go_sem],by first | (rw [aa];decide) | (simp only [go_sem]<;>(try rw [aa])<;>decide)⟩ rfl (by unfold RO TO ae;simp only [go_sem]) (by unfold RO TO;simp only [go_sem]) ?_
 rintro _ _ ⟨rfl,rfl⟩
 unfold RO TO ae
 simp only [go_sem]
 unfold exD
 simp only [go_sem]
 refine az E (X:={ x:Nat × List EN × PS // dS cl sub x.1 x.2.1 x.2.2=R∧GP 1 s x.2∧x.2.2.l.length<x.1 }) (fun x=>[(0,.bx [100] 0),(2,.bx [2] 0),(3,.bx [3] 0)])
  (fun x=>[([2],.box [.d .nils]),([3],.box [.d (.sl (some 9) (x.1.2.1.map enD))]),([100],.box [.bx [101] 0,.d (i64 x.1.2.2.err),.d (i64 x.1.2.2.pos),.d (i64 x.1.2.2.nest)]),([101],.box [.d (.sl (some 4) (x.1.2.2.l.map ck)),.d (i64 x.1.2.2.fin)])]) [2,3,100,101] (fun x=>x.1.2.2.l.length) ⟨(s0.l.length.succ,a0,s0),hR,h0,Nat.lt_succ_self _⟩ id ?_ ?_
 ·simp only [go_sem]
  all_goals rfl
 rintro ⟨⟨m,a,q⟩,hb,hg,hm⟩ E0
 refine aC E0 fun Q' hQ E'=>?_
 simp only at hb hg hm ⊢
 have hql:q.l.length≤s.l.length:=hg.ss.len
 obtain ⟨m,rfl⟩:∃ k,m=k+1:=⟨m-1,by omega⟩
 rw [dS] at hb
 simp only [go_sem]
 refine zS E' [13] (some 2) [.agg [.str [43],i64 1],.agg [.str [45],i64 2],.agg [.str [94],i64 7]] rfl ?_
 rw [rO]
 simp only [go_sem]
 have h1:=rU (G:=G) q cl (by omega) (by decide)
 unfold opR opN at h1
 cases ho:opS q cl with
 | none =>
   rw [ho] at h1 hb
   simp only at h1 hb
   subst hb
   unfold ndN at h1
   refine ab E' [.bx [100] 0,.d (opL cl)] (RO q) [100,101] (h1) rfl rfl ⟨by simp only [go_sem],by first | (rw [aa];decide) | (simp only [go_sem]<;>(try rw [aa])<;>decide)⟩ rfl (by unfold RO TO ae;simp only [go_sem]) (by unfold RO TO;simp only [go_sem]) ?_
   rintro _ _ ⟨rfl,rfl⟩
   unfold RO TO ae
   simp only [go_sem]
   rw [hQ]
   simp only [go_sem]
   refine ⟨_,_,[100,101],id,⟨rfl,rfl⟩,?_⟩
   simp only [go_sem]
   rfl
 | some n =>
   rw [ho] at h1 hb
   simp only at h1 hb
   unfold ndN at h1
   refine ab E' [.bx [100] 0,.d (opL cl)] (RO q) [100,101] (h1) rfl rfl ⟨by simp only [go_sem],by first | (rw [aa];decide) | (simp only [go_sem]<;>(try rw [aa])<;>decide)⟩ rfl (by unfold RO TO ae;simp only [go_sem]) (by unfold RO TO;simp only [go_sem]) ?_
   rintro _ _ ⟨rfl,rfl⟩
   unfold RO TO ae
   simp only [go_sem]
   refine ak mixed E' fun X=>?_
   simp only [go_sem]
   obtain ⟨b0,q1,hq1⟩:∃ b0 q1,sub q.next=(b0,q1):=⟨_,_,rfl⟩
   have h2:=hc q.next (by have:=(SS.next q).len;omega) ((SS.next q).nest.trans (hg.ss.nest.trans hN))
   have h3:=hsg q.next
   rw [hq1] at h2 h3 hb
   unfold exD at h2
   refine aZ X [.bx [100] 0] (RO q.next) [100,101] _ _ h2 rfl rfl ⟨by simp only [go_sem],by rw [aa];decide⟩ rfl (by unfold RO TO ae;simp only [go_sem]) (by unfold RO TO;simp only [go_sem]) (by unfold RO TO;simp only [go_sem]) ?_
   unfold RO TO ae
   simp only [go_sem]
   have ht2:=h3.tr
   have hz1:=hg.sz
   have hz2:=h3.sz
   have hn2:=(SS.next q).len
   simp only at ht2 hz1 hz2
   have h4:=j2 (G:=G) { nd0 10 q.peek.pos with n:=n } [a,b0] rfl (by simp) (by simp only [aT,List.map_cons,List.map_nil,List.sum_cons,List.sum_nil];omega)
    (fun l h=>by
     rcases List.mem_cons.1 h with rfl | h
     ·exact hg.tr.kids.2
     ·rw [List.mem_singleton.1 h];exact ht2.kids.2)
    (fun l h=>by
     rcases List.mem_cons.1 h with rfl | h
     ·exact hg.wd.mono (by omega)
     ·rw [List.mem_singleton.1 h];exact h3.wd.mono (by omega))
   have h5:=GP.iZ (e:=1) (n:={ nd0 10 q.peek.pos with n:=n }) (s1:=s) (a:=(a,q)) (b:=(b0,q1)) hg h3 (SS.refl s) (SS.next q) rfl rfl (by have:=dG ho;simp only;omega)
   simp only at h5
   generalize au { nd0 10 q.peek.pos with n:=n } [a,b0]=J at h4 h5 hb
   unfold exD at h4
   refine bw X 24 [24] (some 1) [.agg [.sl (some 9) (a.map enD)],.agg [.sl (some 9) (b0.map enD)]] h4 (fun _=>rfl) rfl rfl rfl (by simp) rfl (by simp only [go_sem]) ?_
   simp only [go_sem]
   refine ⟨by decide +kernel,?_⟩
   rw [hQ]
   simp only [go_sem]
   refine ⟨⟨(m,J,q1),hb,h5,by have:=dG ho;have:=h3.ss.len;show q1.l.length<m;simp only at this;omega⟩,by have:=dG ho;have:=h3.ss.len;show q1.l.length<q.l.length;simp only at this;omega,id,?_⟩
   simp only [go_sem]
   all_goals rfl
end Go.Proofs.YtejpnabbmgpmaaaGreat

namespace Go.Proofs.YtejpnabbmgpmaaaGreat
open Go.Ab
theorem ED {G} {N:Nat} {ex:PS→PR} (hex:∀ s,GP 1 s (ex s)) (hc:Reads 149 G N (nW ex)):Reads 100 G N (pD ex):=by
 intro s hl hN
 have hsg:=iU hex
 obtain ⟨sub,hsub⟩:∃ sub,sub=nW ex:=⟨_,rfl⟩
 have hF:pD ex s=match opS (sub s).2 dE with
  | some n=>(au { nd0 10 (sub s).2.peek.pos with n:=n } [(sub s).1,(sub (sub s).2.next).1],(sub (sub s).2.next).2)
  | none=>sub s:=by rw [hsub];rfl
 rw [hF]
 rw [← hsub] at hc hsg
 generalize hR:(match opS (sub s).2 dE with
  | some n=>(au { nd0 10 (sub s).2.peek.pos with n:=n } [(sub s).1,(sub (sub s).2.next).1],(sub (sub s).2.next).2)
  | none=>sub s:PR)=R
 have hg:=hsg s
 obtain ⟨a,q,hs0⟩:∃ a q,sub s=(a,q):=⟨_,_,rfl⟩
 have hc0:=hc s hl hN
 rw [hs0] at hR hg hc0
 simp only at hR hc0
 have hql:q.l.length≤s.l.length:=hg.ss.len
 unfold exD at hc0
 have h1:=rU (G:=G) q dE (by omega) (by decide)
 unfold opR opN at h1
 unfold RO TO ae
 refine aq Tryz.func100 rfl (by decide +kernel) (by simp [Tryz.ntmps100]) (veil fun E=>?_)
 simp only [go_sem]
 refine ab E [.bx [100] 0] (RO s) [100,101] (hc0) rfl rfl ⟨by simp only [go_sem],by first | (rw [aa];decide) | (simp only [go_sem]<;>(try rw [aa])<;>decide)⟩ rfl (by unfold RO TO ae;simp only [go_sem]) (by unfold RO TO;simp only [go_sem]) ?_
 rintro _ _ ⟨rfl,rfl⟩
 unfold RO TO ae
 simp only [go_sem]
 refine zS E [12] (some 2) [.agg [.str [60],i64 5],.agg [.str [61,61],i64 6]] rfl ?_
 rw [rO]
 simp only [go_sem]
 cases ho:opS q dE with
 | none =>
   rw [ho] at h1 hR
   simp only at h1 hR
   subst hR
   unfold ndN at h1
   refine ab E [.bx [100] 0,.d (opL dE)] (RO q) [100,101] (h1) rfl rfl ⟨by simp only [go_sem],by first | (rw [aa];decide) | (simp only [go_sem]<;>(try rw [aa])<;>decide)⟩ rfl (by unfold RO TO ae;simp only [go_sem]) (by unfold RO TO;simp only [go_sem]) ?_
   rintro _ _ ⟨rfl,rfl⟩
   unfold RO TO ae
   simp only [go_sem]
   refine ⟨_,_,[100,101],id,⟨rfl,rfl⟩,?_⟩
   simp only [go_sem]
   rfl
 | some n =>
   rw [ho] at h1 hR
   simp only at h1 hR
   unfold ndN at h1
   refine ab E [.bx [100] 0,.d (opL dE)] (RO q) [100,101] (h1) rfl rfl ⟨by simp only [go_sem],by first | (rw [aa];decide) | (simp only [go_sem]<;>(try rw [aa])<;>decide)⟩ rfl (by unfold RO TO ae;simp only [go_sem]) (by unfold RO TO;simp only [go_sem]) ?_
   rintro _ _ ⟨rfl,rfl⟩
   unfold RO TO ae
   simp only [go_sem]
   refine ak mixed E fun X=>?_
   simp only [go_sem]
   obtain ⟨b0,q1,hq1⟩:∃ b0 q1,sub q.next=(b0,q1):=⟨_,_,rfl⟩
   have h2:=hc q.next (by have:=(SS.next q).len;omega) ((SS.next q).nest.trans (hg.ss.nest.trans hN))
   have h3:=hsg q.next
   rw [hq1] at h2 h3 hR
   unfold exD at h2
   refine aZ X [.bx [100] 0] (RO q.next) [100,101] _ _ h2 rfl rfl ⟨by simp only [go_sem],by rw [aa];decide⟩ rfl (by unfold RO TO ae;simp only [go_sem]) (by unfold RO TO;simp only [go_sem]) (by unfold RO TO;simp only [go_sem]) ?_
   unfold RO TO ae
   simp only [go_sem]
   have ht2:=h3.tr
   have hz1:=hg.sz
   have hz2:=h3.sz
   have hn2:=(SS.next q).len
   simp only at ht2 hz1 hz2
   have h4:=j2 (G:=G) { nd0 10 q.peek.pos with n:=n } [a,b0] rfl (by simp) (by simp only [aT,List.map_cons,List.map_nil,List.sum_cons,List.sum_nil];omega)
    (fun l h=>by
     rcases List.mem_cons.1 h with rfl | h
     ·exact hg.tr.kids.2
     ·rw [List.mem_singleton.1 h];exact ht2.kids.2)
    (fun l h=>by
     rcases List.mem_cons.1 h with rfl | h
     ·exact hg.wd.mono (by omega)
     ·rw [List.mem_singleton.1 h];exact h3.wd.mono (by omega))
   generalize au { nd0 10 q.peek.pos with n:=n } [a,b0]=J at h4 hR
   unfold exD at h4
   refine bw X 21 [21] (some 1) [.agg [.sl (some 9) (a.map enD)],.agg [.sl (some 9) (b0.map enD)]] h4 (fun _=>rfl) rfl rfl rfl (by simp) rfl (by simp only [go_sem]) ?_
   simp only [go_sem]
   refine ⟨by decide +kernel,?_⟩
   rw [← hR]
   refine ⟨_,_,[100,101],id,⟨rfl,rfl⟩,?_⟩
   simp only [go_sem]
   rfl
end Go.Proofs.YtejpnabbmgpmaaaGreat

namespace Go.Proofs.YtejpnabbmgpmaaaGreat
open Go.Ab
theorem dU {s:PS} {k:Int} {t:List UInt8} (h:s.sees k t=true):s.may k t=s.next:=by unfold PS.may;rw [h];rfl
theorem fF {s:PS} {k:Int} {t:List UInt8} (h:s.sees k t=false):s.may k t=s:=by unfold PS.may;rw [h];rfl
theorem Eo {G} {N:Nat} {ex:PS→PR} (hex:∀ s,GP 1 s (ex s)) (hc:Reads 329 G N (cR ex)):Reads 305 G N (cK ex):=by
 intro s hl hN
 have hg0:=lO hex s
 have hc0:=hc s hl hN
 have hF:cK ex s=ch (cR ex s).2.l.length.succ (cR ex s).1 (cR ex s).2:=rfl
 rw [hF]
 obtain ⟨a0,s0,hs0⟩:∃ a0 s0,cR ex s=(a0,s0):=⟨_,_,rfl⟩
 rw [hs0] at hg0 hc0 ⊢
 simp only at hc0 ⊢
 generalize hR:ch s0.l.length.succ a0 s0=R
 unfold exD at hc0
 unfold RO TO ae
 refine aq Tryz.func305 rfl (by decide +kernel) (by simp [Tryz.ntmps305]) (veil fun E=>?_)
 simp only [go_sem]
 refine ab E [.bx [100] 0] (RO s) [100,101] (hc0) rfl rfl ⟨by simp only [go_sem],by first | (rw [aa];decide) | (simp only [go_sem]<;>(try rw [aa])<;>decide)⟩ rfl (by unfold RO TO ae;simp only [go_sem]) (by unfold RO TO;simp only [go_sem]) ?_
 rintro _ _ ⟨rfl,rfl⟩
 unfold RO TO ae
 simp only [go_sem]
 refine az E (X:={ x:Nat × List EN × PS // ch x.1 x.2.1 x.2.2=R∧GQ s x.2∧x.2.2.l.length<x.1 }) (fun x=>[(0,.bx [100] 0),(2,.bx [2] 0),(3,.bx [3] 0)])
  (fun x=>[([2],.box [.d .nils]),([3],.box [.d (.sl (some 9) (x.1.2.1.map enD))]),([100],.box [.bx [101] 0,.d (i64 x.1.2.2.err),.d (i64 x.1.2.2.pos),.d (i64 x.1.2.2.nest)]),([101],.box [.d (.sl (some 4) (x.1.2.2.l.map ck)),.d (i64 x.1.2.2.fin)])]) [2,3,100,101] (fun x=>x.1.2.2.l.length) ⟨(s0.l.length.succ,a0,s0),hR,hg0,Nat.lt_succ_self _⟩ id ?_ ?_
 ·simp only [go_sem]
  all_goals rfl
 rintro ⟨⟨m,a,q⟩,hb,hg,hm⟩ E0
 refine aC E0 fun Q' hQ E'=>?_
 simp only at hb hg hm ⊢
 have hql:q.l.length≤s.l.length:=hg.1.ss.len
 obtain ⟨m,rfl⟩:∃ k,m=k+1:=⟨m-1,by omega⟩
 have hgn:=gJ s 1 a q hg
 rw [ch] at hb
 rw [show ch 1 a q=if q.sees 7 [46] then (au { nd0 12 q.peek.pos with name:=(q.next.of 2).1 } [a],(q.next.of 2).2) else (a,q) from rfl] at hgn
 simp only [go_sem]
 refine ab E' [.bx [101] 0] (TO q.l q.fin) [101] (er q.l q.fin (by omega)) rfl rfl ⟨by simp only [go_sem],by first | (rw [aa];decide) | (simp only [go_sem]<;>(try rw [aa])<;>decide)⟩ rfl (by unfold TO ae;simp only [go_sem]) (by unfold TO;simp only [go_sem]) ?_
 rintro _ _ ⟨rfl,rfl⟩
 unfold TO ae
 simp only [go_sem]
 refine ab E' [.bx [100] 0,.d (.str [46])] (RO q) [100,101] (jw q [46] (by omega)) rfl rfl ⟨by simp only [go_sem],by first | (rw [aa];decide) | (simp only [go_sem]<;>(try rw [aa])<;>decide)⟩ rfl (by unfold RO TO ae;simp only [go_sem]) (by unfold RO TO;simp only [go_sem]) ?_
 rintro _ _ ⟨rfl,rfl⟩
 unfold RO TO ae
 simp only [go_sem]
 refine aB E' (fun h=>?_) (fun h=>?_)<;>simp only [go_sem]
 ·have h':q.sees 7 [46]=false:=by simpa using h
  rw [h'] at hb
  rw [fF h',hQ]
  simp only [Bool.false_eq_true,if_false] at hb
  subst hb
  simp only [go_sem]
  refine ⟨_,_,[100,101],id,⟨rfl,rfl⟩,?_⟩
  simp only [go_sem]
  rfl
 ·have h':q.sees 7 [46]=true:=by simpa using h
  have hsl:=ax h'
  rw [h'] at hb hgn
  simp only [if_true] at hb hgn
  rw [dU h']
  refine ak mixed E' fun X=>?_
  simp only [go_sem]
  have h2:=ml (G:=G) q.next 2 (by omega)
  obtain ⟨nm,q1,hq1⟩:∃ nm q1,q.next.of 2=(nm,q1):=⟨_,_,rfl⟩
  have hq1l:=(SS.of q.next 2).len
  rw [hq1] at h2 hb hgn hq1l
  simp only at hq1l
  refine aZ X [.bx [100] 0,.d (i64 2)] (RO q.next) [100,101] _ _ h2 rfl rfl ⟨by simp only [go_sem],by rw [aa];decide⟩ rfl (by unfold RO TO ae;simp only [go_sem]) (by unfold RO TO;simp only [go_sem]) (by unfold RO TO;simp only [go_sem]) ?_
  unfold RO TO ae
  simp only [go_sem]
  have hz1:=hg.1.sz
  simp only at hz1
  have h4:=j2 (G:=G) { nd0 12 q.peek.pos with name:=nm } [a] rfl (by simp) (by simp only [aT,List.map_cons,List.map_nil,List.sum_cons,List.sum_nil];omega)
   (fun l h=>by rw [List.mem_singleton.1 h];exact hg.1.tr.kids.2)
   (fun l h=>by rw [List.mem_singleton.1 h];exact hg.1.wd.mono (by omega))
  simp only at hb hgn
  generalize au { nd0 12 q.peek.pos with name:=nm } [a]=J at h4 hb hgn
  unfold exD at h4
  refine bw X 22 [22] (some 1) [.agg [.sl (some 9) (a.map enD)]] h4 (fun _=>rfl) rfl rfl rfl (by simp) rfl (by simp only [go_sem]) ?_
  simp only [go_sem]
  refine ⟨by decide +kernel,?_⟩
  rw [hQ]
  simp only [go_sem]
  refine ⟨⟨(m,J,q1),hb,hgn,by show q1.l.length<m;omega⟩,by show q1.l.length<q.l.length;omega,id,?_⟩
  simp only [go_sem]
  all_goals rfl
end Go.Proofs.YtejpnabbmgpmaaaGreat

namespace Go.Proofs.YtejpnabbmgpmaaaGreat
open Go.Ab
def Hk (k:Int) (t:List UInt8):Bool:=decide (k=4) || decide (k=5) || decide (k=2) || (decide (k=1) && (decide (t=eI) || decide (t=cZ) || decide (t=e9))) || (decide (k=7) && (decide (t=[40]) || decide (t=[123])))
theorem xz {G} (s:PS) (hl:s.l.length≤1000000):HCall Tryz.prog G 306 [.bx [100] 0] (RO s) [100,101] (fun r hp'=>r=.d (.bool s.begins)∧hp'=RO s):=by
 have hB:s.begins=Hk (bt s.l s.fin).k (bt s.l s.fin).s:=rfl
 rw [hB]
 have h0:=er (G:=G) s.l s.fin hl
 generalize bt s.l s.fin=t at h0 ⊢
 generalize hb:Hk t.k t.s=b
 unfold Hk at hb
 unfold RO TO ae
 refine aq Tryz.func306 rfl (by decide +kernel) (by simp [Tryz.ntmps306]) (veil fun E=>?_)
 simp only [go_sem]
 refine ab E [.bx [101] 0] (TO s.l s.fin) [101] (h0) rfl rfl ⟨by simp only [go_sem],by first | (rw [aa];decide) | (simp only [go_sem]<;>(try rw [aa])<;>decide)⟩ rfl (by unfold TO ae;simp only [go_sem]) (by unfold TO;simp only [go_sem]) ?_
 rintro _ _ ⟨rfl,rfl⟩
 unfold TO ae
 simp only [go_sem]
 refine ah E (fun h1=>?_) (fun h1=>?_)<;>simp only [go_sem]
 ·rw [decide_eq_true h1]
  simp only [go_sem]
  refine ⟨_,_,[100,101],id,⟨rfl,rfl⟩,?_⟩
  simp only [go_sem]
  simp [← hb,h1]
 refine ah E (fun h2=>?_) (fun h2=>?_)<;>simp only [go_sem]
 ·rw [decide_eq_true h2]
  simp only [go_sem]
  refine ⟨_,_,[100,101],id,⟨rfl,rfl⟩,?_⟩
  simp only [go_sem]
  simp [← hb,h2]
 refine ah E (fun h3=>?_) (fun h3=>?_)<;>simp only [go_sem]
 ·refine ⟨_,_,[100,101],id,⟨rfl,rfl⟩,?_⟩
  simp only [go_sem]
  simp [← hb,h3]
 refine ah E (fun h4=>?_) (fun h4=>?_)<;>simp only [go_sem]
 ·refine bU E (fun h6=>?_) (fun h6=>?_)<;>simp only [go_sem]
  ·refine ⟨_,_,[100,101],id,⟨rfl,rfl⟩,?_⟩
   simp only [go_sem]
   have h6':t.s=eI:=by simpa [eI] using h6
   simp [← hb,h4,h6']
  refine bU E (fun h7=>?_) (fun h7=>?_)<;>simp only [go_sem]
  ·refine ⟨_,_,[100,101],id,⟨rfl,rfl⟩,?_⟩
   simp only [go_sem]
   have h7':t.s=cZ:=by simpa [cZ] using h7
   simp [← hb,h4,h7']
  ·refine ⟨_,_,[100,101],id,⟨rfl,rfl⟩,?_⟩
   simp only [go_sem]
   have h6':¬ t.s=eI:=by simpa [eI] using h6
   have h7':¬ t.s=cZ:=by simpa [cZ] using h7
   by_cases h8:t.s=e9
   ·simp [← hb,h4,h8,e9]
   ·have h8':=h8;unfold e9 at h8';simp [← hb,h4,h6',h7',h8,h8']
 refine ah E (fun h5=>?_) (fun h5=>?_)<;>simp only [go_sem]
 ·refine bU E (fun h6=>?_) (fun h6=>?_)<;>simp only [go_sem]
  ·refine ⟨_,_,[100,101],id,⟨rfl,rfl⟩,?_⟩
   simp only [go_sem]
   have h6':t.s=[40]:=by simpa using h6
   simp [← hb,h5,h6']
  ·refine ⟨_,_,[100,101],id,⟨rfl,rfl⟩,?_⟩
   simp only [go_sem]
   have h6':¬ t.s=[40]:=by simpa using h6
   by_cases h8:t.s=[123]<;>simp [← hb,h5,h6',h8]
 ·refine ⟨_,_,[100,101],id,⟨rfl,rfl⟩,?_⟩
  simp only [go_sem]
  simp [← hb,h1,h2,h3,h4,h5]
theorem Dn {G} {N:Nat} {ex:PS→PR} (hex:∀ s,GP 1 s (ex s)) (hc:Reads 305 G N (cK ex)):Reads 271 G N (kq ex):=by
 intro s hl hN
 generalize hR:kq ex s=R
 unfold kq PS.has at hR
 rw [jz] at hR
 have hsg:=fm hex
 have hpk:=er (G:=G) s.l s.fin (by omega)
 generalize bt s.l s.fin=t at hpk hR
 unfold RO TO ae
 refine aq Tryz.func271 rfl (by decide +kernel) (by simp [Tryz.ntmps271]) (veil fun E=>?_)
 simp only [go_sem]
 refine ab E [.bx [101] 0] (TO s.l s.fin) [101] (hpk) rfl rfl ⟨by simp only [go_sem],by first | (rw [aa];decide) | (simp only [go_sem]<;>(try rw [aa])<;>decide)⟩ rfl (by unfold TO ae;simp only [go_sem]) (by unfold TO;simp only [go_sem]) ?_
 rintro _ _ ⟨rfl,rfl⟩
 unfold TO ae
 simp only [go_sem]
 refine ab E [.bx [100] 0] (RO s) [100,101] (fy s) rfl rfl ⟨by simp only [go_sem],by first | (rw [aa];decide) | (simp only [go_sem]<;>(try rw [aa])<;>decide)⟩ rfl (by unfold RO TO ae;simp only [go_sem]) (by unfold RO TO;simp only [go_sem]) ?_
 rintro _ _ ⟨rfl,rfl⟩
 unfold RO TO ae
 simp only [go_sem]
 obtain ⟨a0,s0,hs0⟩:∃ a0 s0,cK ex s=(a0,s0):=⟨_,_,rfl⟩
 have h0:=(hsg s).1
 have hc0:=hc s hl hN
 rw [hs0] at h0 hc0
 unfold exD at hc0
 simp only [hs0] at hR
 refine an E (fun h1=>?_) (fun h1=>?_)<;>simp only [go_sem]
 ·refine ah E (fun h2=>?_) (fun h2=>?_)<;>simp only [go_sem]
  ·simp only [decide_eq_true h1,decide_eq_true h2,Bool.and_self,if_true] at hR
   refine ab E [.bx [101] 0] (TO s.l s.fin) [101] (jR s.l s.fin (by omega)) rfl rfl ⟨by simp only [go_sem],by first | (rw [aa];decide) | (simp only [go_sem]<;>(try rw [aa])<;>decide)⟩ rfl (by unfold TO ae;simp only [go_sem]) (by unfold TO;simp only [go_sem]) ?_
   rintro _ _ ⟨rfl,rfl⟩
   unfold TO ae
   simp only [go_sem]
   refine ak mixed E fun X=>?_
   simp only [go_sem]
   obtain ⟨b0,q1,hq1⟩:∃ b0 q1,cK ex s.next=(b0,q1):=⟨_,_,rfl⟩
   have hn2:=(SS.next s).len
   have g2:=hc s.next (by omega) ((SS.next s).nest.trans hN)
   have h3:=(hsg s.next).1
   rw [hq1] at g2 h3 hR
   unfold exD at g2
   refine aZ X [.bx [100] 0] (RO s.next) [100,101] _ _ g2 rfl rfl ⟨by simp only [go_sem],by rw [aa];decide⟩ rfl (by unfold RO TO ae PS.next;simp only [go_sem]) (by unfold RO TO;simp only [go_sem]) (by unfold RO TO;simp only [go_sem]) ?_
   unfold RO TO ae
   simp only [go_sem]
   have ht2:=h3.tr
   have hz2:=h3.sz
   simp only at ht2 hz2 hR
   have h4:=j2 (G:=G) { nd0 13 t.pos with name:=t.s } [b0] rfl (by simp) (by simp only [aT,List.map_cons,List.map_nil,List.sum_cons,List.sum_nil];omega)
    (fun l h=>by rw [List.mem_singleton.1 h];exact ht2.kids.2)
    (fun l h=>by rw [List.mem_singleton.1 h];exact h3.wd.mono (by omega))
   generalize au { nd0 13 t.pos with name:=t.s } [b0]=J at h4 hR
   unfold exD at h4
   refine bw X 29 [29] (some 1) [.agg [.sl (some 9) (b0.map enD)]] h4 (fun _=>rfl) rfl rfl rfl (by simp) rfl (by simp only [go_sem]) ?_
   simp only [go_sem]
   refine ⟨by decide +kernel,?_⟩
   rw [← hR]
   refine ⟨_,_,[100,101],id,⟨rfl,rfl⟩,?_⟩
   simp only [go_sem]
   rfl
  ·simp only [decide_eq_true h1,decide_eq_false h2,Bool.and_false,Bool.false_eq_true,if_false] at hR
   refine ab E [.bx [100] 0] (RO s) [100,101] (hc0) rfl rfl ⟨by simp only [go_sem],by first | (rw [aa];decide) | (simp only [go_sem]<;>(try rw [aa])<;>decide)⟩ rfl (by unfold RO TO ae;simp only [go_sem]) (by unfold RO TO;simp only [go_sem]) ?_
   rintro _ _ ⟨rfl,rfl⟩
   unfold RO TO ae
   simp only [go_sem]
   refine az E (X:={ x:Nat × List EN × PS // gh ex x.1 x.2.1 x.2.2=R∧GP 1 s x.2∧x.2.2.l.length<x.1 }) (fun x=>[(0,.bx [100] 0),(2,.bx [2] 0),(4,.bx [4] 0)])
    (fun x=>[([2],.box [.d .nils]),([4],.box [.d (.sl (some 9) (x.1.2.1.map enD))]),([100],.box [.bx [101] 0,.d (i64 x.1.2.2.err),.d (i64 x.1.2.2.pos),.d (i64 x.1.2.2.nest)]),([101],.box [.d (.sl (some 4) (x.1.2.2.l.map ck)),.d (i64 x.1.2.2.fin)])]) [2,4,100,101] (fun x=>x.1.2.2.l.length) ⟨(s0.l.length.succ,a0,s0),hR,h0,Nat.lt_succ_self _⟩ id ?_ ?_
   ·simp only [go_sem]
    all_goals rfl
   rintro ⟨⟨m,a,q⟩,hb,hg,hm⟩ E0
   refine aC E0 fun Q' hQ E'=>?_
   simp only at hb hg hm ⊢
   have hql:q.l.length≤s.l.length:=hg.ss.len
   obtain ⟨m,rfl⟩:∃ k,m=k+1:=⟨m-1,by omega⟩
   have hgn:=jF hex s 1 a q hg
   rw [gh] at hb
   rw [show gh ex 1 a q=if decide (q.err=0) && q.begins then (au (nd0 6 (db a).pos) [a,(cK ex q).1],(cK ex q).2) else (a,q) from rfl] at hgn
   simp only [go_sem]
   refine ab E' [.bx [100] 0] (RO q) [100,101] (fy q) rfl rfl ⟨by simp only [go_sem],by first | (rw [aa];decide) | (simp only [go_sem]<;>(try rw [aa])<;>decide)⟩ rfl (by unfold RO TO ae;simp only [go_sem]) (by unfold RO TO;simp only [go_sem]) ?_
   rintro _ _ ⟨rfl,rfl⟩
   unfold RO TO ae
   simp only [go_sem]
   refine an E' (fun g1=>?_) (fun g1=>?_)<;>simp only [go_sem]
   ·refine ab E' [.bx [100] 0] (RO q) [100,101] (xz q (by omega)) rfl rfl ⟨by simp only [go_sem],by first | (rw [aa];decide) | (simp only [go_sem]<;>(try rw [aa])<;>decide)⟩ rfl (by unfold RO TO ae;simp only [go_sem]) (by unfold RO TO;simp only [go_sem]) ?_
    rintro _ _ ⟨rfl,rfl⟩
    unfold RO TO ae
    simp only [go_sem]
    refine aB E' (fun g2=>?_) (fun g2=>?_)<;>simp only [go_sem]
    ·simp only [decide_eq_true g1,g2,Bool.true_and,if_true] at hb hgn
     have hap:=hg.tr.kids.1
     have hz1:=hg.sz
     simp only at hap hz1
     refine ak mixed E' fun X=>?_
     simp only [go_sem]
     rw [ai (n:=(a.length:Int)-1) ⟨by omega,by omega⟩]
     refine ⟨⟨by omega,by omega⟩,?_⟩
     rw [show ((a.length:Int)-1).toNat=a.length-1 by omega,aN (show a.length-1<a.length by omega)]
     have hrt:db a=ndE a (a.length-1):=rfl
     rw [← hrt]
     generalize db a=rt at hb hgn ⊢
     simp only [go_sem]
     obtain ⟨b0,q1,hq1⟩:∃ b0 q1,cK ex q=(b0,q1):=⟨_,_,rfl⟩
     have h2:=hc q (by omega) (hg.ss.nest.trans hN)
     have h3:=(hsg q).1
     have hlt:=lJ hex g1 g2
     rw [hq1] at h2 h3 hb hgn hlt
     unfold exD at h2
     refine aZ X [.bx [100] 0] (RO q) [100,101] _ _ h2 rfl rfl ⟨by simp only [go_sem],by rw [aa];decide⟩ rfl (by unfold RO TO ae;simp only [go_sem]) (by unfold RO TO;simp only [go_sem]) (by unfold RO TO;simp only [go_sem]) ?_
     unfold RO TO ae
     simp only [go_sem]
     have ht2:=h3.tr
     have hz2:=h3.sz
     simp only at ht2 hz2 hlt
     have h4:=j2 (G:=G) (nd0 6 rt.pos) [a,b0] rfl (by simp) (by simp only [aT,List.map_cons,List.map_nil,List.sum_cons,List.sum_nil];omega)
      (fun l h=>by
       rcases List.mem_cons.1 h with rfl | h
       ·exact hg.tr.kids.2
       ·rw [List.mem_singleton.1 h];exact ht2.kids.2)
      (fun l h=>by
       rcases List.mem_cons.1 h with rfl | h
       ·exact hg.wd.mono (by omega)
       ·rw [List.mem_singleton.1 h];exact h3.wd.mono (by omega))
     simp only at hb hgn
     generalize au (nd0 6 rt.pos) [a,b0]=J at h4 hb hgn
     unfold exD at h4
     refine bw X 52 [52] (some 1) [.agg [.sl (some 9) (a.map enD)],.agg [.sl (some 9) (b0.map enD)]] h4 (fun _=>rfl) rfl rfl rfl (by simp) rfl (by simp only [go_sem]) ?_
     simp only [go_sem]
     refine ⟨by decide +kernel,?_⟩
     rw [hQ]
     simp only [go_sem]
     refine ⟨⟨(m,J,q1),hb,hgn,by show q1.l.length<m;omega⟩,hlt,id,?_⟩
     simp only [go_sem]
     all_goals rfl
    ·simp only [g2,Bool.and_false,Bool.false_eq_true,if_false] at hb
     subst hb
     rw [hQ]
     simp only [go_sem]
     refine ⟨_,_,[100,101],id,⟨rfl,rfl⟩,?_⟩
     simp only [go_sem]
     rfl
   ·simp only [decide_eq_false g1,Bool.false_and,Bool.false_eq_true,if_false] at hb
    subst hb
    rw [hQ]
    simp only [go_sem]
    refine ⟨_,_,[100,101],id,⟨rfl,rfl⟩,?_⟩
    simp only [go_sem]
    rfl
 ·simp only [decide_eq_false h1,Bool.false_and,Bool.false_eq_true,if_false] at hR
  refine ab E [.bx [100] 0] (RO s) [100,101] (hc0) rfl rfl ⟨by simp only [go_sem],by first | (rw [aa];decide) | (simp only [go_sem]<;>(try rw [aa])<;>decide)⟩ rfl (by unfold RO TO ae;simp only [go_sem]) (by unfold RO TO;simp only [go_sem]) ?_
  rintro _ _ ⟨rfl,rfl⟩
  unfold RO TO ae
  simp only [go_sem]
  refine az E (X:={ x:Nat × List EN × PS // gh ex x.1 x.2.1 x.2.2=R∧GP 1 s x.2∧x.2.2.l.length<x.1 }) (fun x=>[(0,.bx [100] 0),(2,.bx [2] 0),(4,.bx [4] 0)])
   (fun x=>[([2],.box [.d .nils]),([4],.box [.d (.sl (some 9) (x.1.2.1.map enD))]),([100],.box [.bx [101] 0,.d (i64 x.1.2.2.err),.d (i64 x.1.2.2.pos),.d (i64 x.1.2.2.nest)]),([101],.box [.d (.sl (some 4) (x.1.2.2.l.map ck)),.d (i64 x.1.2.2.fin)])]) [2,4,100,101] (fun x=>x.1.2.2.l.length) ⟨(s0.l.length.succ,a0,s0),hR,h0,Nat.lt_succ_self _⟩ id ?_ ?_
  ·simp only [go_sem]
   all_goals rfl
  rintro ⟨⟨m,a,q⟩,hb,hg,hm⟩ E0
  refine aC E0 fun Q' hQ E'=>?_
  simp only at hb hg hm ⊢
  have hql:q.l.length≤s.l.length:=hg.ss.len
  obtain ⟨m,rfl⟩:∃ k,m=k+1:=⟨m-1,by omega⟩
  have hgn:=jF hex s 1 a q hg
  rw [gh] at hb
  rw [show gh ex 1 a q=if decide (q.err=0) && q.begins then (au (nd0 6 (db a).pos) [a,(cK ex q).1],(cK ex q).2) else (a,q) from rfl] at hgn
  simp only [go_sem]
  refine ab E' [.bx [100] 0] (RO q) [100,101] (fy q) rfl rfl ⟨by simp only [go_sem],by first | (rw [aa];decide) | (simp only [go_sem]<;>(try rw [aa])<;>decide)⟩ rfl (by unfold RO TO ae;simp only [go_sem]) (by unfold RO TO;simp only [go_sem]) ?_
  rintro _ _ ⟨rfl,rfl⟩
  unfold RO TO ae
  simp only [go_sem]
  refine an E' (fun g1=>?_) (fun g1=>?_)<;>simp only [go_sem]
  ·refine ab E' [.bx [100] 0] (RO q) [100,101] (xz q (by omega)) rfl rfl ⟨by simp only [go_sem],by first | (rw [aa];decide) | (simp only [go_sem]<;>(try rw [aa])<;>decide)⟩ rfl (by unfold RO TO ae;simp only [go_sem]) (by unfold RO TO;simp only [go_sem]) ?_
   rintro _ _ ⟨rfl,rfl⟩
   unfold RO TO ae
   simp only [go_sem]
   refine aB E' (fun g2=>?_) (fun g2=>?_)<;>simp only [go_sem]
   ·simp only [decide_eq_true g1,g2,Bool.true_and,if_true] at hb hgn
    have hap:=hg.tr.kids.1
    have hz1:=hg.sz
    simp only at hap hz1
    refine ak mixed E' fun X=>?_
    simp only [go_sem]
    rw [ai (n:=(a.length:Int)-1) ⟨by omega,by omega⟩]
    refine ⟨⟨by omega,by omega⟩,?_⟩
    rw [show ((a.length:Int)-1).toNat=a.length-1 by omega,aN (show a.length-1<a.length by omega)]
    have hrt:db a=ndE a (a.length-1):=rfl
    rw [← hrt]
    generalize db a=rt at hb hgn ⊢
    simp only [go_sem]
    obtain ⟨b0,q1,hq1⟩:∃ b0 q1,cK ex q=(b0,q1):=⟨_,_,rfl⟩
    have h2:=hc q (by omega) (hg.ss.nest.trans hN)
    have h3:=(hsg q).1
    have hlt:=lJ hex g1 g2
    rw [hq1] at h2 h3 hb hgn hlt
    unfold exD at h2
    refine aZ X [.bx [100] 0] (RO q) [100,101] _ _ h2 rfl rfl ⟨by simp only [go_sem],by rw [aa];decide⟩ rfl (by unfold RO TO ae;simp only [go_sem]) (by unfold RO TO;simp only [go_sem]) (by unfold RO TO;simp only [go_sem]) ?_
    unfold RO TO ae
    simp only [go_sem]
    have ht2:=h3.tr
    have hz2:=h3.sz
    simp only at ht2 hz2 hlt
    have h4:=j2 (G:=G) (nd0 6 rt.pos) [a,b0] rfl (by simp) (by simp only [aT,List.map_cons,List.map_nil,List.sum_cons,List.sum_nil];omega)
     (fun l h=>by
      rcases List.mem_cons.1 h with rfl | h
      ·exact hg.tr.kids.2
      ·rw [List.mem_singleton.1 h];exact ht2.kids.2)
     (fun l h=>by
      rcases List.mem_cons.1 h with rfl | h
      ·exact hg.wd.mono (by omega)
      ·rw [List.mem_singleton.1 h];exact h3.wd.mono (by omega))
    simp only at hb hgn
    generalize au (nd0 6 rt.pos) [a,b0]=J at h4 hb hgn
    unfold exD at h4
    refine bw X 52 [52] (some 1) [.agg [.sl (some 9) (a.map enD)],.agg [.sl (some 9) (b0.map enD)]] h4 (fun _=>rfl) rfl rfl rfl (by simp) rfl (by simp only [go_sem]) ?_
    simp only [go_sem]
    refine ⟨by decide +kernel,?_⟩
    rw [hQ]
    simp only [go_sem]
    refine ⟨⟨(m,J,q1),hb,hgn,by show q1.l.length<m;omega⟩,hlt,id,?_⟩
    simp only [go_sem]
    all_goals rfl
   ·simp only [g2,Bool.and_false,Bool.false_eq_true,if_false] at hb
    subst hb
    rw [hQ]
    simp only [go_sem]
    refine ⟨_,_,[100,101],id,⟨rfl,rfl⟩,?_⟩
    simp only [go_sem]
    rfl
  ·simp only [decide_eq_false g1,Bool.false_and,Bool.false_eq_true,if_false] at hb
   subst hb
   rw [hQ]
   simp only [go_sem]
   refine ⟨_,_,[100,101],id,⟨rfl,rfl⟩,?_⟩
   simp only [go_sem]
   rfl
end Go.Proofs.YtejpnabbmgpmaaaGreat

namespace Go.Proofs.YtejpnabbmgpmaaaGreat
open Go.Ab
def rS (f:Nat) (G:List (Nat × Obj)) (N:Nat) (sub:PS→Int→PR):Prop:=∀ (s:PS) (p:Int),s.l.length≤100000→s.nest=N→HCall Tryz.prog G f [.bx [100] 0,.d (i64 p)] (RO s) [100,101] (fun r hp'=>r=.d (exD (sub s p).1)∧hp'=RO (sub s p).2)
theorem Hy {G} {N:Nat} {ex:PS→PR} (hex:∀ s,GP 1 s (ex s)) (hc:Reads 53 G N ex):rS 99 G N (ifS ex):=by
 intro s p hl hN
 generalize hR:ifS ex s p=R
 unfold ifS at hR
 have ha:=hex s
 have ca:=hc s hl hN
 obtain ⟨a,sa,ea⟩:∃ a sa,ex s=(a,sa):=⟨_,_,rfl⟩
 rw [ea] at ha ca hR
 have la:=ha.ss.len
 have na:=ha.ss.nest
 have cm:=fO (G:=G) sa 1 gN (by simp only at la;omega) (by decide)
 have hm:=SS.must sa 1 gN
 simp only at hR la na
 generalize sa.must 1 gN=s2 at hR cm hm
 have l2:=hm.len
 have n2:=hm.nest
 have hb:=hex s2
 have cb:=hc s2 (by omega) (by rw [n2,na,hN])
 obtain ⟨b,sb,eb⟩:∃ b sb,ex s2=(b,sb):=⟨_,_,rfl⟩
 rw [eb] at hb cb hR
 have lb:=hb.ss.len
 have nb:=hb.ss.nest
 simp only at hR lb nb
 have cm2:=fO (G:=G) sb 1 iF (by omega) (by decide)
 have hm2:=SS.must sb 1 iF
 generalize sb.must 1 iF=s3 at hR cm2 hm2
 have l3:=hm2.len
 have n3:=hm2.nest
 have hd:=hex s3
 have cd:=hc s3 (by omega) (by rw [n3,nb,n2,na,hN])
 obtain ⟨d,sd,ed⟩:∃ d sd,ex s3=(d,sd):=⟨_,_,rfl⟩
 rw [ed] at hd cd hR
 simp only at hR
 have za:=ha.sz
 have zb:=hb.sz
 have zd:=hd.sz
 simp only at za zb zd
 have h4:=j2 (G:=G) (nd0 9 p) [a,b,d] rfl (by simp) (by simp only [aT,List.map_cons,List.map_nil,List.sum_cons,List.sum_nil];omega)
  (fun l h=>by
   simp only [List.mem_cons,List.mem_singleton,List.not_mem_nil,or_false] at h
   rcases h with rfl | rfl | rfl
   ·exact ha.tr.kids.2
   ·exact hb.tr.kids.2
   ·exact hd.tr.kids.2)
  (fun l h=>by
   simp only [List.mem_cons,List.mem_singleton,List.not_mem_nil,or_false] at h
   rcases h with rfl | rfl | rfl
   ·exact ha.wd.mono (by omega)
   ·exact hb.wd.mono (by omega)
   ·exact hd.wd.mono (by omega))
 generalize au (nd0 9 p) [a,b,d]=J at h4 hR
 unfold exD at h4 ca cb cd
 subst hR
 unfold RO TO ae
 refine aq Tryz.func99 rfl (by decide +kernel) (by simp [Tryz.ntmps99]) (veil fun E=>?_)
 simp only [go_sem]
 refine ab E [.bx [100] 0] (RO s) [100,101] (ca) rfl rfl ⟨by simp only [go_sem],by first | (rw [aa];decide) | (simp only [go_sem]<;>(try rw [aa])<;>decide)⟩ rfl (by unfold RO TO ae;simp only [go_sem]) (by unfold RO TO;simp only [go_sem]) ?_
 rintro _ _ ⟨rfl,rfl⟩
 unfold RO TO ae
 simp only [go_sem]
 refine ab E [.bx [100] 0,.d (i64 1),.d (.str gN)] (RO sa) [100,101] (cm) rfl rfl ⟨by simp only [go_sem],by first | (rw [aa];decide) | (simp only [go_sem]<;>(try rw [aa])<;>decide)⟩ rfl (by unfold RO TO ae;simp only [go_sem]) (by unfold RO TO;simp only [go_sem]) ?_
 rintro _ _ ⟨rfl,rfl⟩
 unfold RO TO ae
 simp only [go_sem]
 refine ab E [.bx [100] 0] (RO s2) [100,101] (cb) rfl rfl ⟨by simp only [go_sem],by first | (rw [aa];decide) | (simp only [go_sem]<;>(try rw [aa])<;>decide)⟩ rfl (by unfold RO TO ae;simp only [go_sem]) (by unfold RO TO;simp only [go_sem]) ?_
 rintro _ _ ⟨rfl,rfl⟩
 unfold RO TO ae
 simp only [go_sem]
 refine ab E [.bx [100] 0,.d (i64 1),.d (.str iF)] (RO sb) [100,101] (cm2) rfl rfl ⟨by simp only [go_sem],by first | (rw [aa];decide) | (simp only [go_sem]<;>(try rw [aa])<;>decide)⟩ rfl (by unfold RO TO ae;simp only [go_sem]) (by unfold RO TO;simp only [go_sem]) ?_
 rintro _ _ ⟨rfl,rfl⟩
 unfold RO TO ae
 simp only [go_sem]
 refine ak mixed E fun X=>?_
 simp only [go_sem]
 refine aZ X [.bx [100] 0] (RO s3) [100,101] _ _ cd rfl rfl ⟨by simp only [go_sem],by rw [aa];decide⟩ rfl (by unfold RO TO ae;simp only [go_sem]) (by unfold RO TO;simp only [go_sem]) (by unfold RO TO;simp only [go_sem]) ?_
 unfold RO TO ae
 simp only [go_sem]
 refine bw X 21 [21] (some 1) [.agg [.sl (some 9) (a.map enD)],.agg [.sl (some 9) (b.map enD)],.agg [.sl (some 9) (d.map enD)]] h4 (fun _=>rfl) rfl rfl rfl (by simp) rfl (by simp only [go_sem]) ?_
 simp only [go_sem]
 refine ⟨by decide +kernel,?_⟩
 refine ⟨_,_,[100,101],id,⟨rfl,rfl⟩,?_⟩
 simp only [go_sem]
 rfl
end Go.Proofs.YtejpnabbmgpmaaaGreat

namespace Go.Proofs.YtejpnabbmgpmaaaGreat
open Go.Ab
theorem GA {G} {N:Nat} {ex:PS→PR} (hex:∀ s,GP 1 s (ex s)) (hc:Reads 53 G N ex):rS 98 G N (lz ex):=by
 intro s p hl hN
 generalize hR:lz ex s p=R
 unfold lz at hR
 have cw:=kh (G:=G) s gy (by omega)
 have hw:=SS.may s 1 gy
 obtain ⟨c,hcc⟩:∃ c,c=s.sees 1 gy:=⟨_,rfl⟩
 rw [← hcc] at cw
 simp only [← hcc] at hR
 generalize s.may 1 gy=s1 at hR cw hw
 have l1:=hw.len
 have n1:=hw.nest
 have co:=ml (G:=G) s1 2 (by omega)
 have ho:=SS.of s1 2
 obtain ⟨nm,so,eo⟩:∃ nm so,s1.of 2=(nm,so):=⟨_,_,rfl⟩
 rw [eo] at co ho hR
 simp only at co ho hR
 have lo:=ho.len
 have no:=ho.nest
 have cm:=fO (G:=G) so 7 [61] (by omega) (by decide)
 have hm:=SS.must so 7 [61]
 generalize so.must 7 [61]=s2 at hR cm hm
 have l2:=hm.len
 have n2:=hm.nest
 have cp:=er (G:=G) s2.l s2.fin (by omega)
 rw [jz] at hR
 generalize bt s2.l s2.fin=t at hR cp
 have ha:=hex s2
 have ca:=hc s2 (by omega) (by rw [n2,no,n1,hN])
 obtain ⟨a,sa,ea⟩:∃ a sa,ex s2=(a,sa):=⟨_,_,rfl⟩
 rw [ea] at ha ca hR
 have la:=ha.ss.len
 have na:=ha.ss.nest
 simp only at hR la na
 have hap:=ha.tr.kids.1
 have za:=ha.sz
 simp only at hap za
 have cf:=nO (G:=G) sa 5 t.pos
 have key:∀ s3:PS,s3.l=sa.l→s3.nest=sa.nest→∀ k:Int,(au { nd0 k p with name:=nm } [a,(ex (s3.must 1 bIn)).1],(ex (s3.must 1 bIn)).2)=R →
   HCall Tryz.prog G 97 [.bx [100] 0,.d (i64 1),.d (.str bIn)] (RO s3) [100,101] (fun r hp'=>r=.tup []∧hp'=RO (s3.must 1 bIn))∧∃ b sb J,R=(J,sb) ∧
   HCall Tryz.prog G 53 [.bx [100] 0] (RO (s3.must 1 bIn)) [100,101] (fun r hp'=>r=.d (.agg [.sl (some 9) (b.map enD)])∧hp'=RO sb) ∧
   HP Tryz.prog G 86 [ndN { nd0 k p with name:=nm },.sl (some 1) ([a,b].map exD)] (fun r=>r=.d (.agg [.sl (some 9) (J.map enD)])):=by
  intro s3 e1 e2 k hk
  have cm3:=fO (G:=G) s3 1 bIn (by rw [e1];omega) (by decide)
  have hm3:=SS.must s3 1 bIn
  generalize s3.must 1 bIn=s4 at hk cm3 hm3 ⊢
  have l4:=hm3.len
  have n4:=hm3.nest
  rw [e1] at l4
  have hb:=hex s4
  have cb:=hc s4 (by omega) (by rw [n4,e2,na,n2,no,n1,hN])
  obtain ⟨b,sb,eb⟩:∃ b sb,ex s4=(b,sb):=⟨_,_,rfl⟩
  rw [eb] at hb cb hk
  have zb:=hb.sz
  simp only at zb hk
  have h4:=j2 (G:=G) { nd0 k p with name:=nm } [a,b] rfl (by simp) (by simp only [aT,List.map_cons,List.map_nil,List.sum_cons,List.sum_nil];omega)
   (fun l h=>by
    simp only [List.mem_cons,List.mem_singleton,List.not_mem_nil,or_false] at h
    rcases h with rfl | rfl
    ·exact ha.tr.kids.2
    ·exact hb.tr.kids.2)
   (fun l h=>by
    simp only [List.mem_cons,List.mem_singleton,List.not_mem_nil,or_false] at h
    rcases h with rfl | rfl
    ·exact ha.wd.mono (by omega)
    ·exact hb.wd.mono (by omega))
  exact ⟨cm3,b,sb,_,hk.symm,cb,h4⟩
 unfold exD at ca
 unfold RO TO ae
 refine aq Tryz.func98 rfl (by decide +kernel) (by simp [Tryz.ntmps98]) (veil fun E=>?_)
 simp only [go_sem]
 refine ab E [.bx [100] 0,.d (.str gy)] (RO s) [100,101] (cw) rfl rfl ⟨by simp only [go_sem],by first | (rw [aa];decide) | (simp only [go_sem]<;>(try rw [aa])<;>decide)⟩ rfl (by unfold RO TO ae;simp only [go_sem]) (by unfold RO TO;simp only [go_sem]) ?_
 rintro _ _ ⟨rfl,rfl⟩
 unfold RO TO ae
 simp only [go_sem]
 refine aB E (fun g=>?_) (fun g=>?_)<;>simp only [go_sem]
 ·rw [if_pos g] at hR
  refine ab E [.bx [100] 0,.d (i64 2)] (RO s1) [100,101] (co) rfl rfl ⟨by simp only [go_sem],by first | (rw [aa];decide) | (simp only [go_sem]<;>(try rw [aa])<;>decide)⟩ rfl (by unfold RO TO ae;simp only [go_sem]) (by unfold RO TO;simp only [go_sem]) ?_
  rintro _ _ ⟨rfl,rfl⟩
  unfold RO TO ae
  simp only [go_sem]
  refine ab E [.bx [100] 0,.d (i64 7),.d (.str [61])] (RO so) [100,101] (cm) rfl rfl ⟨by simp only [go_sem],by first | (rw [aa];decide) | (simp only [go_sem]<;>(try rw [aa])<;>decide)⟩ rfl (by unfold RO TO ae;simp only [go_sem]) (by unfold RO TO;simp only [go_sem]) ?_
  rintro _ _ ⟨rfl,rfl⟩
  unfold RO TO ae
  simp only [go_sem]
  refine ab E [.bx [101] 0] (TO s2.l s2.fin) [101] (cp) rfl rfl ⟨by simp only [go_sem],by first | (rw [aa];decide) | (simp only [go_sem]<;>(try rw [aa])<;>decide)⟩ rfl (by unfold TO ae;simp only [go_sem]) (by unfold TO;simp only [go_sem]) ?_
  rintro _ _ ⟨rfl,rfl⟩
  unfold TO ae
  simp only [go_sem]
  refine ab E [.bx [100] 0] (RO s2) [100,101] (ca) rfl rfl ⟨by simp only [go_sem],by first | (rw [aa];decide) | (simp only [go_sem]<;>(try rw [aa])<;>decide)⟩ rfl (by unfold RO TO ae;simp only [go_sem]) (by unfold RO TO;simp only [go_sem]) ?_
  rintro _ _ ⟨rfl,rfl⟩
  unfold RO TO ae
  simp only [go_sem]
  rw [ai (n:=(a.length:Int)-1) ⟨by omega,by omega⟩]
  refine ⟨⟨by omega,by omega⟩,?_⟩
  rw [show ((a.length:Int)-1).toNat=a.length-1 by omega,aN (show a.length-1<a.length by omega)]
  have hrt:db a=ndE a (a.length-1):=rfl
  rw [← hrt]
  simp only [go_sem]
  refine ah E (fun h=>?_) (fun h=>?_)<;>simp only [go_sem]
  ·rw [if_pos ⟨rfl,h⟩] at hR
   refine ab E [.bx [100] 0,.d (i64 5),.d (i64 t.pos)] (RO sa) [100,101] (cf) rfl rfl ⟨by simp only [go_sem],by first | (rw [aa];decide) | (simp only [go_sem]<;>(try rw [aa])<;>decide)⟩ rfl (by unfold RO TO ae;simp only [go_sem]) (by unfold RO TO;simp only [go_sem]) ?_
   rintro _ _ ⟨rfl,rfl⟩
   unfold RO TO ae
   simp only [go_sem]
   obtain ⟨k1,b,sb,J,eR,k2,k3⟩:=key (sa.fail 5 t.pos) (md _ _ _) (by unfold PS.fail;split<;>rfl) 8 hR
   subst eR
   refine ab E [.bx [100] 0,.d (i64 1),.d (.str bIn)] (RO (sa.fail 5 t.pos)) [100,101] (k1) rfl rfl ⟨by simp only [go_sem],by first | (rw [aa];decide) | (simp only [go_sem]<;>(try rw [aa])<;>decide)⟩ rfl (by unfold RO TO ae;simp only [go_sem]) (by unfold RO TO;simp only [go_sem]) ?_
   rintro _ _ ⟨rfl,rfl⟩
   unfold RO TO ae
   simp only [go_sem]
   refine ak mixed E fun X=>?_
   simp only [go_sem]
   refine aZ X [.bx [100] 0] (RO ((sa.fail 5 t.pos).must 1 bIn)) [100,101] _ _ k2 rfl rfl ⟨by simp only [go_sem],by rw [aa];decide⟩ rfl (by unfold RO TO ae;simp only [go_sem]) (by unfold RO TO;simp only [go_sem]) (by unfold RO TO;simp only [go_sem]) ?_
   unfold RO TO ae
   simp only [go_sem]
   refine bw X 50 [50] (some 1) [.agg [.sl (some 9) (a.map enD)],.agg [.sl (some 9) (b.map enD)]] k3 (fun _=>rfl) rfl rfl rfl (by simp) rfl (by simp only [go_sem]) ?_
   simp only [go_sem]
   refine ⟨by decide +kernel,?_⟩
   refine ⟨_,_,[100,101],id,⟨rfl,rfl⟩,?_⟩
   simp only [go_sem]
   rfl
  ·rw [if_neg (fun q=>h q.2)] at hR
   obtain ⟨k1,b,sb,J,eR,k2,k3⟩:=key sa rfl rfl 8 hR
   subst eR
   refine ab E [.bx [100] 0,.d (i64 1),.d (.str bIn)] (RO sa) [100,101] (k1) rfl rfl ⟨by simp only [go_sem],by first | (rw [aa];decide) | (simp only [go_sem]<;>(try rw [aa])<;>decide)⟩ rfl (by unfold RO TO ae;simp only [go_sem]) (by unfold RO TO;simp only [go_sem]) ?_
   rintro _ _ ⟨rfl,rfl⟩
   unfold RO TO ae
   simp only [go_sem]
   refine ak mixed E fun X=>?_
   simp only [go_sem]
   refine aZ X [.bx [100] 0] (RO (sa.must 1 bIn)) [100,101] _ _ k2 rfl rfl ⟨by simp only [go_sem],by rw [aa];decide⟩ rfl (by unfold RO TO ae;simp only [go_sem]) (by unfold RO TO;simp only [go_sem]) (by unfold RO TO;simp only [go_sem]) ?_
   unfold RO TO ae
   simp only [go_sem]
   refine bw X 50 [50] (some 1) [.agg [.sl (some 9) (a.map enD)],.agg [.sl (some 9) (b.map enD)]] k3 (fun _=>rfl) rfl rfl rfl (by simp) rfl (by simp only [go_sem]) ?_
   simp only [go_sem]
   refine ⟨by decide +kernel,?_⟩
   refine ⟨_,_,[100,101],id,⟨rfl,rfl⟩,?_⟩
   simp only [go_sem]
   rfl
 ·rw [if_neg (by rw [g];decide)] at hR
  refine ab E [.bx [100] 0,.d (i64 2)] (RO s1) [100,101] (co) rfl rfl ⟨by simp only [go_sem],by first | (rw [aa];decide) | (simp only [go_sem]<;>(try rw [aa])<;>decide)⟩ rfl (by unfold RO TO ae;simp only [go_sem]) (by unfold RO TO;simp only [go_sem]) ?_
  rintro _ _ ⟨rfl,rfl⟩
  unfold RO TO ae
  simp only [go_sem]
  refine ab E [.bx [100] 0,.d (i64 7),.d (.str [61])] (RO so) [100,101] (cm) rfl rfl ⟨by simp only [go_sem],by first | (rw [aa];decide) | (simp only [go_sem]<;>(try rw [aa])<;>decide)⟩ rfl (by unfold RO TO ae;simp only [go_sem]) (by unfold RO TO;simp only [go_sem]) ?_
  rintro _ _ ⟨rfl,rfl⟩
  unfold RO TO ae
  simp only [go_sem]
  refine ab E [.bx [101] 0] (TO s2.l s2.fin) [101] (cp) rfl rfl ⟨by simp only [go_sem],by first | (rw [aa];decide) | (simp only [go_sem]<;>(try rw [aa])<;>decide)⟩ rfl (by unfold TO ae;simp only [go_sem]) (by unfold TO;simp only [go_sem]) ?_
  rintro _ _ ⟨rfl,rfl⟩
  unfold TO ae
  simp only [go_sem]
  refine ab E [.bx [100] 0] (RO s2) [100,101] (ca) rfl rfl ⟨by simp only [go_sem],by first | (rw [aa];decide) | (simp only [go_sem]<;>(try rw [aa])<;>decide)⟩ rfl (by unfold RO TO ae;simp only [go_sem]) (by unfold RO TO;simp only [go_sem]) ?_
  rintro _ _ ⟨rfl,rfl⟩
  unfold RO TO ae
  simp only [go_sem]
  rw [if_neg (fun q=>absurd q.1 (by decide))] at hR
  obtain ⟨k1,b,sb,J,eR,k2,k3⟩:=key sa rfl rfl 7 hR
  subst eR
  refine ab E [.bx [100] 0,.d (i64 1),.d (.str bIn)] (RO sa) [100,101] (k1) rfl rfl ⟨by simp only [go_sem],by first | (rw [aa];decide) | (simp only [go_sem]<;>(try rw [aa])<;>decide)⟩ rfl (by unfold RO TO ae;simp only [go_sem]) (by unfold RO TO;simp only [go_sem]) ?_
  rintro _ _ ⟨rfl,rfl⟩
  unfold RO TO ae
  simp only [go_sem]
  refine ak mixed E fun X=>?_
  simp only [go_sem]
  refine aZ X [.bx [100] 0] (RO (sa.must 1 bIn)) [100,101] _ _ k2 rfl rfl ⟨by simp only [go_sem],by rw [aa];decide⟩ rfl (by unfold RO TO ae;simp only [go_sem]) (by unfold RO TO;simp only [go_sem]) (by unfold RO TO;simp only [go_sem]) ?_
  unfold RO TO ae
  simp only [go_sem]
  refine bw X 50 [50] (some 1) [.agg [.sl (some 9) (a.map enD)],.agg [.sl (some 9) (b.map enD)]] k3 (fun _=>rfl) rfl rfl rfl (by simp) rfl (by simp only [go_sem]) ?_
  simp only [go_sem]
  refine ⟨by decide +kernel,?_⟩
  refine ⟨_,_,[100,101],id,⟨rfl,rfl⟩,?_⟩
  simp only [go_sem]
  rfl
end Go.Proofs.YtejpnabbmgpmaaaGreat

namespace Go.Proofs.YtejpnabbmgpmaaaGreat
open Go.Ab
theorem jJ {α:Type} {l:List α} {p:α→Bool} {i:Nat} (h:i<l.length) (ha:(l.take i).any p=false) (hb:p l[i]=false):(l.take (i+1)).any p=false:=by
 rw [List.take_succ_eq_append_getElem h,List.any_append,ha]
 simp [hb]
theorem Gz {l:List EF} {i:Nat} (h:i<l.length):(l.map fD).getD i .nilp=.agg [.str l[i].nm,.str l[i].var,i64 l[i].to]:=by simp [h,fD]
theorem Eb {G} (l:List EF) (p:EF→Bool) (f:Nat) (caps:List D) (hl:l.length≤1000000) (hc:∀ x∈l,HP Tryz.prog G f (fD x::caps) (fun r=>r=.d (.bool (p x)))) :
  HP Tryz.prog G 237 [.sl (some 3) (l.map fD),.clo f caps] (fun r=>∃ z:Int,r=.d (i64 z)∧decide (0≤z)=l.any p):=by
 have hget:∀ {i:Nat} (h:i<l.length),(l.map fD).getD i .nilp=.agg [.str l[i].nm,.str l[i].var,i64 l[i].to]:=fun h=>Gz h
 refine al Tryz.func237 rfl (by decide +kernel) (by simp [Tryz.ntmps237]) (veil fun E=>?_)
 simp only [go_sem]
 refine cq E (X:={ i:Nat // i≤l.length∧(l.take i).any p=false }) (fun x=>[(0,.d (.sl (some 3) (l.map fD))),(1,.d (.clo f caps)),(6,.d (.sl (some 3) (l.map fD))),(7,.d (i64 l.length)),(8,.d (i64 x.1))]) (fun x=>l.length-x.1) rfl ⟨0,Nat.zero_le _,by simp⟩ ?_ ?_
 ·simp only [go_sem]
  all_goals rfl
 rintro ⟨i,hi,hab⟩ E'
 simp only [go_sem]
 refine ah E' (fun h1=>?_) (fun h1=>?_)<;>simp only [go_sem]
 ·have h1':i<l.length:=by omega
  refine ⟨⟨by omega,by omega⟩,?_⟩
  rw [hget h1']
  simp only [go_sem]
  refine sc E' (hc l[i] (List.getElem_mem h1')) rfl rfl (by simp) ?_
  rintro _ rfl
  simp only [go_sem]
  refine aB E' (fun h2=>?_) (fun h2=>?_)<;>simp only [go_sem]
  ·refine ⟨_,rfl,?_⟩
   have:l.any p=true:=List.any_eq_true.2 ⟨l[i],List.getElem_mem h1',h2⟩
   rw [this]
   exact decide_eq_true (Int.natCast_nonneg _)
  ·refine ⟨⟨i+1,by omega,jJ h1' hab h2⟩,by show l.length-(i+1)<_;omega,?_⟩
   rw [ai ⟨by omega,by omega⟩];rfl
 ·have h3:i=l.length:=by omega
  subst h3
  rw [List.take_length] at hab
  refine ⟨_,rfl,?_⟩
  rw [hab]
  decide
theorem Fo {G} (l:List EF) (p:EF→Bool) (f:Nat) (caps:List D) (hl:l.length≤1000000) (hc:∀ x∈l,HP Tryz.prog G f (fD x::caps) (fun r=>r=.d (.bool (p x)))) :
  HP Tryz.prog G 179 [.sl (some 3) (l.map fD),.clo f caps] (fun r=>r=.d (.bool (l.any p))):=by
 refine al Tryz.func179 rfl (by decide +kernel) (by simp [Tryz.ntmps179]) (veil fun E=>?_)
 simp only [go_sem]
 refine ag E (Eb l p f caps hl hc) rfl rfl (by simp) ?_
 rintro _ ⟨z,rfl,hz⟩
 simp only [go_sem]
 rw [hz]
theorem DW {G} (x:EF) (t:Tok):HP Tryz.prog G 371 [fD x,.ptr (ck t)] (fun r=>r=.d (.bool (decide (x.nm=t.s)))):=by
 unfold fD
 rw [show ck t=.agg [i64 t.k,.str t.s,i64 t.n,i64 t.pos] from rfl]
 refine aw Tryz.func371 rfl (by decide +kernel) (by simp [Tryz.ntmps371]) (veil fun E=>?_)
 simp only [go_sem]
 refine ⟨[],?_⟩
 simp only [go_sem]
 by_cases h:x.nm=t.s<;>simp [h]
end Go.Proofs.YtejpnabbmgpmaaaGreat

namespace Go.Proofs.YtejpnabbmgpmaaaGreat
open Go.Ab
theorem Eg {G} (l:List Int) (p:Int→Bool) (f:Nat) (caps:List D) (hl:l.length≤1000000) (hc:∀ x∈l,HP Tryz.prog G f (i64 x::caps) (fun r=>r=.d (.bool (p x)))) :
  HP Tryz.prog G 110 [.sl none (l.map i64),.clo f caps] (fun r=>∃ z:Int,r=.d (i64 z)∧decide (0≤z)=l.any p):=by
 have hget:∀ {i:Nat} (h:i<l.length),(l.map i64).getD i .nilp=i64 l[i]:=fun h=>by simp [h]
 refine al Tryz.func110 rfl (by decide +kernel) (by simp [Tryz.ntmps110]) (veil fun E=>?_)
 simp only [go_sem]
 refine cq E (X:={ i:Nat // i≤l.length∧(l.take i).any p=false }) (fun x=>[(0,.d (.sl none (l.map i64))),(1,.d (.clo f caps)),(6,.d (.sl none (l.map i64))),(7,.d (i64 l.length)),(8,.d (i64 x.1))]) (fun x=>l.length-x.1) rfl ⟨0,Nat.zero_le _,by simp⟩ ?_ ?_
 ·simp only [go_sem]
  all_goals rfl
 rintro ⟨i,hi,hab⟩ E'
 simp only [go_sem]
 refine ah E' (fun h1=>?_) (fun h1=>?_)<;>simp only [go_sem]
 ·have h1':i<l.length:=by omega
  refine ⟨⟨by omega,by omega⟩,?_⟩
  rw [hget h1']
  simp only [go_sem]
  refine sc E' (hc l[i] (List.getElem_mem h1')) rfl rfl (by simp) ?_
  rintro _ rfl
  simp only [go_sem]
  refine aB E' (fun h2=>?_) (fun h2=>?_)<;>simp only [go_sem]
  ·refine ⟨_,rfl,?_⟩
   have:l.any p=true:=List.any_eq_true.2 ⟨l[i],List.getElem_mem h1',h2⟩
   rw [this]
   exact decide_eq_true (Int.natCast_nonneg _)
  ·refine ⟨⟨i+1,by omega,jJ h1' hab h2⟩,by show l.length-(i+1)<_;omega,?_⟩
   rw [ai ⟨by omega,by omega⟩];rfl
 ·have h3:i=l.length:=by omega
  subst h3
  rw [List.take_length] at hab
  refine ⟨_,rfl,?_⟩
  rw [hab]
  decide
theorem AX {G} (l:List Int) (p:Int→Bool) (f:Nat) (caps:List D) (hl:l.length≤1000000) (hc:∀ x∈l,HP Tryz.prog G f (i64 x::caps) (fun r=>r=.d (.bool (p x)))) :
  HP Tryz.prog G 60 [.sl none (l.map i64),.clo f caps] (fun r=>r=.d (.bool (l.any p))):=by
 refine al Tryz.func60 rfl (by decide +kernel) (by simp [Tryz.ntmps60]) (veil fun E=>?_)
 simp only [go_sem]
 refine ag E (Eg l p f caps hl hc) rfl rfl (by simp) ?_
 rintro _ ⟨z,rfl,hz⟩
 simp only [go_sem]
 rw [hz]
theorem GU {G} (k:Int):HP Tryz.prog G 61 [i64 k] (fun r=>r=.d (.bool (!decide (k=1)))):=by
 refine al Tryz.func61 rfl (by decide +kernel) (by simp [Tryz.ntmps61]) (veil fun E=>?_)
 simp only [go_sem]
 by_cases h:k=1<;>simp [h]
theorem DQ {G} (l:List EN) (p:EN→Bool) (f:Nat) (caps:List D) (hl:l.length≤1000000) (hc:∀ x∈l,HP Tryz.prog G f (enD x::caps) (fun r=>r=.d (.bool (p x)))) :
  HP Tryz.prog G 151 [.sl (some 9) (l.map enD),.clo f caps] (fun r=>∃ z:Int,r=.d (i64 z)∧decide (0≤z)=l.any p):=by
 have hget:∀ {i:Nat} (h:i<l.length),(l.map enD).getD i .nilp=.agg [i64 l[i].k,i64 l[i].a,i64 l[i].b,i64 l[i].c,i64 l[i].n,.str l[i].name,.str l[i].s,.sl (some 3) (l[i].l.map fD),i64 l[i].pos]:=fun h=>by simp [h,enD,efD]
 refine al Tryz.func151 rfl (by decide +kernel) (by simp [Tryz.ntmps151]) (veil fun E=>?_)
 simp only [go_sem]
 refine cq E (X:={ i:Nat // i≤l.length∧(l.take i).any p=false }) (fun x=>[(0,.d (.sl (some 9) (l.map enD))),(1,.d (.clo f caps)),(6,.d (.sl (some 9) (l.map enD))),(7,.d (i64 l.length)),(8,.d (i64 x.1))]) (fun x=>l.length-x.1) rfl ⟨0,Nat.zero_le _,by simp⟩ ?_ ?_
 ·simp only [go_sem]
  all_goals rfl
 rintro ⟨i,hi,hab⟩ E'
 simp only [go_sem]
 refine ah E' (fun h1=>?_) (fun h1=>?_)<;>simp only [go_sem]
 ·have h1':i<l.length:=by omega
  refine ⟨⟨by omega,by omega⟩,?_⟩
  rw [hget h1']
  simp only [go_sem]
  refine sc E' (hc l[i] (List.getElem_mem h1')) rfl rfl (by simp) ?_
  rintro _ rfl
  simp only [go_sem]
  refine aB E' (fun h2=>?_) (fun h2=>?_)<;>simp only [go_sem]
  ·refine ⟨_,rfl,?_⟩
   have:l.any p=true:=List.any_eq_true.2 ⟨l[i],List.getElem_mem h1',h2⟩
   rw [this]
   exact decide_eq_true (Int.natCast_nonneg _)
  ·refine ⟨⟨i+1,by omega,jJ h1' hab h2⟩,by show l.length-(i+1)<_;omega,?_⟩
   rw [ai ⟨by omega,by omega⟩];rfl
 ·have h3:i=l.length:=by omega
  subst h3
  rw [List.take_length] at hab
  refine ⟨_,rfl,?_⟩
  rw [hab]
  decide
theorem Ft {G} (l:List EN) (p:EN→Bool) (f:Nat) (caps:List D) (hl:l.length≤1000000) (hc:∀ x∈l,HP Tryz.prog G f (enD x::caps) (fun r=>r=.d (.bool (p x)))) :
  HP Tryz.prog G 101 [.sl (some 9) (l.map enD),.clo f caps] (fun r=>r=.d (.bool (l.any p))):=by
 refine al Tryz.func101 rfl (by decide +kernel) (by simp [Tryz.ntmps101]) (veil fun E=>?_)
 simp only [go_sem]
 refine ag E (DQ l p f caps hl hc) rfl rfl (by simp) ?_
 rintro _ ⟨z,rfl,hz⟩
 simp only [go_sem]
 rw [hz]
theorem Fx {G} (n:EN):HP Tryz.prog G 102 [enD n] (fun r=>r=.d (.bool (decide (1048576<n.pos)))):=by
 unfold enD efD
 refine al Tryz.func102 rfl (by decide +kernel) (by simp [Tryz.ntmps102]) (veil fun E=>?_)
 simp only [go_sem]
def bJ (ns:List EN) (i:Nat):List Int:=dy (ns.take i) []
theorem pU (n:EN):∀ (a:List EN) (d:List Int),dy (a++[n]) d=dy a d++[uW (dy a d) n]
 | [],_=>rfl
 | _::r,_=>pU n r _
theorem gF {ns:List EN} {i:Nat} (h:i<ns.length):bJ ns (i+1)=bJ ns i++[uW (bJ ns i) (ndE ns i)]:=by
 unfold bJ
 rw [List.take_succ_eq_append_getElem h,pU,bG h]
def mx (d:List Int) (ks:List Int):Int:=ks.foldl (fun m k=>max m (d.getD k.toNat 0)) 0
theorem rv (d ks:List Int) (k:Int):mx d (ks++[k])=max (mx d ks) (d.getD k.toNat 0):=by simp [mx]
theorem nr (d:List Int) (n:EN):uW d n=mx d (aj n)+1:=rfl
theorem wq {d:List Int} {M:Nat} (h:Bd M d) (ks:List Int):0≤mx d ks∧mx d ks≤(M:Int):=by
 suffices g:∀ (ks:List Int) (m:Int),0≤m∧m≤(M:Int)→0≤ks.foldl (fun m k=>max m (d.getD k.toNat 0)) m∧ks.foldl (fun m k=>max m (d.getD k.toNat 0)) m≤(M:Int) from g ks 0 ⟨Int.le_refl 0,by omega⟩
 intro ks
 induction ks with
 | nil=>exact fun m h=>h
 | cons k r ih =>
   intro m hm
   have:=h.get k.toNat
   exact ih (max m (d.getD k.toNat 0)) ⟨by omega,by omega⟩
theorem cS {ns:List EN}:∀ {i:Nat},i≤ns.length→(bJ ns i).length=i∧Bd i (bJ ns i)
 | 0,_=>by simp [bJ,dy,Bd]
 | i+1,h=>by
   obtain ⟨h1,h2⟩:=cS (ns:=ns) (i:=i) (by omega)
   rw [gF (by omega)]
   refine ⟨by simp [h1],fun c hc=>?_⟩
   rcases List.mem_append.1 hc with hc | hc
   ·have:=h2 c hc;omega
   ·rw [List.mem_singleton.1 hc,nr]
    have:=wq h2 (aj (ndE ns i))
    omega
def eD (ns:List EN) (i:Nat) (m:Int):List Int:=bJ ns i++m::List.replicate (ns.length-i-1) 0
theorem kT {ns:List EN} {i:Nat} (hi:i<ns.length) (m:Int):(eD ns i m).getD i 0=m:=by
 have:=(cS (ns:=ns) (i:=i) (by omega)).1
 unfold eD
 rw [List.getD_eq_getElem?_getD,List.getElem?_append_right (by omega),this,Nat.sub_self]
 rfl
theorem tN {ns:List EN} {i k:Nat} (hi:i≤ns.length) (m:Int) (hk:k<i):(eD ns i m).getD k 0=(bJ ns i).getD k 0:=by
 have:=(cS (ns:=ns) (i:=i) hi).1
 unfold eD
 rw [List.getD_eq_getElem?_getD,List.getD_eq_getElem?_getD,List.getElem?_append_left (by omega)]
theorem lD {ns:List EN} {i:Nat} (hi:i<ns.length) (m x:Int):(eD ns i m).set i x=eD ns i x:=by
 have:=(cS (ns:=ns) (i:=i) (by omega)).1
 unfold eD
 rw [List.set_append_right _ _ (by omega),this,Nat.sub_self]
 rfl
theorem uz {ns:List EN} {i:Nat} (hi:i<ns.length) (m:Int):(eD ns i m).length=ns.length:=by
 have:=(cS (ns:=ns) (i:=i) (by omega)).1
 unfold eD
 simp only [List.length_append,List.length_cons,List.length_replicate]
 omega
theorem zz {ns:List EN} {i:Nat} (hi:i+1<ns.length):eD ns i (uW (bJ ns i) (ndE ns i))=eD ns (i+1) 0:=by
 unfold eD
 rw [gF (by omega),List.append_assoc,show ns.length-i-1=ns.length-(i+1)-1+1 by omega,List.replicate_succ]
 rfl
theorem A5 {ns:List EN} {i:Nat} (hi:i+1=ns.length):eD ns i (uW (bJ ns i) (ndE ns i))=dy ns []:=by
 have h1:=gF (ns:=ns) (i:=i) (by omega)
 have h2:bJ ns (i+1)=dy ns []:=by unfold bJ;rw [hi,List.take_length]
 rw [← h2,h1]
 unfold eD
 rw [show ns.length-i-1=0 by omega]
 rfl
def je (ns:List EN) (i:Nat):List Int:=if i<ns.length then eD ns i 0 else dy ns []
theorem pS (ns:List EN):je ns 0=List.replicate ns.length 0:=by
 unfold je
 split
 ·rename_i h
  unfold eD bJ
  rw [List.take_zero,show ns.length=(ns.length-0-1)+1 by omega,List.replicate_succ]
  simp [dy]
 ·rename_i h
  have:ns=[]:=List.length_eq_zero_iff.1 (by omega)
  subst this
  rfl
theorem qc {ns:List EN} {i:Nat} (hi:i<ns.length):eD ns i (uW (bJ ns i) (ndE ns i))=je ns (i+1):=by
 unfold je
 split
 ·rename_i h;exact zz h
 ·exact A5 (by omega)
theorem vn (a b:Int):(if a > b then a else b)=max b a:=by split<;>omega
theorem AM {G} (ns:List EN) (hn:ns.length≤1000000) (hs:∀ n∈ns,n.l.length≤1000000) (hk:∀ i,i<ns.length→(aj (ndE ns i)).all (inB i)=true) :
  HP Tryz.prog G 62 [exD ns] (fun r=>r=.d (.sl none ((dy ns []).map i64))):=by
 unfold exD
 refine aw Tryz.func62 rfl (by decide +kernel) (by simp [Tryz.ntmps62]) (veil fun E=>?_)
 simp only [go_sem]
 refine ⟨⟨by omega,by omega,by omega,by omega⟩,?_⟩
 refine bl E (X:={ i:Nat // i≤ns.length }) (fun x=>[(1,.bx [1] 0),(2,.d .nils),(3,.vw [11] 0 ns.length),(13,.d (.sl (some 9) (ns.map enD))),(14,.d (i64 ns.length)),(15,.d (i64 x.1))])
  (fun x=>[([1],.box [.d (.sl (some 9) (ns.map enD))]),([11],.arr none ((je ns x.1).map i64))]) [11,1] (fun x=>ns.length-x.1) ⟨0,Nat.zero_le _⟩ ?_ ?_
 ·rw [pS,List.map_replicate]
  simp only [go_sem]
  all_goals rfl
 rintro ⟨i,hi⟩ E0
 refine aC E0 fun Q' hQ E'=>?_
 simp only at hi ⊢
 simp only [go_sem]
 refine ah E' (fun g1=>?_) (fun g1=>?_)<;>simp only [go_sem]
 ·have hi':i<ns.length:=by omega
  refine ⟨⟨by omega,by omega⟩,?_⟩
  have hg:=aN hi'
  have hst:=qc hi'
  rw [nr] at hst
  have hki:=hk i hi'
  have hsi:=hs _ (by rw [bG hi'];exact List.getElem_mem hi':ndE ns i∈ns)
  obtain ⟨n,hne⟩:∃ n,n=ndE ns i:=⟨_,rfl⟩
  rw [← hne] at hg hst hki hsi
  rw [show je ns i=eD ns i 0 by unfold je;rw [if_pos hi'],hg]
  obtain ⟨hd1,hd2⟩:=cS (ns:=ns) (i:=i) hi
  have hkc:=gQ (G:=G) n hsi
  obtain ⟨K,hK⟩:∃ K,K=aj n:=⟨_,rfl⟩
  have hKl:K.length≤1000003:=by rw [hK,br];unfold bf;have:=bB n.k;split<;>omega
  rw [← hK] at hkc hki hst
  simp only [go_sem]
  refine ab E' [.d (enD n)] [] [] hkc rfl rfl ⟨by simp only [go_sem],by rw [aa];decide⟩ rfl (by simp only [go_sem]) (by simp only [go_sem]) ?_
  rintro _ _ ⟨rfl,rfl⟩
  simp only [go_sem]
  refine jb E' [21,0] none (K.map i64) rfl ?_
  simp only [go_sem]
  refine bl E' (X:={ q:Nat // q≤K.length }) (fun x=>[(1,.bx [1] 0),(2,.d .nils),(3,.vw [11] 0 ns.length),(4,.d (i64 i)),(5,.bx [5] 0),(13,.d (.sl (some 9) (ns.map enD))),(14,.d (i64 ns.length)),(15,.d (i64 i)),(21,.d (.sl none (K.map i64))),(22,.d (i64 K.length)),(23,.d (i64 x.1))])
   (fun x=>[([1],.box [.d (.sl (some 9) (ns.map enD))]),([11],.arr none ((eD ns i (mx (bJ ns i) (K.take x.1))).map i64)),([5],.box [.d (i64 n.k),.d (i64 n.a),.d (i64 n.b),.d (i64 n.c),.d (i64 n.n),.d (.str n.name),.d (.str n.s),.d (.sl (some 3) (n.l.map fD)),.d (i64 n.pos)])]) [5,11,1] (fun x=>K.length-x.1) ⟨0,Nat.zero_le _⟩ ?_ ?_
  ·simp only [go_sem]
   all_goals rfl
  rintro ⟨q,hq⟩ E2
  refine aC E2 fun Q2 hQ2 E3=>?_
  simp only at hq ⊢
  have hal:=uz hi' (mx (bJ ns i) (K.take q))
  have hmb:=wq hd2 (K.take q)
  simp only [go_sem]
  refine ah E3 (fun g2=>?_) (fun g2=>?_)<;>simp only [go_sem]
  ·have hq':q<K.length:=by omega
   have hkq:0≤K[q]∧K[q]<(i:Int):=by
    have:=List.all_eq_true.1 hki K[q] (List.getElem_mem hq')
    simpa [inB] using this
   refine ⟨⟨by omega,by omega⟩,?_⟩
   rw [av hq',show K.getD q 0=K[q] by simp [hq']]
   simp only [go_sem]
   refine ak mixed E3 fun X=>?_
   simp only [go_sem]
   refine ⟨⟨by omega,by omega⟩,?_⟩
   rw [av (by omega),kT hi']
   simp only [go_sem]
   refine ⟨⟨by omega,by omega⟩,?_⟩
   rw [av (by omega),tN hi _ (show K[q].toNat<i by omega)]
   simp only [go_sem]
   refine ⟨⟨by omega,by omega⟩,by decide +kernel,?_⟩
   rw [ai (n:=(q:Int)+1) ⟨by omega,by omega⟩]
   rw [show (List.map i64 (eD ns i (mx (bJ ns i) (K.take q)))).set i (.int .i64 (if (bJ ns i).getD K[q].toNat 0 > mx (bJ ns i) (K.take q) then (bJ ns i).getD K[q].toNat 0 else mx (bJ ns i) (K.take q)))=(eD ns i (mx (bJ ns i) (K.take (q+1)))).map i64 by
    rw [List.take_succ_eq_append_getElem hq',rv,vn,← List.map_set,lD hi']]
   rw [hQ2]
   simp only [go_sem]
   refine ⟨⟨q+1,by omega⟩,by show K.length-(q+1)<_;omega,?_⟩
   first | rfl | exact ⟨rfl,rfl⟩
  ·rw [hQ2]
   have h3:q=K.length:=by omega
   subst h3
   rw [List.take_length] at *
   simp only [go_sem]
   refine ⟨⟨by omega,by omega⟩,?_⟩
   rw [av (by omega),kT hi']
   simp only [go_sem]
   refine ⟨⟨by omega,by omega⟩,?_⟩
   rw [ai (n:=mx (bJ ns i) K+1) ⟨by omega,by omega⟩,ai (n:=(i:Int)+1) ⟨by omega,by omega⟩]
   rw [show (List.map i64 (eD ns i (mx (bJ ns i) K))).set i (.int .i64 (mx (bJ ns i) K+1))=(je ns (i+1)).map i64 by
    rw [← hst,← List.map_set,lD hi']]
   rw [hQ]
   simp only [go_sem]
   refine ⟨⟨i+1,by omega⟩,by show ns.length-(i+1)<_;omega,?_⟩
   first | rfl | exact ⟨rfl,rfl⟩
 ·rw [hQ]
  have h3:i=ns.length:=by omega
  subst h3
  simp only [go_sem]
  refine ⟨[([11],none,(je ns ns.length).map i64)],?_⟩
  rw [show je ns ns.length=dy ns [] by unfold je;rw [if_neg (Nat.lt_irrefl _)]]
  simp only [go_sem]
  have hdl:=(cS (ns:=ns) (Nat.le_refl _)).1
  unfold bJ at hdl
  rw [List.take_length] at hdl
  rw [List.take_of_length_le (by rw [List.length_map,hdl];exact Nat.le_refl _)]
end Go.Proofs.YtejpnabbmgpmaaaGreat

