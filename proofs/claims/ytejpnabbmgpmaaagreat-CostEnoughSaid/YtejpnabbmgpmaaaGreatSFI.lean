/-
  The document's tree: whether a node may be. (with the parts that follow it)
-/
import Derived.Test.YtejpnabbmgpmaaaGreatSFG
import Derived.Test.YtejpnabbmgpmaaaGreatSFH
set_option linter.all false
namespace Go.Proofs.YtejpnabbmgpmaaaGreat
open Go.Ab
theorem rl {P:Program} {cf:Cf} {Φ:Exit→Act→World→Prop} {I:Base→List Deferred→Prop} {k:List It} {s:St} (fr:List (Nat × AV)) (hp:List (Name × Ob)) (u:List Nat) (hle:LeL cf.U id s fr hp u) (h:ARY P cf Φ I k (mk fr hp u)):ARY P cf Φ I k s:=by
 intro B hB ds β a w hds hI hs
 obtain ⟨β2,hs2,_⟩:=hs.le (τ:=id) (by rw [hB.2.1];exact hle.le)
 exact h B hB ds β2 a w hds hI hs2
theorem Ca {G} (n:EN) (h:¬ (1≤n.k∧n.k≤14∧0≤n.pos∧n.pos≤1048576)):HP Tryz.prog G 117 [enD n] (fun r=>r=.d (.bool (bN n))):=by
 have:(decide (1≤n.k) && decide (n.k≤14) && decide (0≤n.pos) && decide (n.pos≤1048576))=false:=by
  rw [Bool.eq_false_iff]
  intro hc
  simp only [Bool.and_eq_true,decide_eq_true_eq] at hc
  omega
 have hr:bN n=false:=by rw [bN,this,Bool.false_and]
 rw [hr]
 unfold enD efD
 refine al Tryz.func117 rfl (by decide +kernel) (by simp [Tryz.ntmps117]) (veil fun E=>?_)
 simp only [go_sem]
 repeat (first
  | (apply b6 E;(· simp only [go_sem]);(· intro h;(try simp only [bq] at h);simp only [↓h,go_sem];rfl);simp only [go_sem])
  | (apply a9 E;(· simp only [go_sem]);(· intro h;(try simp only [bq] at h);simp only [↓h,go_sem];rfl);(· intro h;(try simp only [bq] at h);simp only [↓h,go_sem];rfl);simp only [go_sem])
  | (apply a8 E;(· simp only [go_sem]);(· rfl);(· intro h h';(try simp only [bq] at h h');simp only [↓h,↓h',go_sem];rfl);simp only [go_sem])
  | (apply aK E;(· simp only [go_sem]);(· rfl);(· intro h h';(try simp only [bq] at h h');simp only [↓h,↓h',go_sem];rfl);(· intro h h';(try simp only [bq] at h h');simp only [↓h,↓h',go_sem];rfl);simp only [go_sem])
  | (apply bY E;(· decide);simp only [go_sem]))
 refine aD E (fun _=>?_) (fun g=>absurd ?_ h)
 ·simp only [go_sem]
 ·simp only [Bool.or_eq_false_iff,decide_eq_false_iff_not] at g
  omega
set_option maxRecDepth 10000 in
set_option maxHeartbeats 4000000 in
theorem EH {G} (n:EN) (h:n.name.length≤BIG) (hp:0≤n.pos∧n.pos≤1048576) (hk:1≤n.k∧n.k≤14) (c3:n.k=11∨n.k=14→HP Tryz.prog G 167 [enD n] (fun r=>r=.d (.bool (bZ n)))) :
  HP Tryz.prog G 117 [enD n] (fun r=>r=.d (.bool (bN n))):=by
 have c1:=r8 (G:=G) n.name h
 have c2:=xe (G:=G) n.name h
 have hP:=sL n hp hk
 unfold enD efD at *
 refine gl Tryz.func117 rfl (by decide +kernel) (by simp [Tryz.ntmps117]) fun B0 hB0=>?_
 refine aB (aq fun E=>?_)
 simp only [go_sem]
 refine aB (aq fun E=>?_)
 simp only [go_sem]
 repeat (first
  | (apply b6 E;(· simp only [go_sem]);(· intro h;(try simp only [bq] at h);simp only [↓h,go_sem];rfl);simp only [go_sem])
  | (apply a9 E;(· simp only [go_sem]);(· intro h;(try simp only [bq] at h);simp only [↓h,go_sem];rfl);(· intro h;(try simp only [bq] at h);simp only [↓h,go_sem];rfl);simp only [go_sem])
  | (apply a8 E;(· simp only [go_sem]);(· rfl);(· intro h h';(try simp only [bq] at h h');simp only [↓h,↓h',go_sem];rfl);simp only [go_sem])
  | (apply aK E;(· simp only [go_sem]);(· rfl);(· intro h h';(try simp only [bq] at h h');simp only [↓h,↓h',go_sem];rfl);(· intro h h';(try simp only [bq] at h h');simp only [↓h,↓h',go_sem];rfl);simp only [go_sem])
  | (apply bY E;(· decide);simp only [go_sem]))
 refine aD E (fun g=>absurd (show n.pos<0∨1048576<n.pos∨n.k<1∨14<n.k by simpa [or_assoc] using g) (by omega)) (fun _=>?_)
 simp only [go_sem]
 refine rl [(1,.bx [1] 0),(2,.d (.bool false))] [([1],.box [.d (i64 n.k),.d (i64 n.a),.d (i64 n.b),.d (i64 n.c),.d (i64 n.n),.d (.str n.name),.d (.str n.s),.d (.sl (some 3) (n.l.map fD)),.d (i64 n.pos)])] [1] (by simp only [go_sem]) ?_
 refine aB (aq fun E=>?_)
 simp only [go_sem]
 refine rl [(1,.bx [1] 0),(2,.d (.bool false)),(3,.d (i64 n.k))] [([1],.box [.d (i64 n.k),.d (i64 n.a),.d (i64 n.b),.d (i64 n.c),.d (i64 n.n),.d (.str n.name),.d (.str n.s),.d (.sl (some 3) (n.l.map fD)),.d (i64 n.pos)])] [1] (by simp only [go_sem]) ?_
 refine aB (aq fun E=>?_)
 simp only [go_sem]
 repeat (first
  | (apply b6 E;(· simp only [go_sem]);(· intro h;(try simp only [bq] at h);simp only [↓h,go_sem];rfl);simp only [go_sem])
  | (apply a9 E;(· simp only [go_sem]);(· intro h;(try simp only [bq] at h);simp only [↓h,go_sem];rfl);(· intro h;(try simp only [bq] at h);simp only [↓h,go_sem];rfl);simp only [go_sem])
  | (apply a8 E;(· simp only [go_sem]);(· rfl);(· intro h h';(try simp only [bq] at h h');simp only [↓h,↓h',go_sem];rfl);simp only [go_sem])
  | (apply aK E;(· simp only [go_sem]);(· rfl);(· intro h h';(try simp only [bq] at h h');simp only [↓h,↓h',go_sem];rfl);(· intro h h';(try simp only [bq] at h h');simp only [↓h,↓h',go_sem];rfl);simp only [go_sem])
  | (apply bY E;(· decide);simp only [go_sem]))
 refine aD E (fun g=>?_) (fun g=>?_)
 ·simp only [go_sem]
  refine fc (.inl rfl) hB0 ?_
  simp only [go_sem]
  refine ⟨[],?_⟩
  simp only [go_sem]
  rw [hP,g];simp
 simp only [go_sem]
 refine rl [(1,.bx [1] 0),(2,.d (.bool false)),(3,.d (i64 n.k))] [([1],.box [.d (i64 n.k),.d (i64 n.a),.d (i64 n.b),.d (i64 n.c),.d (i64 n.n),.d (.str n.name),.d (.str n.s),.d (.sl (some 3) (n.l.map fD)),.d (i64 n.pos)])] [1] (by simp only [go_sem]) ?_
 refine aB (aq fun E=>?_)
 simp only [go_sem]
 repeat (first
  | (apply b6 E;(· simp only [go_sem]);(· intro h;(try simp only [bq] at h);simp only [↓h,go_sem];rfl);simp only [go_sem])
  | (apply a9 E;(· simp only [go_sem]);(· intro h;(try simp only [bq] at h);simp only [↓h,go_sem];rfl);(· intro h;(try simp only [bq] at h);simp only [↓h,go_sem];rfl);simp only [go_sem])
  | (apply a8 E;(· simp only [go_sem]);(· rfl);(· intro h h';(try simp only [bq] at h h');simp only [↓h,↓h',go_sem];rfl);simp only [go_sem])
  | (apply aK E;(· simp only [go_sem]);(· rfl);(· intro h h';(try simp only [bq] at h h');simp only [↓h,↓h',go_sem];rfl);(· intro h h';(try simp only [bq] at h h');simp only [↓h,↓h',go_sem];rfl);simp only [go_sem])
  | (apply bY E;(· decide);simp only [go_sem]))
 refine rl [(1,.bx [1] 0),(2,.d (.bool false)),(3,.d (i64 n.k)),(4,.d (.bool (decide (n.k=5) || decide (n.k=12) || decide (n.k=13) || decide (n.k=14))))] [([1],.box [.d (i64 n.k),.d (i64 n.a),.d (i64 n.b),.d (i64 n.c),.d (i64 n.n),.d (.str n.name),.d (.str n.s),.d (.sl (some 3) (n.l.map fD)),.d (i64 n.pos)])] [1] (by simp only [go_sem]) ?_
 refine aB (aq fun E=>?_)
 simp only [go_sem]
 repeat (first
  | (apply b6 E;(· simp only [go_sem]);(· intro h;(try simp only [bq] at h);simp only [↓h,go_sem];rfl);simp only [go_sem])
  | (apply a9 E;(· simp only [go_sem]);(· intro h;(try simp only [bq] at h);simp only [↓h,go_sem];rfl);(· intro h;(try simp only [bq] at h);simp only [↓h,go_sem];rfl);simp only [go_sem])
  | (apply a8 E;(· simp only [go_sem]);(· rfl);(· intro h h';(try simp only [bq] at h h');simp only [↓h,↓h',go_sem];rfl);simp only [go_sem])
  | (apply aK E;(· simp only [go_sem]);(· rfl);(· intro h h';(try simp only [bq] at h h');simp only [↓h,↓h',go_sem];rfl);(· intro h h';(try simp only [bq] at h h');simp only [↓h,↓h',go_sem];rfl);simp only [go_sem])
  | (apply bY E;(· decide);simp only [go_sem]))
 obtain ⟨one,h1⟩:∃ b,b=(decide (n.k=5) || decide (n.k=12) || decide (n.k=13) || decide (n.k=14)):=⟨_,rfl⟩
 obtain ⟨two,h2⟩:∃ b,b=(decide (n.k=6) || decide (n.k=7) || decide (n.k=8) || decide (n.k=10)):=⟨_,rfl⟩
 refine rl [(1,.bx [1] 0),(2,.d (.bool false)),(3,.d (i64 n.k)),(4,.d (.bool (decide (n.k=5) || decide (n.k=12) || decide (n.k=13) || decide (n.k=14)))),(5,.d (.bool (decide (n.k=6) || decide (n.k=7) || decide (n.k=8) || decide (n.k=10))))] [([1],.box [.d (i64 n.k),.d (i64 n.a),.d (i64 n.b),.d (i64 n.c),.d (i64 n.n),.d (.str n.name),.d (.str n.s),.d (.sl (some 3) (n.l.map fD)),.d (i64 n.pos)])] [1] (by simp only [go_sem]) ?_
 rw [← h1,← h2]
 refine aB (aq fun E=>?_)
 simp only [go_sem]
 repeat (first
  | (apply b6 E;(· simp only [go_sem]);(· intro h;(try simp only [bq] at h);simp only [↓h,go_sem];rfl);simp only [go_sem])
  | (apply a9 E;(· simp only [go_sem]);(· intro h;(try simp only [bq] at h);simp only [↓h,go_sem];rfl);(· intro h;(try simp only [bq] at h);simp only [↓h,go_sem];rfl);simp only [go_sem])
  | (apply a8 E;(· simp only [go_sem]);(· rfl);(· intro h h';(try simp only [bq] at h h');simp only [↓h,↓h',go_sem];rfl);simp only [go_sem])
  | (apply aK E;(· simp only [go_sem]);(· rfl);(· intro h h';(try simp only [bq] at h h');simp only [↓h,↓h',go_sem];rfl);(· intro h h';(try simp only [bq] at h h');simp only [↓h,↓h',go_sem];rfl);simp only [go_sem])
  | (apply bY E;(· decide);simp only [go_sem]))
 refine aD E (fun g3=>?_) (fun g3=>?_)
 ·simp only [go_sem]
  refine fc (.inl rfl) hB0 ?_
  simp only [go_sem]
  refine ⟨[],?_⟩
  simp only [go_sem]
  rw [hP,← h1,← h2,g3];simp
 simp only [go_sem]
 refine rl [(1,.bx [1] 0),(2,.d (.bool false)),(3,.d (i64 n.k))] [([1],.box [.d (i64 n.k),.d (i64 n.a),.d (i64 n.b),.d (i64 n.c),.d (i64 n.n),.d (.str n.name),.d (.str n.s),.d (.sl (some 3) (n.l.map fD)),.d (i64 n.pos)])] [1] (by simp only [go_sem]) ?_
 refine aB (aq fun E=>?_)
 simp only [go_sem]
 repeat (first
  | (apply b6 E;(· simp only [go_sem]);(· intro h;(try simp only [bq] at h);simp only [↓h,go_sem];rfl);simp only [go_sem])
  | (apply a9 E;(· simp only [go_sem]);(· intro h;(try simp only [bq] at h);simp only [↓h,go_sem];rfl);(· intro h;(try simp only [bq] at h);simp only [↓h,go_sem];rfl);simp only [go_sem])
  | (apply a8 E;(· simp only [go_sem]);(· rfl);(· intro h h';(try simp only [bq] at h h');simp only [↓h,↓h',go_sem];rfl);simp only [go_sem])
  | (apply aK E;(· simp only [go_sem]);(· rfl);(· intro h h';(try simp only [bq] at h h');simp only [↓h,↓h',go_sem];rfl);(· intro h h';(try simp only [bq] at h h');simp only [↓h,↓h',go_sem];rfl);simp only [go_sem])
  | (apply bY E;(· decide);simp only [go_sem]))
 obtain ⟨six,h6⟩:∃ b,b=(decide (n.k=4) || decide (n.k=5) || decide (n.k=7) || decide (n.k=8) || decide (n.k=12)):=⟨_,rfl⟩
 refine rl [(1,.bx [1] 0),(2,.d (.bool false)),(3,.d (i64 n.k)),(6,.d (.bool (decide (n.k=4) || decide (n.k=5) || decide (n.k=7) || decide (n.k=8) || decide (n.k=12))))] [([1],.box [.d (i64 n.k),.d (i64 n.a),.d (i64 n.b),.d (i64 n.c),.d (i64 n.n),.d (.str n.name),.d (.str n.s),.d (.sl (some 3) (n.l.map fD)),.d (i64 n.pos)])] [1] (by simp only [go_sem]) ?_
 rw [← h6]
 refine aB (aq fun E=>?_)
 simp only [go_sem]
 repeat (first
  | (apply b6 E;(· simp only [go_sem]);(· intro h;(try simp only [bq] at h);simp only [↓h,go_sem];rfl);simp only [go_sem])
  | (apply a9 E;(· simp only [go_sem]);(· intro h;(try simp only [bq] at h);simp only [↓h,go_sem];rfl);(· intro h;(try simp only [bq] at h);simp only [↓h,go_sem];rfl);simp only [go_sem])
  | (apply a8 E;(· simp only [go_sem]);(· rfl);(· intro h h';(try simp only [bq] at h h');simp only [↓h,↓h',go_sem];rfl);simp only [go_sem])
  | (apply aK E;(· simp only [go_sem]);(· rfl);(· intro h h';(try simp only [bq] at h h');simp only [↓h,↓h',go_sem];rfl);(· intro h h';(try simp only [bq] at h h');simp only [↓h,↓h',go_sem];rfl);simp only [go_sem])
  | (apply bY E;(· decide);simp only [go_sem]))
 (first | (apply iG E;(· simp only [go_sem]);(· intro h hk;(try simp only [bq] at h);refine ag E (c1) rfl (by simp only [↓h,go_sem]<;>rfl) (by simp) ?_;rintro _ rfl;exact hk);simp only [go_sem]) | (apply fP E;(· simp only [go_sem]);(· rfl);(· intro h h' hk;(try simp only [bq] at h h');refine ag E (c1) rfl (by simp only [↓h,↓h',go_sem]<;>rfl) (by simp) ?_;rintro _ rfl;exact hk);simp only [go_sem]))
 repeat (first
  | (apply b6 E;(· simp only [go_sem]);(· intro h;(try simp only [bq] at h);simp only [↓h,go_sem];rfl);simp only [go_sem])
  | (apply a9 E;(· simp only [go_sem]);(· intro h;(try simp only [bq] at h);simp only [↓h,go_sem];rfl);(· intro h;(try simp only [bq] at h);simp only [↓h,go_sem];rfl);simp only [go_sem])
  | (apply a8 E;(· simp only [go_sem]);(· rfl);(· intro h h';(try simp only [bq] at h h');simp only [↓h,↓h',go_sem];rfl);simp only [go_sem])
  | (apply aK E;(· simp only [go_sem]);(· rfl);(· intro h h';(try simp only [bq] at h h');simp only [↓h,↓h',go_sem];rfl);(· intro h h';(try simp only [bq] at h h');simp only [↓h,↓h',go_sem];rfl);simp only [go_sem])
  | (apply bY E;(· decide);simp only [go_sem]))
 (first | (apply iG E;(· simp only [go_sem]);(· intro h hk;(try simp only [bq] at h);refine ag E (c2) rfl (by simp only [↓h,go_sem]<;>rfl) (by simp) ?_;rintro _ rfl;exact hk);simp only [go_sem]) | (apply fP E;(· simp only [go_sem]);(· rfl);(· intro h h' hk;(try simp only [bq] at h h');refine ag E (c2) rfl (by simp only [↓h,↓h',go_sem]<;>rfl) (by simp) ?_;rintro _ rfl;exact hk);simp only [go_sem]))
 repeat (first
  | (apply b6 E;(· simp only [go_sem]);(· intro h;(try simp only [bq] at h);simp only [↓h,go_sem];rfl);simp only [go_sem])
  | (apply a9 E;(· simp only [go_sem]);(· intro h;(try simp only [bq] at h);simp only [↓h,go_sem];rfl);(· intro h;(try simp only [bq] at h);simp only [↓h,go_sem];rfl);simp only [go_sem])
  | (apply a8 E;(· simp only [go_sem]);(· rfl);(· intro h h';(try simp only [bq] at h h');simp only [↓h,↓h',go_sem];rfl);simp only [go_sem])
  | (apply aK E;(· simp only [go_sem]);(· rfl);(· intro h h';(try simp only [bq] at h h');simp only [↓h,↓h',go_sem];rfl);(· intro h h';(try simp only [bq] at h h');simp only [↓h,↓h',go_sem];rfl);simp only [go_sem])
  | (apply bY E;(· decide);simp only [go_sem]))
 refine aD E (fun g4=>?_) (fun g4=>?_)
 ·simp only [go_sem]
  refine fc (.inl rfl) hB0 ?_
  simp only [go_sem]
  refine ⟨[],?_⟩
  simp only [go_sem]
  rw [hP,← h6,g4];simp
 simp only [go_sem]
 refine rl [(1,.bx [1] 0),(2,.d (.bool false)),(3,.d (i64 n.k))] [([1],.box [.d (i64 n.k),.d (i64 n.a),.d (i64 n.b),.d (i64 n.c),.d (i64 n.n),.d (.str n.name),.d (.str n.s),.d (.sl (some 3) (n.l.map fD)),.d (i64 n.pos)])] [1] (by simp only [go_sem]) ?_
 refine aB (aq fun E=>?_)
 simp only [go_sem]
 repeat (first
  | (apply b6 E;(· simp only [go_sem]);(· intro h;(try simp only [bq] at h);simp only [↓h,go_sem];rfl);simp only [go_sem])
  | (apply a9 E;(· simp only [go_sem]);(· intro h;(try simp only [bq] at h);simp only [↓h,go_sem];rfl);(· intro h;(try simp only [bq] at h);simp only [↓h,go_sem];rfl);simp only [go_sem])
  | (apply a8 E;(· simp only [go_sem]);(· rfl);(· intro h h';(try simp only [bq] at h h');simp only [↓h,↓h',go_sem];rfl);simp only [go_sem])
  | (apply aK E;(· simp only [go_sem]);(· rfl);(· intro h h';(try simp only [bq] at h h');simp only [↓h,↓h',go_sem];rfl);(· intro h h';(try simp only [bq] at h h');simp only [↓h,↓h',go_sem];rfl);simp only [go_sem])
  | (apply bY E;(· decide);simp only [go_sem]))
 refine aD E (fun g5=>?_) (fun g5=>?_)
 ·simp only [go_sem]
  refine fc (.inl rfl) hB0 ?_
  simp only [go_sem]
  refine ⟨[],?_⟩
  simp only [go_sem]
  rw [hP,g5];simp
 simp only [go_sem]
 refine rl [(1,.bx [1] 0),(2,.d (.bool false)),(3,.d (i64 n.k))] [([1],.box [.d (i64 n.k),.d (i64 n.a),.d (i64 n.b),.d (i64 n.c),.d (i64 n.n),.d (.str n.name),.d (.str n.s),.d (.sl (some 3) (n.l.map fD)),.d (i64 n.pos)])] [1] (by simp only [go_sem]) ?_
 refine aq fun E=>?_
 simp only [go_sem]
 repeat (first
  | (apply b6 E;(· simp only [go_sem]);(· intro h;(try simp only [bq] at h);simp only [↓h,go_sem];rfl);simp only [go_sem])
  | (apply a9 E;(· simp only [go_sem]);(· intro h;(try simp only [bq] at h);simp only [↓h,go_sem];rfl);(· intro h;(try simp only [bq] at h);simp only [↓h,go_sem];rfl);simp only [go_sem])
  | (apply a8 E;(· simp only [go_sem]);(· rfl);(· intro h h';(try simp only [bq] at h h');simp only [↓h,↓h',go_sem];rfl);simp only [go_sem])
  | (apply aK E;(· simp only [go_sem]);(· rfl);(· intro h h';(try simp only [bq] at h h');simp only [↓h,↓h',go_sem];rfl);(· intro h h';(try simp only [bq] at h h');simp only [↓h,↓h',go_sem];rfl);simp only [go_sem])
  | (apply bY E;(· decide);simp only [go_sem]))
 rw [← h1,← h2,← h6,g,g3,g4,g5] at hP
 simp only [Bool.not_false,Bool.true_and] at hP
 refine bU E (fun k1=>?_) (fun k1=>?_)
 ·simp only [go_sem]
  refine fc (.inl rfl) hB0 ?_
  simp only [go_sem]
  refine ⟨[],?_⟩
  simp only [go_sem]
  rw [hP,k1,Bool.true_or]
 ·have k2:n.k=11∨n.k=14:=by
   rw [Bool.and_eq_false_iff] at k1
   simpa using k1
  rw [k1,Bool.false_or] at hP
  have c4:=c3 k2
  generalize bZ n=y at c4 hP
  simp only [go_sem]
  refine ag E c4 rfl (by (simp only [↓k1,go_sem])<;>rfl) (by simp) ?_
  rintro _ rfl
  simp only [go_sem]
  refine fc (.inl rfl) hB0 ?_
  simp only [go_sem]
  refine ⟨[],?_⟩
  simp only [go_sem]
  rw [hP]
end Go.Proofs.YtejpnabbmgpmaaaGreat

namespace Go.Proofs.YtejpnabbmgpmaaaGreat
open Go.Ab
theorem uT {k:Int} {f:EF} (hk:k=11∨k=14):(decide (k=11) && (!dU f.nm || !f.var == []) || decide (k=14) && (!kh f.nm || !dU f.var))=!fK k f:=by
 unfold fK
 rw [kQ]
 rcases hk with rfl | rfl<;>simp
theorem AQ {p:EF→Bool} {l:List EF} {i:Nat} (h:i<l.length) (hb:p l[i]=false):l.all p=false:=List.all_eq_false.2 ⟨_,List.getElem_mem h,by rw [hb];decide⟩
set_option maxHeartbeats 4000000 in
theorem FY {G} (n:EN) (h:dx BIG n) (hk:n.k=11∨n.k=14):HP Tryz.prog G 167 [enD n] (fun r=>r=.d (.bool (bZ n))):=by
 have hpz:aI n.k=true:=by rcases hk with e | e<;>rw [e]<;>rfl
 generalize hb:bZ n=b
 unfold bZ at hb
 rw [if_pos hpz] at hb
 have hl:=h.l
 unfold enD efD
 refine al Tryz.func167 rfl (by decide +kernel) (by simp [Tryz.ntmps167]) (veil fun E=>?_)
 simp only [go_sem]
 refine aA E (X:={ i:Nat // i≤n.l.length∧(n.l.take i).all (fK n.k)=true }) (fun x=>[(1,.bx [1] 0),(3,.vw [6] 0 x.1),(4,.d (i64 x.1))])
  (fun x=>[([1],.box [.d (i64 n.k),.d (i64 n.a),.d (i64 n.b),.d (i64 n.c),.d (i64 n.n),.d (.str n.name),.d (.str n.s),.d (.sl (some 3) (n.l.map fD)),.d (i64 n.pos)]),([6],.arr none ((n.l.take x.1).map fun f=>.str f.nm))]) [1,6] (fun x=>n.l.length-x.1) ⟨0,by simp⟩ id ?_ ?_
 ·simp only [go_sem]
  all_goals rfl
 rintro ⟨i,hi,hall⟩ E0
 refine aC E0 fun Q' hQ E'=>?_
 simp only at hi hall ⊢
 simp only [go_sem]
 refine ah E' (fun g1=>?_) (fun g1=>?_)<;>simp only [go_sem]
 ·have hi':i<n.l.length:=by omega
  refine ⟨⟨by omega,by omega⟩,?_⟩
  rw [sq hi']
  simp only [go_sem]
  obtain ⟨q1,q2⟩:=h.f _ (List.getElem_mem hi')
  obtain ⟨f,hf⟩:∃ f,f=n.l[i]:=⟨_,rfl⟩
  have hst:=qg (p:=fK n.k) hi' hall
  have hno:=AQ (p:=fK n.k) hi'
  have hts:(n.l.take (i+1)).map (fun f:EF=>D.str f.nm)=(n.l.take i).map (fun f:EF=>D.str f.nm)++[.str f.nm]:=by
   rw [List.take_succ_eq_append_getElem hi',List.map_append,← hf];rfl
  rw [← hf] at q1 q2 hst hno ⊢
  have c1:=r8 (G:=G) f.nm q1
  have c2:=xe (G:=G) f.nm q1
  have c3:=r8 (G:=G) f.var q2
  repeat (first
   | (apply b6 E';(· simp only [go_sem]);(· intro h;(try simp only [bq] at h);simp only [↓h,go_sem];rfl);simp only [go_sem])
   | (apply a9 E';(· simp only [go_sem]);(· intro h;(try simp only [bq] at h);simp only [↓h,go_sem];rfl);(· intro h;(try simp only [bq] at h);simp only [↓h,go_sem];rfl);simp only [go_sem])
   | (apply a8 E';(· simp only [go_sem]);(· rfl);(· intro h h';(try simp only [bq] at h h');simp only [↓h,↓h',go_sem];rfl);simp only [go_sem])
   | (apply aK E';(· simp only [go_sem]);(· rfl);(· intro h h';(try simp only [bq] at h h');simp only [↓h,↓h',go_sem];rfl);(· intro h h';(try simp only [bq] at h h');simp only [↓h,↓h',go_sem];rfl);simp only [go_sem])
   | (apply bY E';(· decide);simp only [go_sem]))
  (first | (apply iG E';(· simp only [go_sem]);(· intro h hk;(try simp only [bq] at h);refine ag E' (c1) rfl (by simp only [↓h,go_sem]<;>rfl) (by simp) ?_;rintro _ rfl;exact hk);simp only [go_sem]) | (apply fP E';(· simp only [go_sem]);(· rfl);(· intro h h' hk;(try simp only [bq] at h h');refine ag E' (c1) rfl (by simp only [↓h,↓h',go_sem]<;>rfl) (by simp) ?_;rintro _ rfl;exact hk);simp only [go_sem]))
  repeat (first
   | (apply b6 E';(· simp only [go_sem]);(· intro h;(try simp only [bq] at h);simp only [↓h,go_sem];rfl);simp only [go_sem])
   | (apply a9 E';(· simp only [go_sem]);(· intro h;(try simp only [bq] at h);simp only [↓h,go_sem];rfl);(· intro h;(try simp only [bq] at h);simp only [↓h,go_sem];rfl);simp only [go_sem])
   | (apply a8 E';(· simp only [go_sem]);(· rfl);(· intro h h';(try simp only [bq] at h h');simp only [↓h,↓h',go_sem];rfl);simp only [go_sem])
   | (apply aK E';(· simp only [go_sem]);(· rfl);(· intro h h';(try simp only [bq] at h h');simp only [↓h,↓h',go_sem];rfl);(· intro h h';(try simp only [bq] at h h');simp only [↓h,↓h',go_sem];rfl);simp only [go_sem])
   | (apply bY E';(· decide);simp only [go_sem]))
  (first | (apply iG E';(· simp only [go_sem]);(· intro h hk;(try simp only [bq] at h);refine ag E' (c2) rfl (by simp only [↓h,go_sem]<;>rfl) (by simp) ?_;rintro _ rfl;exact hk);simp only [go_sem]) | (apply fP E';(· simp only [go_sem]);(· rfl);(· intro h h' hk;(try simp only [bq] at h h');refine ag E' (c2) rfl (by simp only [↓h,↓h',go_sem]<;>rfl) (by simp) ?_;rintro _ rfl;exact hk);simp only [go_sem]))
  repeat (first
   | (apply b6 E';(· simp only [go_sem]);(· intro h;(try simp only [bq] at h);simp only [↓h,go_sem];rfl);simp only [go_sem])
   | (apply a9 E';(· simp only [go_sem]);(· intro h;(try simp only [bq] at h);simp only [↓h,go_sem];rfl);(· intro h;(try simp only [bq] at h);simp only [↓h,go_sem];rfl);simp only [go_sem])
   | (apply a8 E';(· simp only [go_sem]);(· rfl);(· intro h h';(try simp only [bq] at h h');simp only [↓h,↓h',go_sem];rfl);simp only [go_sem])
   | (apply aK E';(· simp only [go_sem]);(· rfl);(· intro h h';(try simp only [bq] at h h');simp only [↓h,↓h',go_sem];rfl);(· intro h h';(try simp only [bq] at h h');simp only [↓h,↓h',go_sem];rfl);simp only [go_sem])
   | (apply bY E';(· decide);simp only [go_sem]))
  (first | (apply iG E';(· simp only [go_sem]);(· intro h hk;(try simp only [bq] at h);refine ag E' (c3) rfl (by simp only [↓h,go_sem]<;>rfl) (by simp) ?_;rintro _ rfl;exact hk);simp only [go_sem]) | (apply fP E';(· simp only [go_sem]);(· rfl);(· intro h h' hk;(try simp only [bq] at h h');refine ag E' (c3) rfl (by simp only [↓h,↓h',go_sem]<;>rfl) (by simp) ?_;rintro _ rfl;exact hk);simp only [go_sem]))
  repeat (first
   | (apply b6 E';(· simp only [go_sem]);(· intro h;(try simp only [bq] at h);simp only [↓h,go_sem];rfl);simp only [go_sem])
   | (apply a9 E';(· simp only [go_sem]);(· intro h;(try simp only [bq] at h);simp only [↓h,go_sem];rfl);(· intro h;(try simp only [bq] at h);simp only [↓h,go_sem];rfl);simp only [go_sem])
   | (apply a8 E';(· simp only [go_sem]);(· rfl);(· intro h h';(try simp only [bq] at h h');simp only [↓h,↓h',go_sem];rfl);simp only [go_sem])
   | (apply aK E';(· simp only [go_sem]);(· rfl);(· intro h h';(try simp only [bq] at h h');simp only [↓h,↓h',go_sem];rfl);(· intro h h';(try simp only [bq] at h h');simp only [↓h,↓h',go_sem];rfl);simp only [go_sem])
   | (apply bY E';(· decide);simp only [go_sem]))
  refine aD E' (fun g2=>?_) (fun g2=>?_)
  ·simp only [go_sem]
   rw [hQ]
   simp only [go_sem]
   rw [uT hk] at g2
   rw [hno (by simpa using g2),Bool.false_and] at hb
   rw [← hb]
  ·simp only [go_sem]
   rw [uT hk] at g2
   refine ⟨by omega,?_⟩
   rw [ai ⟨by omega,by omega⟩,List.take_of_length_le (l:=List.map (fun f:EF=>D.str f.nm) _) (by simp;omega),← hts]
   rw [hQ]
   simp only [go_sem]
   refine ⟨⟨i+1,by omega,hst (by simpa using g2)⟩,by show n.l.length-(i+1)<_;omega,tau [([6],[54])],?_⟩
   simp only [go_sem]
   all_goals rfl
 ·rw [hQ]
  have h3:i=n.l.length:=by omega
  subst h3
  rw [List.take_length] at *
  rw [hall,Bool.true_and] at hb
  simp only [go_sem]
  repeat (first
   | (apply b6 E;(· simp only [go_sem]);(· intro h;(try simp only [bq] at h);simp only [↓h,go_sem];rfl);simp only [go_sem])
   | (apply a9 E;(· simp only [go_sem]);(· intro h;(try simp only [bq] at h);simp only [↓h,go_sem];rfl);(· intro h;(try simp only [bq] at h);simp only [↓h,go_sem];rfl);simp only [go_sem])
   | (apply a8 E;(· simp only [go_sem]);(· rfl);(· intro h h';(try simp only [bq] at h h');simp only [↓h,↓h',go_sem];rfl);simp only [go_sem])
   | (apply aK E;(· simp only [go_sem]);(· rfl);(· intro h h';(try simp only [bq] at h h');simp only [↓h,↓h',go_sem];rfl);(· intro h h';(try simp only [bq] at h h');simp only [↓h,↓h',go_sem];rfl);simp only [go_sem])
   | (apply bY E;(· decide);simp only [go_sem]))
  refine bU E (fun k3=>?_) (fun k3=>?_)<;>simp only [go_sem]
  ·have ht:=EW (G:=G) (n.l.map (·.nm)) (by rw [List.length_map];exact hl)
   unfold strs at ht
   rw [List.map_map,show (D.str ∘ fun f:EF=>f.nm)=fun f=>D.str f.nm from rfl] at ht
   rw [ij,ij]
   refine np E [([6],none,n.l.map fun f=>.str f.nm)] ht (by rintro _ rfl;rfl) (by simp only [go_sem]) rfl (by (simp only [↓k3,go_sem])<;>first | rfl | done) (by simp) ?_
   rintro _ rfl
   simp only [go_sem]
   repeat (first
    | (apply b6 E;(· simp only [go_sem]);(· intro h;(try simp only [bq] at h);simp only [↓h,go_sem];rfl);simp only [go_sem])
    | (apply a9 E;(· simp only [go_sem]);(· intro h;(try simp only [bq] at h);simp only [↓h,go_sem];rfl);(· intro h;(try simp only [bq] at h);simp only [↓h,go_sem];rfl);simp only [go_sem])
    | (apply a8 E;(· simp only [go_sem]);(· rfl);(· intro h h';(try simp only [bq] at h h');simp only [↓h,↓h',go_sem];rfl);simp only [go_sem])
    | (apply aK E;(· simp only [go_sem]);(· rfl);(· intro h h';(try simp only [bq] at h h');simp only [↓h,↓h',go_sem];rfl);(· intro h h';(try simp only [bq] at h h');simp only [↓h,↓h',go_sem];rfl);simp only [go_sem])
    | (apply bY E;(· decide);simp only [go_sem]))
   rw [← hb,show (decide ((if n.k=14 then 1 else 0)≤n.l.length) && decide (n.l.length≤30))=true by
    simp only [Bool.and_eq_true,Bool.or_eq_true,decide_eq_true_eq] at k3 ⊢
    refine ⟨?_,by omega⟩
    split<;>omega,Bool.true_and]
   simp [twice]
  ·rw [← hb,show (decide ((if n.k=14 then 1 else 0)≤n.l.length) && decide (n.l.length≤30))=false by
    rw [Bool.eq_false_iff] at k3 ⊢
    intro hc
    apply k3
    simp only [Bool.and_eq_true,Bool.or_eq_true,decide_eq_true_eq] at hc ⊢
    refine ⟨by omega,?_⟩
    rcases hk with e | e
    ·exact .inl e
    ·rw [if_pos e] at hc;exact .inr (by omega),Bool.false_and]
theorem D9 {G} (n:EN) (h:dx BIG n):HP Tryz.prog G 117 [enD n] (fun r=>r=.d (.bool (bN n))):=by
 by_cases g:1≤n.k∧n.k≤14∧0≤n.pos∧n.pos≤1048576
 ·exact EH n h.nm g.2.2 ⟨g.1,g.2.1⟩ (FY n h)
 ·exact Ca n g
end Go.Proofs.YtejpnabbmgpmaaaGreat

namespace Go.Proofs.YtejpnabbmgpmaaaGreat
open Go.Ab
set_option maxHeartbeats 1000000 in
theorem mA {G} (n:EN) (hl:n.l.length≤1000000):HP Tryz.prog G 73 [enD n] (fun r=>r=.d (.sl none ((aj n).map i64))):=by
 obtain ⟨k,a,b,c,m,nm,s,l,p⟩:=n
 simp only at hl
 have hk:k=5∨k=12∨k=13∨k=6∨k=7∨k=8∨k=10∨k=9∨k=14∨k=11∨¬ (k=5∨k=12∨k=13∨k=6∨k=7∨k=8∨k=10∨k=9∨k=14∨k=11):=by omega
 unfold enD efD
 rcases hk with rfl | rfl | rfl | rfl | rfl | rfl | rfl | rfl | rfl | rfl | hk
 iterate 3
  ·refine ax Tryz.func73 rfl (by decide +kernel) (by simp [Tryz.ntmps73]) (veil fun E=>?_)
   simp only [go_sem]
   refine ⟨[([14],none,[i64 a])],?_⟩
   simp only [go_sem]
   try rfl
 iterate 4
  ·refine ax Tryz.func73 rfl (by decide +kernel) (by simp [Tryz.ntmps73]) (veil fun E=>?_)
   simp only [go_sem]
   refine ⟨[([24],none,[i64 a,i64 b])],?_⟩
   simp only [go_sem]
   try rfl
 ·refine ax Tryz.func73 rfl (by decide +kernel) (by simp [Tryz.ntmps73]) (veil fun E=>?_)
  simp only [go_sem]
  refine ⟨[([33],none,[i64 a,i64 b,i64 c])],?_⟩
  simp only [go_sem]
  try rfl
 ·refine ax Tryz.func73 rfl (by decide +kernel) (by simp [Tryz.ntmps73]) (veil fun E=>?_)
  simp only [go_sem]
  obtain ⟨A,hA,hAl⟩:∃ A:List Int,A=[a]∧A.length=1:=⟨_,rfl,rfl⟩
  refine aA E (X:={ i:Nat // i≤l.length }) (fun x=>[(1,.bx [1] 0),(3,.vw [97] 0 (1+x.1)),(4,.d (i64 x.1))])
   (fun x=>[([1],.box [.d (i64 14),.d (i64 a),.d (i64 b),.d (i64 c),.d (i64 m),.d (.str nm),.d (.str s),.d (.sl (some 3) (l.map fD)),.d (i64 p)]),([97],.arr none ((A++(l.take x.1).map fun f:EF=>f.to).map i64))]) [1,97] (fun x=>l.length-x.1) ⟨0,Nat.zero_le _⟩ (tau [([97],[38])]) ?_ ?_
  ·simp only [go_sem]
   all_goals (rw [hA];rfl)
  rintro ⟨i,hi⟩ E0
  refine aC E0 fun Q' hQ E'=>?_
  simp only at hi ⊢
  simp only [go_sem]
  refine ah E' (fun g1=>?_) (fun g1=>?_)<;>simp only [go_sem]
  ·have hi':i<l.length:=by omega
   refine ⟨⟨by omega,by omega⟩,?_⟩
   rw [sq hi']
   simp only [go_sem]
   refine ⟨by omega,?_⟩
   rw [ai ⟨by omega,by omega⟩]
   rw [List.take_of_length_le (l:=List.map i64 _) (by simp;omega),show List.map i64 (A++(l.take i).map fun f:EF=>f.to)++[i64 l[i].to]=(A++(l.take (i+1)).map fun f:EF=>f.to).map i64 by
    rw [List.take_succ_eq_append_getElem hi',List.map_append (l₁:=List.take i l),← List.append_assoc,List.map_append (l₁:=A++_)];rfl]
   rw [hQ]
   simp only [go_sem]
   refine ⟨⟨i+1,by omega⟩,by show l.length-(i+1)<_;omega,tau [([97],[62])],?_⟩
   simp only [go_sem]
   all_goals first | rfl | exact ⟨rfl,rfl⟩
  ·rw [hQ]
   have h3:i=l.length:=by omega
   subst h3
   rw [List.take_length]
   simp only [go_sem]
   refine ⟨[([97],none,(A++l.map fun f:EF=>f.to).map i64)],?_⟩
   simp only [go_sem]
   rw [List.take_of_length_le (by simp;omega),hA]
   rfl
 ·refine ax Tryz.func73 rfl (by decide +kernel) (by simp [Tryz.ntmps73]) (veil fun E=>?_)
  simp only [go_sem]
  obtain ⟨A,hA,hAl⟩:∃ A:List Int,A=[]∧A.length=0:=⟨_,rfl,rfl⟩
  refine aA E (X:={ i:Nat // i≤l.length }) (fun x=>[(1,.bx [1] 0),(3,.vw [97] 0 (0+x.1)),(4,.d (i64 x.1))])
   (fun x=>[([1],.box [.d (i64 11),.d (i64 a),.d (i64 b),.d (i64 c),.d (i64 m),.d (.str nm),.d (.str s),.d (.sl (some 3) (l.map fD)),.d (i64 p)]),([97],.arr none ((A++(l.take x.1).map fun f:EF=>f.to).map i64))]) [1,97] (fun x=>l.length-x.1) ⟨0,Nat.zero_le _⟩ (tau [([97],[5])]) ?_ ?_
  ·simp only [go_sem]
   all_goals (rw [hA];rfl)
  rintro ⟨i,hi⟩ E0
  refine aC E0 fun Q' hQ E'=>?_
  simp only at hi ⊢
  simp only [go_sem]
  refine ah E' (fun g1=>?_) (fun g1=>?_)<;>simp only [go_sem]
  ·have hi':i<l.length:=by omega
   refine ⟨⟨by omega,by omega⟩,?_⟩
   rw [sq hi']
   simp only [go_sem]
   refine ⟨by omega,?_⟩
   rw [ai ⟨by omega,by omega⟩]
   rw [List.take_of_length_le (l:=List.map i64 _) (by simp;omega),show List.map i64 (A++(l.take i).map fun f:EF=>f.to)++[i64 l[i].to]=(A++(l.take (i+1)).map fun f:EF=>f.to).map i64 by
    rw [List.take_succ_eq_append_getElem hi',List.map_append (l₁:=List.take i l),← List.append_assoc,List.map_append (l₁:=A++_)];rfl]
   rw [hQ]
   simp only [go_sem]
   refine ⟨⟨i+1,by omega⟩,by show l.length-(i+1)<_;omega,tau [([97],[62])],?_⟩
   simp only [go_sem]
   all_goals first | rfl | exact ⟨rfl,rfl⟩
  ·rw [hQ]
   have h3:i=l.length:=by omega
   subst h3
   rw [List.take_length]
   simp only [go_sem]
   refine ⟨[([97],none,(A++l.map fun f:EF=>f.to).map i64)],?_⟩
   simp only [go_sem]
   rw [List.take_of_length_le (by simp;omega),hA]
   rfl
 ·refine ax Tryz.func73 rfl (by decide +kernel) (by simp [Tryz.ntmps73]) (veil fun E=>?_)
  simp only [go_sem]
  iterate 9
   refine ah E (fun h=>absurd h (by omega)) (fun _=>?_)
   simp only [go_sem]
  repeat (first
   | (apply b6 E;(· simp only [go_sem]);(· intro h;(try simp only [bq] at h);simp only [↓h,go_sem];rfl);simp only [go_sem])
   | (apply a9 E;(· simp only [go_sem]);(· intro h;(try simp only [bq] at h);simp only [↓h,go_sem];rfl);(· intro h;(try simp only [bq] at h);simp only [↓h,go_sem];rfl);simp only [go_sem])
   | (apply a8 E;(· simp only [go_sem]);(· rfl);(· intro h h';(try simp only [bq] at h h');simp only [↓h,↓h',go_sem];rfl);simp only [go_sem])
   | (apply aK E;(· simp only [go_sem]);(· rfl);(· intro h h';(try simp only [bq] at h h');simp only [↓h,↓h',go_sem];rfl);(· intro h h';(try simp only [bq] at h h');simp only [↓h,↓h',go_sem];rfl);simp only [go_sem])
   | (apply bY E;(· decide);simp only [go_sem]))
  refine aD E (fun h=>absurd (by simpa using h) (show ¬ (k=11∨k=14) by omega)) (fun _=>?_)
  simp only [go_sem]
  refine ⟨[([5],none,[])],?_⟩
  simp only [go_sem]
  have h1:aG k=0:=by
   unfold aG
   repeat' split
   all_goals first | rfl | (exfalso;omega)
  have h2:aI k=false:=by
   unfold aI
   rw [decide_eq_false (show ¬ k=11 by omega),decide_eq_false (show ¬ k=14 by omega)]
   rfl
  unfold aj
  simp only [h1,h2]
  rfl
end Go.Proofs.YtejpnabbmgpmaaaGreat

namespace Go.Proofs.YtejpnabbmgpmaaaGreat
open Go.Ab
theorem EB {G} (n:EN):HP Tryz.prog G 109 [enD n] (fun r=>r=.d (.bool (ft n))):=by
 generalize hb:ft n=b
 unfold ft at hb
 have hk:=bC n.k
 unfold enD efD
 refine al Tryz.func109 rfl (by decide +kernel) (by simp [Tryz.ntmps109]) (veil fun E=>?_)
 simp only [go_sem]
 refine ak mixed E fun X=>?_
 simp only [go_sem]
 refine bK X (nr n.k) rfl rfl (by simp) ?_
 simp only [go_sem]
 refine ⟨⟨by omega,by omega⟩,by decide +kernel,?_⟩
 rw [show ([i64 n.a,i64 n.b,i64 n.c]:List D)=[n.a,n.b,n.c].map i64 from rfl]
 obtain ⟨k,hke⟩:∃ k,k=aG n.k:=⟨_,rfl⟩
 rw [← hke] at hk hb ⊢
 have hL:([n.a,n.b,n.c].drop k).length=3-k:=by simp
 have hget:∀ i,i<3-k→(List.map i64 [n.a,n.b,n.c]).getD (k+i) .nilp=i64 (([n.a,n.b,n.c].drop k).getD i 0):=fun i hi=>by
  rw [aw (by simp;omega),List.getD_eq_getElem?_getD,List.getD_eq_getElem?_getD,List.getElem?_drop]
 generalize ([n.a,n.b,n.c]:List Int)=A at hb hL hget ⊢
 generalize A.drop k=L at hb hL hget
 refine bl E (X:={ i:Nat // i≤3-k∧(L.take i).all (fun x=>decide (x=0))=true }) (fun x=>[(16,.vw [11] k (3-k)),(17,.d (i64 (3-k:Nat))),(18,.d (i64 x.1))])
  (fun x=>[([1],.box [.d (i64 n.k),.d (i64 n.a),.d (i64 n.b),.d (i64 n.c),.d (i64 n.n),.d (.str n.name),.d (.str n.s),.d (.sl (some 3) (n.l.map fD)),.d (i64 n.pos)]),([11],.arr none (A.map i64))]) [11,1] (fun x=>3-k-x.1) ⟨0,by simp⟩ ?_ ?_
 ·simp only [go_sem]
  all_goals rfl
 rintro ⟨i,hi,hall⟩ E0
 refine aC E0 fun Q' hQ E'=>?_
 simp only at hi hall ⊢
 simp only [go_sem]
 refine ah E' (fun g1=>?_) (fun g1=>?_)<;>simp only [go_sem]
 ·have hi':i<3-k:=by omega
  have hi2:i<L.length:=by omega
  have hLi:L.getD i 0=L[i]:=by simp [hi2]
  refine ⟨⟨by omega,by omega⟩,?_⟩
  rw [hget i hi',hLi]
  simp only [go_sem]
  refine aD E' (fun g2=>?_) (fun g2=>?_)<;>simp only [go_sem]
  ·rw [hQ]
   simp only [go_sem]
   have:L.all (fun x=>decide (x=0))=false:=List.all_eq_false.2 ⟨_,List.getElem_mem hi2,by simpa using g2⟩
   rw [← hb,this]
  ·rw [hQ]
   simp only [go_sem]
   have g3:decide (L[i]=0)=true:=by simpa using g2
   refine ⟨⟨i+1,by omega,by rw [List.take_succ_eq_append_getElem hi2,List.all_append,hall];simpa using g3⟩,by show 3-k-(i+1)<_;omega,?_⟩
   rw [ai ⟨by omega,by omega⟩]
   rfl
 ·rw [hQ]
  have h3:i=L.length:=by omega
  subst h3
  rw [List.take_length] at hall
  simp only [go_sem]
  rw [← hb,hall]
theorem Ha {G} (n:EN) (h:dx BIG n):HP Tryz.prog G 58 [enD n] (fun r=>r=.d (.bool (bN n))):=by
 generalize hb:bN n=b
 unfold bN at hb
 have c1:=EC (G:=G) n h
 have c2:=D8 (G:=G) n
 have c3:=Dz (G:=G) n h
 have c4:=EB (G:=G) n
 generalize iE n=x1 at c1 hb
 generalize ec n=x2 at c2 hb
 generalize bZ n=x3 at c3 hb
 generalize ft n=x4 at c4 hb
 unfold enD efD at *
 refine al Tryz.func58 rfl (by decide +kernel) (by simp [Tryz.ntmps58]) (veil fun E=>?_)
 simp only [go_sem]
 repeat (first
  | (apply b6 E;(· simp only [go_sem]);(· intro h;(try simp only [bq] at h);simp only [↓h,go_sem];rfl);simp only [go_sem])
  | (apply a9 E;(· simp only [go_sem]);(· intro h;(try simp only [bq] at h);simp only [↓h,go_sem];rfl);(· intro h;(try simp only [bq] at h);simp only [↓h,go_sem];rfl);simp only [go_sem])
  | (apply a8 E;(· simp only [go_sem]);(· rfl);(· intro h h';(try simp only [bq] at h h');simp only [↓h,↓h',go_sem];rfl);simp only [go_sem])
  | (apply aK E;(· simp only [go_sem]);(· rfl);(· intro h h';(try simp only [bq] at h h');simp only [↓h,↓h',go_sem];rfl);(· intro h h';(try simp only [bq] at h h');simp only [↓h,↓h',go_sem];rfl);simp only [go_sem])
  | (apply bY E;(· decide);simp only [go_sem]))
 refine aD E (fun g=>?_) (fun g=>?_)<;>simp only [go_sem]
 ·have g':¬ (1≤n.k∧n.k≤14∧0≤n.pos∧n.pos≤1048576):=by
   simp only [Bool.or_eq_true,decide_eq_true_eq] at g
   omega
  have:(decide (1≤n.k) && decide (n.k≤14) && decide (0≤n.pos) && decide (n.pos≤1048576))=false:=by
   rw [Bool.eq_false_iff]
   intro hc
   simp only [Bool.and_eq_true,decide_eq_true_eq] at hc
   exact g' ⟨hc.1.1.1,hc.1.1.2,hc.1.2,hc.2⟩
  rw [← hb,this,Bool.false_and]
 ·refine ag E (c1) rfl rfl (by simp) ?_
  rintro _ rfl
  simp only [go_sem]
  repeat (first
   | (apply b6 E;(· simp only [go_sem]);(· intro h;(try simp only [bq] at h);simp only [↓h,go_sem];rfl);simp only [go_sem])
   | (apply a9 E;(· simp only [go_sem]);(· intro h;(try simp only [bq] at h);simp only [↓h,go_sem];rfl);(· intro h;(try simp only [bq] at h);simp only [↓h,go_sem];rfl);simp only [go_sem])
   | (apply a8 E;(· simp only [go_sem]);(· rfl);(· intro h h';(try simp only [bq] at h h');simp only [↓h,↓h',go_sem];rfl);simp only [go_sem])
   | (apply aK E;(· simp only [go_sem]);(· rfl);(· intro h h';(try simp only [bq] at h h');simp only [↓h,↓h',go_sem];rfl);(· intro h h';(try simp only [bq] at h h');simp only [↓h,↓h',go_sem];rfl);simp only [go_sem])
   | (apply bY E;(· decide);simp only [go_sem]))
  (first | (apply iG E;(· simp only [go_sem]);(· intro h hk;(try simp only [bq] at h);refine ag E (c2) rfl (by simp only [↓h,go_sem]<;>rfl) (by simp) ?_;rintro _ rfl;exact hk);simp only [go_sem]) | (apply fP E;(· simp only [go_sem]);(· rfl);(· intro h h' hk;(try simp only [bq] at h h');refine ag E (c2) rfl (by simp only [↓h,↓h',go_sem]<;>rfl) (by simp) ?_;rintro _ rfl;exact hk);simp only [go_sem]))
  repeat (first
   | (apply b6 E;(· simp only [go_sem]);(· intro h;(try simp only [bq] at h);simp only [↓h,go_sem];rfl);simp only [go_sem])
   | (apply a9 E;(· simp only [go_sem]);(· intro h;(try simp only [bq] at h);simp only [↓h,go_sem];rfl);(· intro h;(try simp only [bq] at h);simp only [↓h,go_sem];rfl);simp only [go_sem])
   | (apply a8 E;(· simp only [go_sem]);(· rfl);(· intro h h';(try simp only [bq] at h h');simp only [↓h,↓h',go_sem];rfl);simp only [go_sem])
   | (apply aK E;(· simp only [go_sem]);(· rfl);(· intro h h';(try simp only [bq] at h h');simp only [↓h,↓h',go_sem];rfl);(· intro h h';(try simp only [bq] at h h');simp only [↓h,↓h',go_sem];rfl);simp only [go_sem])
   | (apply bY E;(· decide);simp only [go_sem]))
  (first | (apply iG E;(· simp only [go_sem]);(· intro h hk;(try simp only [bq] at h);refine ag E (c3) rfl (by simp only [↓h,go_sem]<;>rfl) (by simp) ?_;rintro _ rfl;exact hk);simp only [go_sem]) | (apply fP E;(· simp only [go_sem]);(· rfl);(· intro h h' hk;(try simp only [bq] at h h');refine ag E (c3) rfl (by simp only [↓h,↓h',go_sem]<;>rfl) (by simp) ?_;rintro _ rfl;exact hk);simp only [go_sem]))
  repeat (first
   | (apply b6 E;(· simp only [go_sem]);(· intro h;(try simp only [bq] at h);simp only [↓h,go_sem];rfl);simp only [go_sem])
   | (apply a9 E;(· simp only [go_sem]);(· intro h;(try simp only [bq] at h);simp only [↓h,go_sem];rfl);(· intro h;(try simp only [bq] at h);simp only [↓h,go_sem];rfl);simp only [go_sem])
   | (apply a8 E;(· simp only [go_sem]);(· rfl);(· intro h h';(try simp only [bq] at h h');simp only [↓h,↓h',go_sem];rfl);simp only [go_sem])
   | (apply aK E;(· simp only [go_sem]);(· rfl);(· intro h h';(try simp only [bq] at h h');simp only [↓h,↓h',go_sem];rfl);(· intro h h';(try simp only [bq] at h h');simp only [↓h,↓h',go_sem];rfl);simp only [go_sem])
   | (apply bY E;(· decide);simp only [go_sem]))
  (first | (apply iG E;(· simp only [go_sem]);(· intro h hk;(try simp only [bq] at h);refine ag E (c4) rfl (by simp only [↓h,go_sem]<;>rfl) (by simp) ?_;rintro _ rfl;exact hk);simp only [go_sem]) | (apply fP E;(· simp only [go_sem]);(· rfl);(· intro h h' hk;(try simp only [bq] at h h');refine ag E (c4) rfl (by simp only [↓h,↓h',go_sem]<;>rfl) (by simp) ?_;rintro _ rfl;exact hk);simp only [go_sem]))
  repeat (first
   | (apply b6 E;(· simp only [go_sem]);(· intro h;(try simp only [bq] at h);simp only [↓h,go_sem];rfl);simp only [go_sem])
   | (apply a9 E;(· simp only [go_sem]);(· intro h;(try simp only [bq] at h);simp only [↓h,go_sem];rfl);(· intro h;(try simp only [bq] at h);simp only [↓h,go_sem];rfl);simp only [go_sem])
   | (apply a8 E;(· simp only [go_sem]);(· rfl);(· intro h h';(try simp only [bq] at h h');simp only [↓h,↓h',go_sem];rfl);simp only [go_sem])
   | (apply aK E;(· simp only [go_sem]);(· rfl);(· intro h h';(try simp only [bq] at h h');simp only [↓h,↓h',go_sem];rfl);(· intro h h';(try simp only [bq] at h h');simp only [↓h,↓h',go_sem];rfl);simp only [go_sem])
   | (apply bY E;(· decide);simp only [go_sem]))
  have g':¬ (n.k<1∨14<n.k∨n.pos<0∨1048576<n.pos):=by
   simp only [Bool.or_eq_false_iff,decide_eq_false_iff_not] at g
   omega
  rw [← hb,decide_eq_true (show 1≤n.k by omega),decide_eq_true (show n.k≤14 by omega),decide_eq_true (show 0≤n.pos by omega),decide_eq_true (show n.pos≤1048576 by omega)]
  rfl
end Go.Proofs.YtejpnabbmgpmaaaGreat

namespace Go.Proofs.YtejpnabbmgpmaaaGreat
open Go.Ab
def bump (cs:List Int) (k:Int):List Int:=cs.set k.toNat (cs.getD k.toNat 0+1)
def bumps (cs ks:List Int):List Int:=ks.foldl bump cs
theorem td (cs:List Int) (k:Int):(bump cs k).length=cs.length:=by simp [bump]
theorem fx (ks:List Int):∀ cs:List Int,(bumps cs ks).length=cs.length:=by
 induction ks with
 | nil=>intro cs;rfl
 | cons k r ih=>intro cs;show (bumps (bump cs k) r).length=_;rw [ih,td]
theorem nS (cs ks:List Int) (k:Int):bumps cs (ks++[k])=bump (bumps cs ks) k:=by simp [bumps]
def Bd (M:Nat) (cs:List Int):Prop:=∀ c∈cs,0≤c∧c≤(M:Int)
theorem Bd.bump {M:Nat} {cs:List Int} (h:Bd M cs) (k:Int):Bd (M+1) (bump cs k):=by
 intro c hc
 rcases List.mem_or_eq_of_mem_set hc with hc | hc
 ·have:=h c hc;omega
 ·by_cases hk:k.toNat<cs.length
  ·have:=h cs[k.toNat] (List.getElem_mem hk)
   rw [hc,show cs.getD k.toNat 0=cs[k.toNat] by simp [hk]]
   omega
  ·rw [hc,show cs.getD k.toNat 0=0 by simp [hk]]
   omega
theorem Bd.bumps {ks:List Int}:∀ {M:Nat} {cs:List Int},Bd M cs→Bd (M+ks.length) (bumps cs ks):=by
 induction ks with
 | nil=>intro M cs h;exact h
 | cons k r ih =>
   intro M cs h
   have:=ih (h.bump k)
   rw [List.length_cons]
   intro c hc
   have:=this c hc
   omega
theorem Bd.get {M:Nat} {cs:List Int} (h:Bd M cs) (i:Nat):0≤cs.getD i 0∧cs.getD i 0≤(M:Int):=by
 by_cases hi:i<cs.length
 ·rw [show cs.getD i 0=cs[i] by simp [hi]];exact h _ (List.getElem_mem hi)
 ·rw [show cs.getD i 0=0 by simp [hi]];omega
def inB (i:Nat) (k:Int):Bool:=decide (0≤k) && decide (k<(i:Int))
theorem Hk {G} (ns:List EN) (i:Nat) (cs:List Int) (M:Nat) (hi:i<ns.length) (hn:ns.length≤1000000) (hc:cs.length=ns.length) (hl:(ndE ns i).l.length≤1000000) (hM:Bd M cs) (hM2:M≤1000000000000) :
  HCall Tryz.prog G 59 [.d (exD ns),.d (i64 i),.vw [100] 0 ns.length] [([100],.arr none (cs.map i64))] [100]
   (fun r hp'=>∃ cs':List Int,cs'.length=ns.length∧(dS ns i=true→cs'=bumps cs (aj (ndE ns i)))∧r=.d (.bool (dS ns i))∧hp'=[([100],.arr none (cs'.map i64))]):=by
 have hg:=aP hi
 obtain ⟨n,hne⟩:∃ n,n=ndE ns i:=⟨_,rfl⟩
 rw [← hne] at hl hg ⊢
 have hkl:=bt n
 have hwl:bf n≤1000003:=by unfold bf;have:=bC n.k;split<;>omega
 obtain ⟨K,hK⟩:∃ K,K=aj n:=⟨_,rfl⟩
 have hlk:dS ns i=(K.all (inB i) && (decide (n.k≠8) || decide ((ndE ns n.a.toNat).k=5))):=by
  unfold dS inB
  rw [← hne,← hK]
 rw [hlk]
 have hkc:=gL (G:=G) n (by omega)
 rw [← hK] at hkc hkl ⊢
 unfold exD
 refine ar Tryz.func59 rfl (by decide +kernel) (by simp [Tryz.ntmps59]) (veil fun E=>?_)
 simp only [go_sem]
 refine ⟨⟨by omega,by omega⟩,?_⟩
 rw [hg]
 simp only [go_sem]
 refine ab E [.d (enD n)] [] [] hkc rfl rfl ⟨by simp only [go_sem],by rw [aa];decide⟩ rfl (by simp only [go_sem]) (by simp only [go_sem]) ?_
 rintro _ _ ⟨rfl,rfl⟩
 simp only [go_sem]
 refine ju E [14,0] none (K.map i64) rfl ?_
 simp only [go_sem]
 refine bl E (X:={ q:Nat // q≤K.length∧(K.take q).all (inB i)=true }) (fun x=>[(1,.d (i64 i)),(2,.vw [100] 0 ns.length),(3,.bx [3] 0),(6,.d (.bool false)),(14,.d (.sl none (K.map i64))),(15,.d (i64 K.length)),(16,.d (i64 x.1))])
  (fun x=>[([100],.arr none ((bumps cs (K.take x.1)).map i64)),([3],.box [.d (.sl (some 9) (ns.map enD))])]) [3,100] (fun x=>K.length-x.1) ⟨0,by simp⟩ ?_ ?_
 ·simp only [go_sem]
  all_goals rfl
 rintro ⟨q,hq,hall⟩ E0
 refine aC E0 fun Q' hQ E'=>?_
 simp only at hq hall ⊢
 simp only [go_sem]
 refine ah E' (fun g1=>?_) (fun g1=>?_)<;>simp only [go_sem]
 ·have hq':q<K.length:=by omega
  refine ⟨⟨by omega,by omega⟩,?_⟩
  rw [aw hq',show K.getD q 0=K[q] by simp [hq']]
  simp only [go_sem]
  repeat (first
   | (apply b6 E';(· simp only [go_sem]);(· intro h;(try simp only [bq] at h);simp only [↓h,go_sem];rfl);simp only [go_sem])
   | (apply a9 E';(· simp only [go_sem]);(· intro h;(try simp only [bq] at h);simp only [↓h,go_sem];rfl);(· intro h;(try simp only [bq] at h);simp only [↓h,go_sem];rfl);simp only [go_sem])
   | (apply a8 E';(· simp only [go_sem]);(· rfl);(· intro h h';(try simp only [bq] at h h');simp only [↓h,↓h',go_sem];rfl);simp only [go_sem])
   | (apply aK E';(· simp only [go_sem]);(· rfl);(· intro h h';(try simp only [bq] at h h');simp only [↓h,↓h',go_sem];rfl);(· intro h h';(try simp only [bq] at h h');simp only [↓h,↓h',go_sem];rfl);simp only [go_sem])
   | (apply bY E';(· decide);simp only [go_sem]))
  refine aD E' (fun g2=>?_) (fun g2=>?_)<;>simp only [go_sem]
  ·rw [hQ]
   simp only [go_sem]
   have g3:inB i K[q]=false:=by
    rw [Bool.eq_false_iff]
    intro hc
    simp only [inB,Bool.and_eq_true,decide_eq_true_eq] at hc
    simp only [Bool.or_eq_true,decide_eq_true_eq] at g2
    omega
   have ha:K.all (inB i)=false:=List.all_eq_false.2 ⟨_,List.getElem_mem hq',by rw [g3];decide⟩
   refine ⟨_,_,[100],id,⟨bumps cs (K.take q),by rw [fx,hc],fun h=>by (rw [ha,Bool.false_and] at h;cases h),rfl,rfl⟩,?_⟩
   simp only [go_sem]
   rw [ha]
   rfl
  ·have g3:0≤K[q]∧K[q]<(i:Int):=by
    simp only [Bool.or_eq_false_iff,decide_eq_false_iff_not] at g2
    omega
   have g4:inB i K[q]=true:=by simp only [inB,decide_eq_true g3.1,decide_eq_true g3.2,Bool.and_self]
   have hbl:=fx (K.take q) cs
   have hbd:=(hM.bumps (ks:=K.take q)).get K[q].toNat
   have htl:(K.take q).length≤1000003:=by rw [List.length_take];omega
   refine ⟨⟨by omega,by omega⟩,?_⟩
   rw [aw (by omega)]
   simp only [go_sem]
   refine ⟨⟨by omega,by omega⟩,?_⟩
   rw [ai (n:=(bumps cs (K.take q)).getD K[q].toNat 0+1) ⟨by omega,by omega⟩,ai (n:=(q:Int)+1) ⟨by omega,by omega⟩]
   rw [show (List.map i64 (bumps cs (K.take q))).set K[q].toNat (.int .i64 ((bumps cs (K.take q)).getD K[q].toNat 0+1))=(bumps cs (K.take (q+1))).map i64 by
    rw [List.take_succ_eq_append_getElem hq',nS];unfold bump;rw [List.map_set]]
   rw [hQ]
   simp only [go_sem]
   refine ⟨⟨q+1,by omega,by rw [List.take_succ_eq_append_getElem hq',List.all_append,hall];simpa using g4⟩,by show K.length-(q+1)<_;omega,?_⟩
   first | rfl | exact ⟨rfl,rfl⟩
 ·rw [hQ]
  have h3:q=K.length:=by omega
  subst h3
  rw [List.take_length] at *
  simp only [go_sem]
  refine ak mixed E fun X=>?_
  simp only [go_sem]
  refine ⟨⟨by omega,by omega⟩,?_⟩
  rw [hg]
  simp only [go_sem]
  refine nR X (fun g1=>?_) (fun g1=>?_)<;>simp only [go_sem]
  ·refine ⟨by decide +kernel,?_⟩
   refine ⟨_,_,[100],id,⟨bumps cs K,by rw [fx,hc],fun _=>rfl,rfl,rfl⟩,?_⟩
   simp only [go_sem]
   rw [hall,decide_eq_true (show n.k≠8 from g1)]
   rfl
  ·have h8:n.k=8:=by omega
   have hka:K=[n.a,n.b]:=by rw [hK];unfold aj;rw [h8];rfl
   have ha:0≤n.a∧n.a<(i:Int):=by
    rw [hka] at hall
    simp only [List.all_cons,inB,Bool.and_eq_true,decide_eq_true_eq] at hall
    exact hall.1
   rw [ij]
   simp only [go_sem]
   refine ⟨⟨by omega,by omega⟩,?_⟩
   rw [hg]
   simp only [go_sem]
   refine ⟨⟨by omega,by omega⟩,?_⟩
   rw [aP (show n.a.toNat<ns.length by omega)]
   simp only [go_sem]
   refine ⟨by decide +kernel,?_⟩
   refine ⟨_,_,[100],id,⟨bumps cs K,by rw [fx,hc],fun _=>rfl,rfl,rfl⟩,?_⟩
   simp only [go_sem]
   rw [hall,decide_eq_false g1]
   rfl
end Go.Proofs.YtejpnabbmgpmaaaGreat

namespace Go.Proofs.YtejpnabbmgpmaaaGreat
open Go.Ab
abbrev OPS:=List (List UInt8 × Int)
def opL (l:OPS):D:=.sl (some 2) (l.map fun q=>.agg [.str q.1,i64 q.2])
def opN (s:PS) (l:OPS):EN:=match opS s l with | some n=>{ nd0 10 s.peek.pos with n:=n } | none=>nd0 0 0
def opR (s:PS) (l:OPS):PS:=match opS s l with | some _=>s.next | none=>s
theorem Bw {s:PS} {l:OPS} {i:Nat} (h:i<l.length):opS s (l.drop i)=if s.sees 7 l[i].1 then some l[i].2 else opS s (l.drop (i+1)):=by
 rw [List.drop_eq_getElem_cons h,opS]
theorem rJ {G} (s:PS) (l:OPS) (hl:s.l.length≤1000000) (hn:l.length≤1000):HCall Tryz.prog G 150 [.bx [100] 0,.d (opL l)] (RO s) [100,101] (fun r hp'=>r=.tup [.d (ndN (opN s l)),.d (.bool (opS s l).isSome)]∧hp'=RO (opR s l)):=by
 generalize hO:opS s l=o
 generalize hN:opN s l=N
 generalize hR:opR s l=R
 unfold RO TO ae opL
 refine ar Tryz.func150 rfl (by decide +kernel) (by simp [Tryz.ntmps150]) (veil fun E=>?_)
 simp only [go_sem]
 refine ab E [.bx [101] 0] (TO s.l s.fin) [101] (eA s.l s.fin hl) rfl rfl ⟨by simp only [go_sem],by first | (rw [aa];decide) | (simp only [go_sem]<;>(try rw [aa])<;>decide)⟩ rfl (by unfold TO ae;simp only [go_sem]) (by unfold TO;simp only [go_sem]) ?_
 rintro _ _ ⟨rfl,rfl⟩
 unfold TO ae
 simp only [go_sem]
 refine aA E (X:={ i:Nat // i≤l.length∧opS s (l.drop i)=o }) (fun x=>[(0,.bx [100] 0),(4,.bx [4] 0),(5,.d (.bool false)),(6,.d (i64 (bu s.l s.fin).pos)),(15,.d (.sl (some 2) (l.map fun q=>.agg [.str q.1,i64 q.2]))),(16,.d (i64 l.length)),(17,.d (i64 x.1))])
  (fun x=>[([4],.box [.d (i64 0),.d (i64 0),.d (i64 0),.d (i64 0),.d (i64 0),.d (.str []),.d (.str []),.d .nils,.d (i64 0)]),([100],.box [.bx [101] 0,.d (i64 s.err),.d (i64 s.pos),.d (i64 s.nest)]),([101],.box [.d (.sl (some 4) (s.l.map ck)),.d (i64 s.fin)])]) [4,100,101] (fun x=>l.length-x.1) ⟨0,Nat.zero_le _,by rw [List.drop_zero];exact hO⟩ id ?_ ?_
 ·simp only [go_sem]
  all_goals rfl
 rintro ⟨i,hi,ho⟩ E0
 refine aC E0 fun Q' hQ E'=>?_
 simp only at hi ⊢
 simp only [go_sem]
 refine ah E' (fun h1=>?_) (fun h1=>?_)<;>simp only [go_sem]
 ·have h1':i<l.length:=by omega
  rw [Bw h1'] at ho
  refine ⟨⟨by omega,by omega⟩,?_⟩
  rw [show (l.map fun q=>D.agg [.str q.1,i64 q.2]).getD i .nilp=.agg [.str l[i].1,i64 l[i].2] by simp [h1']]
  simp only [go_sem]
  have h0:=jN (G:=G) s l[i].1 hl
  generalize hb:s.sees 7 l[i].1=b at h0 ho
  generalize hM:s.may 7 l[i].1=M at h0
  refine ab E' [.bx [100] 0,.d (.str l[i].1)] (RO s) [100,101] (h0) rfl rfl ⟨by simp only [go_sem],by first | (rw [aa];decide) | (simp only [go_sem]<;>(try rw [aa])<;>decide)⟩ rfl (by unfold RO TO ae;simp only [go_sem]) (by unfold RO TO;simp only [go_sem]) ?_
  rintro _ _ ⟨rfl,rfl⟩
  unfold RO TO ae
  simp only [go_sem]
  refine aD E' (fun h=>?_) (fun h=>?_)<;>simp only [go_sem]
  ·rw [hQ]
   simp only [go_sem]
   rw [if_pos h] at ho
   refine ⟨_,_,[100,101],id,⟨rfl,rfl⟩,?_⟩
   simp only [go_sem]
   have hM':M=s.next:=by rw [← hM];unfold PS.may;rw [hb,h];rfl
   rw [← hN,← hR,hM',← ho]
   unfold opN opR
   rw [hO,← ho]
   exact ⟨rfl,rfl,rfl⟩
  ·rw [hQ]
   simp only [go_sem]
   rw [if_neg (by simpa using h)] at ho
   have hM':M=s:=by rw [← hM];unfold PS.may;rw [hb,h];rfl
   rw [hM',ai ⟨by omega,by omega⟩]
   refine ⟨⟨i+1,by omega,ho⟩,by show l.length-(i+1)<_;omega,id,?_⟩
   simp only [go_sem]
   all_goals rfl
 ·rw [hQ]
  have hi2:i=l.length:=by omega
  rw [hi2,List.drop_length] at ho
  simp only [go_sem]
  refine ⟨_,_,[100,101],id,⟨rfl,rfl⟩,?_⟩
  simp only [go_sem]
  rw [← hN,← hR]
  unfold opN opR
  rw [hO,← ho]
  exact ⟨rfl,rfl,rfl⟩
end Go.Proofs.YtejpnabbmgpmaaaGreat

namespace Go.Proofs.YtejpnabbmgpmaaaGreat
open Go.Ab
def Reads (f:Nat) (G:List (Nat × Obj)) (N:Nat) (sub:PS→PR):Prop:=∀ s:PS,s.l.length≤100000→s.nest=N→HCall Tryz.prog G f [.bx [100] 0] (RO s) [100,101] (fun r hp'=>r=.d (exD (sub s).1)∧hp'=RO (sub s).2)
theorem FN {G} {N:Nat} {ex:PS→PR} (hex:∀ s,GP 1 s (ex s)) (hc:Reads 271 G N (j9 ex)):Reads 223 G N (iW ex):=by
 intro s hl hN
 have hsg:=jc hex
 obtain ⟨sub,hsub⟩:∃ sub,sub=j9 ex:=⟨_,rfl⟩
 have hF:iW ex s=dW bT sub (sub s).2.l.length.succ (sub s).1 (sub s).2:=by rw [hsub];rfl
 rw [hF]
 rw [← hsub] at hc hsg
 generalize hR:dW bT sub (sub s).2.l.length.succ (sub s).1 (sub s).2=R
 have h0:=hsg s
 obtain ⟨a0,s0,hs0⟩:∃ a0 s0,sub s=(a0,s0):=⟨_,_,rfl⟩
 have hc0:=hc s hl hN
 rw [hs0] at hR h0 hc0
 simp only at hR hc0
 unfold RO TO ae
 refine ar Tryz.func223 rfl (by decide +kernel) (by simp [Tryz.ntmps223]) (veil fun E=>?_)
 simp only [go_sem]
 refine ab E [.bx [100] 0] (RO s) [100,101] (hc0) rfl rfl ⟨by simp only [go_sem],by first | (rw [aa];decide) | (simp only [go_sem]<;>(try rw [aa])<;>decide)⟩ rfl (by unfold RO TO ae;simp only [go_sem]) (by unfold RO TO;simp only [go_sem]) ?_
 rintro _ _ ⟨rfl,rfl⟩
 unfold RO TO ae
 simp only [go_sem]
 unfold exD
 simp only [go_sem]
 refine aA E (X:={ x:Nat × List EN × PS // dW bT sub x.1 x.2.1 x.2.2=R∧GP 1 s x.2∧x.2.2.l.length<x.1 }) (fun x=>[(0,.bx [100] 0),(2,.bx [2] 0),(3,.bx [3] 0)])
  (fun x=>[([2],.box [.d .nils]),([3],.box [.d (.sl (some 9) (x.1.2.1.map enD))]),([100],.box [.bx [101] 0,.d (i64 x.1.2.2.err),.d (i64 x.1.2.2.pos),.d (i64 x.1.2.2.nest)]),([101],.box [.d (.sl (some 4) (x.1.2.2.l.map ck)),.d (i64 x.1.2.2.fin)])]) [2,3,100,101] (fun x=>x.1.2.2.l.length) ⟨(s0.l.length.succ,a0,s0),hR,h0,Nat.lt_succ_self _⟩ id ?_ ?_
 ·simp only [go_sem]
  all_goals rfl
 rintro ⟨⟨m,a,q⟩,hb,hg,hm⟩ E0
 refine aC E0 fun Q' hQ E'=>?_
 simp only at hb hg hm ⊢
 have hql:q.l.length≤s.l.length:=hg.ss.len
 obtain ⟨m,rfl⟩:∃ k,m=k+1:=⟨m-1,by omega⟩
 rw [dW] at hb
 simp only [go_sem]
 refine Br E' [12] (some 2) [.agg [.str [42],i64 3],.agg [.str [47],i64 4]] rfl ?_
 rw [rj]
 simp only [go_sem]
 have h1:=rJ (G:=G) q bT (by omega) (by decide)
 unfold opR opN at h1
 cases ho:opS q bT with
 | none =>
   rw [ho] at h1 hb
   simp only at h1 hb
   subst hb
   unfold ndN at h1
   refine ab E' [.bx [100] 0,.d (opL bT)] (RO q) [100,101] (h1) rfl rfl ⟨by simp only [go_sem],by first | (rw [aa];decide) | (simp only [go_sem]<;>(try rw [aa])<;>decide)⟩ rfl (by unfold RO TO ae;simp only [go_sem]) (by unfold RO TO;simp only [go_sem]) ?_
   rintro _ _ ⟨rfl,rfl⟩
   unfold RO TO ae
   simp only [go_sem]
   rw [hQ]
   simp only [go_sem]
   refine ⟨_,_,[100,101],id,⟨rfl,rfl⟩,?_⟩
   simp only [go_sem]
   rfl
 | some n =>
   rw [ho] at h1 hb
   simp only at h1 hb
   unfold ndN at h1
   refine ab E' [.bx [100] 0,.d (opL bT)] (RO q) [100,101] (h1) rfl rfl ⟨by simp only [go_sem],by first | (rw [aa];decide) | (simp only [go_sem]<;>(try rw [aa])<;>decide)⟩ rfl (by unfold RO TO ae;simp only [go_sem]) (by unfold RO TO;simp only [go_sem]) ?_
   rintro _ _ ⟨rfl,rfl⟩
   unfold RO TO ae
   simp only [go_sem]
   refine ak mixed E' fun X=>?_
   simp only [go_sem]
   obtain ⟨b0,q1,hq1⟩:∃ b0 q1,sub q.next=(b0,q1):=⟨_,_,rfl⟩
   have h2:=hc q.next (by have:=(SS.next q).len;omega) ((SS.next q).nest.trans (hg.ss.nest.trans hN))
   have h3:=hsg q.next
   rw [hq1] at h2 h3 hb
   unfold exD at h2
   refine aZ X [.bx [100] 0] (RO q.next) [100,101] _ _ h2 rfl rfl ⟨by simp only [go_sem],by rw [aa];decide⟩ rfl (by unfold RO TO ae;simp only [go_sem]) (by unfold RO TO;simp only [go_sem]) (by unfold RO TO;simp only [go_sem]) ?_
   unfold RO TO ae
   simp only [go_sem]
   have ht2:=h3.tr
   have hz1:=hg.sz
   have hz2:=h3.sz
   have hn2:=(SS.next q).len
   simp only at ht2 hz1 hz2
   have h4:=j3 (G:=G) { nd0 10 q.peek.pos with n:=n } [a,b0] rfl (by simp) (by simp only [aT,List.map_cons,List.map_nil,List.sum_cons,List.sum_nil];omega)
    (fun l h=>by
     rcases List.mem_cons.1 h with rfl | h
     ·exact hg.tr.kids.2
     ·rw [List.mem_singleton.1 h];exact ht2.kids.2)
    (fun l h=>by
     rcases List.mem_cons.1 h with rfl | h
     ·exact hg.wd.mono (by omega)
     ·rw [List.mem_singleton.1 h];exact h3.wd.mono (by omega))
   have h5:=GP.jk (e:=1) (n:={ nd0 10 q.peek.pos with n:=n }) (s1:=s) (a:=(a,q)) (b:=(b0,q1)) hg h3 (SS.refl s) (SS.next q) rfl rfl (by have:=dG ho;simp only;omega)
   simp only at h5
   generalize av { nd0 10 q.peek.pos with n:=n } [a,b0]=J at h4 h5 hb
   unfold exD at h4
   refine bw X 23 [23] (some 1) [.agg [.sl (some 9) (a.map enD)],.agg [.sl (some 9) (b0.map enD)]] h4 (fun _=>rfl) rfl rfl rfl (by simp) rfl (by simp only [go_sem]) ?_
   simp only [go_sem]
   refine ⟨by decide +kernel,?_⟩
   rw [hQ]
   simp only [go_sem]
   refine ⟨⟨(m,J,q1),hb,h5,by have:=dG ho;have:=h3.ss.len;show q1.l.length<m;simp only at this;omega⟩,by have:=dG ho;have:=h3.ss.len;show q1.l.length<q.l.length;simp only at this;omega,id,?_⟩
   simp only [go_sem]
   all_goals rfl
theorem FC {G} {N:Nat} {ex:PS→PR} (hex:∀ s,GP 1 s (ex s)) (hc:Reads 223 G N (iW ex)):Reads 149 G N (o5 ex):=by
 intro s hl hN
 have hsg:=gP hex
 obtain ⟨sub,hsub⟩:∃ sub,sub=iW ex:=⟨_,rfl⟩
 have hF:o5 ex s=dW cn sub (sub s).2.l.length.succ (sub s).1 (sub s).2:=by rw [hsub];rfl
 rw [hF]
 rw [← hsub] at hc hsg
 generalize hR:dW cn sub (sub s).2.l.length.succ (sub s).1 (sub s).2=R
 have h0:=hsg s
 obtain ⟨a0,s0,hs0⟩:∃ a0 s0,sub s=(a0,s0):=⟨_,_,rfl⟩
 have hc0:=hc s hl hN
 rw [hs0] at hR h0 hc0
 simp only at hR hc0
 unfold RO TO ae
 refine ar Tryz.func149 rfl (by decide +kernel) (by simp [Tryz.ntmps149]) (veil fun E=>?_)
 simp only [go_sem]
 refine ab E [.bx [100] 0] (RO s) [100,101] (hc0) rfl rfl ⟨by simp only [go_sem],by first | (rw [aa];decide) | (simp only [go_sem]<;>(try rw [aa])<;>decide)⟩ rfl (by unfold RO TO ae;simp only [go_sem]) (by unfold RO TO;simp only [go_sem]) ?_
 rintro _ _ ⟨rfl,rfl⟩
 unfold RO TO ae
 simp only [go_sem]
 unfold exD
 simp only [go_sem]
 refine aA E (X:={ x:Nat × List EN × PS // dW cn sub x.1 x.2.1 x.2.2=R∧GP 1 s x.2∧x.2.2.l.length<x.1 }) (fun x=>[(0,.bx [100] 0),(2,.bx [2] 0),(3,.bx [3] 0)])
  (fun x=>[([2],.box [.d .nils]),([3],.box [.d (.sl (some 9) (x.1.2.1.map enD))]),([100],.box [.bx [101] 0,.d (i64 x.1.2.2.err),.d (i64 x.1.2.2.pos),.d (i64 x.1.2.2.nest)]),([101],.box [.d (.sl (some 4) (x.1.2.2.l.map ck)),.d (i64 x.1.2.2.fin)])]) [2,3,100,101] (fun x=>x.1.2.2.l.length) ⟨(s0.l.length.succ,a0,s0),hR,h0,Nat.lt_succ_self _⟩ id ?_ ?_
 ·simp only [go_sem]
  all_goals rfl
 rintro ⟨⟨m,a,q⟩,hb,hg,hm⟩ E0
 refine aC E0 fun Q' hQ E'=>?_
 simp only at hb hg hm ⊢
 have hql:q.l.length≤s.l.length:=hg.ss.len
 obtain ⟨m,rfl⟩:∃ k,m=k+1:=⟨m-1,by omega⟩
 rw [dW] at hb
 simp only [go_sem]
 refine Br E' [13] (some 2) [.agg [.str [43],i64 1],.agg [.str [45],i64 2],.agg [.str [94],i64 7]] rfl ?_
 rw [rj]
 simp only [go_sem]
 have h1:=rJ (G:=G) q cn (by omega) (by decide)
 unfold opR opN at h1
 cases ho:opS q cn with
 | none =>
   rw [ho] at h1 hb
   simp only at h1 hb
   subst hb
   unfold ndN at h1
   refine ab E' [.bx [100] 0,.d (opL cn)] (RO q) [100,101] (h1) rfl rfl ⟨by simp only [go_sem],by first | (rw [aa];decide) | (simp only [go_sem]<;>(try rw [aa])<;>decide)⟩ rfl (by unfold RO TO ae;simp only [go_sem]) (by unfold RO TO;simp only [go_sem]) ?_
   rintro _ _ ⟨rfl,rfl⟩
   unfold RO TO ae
   simp only [go_sem]
   rw [hQ]
   simp only [go_sem]
   refine ⟨_,_,[100,101],id,⟨rfl,rfl⟩,?_⟩
   simp only [go_sem]
   rfl
 | some n =>
   rw [ho] at h1 hb
   simp only at h1 hb
   unfold ndN at h1
   refine ab E' [.bx [100] 0,.d (opL cn)] (RO q) [100,101] (h1) rfl rfl ⟨by simp only [go_sem],by first | (rw [aa];decide) | (simp only [go_sem]<;>(try rw [aa])<;>decide)⟩ rfl (by unfold RO TO ae;simp only [go_sem]) (by unfold RO TO;simp only [go_sem]) ?_
   rintro _ _ ⟨rfl,rfl⟩
   unfold RO TO ae
   simp only [go_sem]
   refine ak mixed E' fun X=>?_
   simp only [go_sem]
   obtain ⟨b0,q1,hq1⟩:∃ b0 q1,sub q.next=(b0,q1):=⟨_,_,rfl⟩
   have h2:=hc q.next (by have:=(SS.next q).len;omega) ((SS.next q).nest.trans (hg.ss.nest.trans hN))
   have h3:=hsg q.next
   rw [hq1] at h2 h3 hb
   unfold exD at h2
   refine aZ X [.bx [100] 0] (RO q.next) [100,101] _ _ h2 rfl rfl ⟨by simp only [go_sem],by rw [aa];decide⟩ rfl (by unfold RO TO ae;simp only [go_sem]) (by unfold RO TO;simp only [go_sem]) (by unfold RO TO;simp only [go_sem]) ?_
   unfold RO TO ae
   simp only [go_sem]
   have ht2:=h3.tr
   have hz1:=hg.sz
   have hz2:=h3.sz
   have hn2:=(SS.next q).len
   simp only at ht2 hz1 hz2
   have h4:=j3 (G:=G) { nd0 10 q.peek.pos with n:=n } [a,b0] rfl (by simp) (by simp only [aT,List.map_cons,List.map_nil,List.sum_cons,List.sum_nil];omega)
    (fun l h=>by
     rcases List.mem_cons.1 h with rfl | h
     ·exact hg.tr.kids.2
     ·rw [List.mem_singleton.1 h];exact ht2.kids.2)
    (fun l h=>by
     rcases List.mem_cons.1 h with rfl | h
     ·exact hg.wd.mono (by omega)
     ·rw [List.mem_singleton.1 h];exact h3.wd.mono (by omega))
   have h5:=GP.jk (e:=1) (n:={ nd0 10 q.peek.pos with n:=n }) (s1:=s) (a:=(a,q)) (b:=(b0,q1)) hg h3 (SS.refl s) (SS.next q) rfl rfl (by have:=dG ho;simp only;omega)
   simp only at h5
   generalize av { nd0 10 q.peek.pos with n:=n } [a,b0]=J at h4 h5 hb
   unfold exD at h4
   refine bw X 24 [24] (some 1) [.agg [.sl (some 9) (a.map enD)],.agg [.sl (some 9) (b0.map enD)]] h4 (fun _=>rfl) rfl rfl rfl (by simp) rfl (by simp only [go_sem]) ?_
   simp only [go_sem]
   refine ⟨by decide +kernel,?_⟩
   rw [hQ]
   simp only [go_sem]
   refine ⟨⟨(m,J,q1),hb,h5,by have:=dG ho;have:=h3.ss.len;show q1.l.length<m;simp only at this;omega⟩,by have:=dG ho;have:=h3.ss.len;show q1.l.length<q.l.length;simp only at this;omega,id,?_⟩
   simp only [go_sem]
   all_goals rfl
end Go.Proofs.YtejpnabbmgpmaaaGreat

namespace Go.Proofs.YtejpnabbmgpmaaaGreat
open Go.Ab
theorem FZ {G} {N:Nat} {ex:PS→PR} (hex:∀ s,GP 1 s (ex s)) (hc:Reads 149 G N (o5 ex)):Reads 100 G N (pP ex):=by
 intro s hl hN
 have hsg:=jm hex
 obtain ⟨sub,hsub⟩:∃ sub,sub=o5 ex:=⟨_,rfl⟩
 have hF:pP ex s=match opS (sub s).2 dK with
  | some n=>(av { nd0 10 (sub s).2.peek.pos with n:=n } [(sub s).1,(sub (sub s).2.next).1],(sub (sub s).2.next).2)
  | none=>sub s:=by rw [hsub];rfl
 rw [hF]
 rw [← hsub] at hc hsg
 generalize hR:(match opS (sub s).2 dK with
  | some n=>(av { nd0 10 (sub s).2.peek.pos with n:=n } [(sub s).1,(sub (sub s).2.next).1],(sub (sub s).2.next).2)
  | none=>sub s:PR)=R
 have hg:=hsg s
 obtain ⟨a,q,hs0⟩:∃ a q,sub s=(a,q):=⟨_,_,rfl⟩
 have hc0:=hc s hl hN
 rw [hs0] at hR hg hc0
 simp only at hR hc0
 have hql:q.l.length≤s.l.length:=hg.ss.len
 unfold exD at hc0
 have h1:=rJ (G:=G) q dK (by omega) (by decide)
 unfold opR opN at h1
 unfold RO TO ae
 refine ar Tryz.func100 rfl (by decide +kernel) (by simp [Tryz.ntmps100]) (veil fun E=>?_)
 simp only [go_sem]
 refine ab E [.bx [100] 0] (RO s) [100,101] (hc0) rfl rfl ⟨by simp only [go_sem],by first | (rw [aa];decide) | (simp only [go_sem]<;>(try rw [aa])<;>decide)⟩ rfl (by unfold RO TO ae;simp only [go_sem]) (by unfold RO TO;simp only [go_sem]) ?_
 rintro _ _ ⟨rfl,rfl⟩
 unfold RO TO ae
 simp only [go_sem]
 refine Br E [12] (some 2) [.agg [.str [60],i64 5],.agg [.str [61,61],i64 6]] rfl ?_
 rw [rj]
 simp only [go_sem]
 cases ho:opS q dK with
 | none =>
   rw [ho] at h1 hR
   simp only at h1 hR
   subst hR
   unfold ndN at h1
   refine ab E [.bx [100] 0,.d (opL dK)] (RO q) [100,101] (h1) rfl rfl ⟨by simp only [go_sem],by first | (rw [aa];decide) | (simp only [go_sem]<;>(try rw [aa])<;>decide)⟩ rfl (by unfold RO TO ae;simp only [go_sem]) (by unfold RO TO;simp only [go_sem]) ?_
   rintro _ _ ⟨rfl,rfl⟩
   unfold RO TO ae
   simp only [go_sem]
   refine ⟨_,_,[100,101],id,⟨rfl,rfl⟩,?_⟩
   simp only [go_sem]
   rfl
 | some n =>
   rw [ho] at h1 hR
   simp only at h1 hR
   unfold ndN at h1
   refine ab E [.bx [100] 0,.d (opL dK)] (RO q) [100,101] (h1) rfl rfl ⟨by simp only [go_sem],by first | (rw [aa];decide) | (simp only [go_sem]<;>(try rw [aa])<;>decide)⟩ rfl (by unfold RO TO ae;simp only [go_sem]) (by unfold RO TO;simp only [go_sem]) ?_
   rintro _ _ ⟨rfl,rfl⟩
   unfold RO TO ae
   simp only [go_sem]
   refine ak mixed E fun X=>?_
   simp only [go_sem]
   obtain ⟨b0,q1,hq1⟩:∃ b0 q1,sub q.next=(b0,q1):=⟨_,_,rfl⟩
   have h2:=hc q.next (by have:=(SS.next q).len;omega) ((SS.next q).nest.trans (hg.ss.nest.trans hN))
   have h3:=hsg q.next
   rw [hq1] at h2 h3 hR
   unfold exD at h2
   refine aZ X [.bx [100] 0] (RO q.next) [100,101] _ _ h2 rfl rfl ⟨by simp only [go_sem],by rw [aa];decide⟩ rfl (by unfold RO TO ae;simp only [go_sem]) (by unfold RO TO;simp only [go_sem]) (by unfold RO TO;simp only [go_sem]) ?_
   unfold RO TO ae
   simp only [go_sem]
   have ht2:=h3.tr
   have hz1:=hg.sz
   have hz2:=h3.sz
   have hn2:=(SS.next q).len
   simp only at ht2 hz1 hz2
   have h4:=j3 (G:=G) { nd0 10 q.peek.pos with n:=n } [a,b0] rfl (by simp) (by simp only [aT,List.map_cons,List.map_nil,List.sum_cons,List.sum_nil];omega)
    (fun l h=>by
     rcases List.mem_cons.1 h with rfl | h
     ·exact hg.tr.kids.2
     ·rw [List.mem_singleton.1 h];exact ht2.kids.2)
    (fun l h=>by
     rcases List.mem_cons.1 h with rfl | h
     ·exact hg.wd.mono (by omega)
     ·rw [List.mem_singleton.1 h];exact h3.wd.mono (by omega))
   generalize av { nd0 10 q.peek.pos with n:=n } [a,b0]=J at h4 hR
   unfold exD at h4
   refine bw X 21 [21] (some 1) [.agg [.sl (some 9) (a.map enD)],.agg [.sl (some 9) (b0.map enD)]] h4 (fun _=>rfl) rfl rfl rfl (by simp) rfl (by simp only [go_sem]) ?_
   simp only [go_sem]
   refine ⟨by decide +kernel,?_⟩
   rw [← hR]
   refine ⟨_,_,[100,101],id,⟨rfl,rfl⟩,?_⟩
   simp only [go_sem]
   rfl
end Go.Proofs.YtejpnabbmgpmaaaGreat

namespace Go.Proofs.YtejpnabbmgpmaaaGreat
open Go.Ab
theorem dZ {s:PS} {k:Int} {t:List UInt8} (h:s.sees k t=true):s.may k t=s.next:=by unfold PS.may;rw [h];rfl
theorem fM {s:PS} {k:Int} {t:List UInt8} (h:s.sees k t=false):s.may k t=s:=by unfold PS.may;rw [h];rfl
theorem DL {G} {N:Nat} {ex:PS→PR} (hex:∀ s,GP 1 s (ex s)) (hc:Reads 329 G N (cU ex)):Reads 305 G N (cO ex):=by
 intro s hl hN
 have hg0:=lK hex s
 have hc0:=hc s hl hN
 have hF:cO ex s=cj (cU ex s).2.l.length.succ (cU ex s).1 (cU ex s).2:=rfl
 rw [hF]
 obtain ⟨a0,s0,hs0⟩:∃ a0 s0,cU ex s=(a0,s0):=⟨_,_,rfl⟩
 rw [hs0] at hg0 hc0 ⊢
 simp only at hc0 ⊢
 generalize hR:cj s0.l.length.succ a0 s0=R
 unfold exD at hc0
 unfold RO TO ae
 refine ar Tryz.func305 rfl (by decide +kernel) (by simp [Tryz.ntmps305]) (veil fun E=>?_)
 simp only [go_sem]
 refine ab E [.bx [100] 0] (RO s) [100,101] (hc0) rfl rfl ⟨by simp only [go_sem],by first | (rw [aa];decide) | (simp only [go_sem]<;>(try rw [aa])<;>decide)⟩ rfl (by unfold RO TO ae;simp only [go_sem]) (by unfold RO TO;simp only [go_sem]) ?_
 rintro _ _ ⟨rfl,rfl⟩
 unfold RO TO ae
 simp only [go_sem]
 refine aA E (X:={ x:Nat × List EN × PS // cj x.1 x.2.1 x.2.2=R∧GQ s x.2∧x.2.2.l.length<x.1 }) (fun x=>[(0,.bx [100] 0),(2,.bx [2] 0),(3,.bx [3] 0)])
  (fun x=>[([2],.box [.d .nils]),([3],.box [.d (.sl (some 9) (x.1.2.1.map enD))]),([100],.box [.bx [101] 0,.d (i64 x.1.2.2.err),.d (i64 x.1.2.2.pos),.d (i64 x.1.2.2.nest)]),([101],.box [.d (.sl (some 4) (x.1.2.2.l.map ck)),.d (i64 x.1.2.2.fin)])]) [2,3,100,101] (fun x=>x.1.2.2.l.length) ⟨(s0.l.length.succ,a0,s0),hR,hg0,Nat.lt_succ_self _⟩ id ?_ ?_
 ·simp only [go_sem]
  all_goals rfl
 rintro ⟨⟨m,a,q⟩,hb,hg,hm⟩ E0
 refine aC E0 fun Q' hQ E'=>?_
 simp only at hb hg hm ⊢
 have hql:q.l.length≤s.l.length:=hg.1.ss.len
 obtain ⟨m,rfl⟩:∃ k,m=k+1:=⟨m-1,by omega⟩
 have hgn:=gI s 1 a q hg
 rw [cj] at hb
 rw [show cj 1 a q=if q.sees 7 [46] then (av { nd0 12 q.peek.pos with name:=(q.next.of 2).1 } [a],(q.next.of 2).2) else (a,q) from rfl] at hgn
 simp only [go_sem]
 refine ab E' [.bx [101] 0] (TO q.l q.fin) [101] (eA q.l q.fin (by omega)) rfl rfl ⟨by simp only [go_sem],by first | (rw [aa];decide) | (simp only [go_sem]<;>(try rw [aa])<;>decide)⟩ rfl (by unfold TO ae;simp only [go_sem]) (by unfold TO;simp only [go_sem]) ?_
 rintro _ _ ⟨rfl,rfl⟩
 unfold TO ae
 simp only [go_sem]
 refine ab E' [.bx [100] 0,.d (.str [46])] (RO q) [100,101] (jN q [46] (by omega)) rfl rfl ⟨by simp only [go_sem],by first | (rw [aa];decide) | (simp only [go_sem]<;>(try rw [aa])<;>decide)⟩ rfl (by unfold RO TO ae;simp only [go_sem]) (by unfold RO TO;simp only [go_sem]) ?_
 rintro _ _ ⟨rfl,rfl⟩
 unfold RO TO ae
 simp only [go_sem]
 refine aD E' (fun h=>?_) (fun h=>?_)<;>simp only [go_sem]
 ·have h':q.sees 7 [46]=false:=by simpa using h
  rw [h'] at hb
  rw [fM h',hQ]
  simp only [Bool.false_eq_true,if_false] at hb
  subst hb
  simp only [go_sem]
  refine ⟨_,_,[100,101],id,⟨rfl,rfl⟩,?_⟩
  simp only [go_sem]
  rfl
 ·have h':q.sees 7 [46]=true:=by simpa using h
  have hsl:=az h'
  rw [h'] at hb hgn
  simp only [if_true] at hb hgn
  rw [dZ h']
  refine ak mixed E' fun X=>?_
  simp only [go_sem]
  have h2:=mB (G:=G) q.next 2 (by omega)
  obtain ⟨nm,q1,hq1⟩:∃ nm q1,q.next.of 2=(nm,q1):=⟨_,_,rfl⟩
  have hq1l:=(SS.of q.next 2).len
  rw [hq1] at h2 hb hgn hq1l
  simp only at hq1l
  refine aZ X [.bx [100] 0,.d (i64 2)] (RO q.next) [100,101] _ _ h2 rfl rfl ⟨by simp only [go_sem],by rw [aa];decide⟩ rfl (by unfold RO TO ae;simp only [go_sem]) (by unfold RO TO;simp only [go_sem]) (by unfold RO TO;simp only [go_sem]) ?_
  unfold RO TO ae
  simp only [go_sem]
  have hz1:=hg.1.sz
  simp only at hz1
  have h4:=j3 (G:=G) { nd0 12 q.peek.pos with name:=nm } [a] rfl (by simp) (by simp only [aT,List.map_cons,List.map_nil,List.sum_cons,List.sum_nil];omega)
   (fun l h=>by rw [List.mem_singleton.1 h];exact hg.1.tr.kids.2)
   (fun l h=>by rw [List.mem_singleton.1 h];exact hg.1.wd.mono (by omega))
  simp only at hb hgn
  generalize av { nd0 12 q.peek.pos with name:=nm } [a]=J at h4 hb hgn
  unfold exD at h4
  refine bw X 22 [22] (some 1) [.agg [.sl (some 9) (a.map enD)]] h4 (fun _=>rfl) rfl rfl rfl (by simp) rfl (by simp only [go_sem]) ?_
  simp only [go_sem]
  refine ⟨by decide +kernel,?_⟩
  rw [hQ]
  simp only [go_sem]
  refine ⟨⟨(m,J,q1),hb,hgn,by show q1.l.length<m;omega⟩,by show q1.l.length<q.l.length;omega,id,?_⟩
  simp only [go_sem]
  all_goals rfl
end Go.Proofs.YtejpnabbmgpmaaaGreat

namespace Go.Proofs.YtejpnabbmgpmaaaGreat
open Go.Ab
def G8 (k:Int) (t:List UInt8):Bool:=decide (k=4) || decide (k=5) || decide (k=2) || (decide (k=1) && (decide (t=eY) || decide (t=cX) || decide (t=fg))) || (decide (k=7) && (decide (t=[40]) || decide (t=[123])))
theorem wo {G} (s:PS) (hl:s.l.length≤1000000):HCall Tryz.prog G 306 [.bx [100] 0] (RO s) [100,101] (fun r hp'=>r=.d (.bool s.begins)∧hp'=RO s):=by
 have hB:s.begins=G8 (bu s.l s.fin).k (bu s.l s.fin).s:=rfl
 rw [hB]
 have h0:=eA (G:=G) s.l s.fin hl
 generalize bu s.l s.fin=t at h0 ⊢
 generalize hb:G8 t.k t.s=b
 unfold G8 at hb
 unfold RO TO ae
 refine ar Tryz.func306 rfl (by decide +kernel) (by simp [Tryz.ntmps306]) (veil fun E=>?_)
 simp only [go_sem]
 refine ab E [.bx [101] 0] (TO s.l s.fin) [101] (h0) rfl rfl ⟨by simp only [go_sem],by first | (rw [aa];decide) | (simp only [go_sem]<;>(try rw [aa])<;>decide)⟩ rfl (by unfold TO ae;simp only [go_sem]) (by unfold TO;simp only [go_sem]) ?_
 rintro _ _ ⟨rfl,rfl⟩
 unfold TO ae
 simp only [go_sem]
 refine ah E (fun h1=>?_) (fun h1=>?_)<;>simp only [go_sem]
 ·rw [decide_eq_true h1]
  simp only [go_sem]
  refine ⟨_,_,[100,101],id,⟨rfl,rfl⟩,?_⟩
  simp only [go_sem]
  simp [← hb,h1]
 refine ah E (fun h2=>?_) (fun h2=>?_)<;>simp only [go_sem]
 ·rw [decide_eq_true h2]
  simp only [go_sem]
  refine ⟨_,_,[100,101],id,⟨rfl,rfl⟩,?_⟩
  simp only [go_sem]
  simp [← hb,h2]
 refine ah E (fun h3=>?_) (fun h3=>?_)<;>simp only [go_sem]
 ·refine ⟨_,_,[100,101],id,⟨rfl,rfl⟩,?_⟩
  simp only [go_sem]
  simp [← hb,h3]
 refine ah E (fun h4=>?_) (fun h4=>?_)<;>simp only [go_sem]
 ·refine bU E (fun h6=>?_) (fun h6=>?_)<;>simp only [go_sem]
  ·refine ⟨_,_,[100,101],id,⟨rfl,rfl⟩,?_⟩
   simp only [go_sem]
   have h6':t.s=eY:=by simpa [eY] using h6
   simp [← hb,h4,h6']
  refine bU E (fun h7=>?_) (fun h7=>?_)<;>simp only [go_sem]
  ·refine ⟨_,_,[100,101],id,⟨rfl,rfl⟩,?_⟩
   simp only [go_sem]
   have h7':t.s=cX:=by simpa [cX] using h7
   simp [← hb,h4,h7']
  ·refine ⟨_,_,[100,101],id,⟨rfl,rfl⟩,?_⟩
   simp only [go_sem]
   have h6':¬ t.s=eY:=by simpa [eY] using h6
   have h7':¬ t.s=cX:=by simpa [cX] using h7
   by_cases h8:t.s=fg
   ·simp [← hb,h4,h8,fg]
   ·have h8':=h8;unfold fg at h8';simp [← hb,h4,h6',h7',h8,h8']
 refine ah E (fun h5=>?_) (fun h5=>?_)<;>simp only [go_sem]
 ·refine bU E (fun h6=>?_) (fun h6=>?_)<;>simp only [go_sem]
  ·refine ⟨_,_,[100,101],id,⟨rfl,rfl⟩,?_⟩
   simp only [go_sem]
   have h6':t.s=[40]:=by simpa using h6
   simp [← hb,h5,h6']
  ·refine ⟨_,_,[100,101],id,⟨rfl,rfl⟩,?_⟩
   simp only [go_sem]
   have h6':¬ t.s=[40]:=by simpa using h6
   by_cases h8:t.s=[123]<;>simp [← hb,h5,h6',h8]
 ·refine ⟨_,_,[100,101],id,⟨rfl,rfl⟩,?_⟩
  simp only [go_sem]
  simp [← hb,h1,h2,h3,h4,h5]
theorem Fo {G} {N:Nat} {ex:PS→PR} (hex:∀ s,GP 1 s (ex s)) (hc:Reads 305 G N (cO ex)):Reads 271 G N (j9 ex):=by
 intro s hl hN
 generalize hR:j9 ex s=R
 unfold j9 PS.has at hR
 rw [jL] at hR
 have hsg:=fE hex
 have hpk:=eA (G:=G) s.l s.fin (by omega)
 generalize bu s.l s.fin=t at hpk hR
 unfold RO TO ae
 refine ar Tryz.func271 rfl (by decide +kernel) (by simp [Tryz.ntmps271]) (veil fun E=>?_)
 simp only [go_sem]
 refine ab E [.bx [101] 0] (TO s.l s.fin) [101] (hpk) rfl rfl ⟨by simp only [go_sem],by first | (rw [aa];decide) | (simp only [go_sem]<;>(try rw [aa])<;>decide)⟩ rfl (by unfold TO ae;simp only [go_sem]) (by unfold TO;simp only [go_sem]) ?_
 rintro _ _ ⟨rfl,rfl⟩
 unfold TO ae
 simp only [go_sem]
 refine ab E [.bx [100] 0] (RO s) [100,101] (fW s) rfl rfl ⟨by simp only [go_sem],by first | (rw [aa];decide) | (simp only [go_sem]<;>(try rw [aa])<;>decide)⟩ rfl (by unfold RO TO ae;simp only [go_sem]) (by unfold RO TO;simp only [go_sem]) ?_
 rintro _ _ ⟨rfl,rfl⟩
 unfold RO TO ae
 simp only [go_sem]
 obtain ⟨a0,s0,hs0⟩:∃ a0 s0,cO ex s=(a0,s0):=⟨_,_,rfl⟩
 have h0:=(hsg s).1
 have hc0:=hc s hl hN
 rw [hs0] at h0 hc0
 unfold exD at hc0
 simp only [hs0] at hR
 refine ao E (fun h1=>?_) (fun h1=>?_)<;>simp only [go_sem]
 ·refine ah E (fun h2=>?_) (fun h2=>?_)<;>simp only [go_sem]
  ·simp only [decide_eq_true h1,decide_eq_true h2,Bool.and_self,if_true] at hR
   refine ab E [.bx [101] 0] (TO s.l s.fin) [101] (jH s.l s.fin (by omega)) rfl rfl ⟨by simp only [go_sem],by first | (rw [aa];decide) | (simp only [go_sem]<;>(try rw [aa])<;>decide)⟩ rfl (by unfold TO ae;simp only [go_sem]) (by unfold TO;simp only [go_sem]) ?_
   rintro _ _ ⟨rfl,rfl⟩
   unfold TO ae
   simp only [go_sem]
   refine ak mixed E fun X=>?_
   simp only [go_sem]
   obtain ⟨b0,q1,hq1⟩:∃ b0 q1,cO ex s.next=(b0,q1):=⟨_,_,rfl⟩
   have hn2:=(SS.next s).len
   have g2:=hc s.next (by omega) ((SS.next s).nest.trans hN)
   have h3:=(hsg s.next).1
   rw [hq1] at g2 h3 hR
   unfold exD at g2
   refine aZ X [.bx [100] 0] (RO s.next) [100,101] _ _ g2 rfl rfl ⟨by simp only [go_sem],by rw [aa];decide⟩ rfl (by unfold RO TO ae PS.next;simp only [go_sem]) (by unfold RO TO;simp only [go_sem]) (by unfold RO TO;simp only [go_sem]) ?_
   unfold RO TO ae
   simp only [go_sem]
   have ht2:=h3.tr
   have hz2:=h3.sz
   simp only at ht2 hz2 hR
   have h4:=j3 (G:=G) { nd0 13 t.pos with name:=t.s } [b0] rfl (by simp) (by simp only [aT,List.map_cons,List.map_nil,List.sum_cons,List.sum_nil];omega)
    (fun l h=>by rw [List.mem_singleton.1 h];exact ht2.kids.2)
    (fun l h=>by rw [List.mem_singleton.1 h];exact h3.wd.mono (by omega))
   generalize av { nd0 13 t.pos with name:=t.s } [b0]=J at h4 hR
   unfold exD at h4
   refine bw X 29 [29] (some 1) [.agg [.sl (some 9) (b0.map enD)]] h4 (fun _=>rfl) rfl rfl rfl (by simp) rfl (by simp only [go_sem]) ?_
   simp only [go_sem]
   refine ⟨by decide +kernel,?_⟩
   rw [← hR]
   refine ⟨_,_,[100,101],id,⟨rfl,rfl⟩,?_⟩
   simp only [go_sem]
   rfl
  ·simp only [decide_eq_true h1,decide_eq_false h2,Bool.and_false,Bool.false_eq_true,if_false] at hR
   refine ab E [.bx [100] 0] (RO s) [100,101] (hc0) rfl rfl ⟨by simp only [go_sem],by first | (rw [aa];decide) | (simp only [go_sem]<;>(try rw [aa])<;>decide)⟩ rfl (by unfold RO TO ae;simp only [go_sem]) (by unfold RO TO;simp only [go_sem]) ?_
   rintro _ _ ⟨rfl,rfl⟩
   unfold RO TO ae
   simp only [go_sem]
   refine aA E (X:={ x:Nat × List EN × PS // gp ex x.1 x.2.1 x.2.2=R∧GP 1 s x.2∧x.2.2.l.length<x.1 }) (fun x=>[(0,.bx [100] 0),(2,.bx [2] 0),(4,.bx [4] 0)])
    (fun x=>[([2],.box [.d .nils]),([4],.box [.d (.sl (some 9) (x.1.2.1.map enD))]),([100],.box [.bx [101] 0,.d (i64 x.1.2.2.err),.d (i64 x.1.2.2.pos),.d (i64 x.1.2.2.nest)]),([101],.box [.d (.sl (some 4) (x.1.2.2.l.map ck)),.d (i64 x.1.2.2.fin)])]) [2,4,100,101] (fun x=>x.1.2.2.l.length) ⟨(s0.l.length.succ,a0,s0),hR,h0,Nat.lt_succ_self _⟩ id ?_ ?_
   ·simp only [go_sem]
    all_goals rfl
   rintro ⟨⟨m,a,q⟩,hb,hg,hm⟩ E0
   refine aC E0 fun Q' hQ E'=>?_
   simp only at hb hg hm ⊢
   have hql:q.l.length≤s.l.length:=hg.ss.len
   obtain ⟨m,rfl⟩:∃ k,m=k+1:=⟨m-1,by omega⟩
   have hgn:=jR hex s 1 a q hg
   rw [gp] at hb
   rw [show gp ex 1 a q=if decide (q.err=0) && q.begins then (av (nd0 6 (dh a).pos) [a,(cO ex q).1],(cO ex q).2) else (a,q) from rfl] at hgn
   simp only [go_sem]
   refine ab E' [.bx [100] 0] (RO q) [100,101] (fW q) rfl rfl ⟨by simp only [go_sem],by first | (rw [aa];decide) | (simp only [go_sem]<;>(try rw [aa])<;>decide)⟩ rfl (by unfold RO TO ae;simp only [go_sem]) (by unfold RO TO;simp only [go_sem]) ?_
   rintro _ _ ⟨rfl,rfl⟩
   unfold RO TO ae
   simp only [go_sem]
   refine ao E' (fun g1=>?_) (fun g1=>?_)<;>simp only [go_sem]
   ·refine ab E' [.bx [100] 0] (RO q) [100,101] (wo q (by omega)) rfl rfl ⟨by simp only [go_sem],by first | (rw [aa];decide) | (simp only [go_sem]<;>(try rw [aa])<;>decide)⟩ rfl (by unfold RO TO ae;simp only [go_sem]) (by unfold RO TO;simp only [go_sem]) ?_
    rintro _ _ ⟨rfl,rfl⟩
    unfold RO TO ae
    simp only [go_sem]
    refine aD E' (fun g2=>?_) (fun g2=>?_)<;>simp only [go_sem]
    ·simp only [decide_eq_true g1,g2,Bool.true_and,if_true] at hb hgn
     have hap:=hg.tr.kids.1
     have hz1:=hg.sz
     simp only at hap hz1
     refine ak mixed E' fun X=>?_
     simp only [go_sem]
     rw [ai (n:=(a.length:Int)-1) ⟨by omega,by omega⟩]
     refine ⟨⟨by omega,by omega⟩,?_⟩
     rw [show ((a.length:Int)-1).toNat=a.length-1 by omega,aP (show a.length-1<a.length by omega)]
     have hrt:dh a=ndE a (a.length-1):=rfl
     rw [← hrt]
     generalize dh a=rt at hb hgn ⊢
     simp only [go_sem]
     obtain ⟨b0,q1,hq1⟩:∃ b0 q1,cO ex q=(b0,q1):=⟨_,_,rfl⟩
     have h2:=hc q (by omega) (hg.ss.nest.trans hN)
     have h3:=(hsg q).1
     have hlt:=mh hex g1 g2
     rw [hq1] at h2 h3 hb hgn hlt
     unfold exD at h2
     refine aZ X [.bx [100] 0] (RO q) [100,101] _ _ h2 rfl rfl ⟨by simp only [go_sem],by rw [aa];decide⟩ rfl (by unfold RO TO ae;simp only [go_sem]) (by unfold RO TO;simp only [go_sem]) (by unfold RO TO;simp only [go_sem]) ?_
     unfold RO TO ae
     simp only [go_sem]
     have ht2:=h3.tr
     have hz2:=h3.sz
     simp only at ht2 hz2 hlt
     have h4:=j3 (G:=G) (nd0 6 rt.pos) [a,b0] rfl (by simp) (by simp only [aT,List.map_cons,List.map_nil,List.sum_cons,List.sum_nil];omega)
      (fun l h=>by
       rcases List.mem_cons.1 h with rfl | h
       ·exact hg.tr.kids.2
       ·rw [List.mem_singleton.1 h];exact ht2.kids.2)
      (fun l h=>by
       rcases List.mem_cons.1 h with rfl | h
       ·exact hg.wd.mono (by omega)
       ·rw [List.mem_singleton.1 h];exact h3.wd.mono (by omega))
     simp only at hb hgn
     generalize av (nd0 6 rt.pos) [a,b0]=J at h4 hb hgn
     unfold exD at h4
     refine bw X 52 [52] (some 1) [.agg [.sl (some 9) (a.map enD)],.agg [.sl (some 9) (b0.map enD)]] h4 (fun _=>rfl) rfl rfl rfl (by simp) rfl (by simp only [go_sem]) ?_
     simp only [go_sem]
     refine ⟨by decide +kernel,?_⟩
     rw [hQ]
     simp only [go_sem]
     refine ⟨⟨(m,J,q1),hb,hgn,by show q1.l.length<m;omega⟩,hlt,id,?_⟩
     simp only [go_sem]
     all_goals rfl
    ·simp only [g2,Bool.and_false,Bool.false_eq_true,if_false] at hb
     subst hb
     rw [hQ]
     simp only [go_sem]
     refine ⟨_,_,[100,101],id,⟨rfl,rfl⟩,?_⟩
     simp only [go_sem]
     rfl
   ·simp only [decide_eq_false g1,Bool.false_and,Bool.false_eq_true,if_false] at hb
    subst hb
    rw [hQ]
    simp only [go_sem]
    refine ⟨_,_,[100,101],id,⟨rfl,rfl⟩,?_⟩
    simp only [go_sem]
    rfl
 ·simp only [decide_eq_false h1,Bool.false_and,Bool.false_eq_true,if_false] at hR
  refine ab E [.bx [100] 0] (RO s) [100,101] (hc0) rfl rfl ⟨by simp only [go_sem],by first | (rw [aa];decide) | (simp only [go_sem]<;>(try rw [aa])<;>decide)⟩ rfl (by unfold RO TO ae;simp only [go_sem]) (by unfold RO TO;simp only [go_sem]) ?_
  rintro _ _ ⟨rfl,rfl⟩
  unfold RO TO ae
  simp only [go_sem]
  refine aA E (X:={ x:Nat × List EN × PS // gp ex x.1 x.2.1 x.2.2=R∧GP 1 s x.2∧x.2.2.l.length<x.1 }) (fun x=>[(0,.bx [100] 0),(2,.bx [2] 0),(4,.bx [4] 0)])
   (fun x=>[([2],.box [.d .nils]),([4],.box [.d (.sl (some 9) (x.1.2.1.map enD))]),([100],.box [.bx [101] 0,.d (i64 x.1.2.2.err),.d (i64 x.1.2.2.pos),.d (i64 x.1.2.2.nest)]),([101],.box [.d (.sl (some 4) (x.1.2.2.l.map ck)),.d (i64 x.1.2.2.fin)])]) [2,4,100,101] (fun x=>x.1.2.2.l.length) ⟨(s0.l.length.succ,a0,s0),hR,h0,Nat.lt_succ_self _⟩ id ?_ ?_
  ·simp only [go_sem]
   all_goals rfl
  rintro ⟨⟨m,a,q⟩,hb,hg,hm⟩ E0
  refine aC E0 fun Q' hQ E'=>?_
  simp only at hb hg hm ⊢
  have hql:q.l.length≤s.l.length:=hg.ss.len
  obtain ⟨m,rfl⟩:∃ k,m=k+1:=⟨m-1,by omega⟩
  have hgn:=jR hex s 1 a q hg
  rw [gp] at hb
  rw [show gp ex 1 a q=if decide (q.err=0) && q.begins then (av (nd0 6 (dh a).pos) [a,(cO ex q).1],(cO ex q).2) else (a,q) from rfl] at hgn
  simp only [go_sem]
  refine ab E' [.bx [100] 0] (RO q) [100,101] (fW q) rfl rfl ⟨by simp only [go_sem],by first | (rw [aa];decide) | (simp only [go_sem]<;>(try rw [aa])<;>decide)⟩ rfl (by unfold RO TO ae;simp only [go_sem]) (by unfold RO TO;simp only [go_sem]) ?_
  rintro _ _ ⟨rfl,rfl⟩
  unfold RO TO ae
  simp only [go_sem]
  refine ao E' (fun g1=>?_) (fun g1=>?_)<;>simp only [go_sem]
  ·refine ab E' [.bx [100] 0] (RO q) [100,101] (wo q (by omega)) rfl rfl ⟨by simp only [go_sem],by first | (rw [aa];decide) | (simp only [go_sem]<;>(try rw [aa])<;>decide)⟩ rfl (by unfold RO TO ae;simp only [go_sem]) (by unfold RO TO;simp only [go_sem]) ?_
   rintro _ _ ⟨rfl,rfl⟩
   unfold RO TO ae
   simp only [go_sem]
   refine aD E' (fun g2=>?_) (fun g2=>?_)<;>simp only [go_sem]
   ·simp only [decide_eq_true g1,g2,Bool.true_and,if_true] at hb hgn
    have hap:=hg.tr.kids.1
    have hz1:=hg.sz
    simp only at hap hz1
    refine ak mixed E' fun X=>?_
    simp only [go_sem]
    rw [ai (n:=(a.length:Int)-1) ⟨by omega,by omega⟩]
    refine ⟨⟨by omega,by omega⟩,?_⟩
    rw [show ((a.length:Int)-1).toNat=a.length-1 by omega,aP (show a.length-1<a.length by omega)]
    have hrt:dh a=ndE a (a.length-1):=rfl
    rw [← hrt]
    generalize dh a=rt at hb hgn ⊢
    simp only [go_sem]
    obtain ⟨b0,q1,hq1⟩:∃ b0 q1,cO ex q=(b0,q1):=⟨_,_,rfl⟩
    have h2:=hc q (by omega) (hg.ss.nest.trans hN)
    have h3:=(hsg q).1
    have hlt:=mh hex g1 g2
    rw [hq1] at h2 h3 hb hgn hlt
    unfold exD at h2
    refine aZ X [.bx [100] 0] (RO q) [100,101] _ _ h2 rfl rfl ⟨by simp only [go_sem],by rw [aa];decide⟩ rfl (by unfold RO TO ae;simp only [go_sem]) (by unfold RO TO;simp only [go_sem]) (by unfold RO TO;simp only [go_sem]) ?_
    unfold RO TO ae
    simp only [go_sem]
    have ht2:=h3.tr
    have hz2:=h3.sz
    simp only at ht2 hz2 hlt
    have h4:=j3 (G:=G) (nd0 6 rt.pos) [a,b0] rfl (by simp) (by simp only [aT,List.map_cons,List.map_nil,List.sum_cons,List.sum_nil];omega)
     (fun l h=>by
      rcases List.mem_cons.1 h with rfl | h
      ·exact hg.tr.kids.2
      ·rw [List.mem_singleton.1 h];exact ht2.kids.2)
     (fun l h=>by
      rcases List.mem_cons.1 h with rfl | h
      ·exact hg.wd.mono (by omega)
      ·rw [List.mem_singleton.1 h];exact h3.wd.mono (by omega))
    simp only at hb hgn
    generalize av (nd0 6 rt.pos) [a,b0]=J at h4 hb hgn
    unfold exD at h4
    refine bw X 52 [52] (some 1) [.agg [.sl (some 9) (a.map enD)],.agg [.sl (some 9) (b0.map enD)]] h4 (fun _=>rfl) rfl rfl rfl (by simp) rfl (by simp only [go_sem]) ?_
    simp only [go_sem]
    refine ⟨by decide +kernel,?_⟩
    rw [hQ]
    simp only [go_sem]
    refine ⟨⟨(m,J,q1),hb,hgn,by show q1.l.length<m;omega⟩,hlt,id,?_⟩
    simp only [go_sem]
    all_goals rfl
   ·simp only [g2,Bool.and_false,Bool.false_eq_true,if_false] at hb
    subst hb
    rw [hQ]
    simp only [go_sem]
    refine ⟨_,_,[100,101],id,⟨rfl,rfl⟩,?_⟩
    simp only [go_sem]
    rfl
  ·simp only [decide_eq_false g1,Bool.false_and,Bool.false_eq_true,if_false] at hb
   subst hb
   rw [hQ]
   simp only [go_sem]
   refine ⟨_,_,[100,101],id,⟨rfl,rfl⟩,?_⟩
   simp only [go_sem]
   rfl
end Go.Proofs.YtejpnabbmgpmaaaGreat

namespace Go.Proofs.YtejpnabbmgpmaaaGreat
open Go.Ab
def rk (f:Nat) (G:List (Nat × Obj)) (N:Nat) (sub:PS→Int→PR):Prop:=∀ (s:PS) (p:Int),s.l.length≤100000→s.nest=N→HCall Tryz.prog G f [.bx [100] 0,.d (i64 p)] (RO s) [100,101] (fun r hp'=>r=.d (exD (sub s p).1)∧hp'=RO (sub s p).2)
theorem Hp {G} {N:Nat} {ex:PS→PR} (hex:∀ s,GP 1 s (ex s)) (hc:Reads 53 G N ex):rk 99 G N (ifS ex):=by
 intro s p hl hN
 generalize hR:ifS ex s p=R
 unfold ifS at hR
 have ha:=hex s
 have ca:=hc s hl hN
 obtain ⟨a,sa,ea⟩:∃ a sa,ex s=(a,sa):=⟨_,_,rfl⟩
 rw [ea] at ha ca hR
 have la:=ha.ss.len
 have na:=ha.ss.nest
 have cm:=fS (G:=G) sa 1 gG (by simp only at la;omega) (by decide)
 have hm:=SS.must sa 1 gG
 simp only at hR la na
 generalize sa.must 1 gG=s2 at hR cm hm
 have l2:=hm.len
 have n2:=hm.nest
 have hb:=hex s2
 have cb:=hc s2 (by omega) (by rw [n2,na,hN])
 obtain ⟨b,sb,eb⟩:∃ b sb,ex s2=(b,sb):=⟨_,_,rfl⟩
 rw [eb] at hb cb hR
 have lb:=hb.ss.len
 have nb:=hb.ss.nest
 simp only at hR lb nb
 have cm2:=fS (G:=G) sb 1 iJ (by omega) (by decide)
 have hm2:=SS.must sb 1 iJ
 generalize sb.must 1 iJ=s3 at hR cm2 hm2
 have l3:=hm2.len
 have n3:=hm2.nest
 have hd:=hex s3
 have cd:=hc s3 (by omega) (by rw [n3,nb,n2,na,hN])
 obtain ⟨d,sd,ed⟩:∃ d sd,ex s3=(d,sd):=⟨_,_,rfl⟩
 rw [ed] at hd cd hR
 simp only at hR
 have za:=ha.sz
 have zb:=hb.sz
 have zd:=hd.sz
 simp only at za zb zd
 have h4:=j3 (G:=G) (nd0 9 p) [a,b,d] rfl (by simp) (by simp only [aT,List.map_cons,List.map_nil,List.sum_cons,List.sum_nil];omega)
  (fun l h=>by
   simp only [List.mem_cons,List.mem_singleton,List.not_mem_nil,or_false] at h
   rcases h with rfl | rfl | rfl
   ·exact ha.tr.kids.2
   ·exact hb.tr.kids.2
   ·exact hd.tr.kids.2)
  (fun l h=>by
   simp only [List.mem_cons,List.mem_singleton,List.not_mem_nil,or_false] at h
   rcases h with rfl | rfl | rfl
   ·exact ha.wd.mono (by omega)
   ·exact hb.wd.mono (by omega)
   ·exact hd.wd.mono (by omega))
 generalize av (nd0 9 p) [a,b,d]=J at h4 hR
 unfold exD at h4 ca cb cd
 subst hR
 unfold RO TO ae
 refine ar Tryz.func99 rfl (by decide +kernel) (by simp [Tryz.ntmps99]) (veil fun E=>?_)
 simp only [go_sem]
 refine ab E [.bx [100] 0] (RO s) [100,101] (ca) rfl rfl ⟨by simp only [go_sem],by first | (rw [aa];decide) | (simp only [go_sem]<;>(try rw [aa])<;>decide)⟩ rfl (by unfold RO TO ae;simp only [go_sem]) (by unfold RO TO;simp only [go_sem]) ?_
 rintro _ _ ⟨rfl,rfl⟩
 unfold RO TO ae
 simp only [go_sem]
 refine ab E [.bx [100] 0,.d (i64 1),.d (.str gG)] (RO sa) [100,101] (cm) rfl rfl ⟨by simp only [go_sem],by first | (rw [aa];decide) | (simp only [go_sem]<;>(try rw [aa])<;>decide)⟩ rfl (by unfold RO TO ae;simp only [go_sem]) (by unfold RO TO;simp only [go_sem]) ?_
 rintro _ _ ⟨rfl,rfl⟩
 unfold RO TO ae
 simp only [go_sem]
 refine ab E [.bx [100] 0] (RO s2) [100,101] (cb) rfl rfl ⟨by simp only [go_sem],by first | (rw [aa];decide) | (simp only [go_sem]<;>(try rw [aa])<;>decide)⟩ rfl (by unfold RO TO ae;simp only [go_sem]) (by unfold RO TO;simp only [go_sem]) ?_
 rintro _ _ ⟨rfl,rfl⟩
 unfold RO TO ae
 simp only [go_sem]
 refine ab E [.bx [100] 0,.d (i64 1),.d (.str iJ)] (RO sb) [100,101] (cm2) rfl rfl ⟨by simp only [go_sem],by first | (rw [aa];decide) | (simp only [go_sem]<;>(try rw [aa])<;>decide)⟩ rfl (by unfold RO TO ae;simp only [go_sem]) (by unfold RO TO;simp only [go_sem]) ?_
 rintro _ _ ⟨rfl,rfl⟩
 unfold RO TO ae
 simp only [go_sem]
 refine ak mixed E fun X=>?_
 simp only [go_sem]
 refine aZ X [.bx [100] 0] (RO s3) [100,101] _ _ cd rfl rfl ⟨by simp only [go_sem],by rw [aa];decide⟩ rfl (by unfold RO TO ae;simp only [go_sem]) (by unfold RO TO;simp only [go_sem]) (by unfold RO TO;simp only [go_sem]) ?_
 unfold RO TO ae
 simp only [go_sem]
 refine bw X 21 [21] (some 1) [.agg [.sl (some 9) (a.map enD)],.agg [.sl (some 9) (b.map enD)],.agg [.sl (some 9) (d.map enD)]] h4 (fun _=>rfl) rfl rfl rfl (by simp) rfl (by simp only [go_sem]) ?_
 simp only [go_sem]
 refine ⟨by decide +kernel,?_⟩
 refine ⟨_,_,[100,101],id,⟨rfl,rfl⟩,?_⟩
 simp only [go_sem]
 rfl
end Go.Proofs.YtejpnabbmgpmaaaGreat

namespace Go.Proofs.YtejpnabbmgpmaaaGreat
open Go.Ab
theorem G5 {G} {N:Nat} {ex:PS→PR} (hex:∀ s,GP 1 s (ex s)) (hc:Reads 53 G N ex):rk 98 G N (kW ex):=by
 intro s p hl hN
 generalize hR:kW ex s p=R
 unfold kW at hR
 have cw:=kf (G:=G) s gA (by omega)
 have hw:=SS.may s 1 gA
 obtain ⟨c,hcc⟩:∃ c,c=s.sees 1 gA:=⟨_,rfl⟩
 rw [← hcc] at cw
 simp only [← hcc] at hR
 generalize s.may 1 gA=s1 at hR cw hw
 have l1:=hw.len
 have n1:=hw.nest
 have co:=mB (G:=G) s1 2 (by omega)
 have ho:=SS.of s1 2
 obtain ⟨nm,so,eo⟩:∃ nm so,s1.of 2=(nm,so):=⟨_,_,rfl⟩
 rw [eo] at co ho hR
 simp only at co ho hR
 have lo:=ho.len
 have no:=ho.nest
 have cm:=fS (G:=G) so 7 [61] (by omega) (by decide)
 have hm:=SS.must so 7 [61]
 generalize so.must 7 [61]=s2 at hR cm hm
 have l2:=hm.len
 have n2:=hm.nest
 have cp:=eA (G:=G) s2.l s2.fin (by omega)
 rw [jL] at hR
 generalize bu s2.l s2.fin=t at hR cp
 have ha:=hex s2
 have ca:=hc s2 (by omega) (by rw [n2,no,n1,hN])
 obtain ⟨a,sa,ea⟩:∃ a sa,ex s2=(a,sa):=⟨_,_,rfl⟩
 rw [ea] at ha ca hR
 have la:=ha.ss.len
 have na:=ha.ss.nest
 simp only at hR la na
 have hap:=ha.tr.kids.1
 have za:=ha.sz
 simp only at hap za
 have cf:=nZ (G:=G) sa 5 t.pos
 have key:∀ s3:PS,s3.l=sa.l→s3.nest=sa.nest→∀ k:Int,(av { nd0 k p with name:=nm } [a,(ex (s3.must 1 bIn)).1],(ex (s3.must 1 bIn)).2)=R →
   HCall Tryz.prog G 97 [.bx [100] 0,.d (i64 1),.d (.str bIn)] (RO s3) [100,101] (fun r hp'=>r=.tup []∧hp'=RO (s3.must 1 bIn))∧∃ b sb J,R=(J,sb) ∧
   HCall Tryz.prog G 53 [.bx [100] 0] (RO (s3.must 1 bIn)) [100,101] (fun r hp'=>r=.d (.agg [.sl (some 9) (b.map enD)])∧hp'=RO sb) ∧
   HP Tryz.prog G 86 [ndN { nd0 k p with name:=nm },.sl (some 1) ([a,b].map exD)] (fun r=>r=.d (.agg [.sl (some 9) (J.map enD)])):=by
  intro s3 e1 e2 k hk
  have cm3:=fS (G:=G) s3 1 bIn (by rw [e1];omega) (by decide)
  have hm3:=SS.must s3 1 bIn
  generalize s3.must 1 bIn=s4 at hk cm3 hm3 ⊢
  have l4:=hm3.len
  have n4:=hm3.nest
  rw [e1] at l4
  have hb:=hex s4
  have cb:=hc s4 (by omega) (by rw [n4,e2,na,n2,no,n1,hN])
  obtain ⟨b,sb,eb⟩:∃ b sb,ex s4=(b,sb):=⟨_,_,rfl⟩
  rw [eb] at hb cb hk
  have zb:=hb.sz
  simp only at zb hk
  have h4:=j3 (G:=G) { nd0 k p with name:=nm } [a,b] rfl (by simp) (by simp only [aT,List.map_cons,List.map_nil,List.sum_cons,List.sum_nil];omega)
   (fun l h=>by
    simp only [List.mem_cons,List.mem_singleton,List.not_mem_nil,or_false] at h
    rcases h with rfl | rfl
    ·exact ha.tr.kids.2
    ·exact hb.tr.kids.2)
   (fun l h=>by
    simp only [List.mem_cons,List.mem_singleton,List.not_mem_nil,or_false] at h
    rcases h with rfl | rfl
    ·exact ha.wd.mono (by omega)
    ·exact hb.wd.mono (by omega))
  exact ⟨cm3,b,sb,_,hk.symm,cb,h4⟩
 unfold exD at ca
 unfold RO TO ae
 refine ar Tryz.func98 rfl (by decide +kernel) (by simp [Tryz.ntmps98]) (veil fun E=>?_)
 simp only [go_sem]
 refine ab E [.bx [100] 0,.d (.str gA)] (RO s) [100,101] (cw) rfl rfl ⟨by simp only [go_sem],by first | (rw [aa];decide) | (simp only [go_sem]<;>(try rw [aa])<;>decide)⟩ rfl (by unfold RO TO ae;simp only [go_sem]) (by unfold RO TO;simp only [go_sem]) ?_
 rintro _ _ ⟨rfl,rfl⟩
 unfold RO TO ae
 simp only [go_sem]
 refine aD E (fun g=>?_) (fun g=>?_)<;>simp only [go_sem]
 ·rw [if_pos g] at hR
  refine ab E [.bx [100] 0,.d (i64 2)] (RO s1) [100,101] (co) rfl rfl ⟨by simp only [go_sem],by first | (rw [aa];decide) | (simp only [go_sem]<;>(try rw [aa])<;>decide)⟩ rfl (by unfold RO TO ae;simp only [go_sem]) (by unfold RO TO;simp only [go_sem]) ?_
  rintro _ _ ⟨rfl,rfl⟩
  unfold RO TO ae
  simp only [go_sem]
  refine ab E [.bx [100] 0,.d (i64 7),.d (.str [61])] (RO so) [100,101] (cm) rfl rfl ⟨by simp only [go_sem],by first | (rw [aa];decide) | (simp only [go_sem]<;>(try rw [aa])<;>decide)⟩ rfl (by unfold RO TO ae;simp only [go_sem]) (by unfold RO TO;simp only [go_sem]) ?_
  rintro _ _ ⟨rfl,rfl⟩
  unfold RO TO ae
  simp only [go_sem]
  refine ab E [.bx [101] 0] (TO s2.l s2.fin) [101] (cp) rfl rfl ⟨by simp only [go_sem],by first | (rw [aa];decide) | (simp only [go_sem]<;>(try rw [aa])<;>decide)⟩ rfl (by unfold TO ae;simp only [go_sem]) (by unfold TO;simp only [go_sem]) ?_
  rintro _ _ ⟨rfl,rfl⟩
  unfold TO ae
  simp only [go_sem]
  refine ab E [.bx [100] 0] (RO s2) [100,101] (ca) rfl rfl ⟨by simp only [go_sem],by first | (rw [aa];decide) | (simp only [go_sem]<;>(try rw [aa])<;>decide)⟩ rfl (by unfold RO TO ae;simp only [go_sem]) (by unfold RO TO;simp only [go_sem]) ?_
  rintro _ _ ⟨rfl,rfl⟩
  unfold RO TO ae
  simp only [go_sem]
  rw [ai (n:=(a.length:Int)-1) ⟨by omega,by omega⟩]
  refine ⟨⟨by omega,by omega⟩,?_⟩
  rw [show ((a.length:Int)-1).toNat=a.length-1 by omega,aP (show a.length-1<a.length by omega)]
  have hrt:dh a=ndE a (a.length-1):=rfl
  rw [← hrt]
  simp only [go_sem]
  refine ah E (fun h=>?_) (fun h=>?_)<;>simp only [go_sem]
  ·rw [if_pos ⟨rfl,h⟩] at hR
   refine ab E [.bx [100] 0,.d (i64 5),.d (i64 t.pos)] (RO sa) [100,101] (cf) rfl rfl ⟨by simp only [go_sem],by first | (rw [aa];decide) | (simp only [go_sem]<;>(try rw [aa])<;>decide)⟩ rfl (by unfold RO TO ae;simp only [go_sem]) (by unfold RO TO;simp only [go_sem]) ?_
   rintro _ _ ⟨rfl,rfl⟩
   unfold RO TO ae
   simp only [go_sem]
   obtain ⟨k1,b,sb,J,eR,k2,k3⟩:=key (sa.fail 5 t.pos) (mn _ _ _) (by unfold PS.fail;split<;>rfl) 8 hR
   subst eR
   refine ab E [.bx [100] 0,.d (i64 1),.d (.str bIn)] (RO (sa.fail 5 t.pos)) [100,101] (k1) rfl rfl ⟨by simp only [go_sem],by first | (rw [aa];decide) | (simp only [go_sem]<;>(try rw [aa])<;>decide)⟩ rfl (by unfold RO TO ae;simp only [go_sem]) (by unfold RO TO;simp only [go_sem]) ?_
   rintro _ _ ⟨rfl,rfl⟩
   unfold RO TO ae
   simp only [go_sem]
   refine ak mixed E fun X=>?_
   simp only [go_sem]
   refine aZ X [.bx [100] 0] (RO ((sa.fail 5 t.pos).must 1 bIn)) [100,101] _ _ k2 rfl rfl ⟨by simp only [go_sem],by rw [aa];decide⟩ rfl (by unfold RO TO ae;simp only [go_sem]) (by unfold RO TO;simp only [go_sem]) (by unfold RO TO;simp only [go_sem]) ?_
   unfold RO TO ae
   simp only [go_sem]
   refine bw X 50 [50] (some 1) [.agg [.sl (some 9) (a.map enD)],.agg [.sl (some 9) (b.map enD)]] k3 (fun _=>rfl) rfl rfl rfl (by simp) rfl (by simp only [go_sem]) ?_
   simp only [go_sem]
   refine ⟨by decide +kernel,?_⟩
   refine ⟨_,_,[100,101],id,⟨rfl,rfl⟩,?_⟩
   simp only [go_sem]
   rfl
  ·rw [if_neg (fun q=>h q.2)] at hR
   obtain ⟨k1,b,sb,J,eR,k2,k3⟩:=key sa rfl rfl 8 hR
   subst eR
   refine ab E [.bx [100] 0,.d (i64 1),.d (.str bIn)] (RO sa) [100,101] (k1) rfl rfl ⟨by simp only [go_sem],by first | (rw [aa];decide) | (simp only [go_sem]<;>(try rw [aa])<;>decide)⟩ rfl (by unfold RO TO ae;simp only [go_sem]) (by unfold RO TO;simp only [go_sem]) ?_
   rintro _ _ ⟨rfl,rfl⟩
   unfold RO TO ae
   simp only [go_sem]
   refine ak mixed E fun X=>?_
   simp only [go_sem]
   refine aZ X [.bx [100] 0] (RO (sa.must 1 bIn)) [100,101] _ _ k2 rfl rfl ⟨by simp only [go_sem],by rw [aa];decide⟩ rfl (by unfold RO TO ae;simp only [go_sem]) (by unfold RO TO;simp only [go_sem]) (by unfold RO TO;simp only [go_sem]) ?_
   unfold RO TO ae
   simp only [go_sem]
   refine bw X 50 [50] (some 1) [.agg [.sl (some 9) (a.map enD)],.agg [.sl (some 9) (b.map enD)]] k3 (fun _=>rfl) rfl rfl rfl (by simp) rfl (by simp only [go_sem]) ?_
   simp only [go_sem]
   refine ⟨by decide +kernel,?_⟩
   refine ⟨_,_,[100,101],id,⟨rfl,rfl⟩,?_⟩
   simp only [go_sem]
   rfl
 ·rw [if_neg (by rw [g];decide)] at hR
  refine ab E [.bx [100] 0,.d (i64 2)] (RO s1) [100,101] (co) rfl rfl ⟨by simp only [go_sem],by first | (rw [aa];decide) | (simp only [go_sem]<;>(try rw [aa])<;>decide)⟩ rfl (by unfold RO TO ae;simp only [go_sem]) (by unfold RO TO;simp only [go_sem]) ?_
  rintro _ _ ⟨rfl,rfl⟩
  unfold RO TO ae
  simp only [go_sem]
  refine ab E [.bx [100] 0,.d (i64 7),.d (.str [61])] (RO so) [100,101] (cm) rfl rfl ⟨by simp only [go_sem],by first | (rw [aa];decide) | (simp only [go_sem]<;>(try rw [aa])<;>decide)⟩ rfl (by unfold RO TO ae;simp only [go_sem]) (by unfold RO TO;simp only [go_sem]) ?_
  rintro _ _ ⟨rfl,rfl⟩
  unfold RO TO ae
  simp only [go_sem]
  refine ab E [.bx [101] 0] (TO s2.l s2.fin) [101] (cp) rfl rfl ⟨by simp only [go_sem],by first | (rw [aa];decide) | (simp only [go_sem]<;>(try rw [aa])<;>decide)⟩ rfl (by unfold TO ae;simp only [go_sem]) (by unfold TO;simp only [go_sem]) ?_
  rintro _ _ ⟨rfl,rfl⟩
  unfold TO ae
  simp only [go_sem]
  refine ab E [.bx [100] 0] (RO s2) [100,101] (ca) rfl rfl ⟨by simp only [go_sem],by first | (rw [aa];decide) | (simp only [go_sem]<;>(try rw [aa])<;>decide)⟩ rfl (by unfold RO TO ae;simp only [go_sem]) (by unfold RO TO;simp only [go_sem]) ?_
  rintro _ _ ⟨rfl,rfl⟩
  unfold RO TO ae
  simp only [go_sem]
  rw [if_neg (fun q=>absurd q.1 (by decide))] at hR
  obtain ⟨k1,b,sb,J,eR,k2,k3⟩:=key sa rfl rfl 7 hR
  subst eR
  refine ab E [.bx [100] 0,.d (i64 1),.d (.str bIn)] (RO sa) [100,101] (k1) rfl rfl ⟨by simp only [go_sem],by first | (rw [aa];decide) | (simp only [go_sem]<;>(try rw [aa])<;>decide)⟩ rfl (by unfold RO TO ae;simp only [go_sem]) (by unfold RO TO;simp only [go_sem]) ?_
  rintro _ _ ⟨rfl,rfl⟩
  unfold RO TO ae
  simp only [go_sem]
  refine ak mixed E fun X=>?_
  simp only [go_sem]
  refine aZ X [.bx [100] 0] (RO (sa.must 1 bIn)) [100,101] _ _ k2 rfl rfl ⟨by simp only [go_sem],by rw [aa];decide⟩ rfl (by unfold RO TO ae;simp only [go_sem]) (by unfold RO TO;simp only [go_sem]) (by unfold RO TO;simp only [go_sem]) ?_
  unfold RO TO ae
  simp only [go_sem]
  refine bw X 50 [50] (some 1) [.agg [.sl (some 9) (a.map enD)],.agg [.sl (some 9) (b.map enD)]] k3 (fun _=>rfl) rfl rfl rfl (by simp) rfl (by simp only [go_sem]) ?_
  simp only [go_sem]
  refine ⟨by decide +kernel,?_⟩
  refine ⟨_,_,[100,101],id,⟨rfl,rfl⟩,?_⟩
  simp only [go_sem]
  rfl
end Go.Proofs.YtejpnabbmgpmaaaGreat

namespace Go.Proofs.YtejpnabbmgpmaaaGreat
open Go.Ab
theorem jQ {α:Type} {l:List α} {p:α→Bool} {i:Nat} (h:i<l.length) (ha:(l.take i).any p=false) (hb:p l[i]=false):(l.take (i+1)).any p=false:=by
 rw [List.take_succ_eq_append_getElem h,List.any_append,ha]
 simp [hb]
theorem GU {l:List EF} {i:Nat} (h:i<l.length):(l.map fD).getD i .nilp=.agg [.str l[i].nm,.str l[i].var,i64 l[i].to]:=by simp [h,fD]
theorem Dt {G} (l:List EF) (p:EF→Bool) (f:Nat) (caps:List D) (hl:l.length≤1000000) (hc:∀ x∈l,HP Tryz.prog G f (fD x::caps) (fun r=>r=.d (.bool (p x)))) :
  HP Tryz.prog G 237 [.sl (some 3) (l.map fD),.clo f caps] (fun r=>∃ z:Int,r=.d (i64 z)∧decide (0≤z)=l.any p):=by
 have hget:∀ {i:Nat} (h:i<l.length),(l.map fD).getD i .nilp=.agg [.str l[i].nm,.str l[i].var,i64 l[i].to]:=fun h=>GU h
 refine al Tryz.func237 rfl (by decide +kernel) (by simp [Tryz.ntmps237]) (veil fun E=>?_)
 simp only [go_sem]
 refine cy E (X:={ i:Nat // i≤l.length∧(l.take i).any p=false }) (fun x=>[(0,.d (.sl (some 3) (l.map fD))),(1,.d (.clo f caps)),(6,.d (.sl (some 3) (l.map fD))),(7,.d (i64 l.length)),(8,.d (i64 x.1))]) (fun x=>l.length-x.1) rfl ⟨0,Nat.zero_le _,by simp⟩ ?_ ?_
 ·simp only [go_sem]
  all_goals rfl
 rintro ⟨i,hi,hab⟩ E'
 simp only [go_sem]
 refine ah E' (fun h1=>?_) (fun h1=>?_)<;>simp only [go_sem]
 ·have h1':i<l.length:=by omega
  refine ⟨⟨by omega,by omega⟩,?_⟩
  rw [hget h1']
  simp only [go_sem]
  refine q0 E' (hc l[i] (List.getElem_mem h1')) rfl rfl (by simp) ?_
  rintro _ rfl
  simp only [go_sem]
  refine aD E' (fun h2=>?_) (fun h2=>?_)<;>simp only [go_sem]
  ·refine ⟨_,rfl,?_⟩
   have:l.any p=true:=List.any_eq_true.2 ⟨l[i],List.getElem_mem h1',h2⟩
   rw [this]
   exact decide_eq_true (Int.natCast_nonneg _)
  ·refine ⟨⟨i+1,by omega,jQ h1' hab h2⟩,by show l.length-(i+1)<_;omega,?_⟩
   rw [ai ⟨by omega,by omega⟩];rfl
 ·have h3:i=l.length:=by omega
  subst h3
  rw [List.take_length] at hab
  refine ⟨_,rfl,?_⟩
  rw [hab]
  decide
theorem FR {G} (l:List EF) (p:EF→Bool) (f:Nat) (caps:List D) (hl:l.length≤1000000) (hc:∀ x∈l,HP Tryz.prog G f (fD x::caps) (fun r=>r=.d (.bool (p x)))) :
  HP Tryz.prog G 179 [.sl (some 3) (l.map fD),.clo f caps] (fun r=>r=.d (.bool (l.any p))):=by
 refine al Tryz.func179 rfl (by decide +kernel) (by simp [Tryz.ntmps179]) (veil fun E=>?_)
 simp only [go_sem]
 refine ag E (Dt l p f caps hl hc) rfl rfl (by simp) ?_
 rintro _ ⟨z,rfl,hz⟩
 simp only [go_sem]
 rw [hz]
theorem D0 {G} (x:EF) (t:Tok):HP Tryz.prog G 371 [fD x,.ptr (ck t)] (fun r=>r=.d (.bool (decide (x.nm=t.s)))):=by
 unfold fD
 rw [show ck t=.agg [i64 t.k,.str t.s,i64 t.n,i64 t.pos] from rfl]
 refine ax Tryz.func371 rfl (by decide +kernel) (by simp [Tryz.ntmps371]) (veil fun E=>?_)
 simp only [go_sem]
 refine ⟨[],?_⟩
 simp only [go_sem]
 by_cases h:x.nm=t.s<;>simp [h]
end Go.Proofs.YtejpnabbmgpmaaaGreat

namespace Go.Proofs.YtejpnabbmgpmaaaGreat
open Go.Ab
theorem FE {G} (l:List Int) (p:Int→Bool) (f:Nat) (caps:List D) (hl:l.length≤1000000) (hc:∀ x∈l,HP Tryz.prog G f (i64 x::caps) (fun r=>r=.d (.bool (p x)))) :
  HP Tryz.prog G 110 [.sl none (l.map i64),.clo f caps] (fun r=>∃ z:Int,r=.d (i64 z)∧decide (0≤z)=l.any p):=by
 have hget:∀ {i:Nat} (h:i<l.length),(l.map i64).getD i .nilp=i64 l[i]:=fun h=>by simp [h]
 refine al Tryz.func110 rfl (by decide +kernel) (by simp [Tryz.ntmps110]) (veil fun E=>?_)
 simp only [go_sem]
 refine cy E (X:={ i:Nat // i≤l.length∧(l.take i).any p=false }) (fun x=>[(0,.d (.sl none (l.map i64))),(1,.d (.clo f caps)),(6,.d (.sl none (l.map i64))),(7,.d (i64 l.length)),(8,.d (i64 x.1))]) (fun x=>l.length-x.1) rfl ⟨0,Nat.zero_le _,by simp⟩ ?_ ?_
 ·simp only [go_sem]
  all_goals rfl
 rintro ⟨i,hi,hab⟩ E'
 simp only [go_sem]
 refine ah E' (fun h1=>?_) (fun h1=>?_)<;>simp only [go_sem]
 ·have h1':i<l.length:=by omega
  refine ⟨⟨by omega,by omega⟩,?_⟩
  rw [hget h1']
  simp only [go_sem]
  refine q0 E' (hc l[i] (List.getElem_mem h1')) rfl rfl (by simp) ?_
  rintro _ rfl
  simp only [go_sem]
  refine aD E' (fun h2=>?_) (fun h2=>?_)<;>simp only [go_sem]
  ·refine ⟨_,rfl,?_⟩
   have:l.any p=true:=List.any_eq_true.2 ⟨l[i],List.getElem_mem h1',h2⟩
   rw [this]
   exact decide_eq_true (Int.natCast_nonneg _)
  ·refine ⟨⟨i+1,by omega,jQ h1' hab h2⟩,by show l.length-(i+1)<_;omega,?_⟩
   rw [ai ⟨by omega,by omega⟩];rfl
 ·have h3:i=l.length:=by omega
  subst h3
  rw [List.take_length] at hab
  refine ⟨_,rfl,?_⟩
  rw [hab]
  decide
theorem BE {G} (l:List Int) (p:Int→Bool) (f:Nat) (caps:List D) (hl:l.length≤1000000) (hc:∀ x∈l,HP Tryz.prog G f (i64 x::caps) (fun r=>r=.d (.bool (p x)))) :
  HP Tryz.prog G 60 [.sl none (l.map i64),.clo f caps] (fun r=>r=.d (.bool (l.any p))):=by
 refine al Tryz.func60 rfl (by decide +kernel) (by simp [Tryz.ntmps60]) (veil fun E=>?_)
 simp only [go_sem]
 refine ag E (FE l p f caps hl hc) rfl rfl (by simp) ?_
 rintro _ ⟨z,rfl,hz⟩
 simp only [go_sem]
 rw [hz]
theorem Gq {G} (k:Int):HP Tryz.prog G 61 [i64 k] (fun r=>r=.d (.bool (!decide (k=1)))):=by
 refine al Tryz.func61 rfl (by decide +kernel) (by simp [Tryz.ntmps61]) (veil fun E=>?_)
 simp only [go_sem]
 by_cases h:k=1<;>simp [h]
theorem EG {G} (l:List EN) (p:EN→Bool) (f:Nat) (caps:List D) (hl:l.length≤1000000) (hc:∀ x∈l,HP Tryz.prog G f (enD x::caps) (fun r=>r=.d (.bool (p x)))) :
  HP Tryz.prog G 151 [.sl (some 9) (l.map enD),.clo f caps] (fun r=>∃ z:Int,r=.d (i64 z)∧decide (0≤z)=l.any p):=by
 have hget:∀ {i:Nat} (h:i<l.length),(l.map enD).getD i .nilp=.agg [i64 l[i].k,i64 l[i].a,i64 l[i].b,i64 l[i].c,i64 l[i].n,.str l[i].name,.str l[i].s,.sl (some 3) (l[i].l.map fD),i64 l[i].pos]:=fun h=>by simp [h,enD,efD]
 refine al Tryz.func151 rfl (by decide +kernel) (by simp [Tryz.ntmps151]) (veil fun E=>?_)
 simp only [go_sem]
 refine cy E (X:={ i:Nat // i≤l.length∧(l.take i).any p=false }) (fun x=>[(0,.d (.sl (some 9) (l.map enD))),(1,.d (.clo f caps)),(6,.d (.sl (some 9) (l.map enD))),(7,.d (i64 l.length)),(8,.d (i64 x.1))]) (fun x=>l.length-x.1) rfl ⟨0,Nat.zero_le _,by simp⟩ ?_ ?_
 ·simp only [go_sem]
  all_goals rfl
 rintro ⟨i,hi,hab⟩ E'
 simp only [go_sem]
 refine ah E' (fun h1=>?_) (fun h1=>?_)<;>simp only [go_sem]
 ·have h1':i<l.length:=by omega
  refine ⟨⟨by omega,by omega⟩,?_⟩
  rw [hget h1']
  simp only [go_sem]
  refine q0 E' (hc l[i] (List.getElem_mem h1')) rfl rfl (by simp) ?_
  rintro _ rfl
  simp only [go_sem]
  refine aD E' (fun h2=>?_) (fun h2=>?_)<;>simp only [go_sem]
  ·refine ⟨_,rfl,?_⟩
   have:l.any p=true:=List.any_eq_true.2 ⟨l[i],List.getElem_mem h1',h2⟩
   rw [this]
   exact decide_eq_true (Int.natCast_nonneg _)
  ·refine ⟨⟨i+1,by omega,jQ h1' hab h2⟩,by show l.length-(i+1)<_;omega,?_⟩
   rw [ai ⟨by omega,by omega⟩];rfl
 ·have h3:i=l.length:=by omega
  subst h3
  rw [List.take_length] at hab
  refine ⟨_,rfl,?_⟩
  rw [hab]
  decide
theorem Dp {G} (l:List EN) (p:EN→Bool) (f:Nat) (caps:List D) (hl:l.length≤1000000) (hc:∀ x∈l,HP Tryz.prog G f (enD x::caps) (fun r=>r=.d (.bool (p x)))) :
  HP Tryz.prog G 101 [.sl (some 9) (l.map enD),.clo f caps] (fun r=>r=.d (.bool (l.any p))):=by
 refine al Tryz.func101 rfl (by decide +kernel) (by simp [Tryz.ntmps101]) (veil fun E=>?_)
 simp only [go_sem]
 refine ag E (EG l p f caps hl hc) rfl rfl (by simp) ?_
 rintro _ ⟨z,rfl,hz⟩
 simp only [go_sem]
 rw [hz]
theorem ER {G} (n:EN):HP Tryz.prog G 102 [enD n] (fun r=>r=.d (.bool (decide (1048576<n.pos)))):=by
 unfold enD efD
 refine al Tryz.func102 rfl (by decide +kernel) (by simp [Tryz.ntmps102]) (veil fun E=>?_)
 simp only [go_sem]
def bL (ns:List EN) (i:Nat):List Int:=cM (ns.take i) []
theorem pS (n:EN):∀ (a:List EN) (d:List Int),cM (a++[n]) d=cM a d++[uW (cM a d) n]
 | [],_=>rfl
 | _::r,_=>pS n r _
theorem gF {ns:List EN} {i:Nat} (h:i<ns.length):bL ns (i+1)=bL ns i++[uW (bL ns i) (ndE ns i)]:=by
 unfold bL
 rw [List.take_succ_eq_append_getElem h,pS,bG h]
def mx (d:List Int) (ks:List Int):Int:=ks.foldl (fun m k=>max m (d.getD k.toNat 0)) 0
theorem sF (d ks:List Int) (k:Int):mx d (ks++[k])=max (mx d ks) (d.getD k.toNat 0):=by simp [mx]
theorem m7 (d:List Int) (n:EN):uW d n=mx d (aj n)+1:=rfl
theorem wP {d:List Int} {M:Nat} (h:Bd M d) (ks:List Int):0≤mx d ks∧mx d ks≤(M:Int):=by
 suffices g:∀ (ks:List Int) (m:Int),0≤m∧m≤(M:Int)→0≤ks.foldl (fun m k=>max m (d.getD k.toNat 0)) m∧ks.foldl (fun m k=>max m (d.getD k.toNat 0)) m≤(M:Int) from g ks 0 ⟨Int.le_refl 0,by omega⟩
 intro ks
 induction ks with
 | nil=>exact fun m h=>h
 | cons k r ih =>
   intro m hm
   have:=h.get k.toNat
   exact ih (max m (d.getD k.toNat 0)) ⟨by omega,by omega⟩
theorem cV {ns:List EN}:∀ {i:Nat},i≤ns.length→(bL ns i).length=i∧Bd i (bL ns i)
 | 0,_=>by simp [bL,cM,Bd]
 | i+1,h=>by
   obtain ⟨h1,h2⟩:=cV (ns:=ns) (i:=i) (by omega)
   rw [gF (by omega)]
   refine ⟨by simp [h1],fun c hc=>?_⟩
   rcases List.mem_append.1 hc with hc | hc
   ·have:=h2 c hc;omega
   ·rw [List.mem_singleton.1 hc,m7]
    have:=wP h2 (aj (ndE ns i))
    omega
def ez (ns:List EN) (i:Nat) (m:Int):List Int:=bL ns i++m::List.replicate (ns.length-i-1) 0
theorem kZ {ns:List EN} {i:Nat} (hi:i<ns.length) (m:Int):(ez ns i m).getD i 0=m:=by
 have:=(cV (ns:=ns) (i:=i) (by omega)).1
 unfold ez
 rw [List.getD_eq_getElem?_getD,List.getElem?_append_right (by omega),this,Nat.sub_self]
 rfl
theorem tb {ns:List EN} {i k:Nat} (hi:i≤ns.length) (m:Int) (hk:k<i):(ez ns i m).getD k 0=(bL ns i).getD k 0:=by
 have:=(cV (ns:=ns) (i:=i) hi).1
 unfold ez
 rw [List.getD_eq_getElem?_getD,List.getD_eq_getElem?_getD,List.getElem?_append_left (by omega)]
theorem kH {ns:List EN} {i:Nat} (hi:i<ns.length) (m x:Int):(ez ns i m).set i x=ez ns i x:=by
 have:=(cV (ns:=ns) (i:=i) (by omega)).1
 unfold ez
 rw [List.set_append_right _ _ (by omega),this,Nat.sub_self]
 rfl
theorem uQ {ns:List EN} {i:Nat} (hi:i<ns.length) (m:Int):(ez ns i m).length=ns.length:=by
 have:=(cV (ns:=ns) (i:=i) (by omega)).1
 unfold ez
 simp only [List.length_append,List.length_cons,List.length_replicate]
 omega
theorem yy {ns:List EN} {i:Nat} (hi:i+1<ns.length):ez ns i (uW (bL ns i) (ndE ns i))=ez ns (i+1) 0:=by
 unfold ez
 rw [gF (by omega),List.append_assoc,show ns.length-i-1=ns.length-(i+1)-1+1 by omega,List.replicate_succ]
 rfl
theorem AM {ns:List EN} {i:Nat} (hi:i+1=ns.length):ez ns i (uW (bL ns i) (ndE ns i))=cM ns []:=by
 have h1:=gF (ns:=ns) (i:=i) (by omega)
 have h2:bL ns (i+1)=cM ns []:=by unfold bL;rw [hi,List.take_length]
 rw [← h2,h1]
 unfold ez
 rw [show ns.length-i-1=0 by omega]
 rfl
def ja (ns:List EN) (i:Nat):List Int:=if i<ns.length then ez ns i 0 else cM ns []
theorem p9 (ns:List EN):ja ns 0=List.replicate ns.length 0:=by
 unfold ja
 split
 ·rename_i h
  unfold ez bL
  rw [List.take_zero,show ns.length=(ns.length-0-1)+1 by omega,List.replicate_succ]
  simp [cM]
 ·rename_i h
  have:ns=[]:=List.length_eq_zero_iff.1 (by omega)
  subst this
  rfl
theorem qi {ns:List EN} {i:Nat} (hi:i<ns.length):ez ns i (uW (bL ns i) (ndE ns i))=ja ns (i+1):=by
 unfold ja
 split
 ·rename_i h;exact yy h
 ·exact AM (by omega)
theorem vR (a b:Int):(if a > b then a else b)=max b a:=by split<;>omega
theorem Cz {G} (ns:List EN) (hn:ns.length≤1000000) (hs:∀ n∈ns,n.l.length≤1000000) (hk:∀ i,i<ns.length→(aj (ndE ns i)).all (inB i)=true) :
  HP Tryz.prog G 62 [exD ns] (fun r=>r=.d (.sl none ((cM ns []).map i64))):=by
 unfold exD
 refine ax Tryz.func62 rfl (by decide +kernel) (by simp [Tryz.ntmps62]) (veil fun E=>?_)
 simp only [go_sem]
 refine ⟨⟨by omega,by omega,by omega,by omega⟩,?_⟩
 refine bl E (X:={ i:Nat // i≤ns.length }) (fun x=>[(1,.bx [1] 0),(2,.d .nils),(3,.vw [11] 0 ns.length),(13,.d (.sl (some 9) (ns.map enD))),(14,.d (i64 ns.length)),(15,.d (i64 x.1))])
  (fun x=>[([1],.box [.d (.sl (some 9) (ns.map enD))]),([11],.arr none ((ja ns x.1).map i64))]) [11,1] (fun x=>ns.length-x.1) ⟨0,Nat.zero_le _⟩ ?_ ?_
 ·rw [p9,List.map_replicate]
  simp only [go_sem]
  all_goals rfl
 rintro ⟨i,hi⟩ E0
 refine aC E0 fun Q' hQ E'=>?_
 simp only at hi ⊢
 simp only [go_sem]
 refine ah E' (fun g1=>?_) (fun g1=>?_)<;>simp only [go_sem]
 ·have hi':i<ns.length:=by omega
  refine ⟨⟨by omega,by omega⟩,?_⟩
  have hg:=aP hi'
  have hst:=qi hi'
  rw [m7] at hst
  have hki:=hk i hi'
  have hsi:=hs _ (by rw [bG hi'];exact List.getElem_mem hi':ndE ns i∈ns)
  obtain ⟨n,hne⟩:∃ n,n=ndE ns i:=⟨_,rfl⟩
  rw [← hne] at hg hst hki hsi
  rw [show ja ns i=ez ns i 0 by unfold ja;rw [if_pos hi'],hg]
  obtain ⟨hd1,hd2⟩:=cV (ns:=ns) (i:=i) hi
  have hkc:=gL (G:=G) n hsi
  obtain ⟨K,hK⟩:∃ K,K=aj n:=⟨_,rfl⟩
  have hKl:K.length≤1000003:=by rw [hK,bt];unfold bf;have:=bC n.k;split<;>omega
  rw [← hK] at hkc hki hst
  simp only [go_sem]
  refine ab E' [.d (enD n)] [] [] hkc rfl rfl ⟨by simp only [go_sem],by rw [aa];decide⟩ rfl (by simp only [go_sem]) (by simp only [go_sem]) ?_
  rintro _ _ ⟨rfl,rfl⟩
  simp only [go_sem]
  refine ju E' [21,0] none (K.map i64) rfl ?_
  simp only [go_sem]
  refine bl E' (X:={ q:Nat // q≤K.length }) (fun x=>[(1,.bx [1] 0),(2,.d .nils),(3,.vw [11] 0 ns.length),(4,.d (i64 i)),(5,.bx [5] 0),(13,.d (.sl (some 9) (ns.map enD))),(14,.d (i64 ns.length)),(15,.d (i64 i)),(21,.d (.sl none (K.map i64))),(22,.d (i64 K.length)),(23,.d (i64 x.1))])
   (fun x=>[([1],.box [.d (.sl (some 9) (ns.map enD))]),([11],.arr none ((ez ns i (mx (bL ns i) (K.take x.1))).map i64)),([5],.box [.d (i64 n.k),.d (i64 n.a),.d (i64 n.b),.d (i64 n.c),.d (i64 n.n),.d (.str n.name),.d (.str n.s),.d (.sl (some 3) (n.l.map fD)),.d (i64 n.pos)])]) [5,11,1] (fun x=>K.length-x.1) ⟨0,Nat.zero_le _⟩ ?_ ?_
  ·simp only [go_sem]
   all_goals rfl
  rintro ⟨q,hq⟩ E2
  refine aC E2 fun Q2 hQ2 E3=>?_
  simp only at hq ⊢
  have hal:=uQ hi' (mx (bL ns i) (K.take q))
  have hmb:=wP hd2 (K.take q)
  simp only [go_sem]
  refine ah E3 (fun g2=>?_) (fun g2=>?_)<;>simp only [go_sem]
  ·have hq':q<K.length:=by omega
   have hkq:0≤K[q]∧K[q]<(i:Int):=by
    have:=List.all_eq_true.1 hki K[q] (List.getElem_mem hq')
    simpa [inB] using this
   refine ⟨⟨by omega,by omega⟩,?_⟩
   rw [aw hq',show K.getD q 0=K[q] by simp [hq']]
   simp only [go_sem]
   refine ak mixed E3 fun X=>?_
   simp only [go_sem]
   refine ⟨⟨by omega,by omega⟩,?_⟩
   rw [aw (by omega),kZ hi']
   simp only [go_sem]
   refine ⟨⟨by omega,by omega⟩,?_⟩
   rw [aw (by omega),tb hi _ (show K[q].toNat<i by omega)]
   simp only [go_sem]
   refine ⟨⟨by omega,by omega⟩,by decide +kernel,?_⟩
   rw [ai (n:=(q:Int)+1) ⟨by omega,by omega⟩]
   rw [show (List.map i64 (ez ns i (mx (bL ns i) (K.take q)))).set i (.int .i64 (if (bL ns i).getD K[q].toNat 0 > mx (bL ns i) (K.take q) then (bL ns i).getD K[q].toNat 0 else mx (bL ns i) (K.take q)))=(ez ns i (mx (bL ns i) (K.take (q+1)))).map i64 by
    rw [List.take_succ_eq_append_getElem hq',sF,vR,← List.map_set,kH hi']]
   rw [hQ2]
   simp only [go_sem]
   refine ⟨⟨q+1,by omega⟩,by show K.length-(q+1)<_;omega,?_⟩
   first | rfl | exact ⟨rfl,rfl⟩
  ·rw [hQ2]
   have h3:q=K.length:=by omega
   subst h3
   rw [List.take_length] at *
   simp only [go_sem]
   refine ⟨⟨by omega,by omega⟩,?_⟩
   rw [aw (by omega),kZ hi']
   simp only [go_sem]
   refine ⟨⟨by omega,by omega⟩,?_⟩
   rw [ai (n:=mx (bL ns i) K+1) ⟨by omega,by omega⟩,ai (n:=(i:Int)+1) ⟨by omega,by omega⟩]
   rw [show (List.map i64 (ez ns i (mx (bL ns i) K))).set i (.int .i64 (mx (bL ns i) K+1))=(ja ns (i+1)).map i64 by
    rw [← hst,← List.map_set,kH hi']]
   rw [hQ]
   simp only [go_sem]
   refine ⟨⟨i+1,by omega⟩,by show ns.length-(i+1)<_;omega,?_⟩
   first | rfl | exact ⟨rfl,rfl⟩
 ·rw [hQ]
  have h3:i=ns.length:=by omega
  subst h3
  simp only [go_sem]
  refine ⟨[([11],none,(ja ns ns.length).map i64)],?_⟩
  rw [show ja ns ns.length=cM ns [] by unfold ja;rw [if_neg (Nat.lt_irrefl _)]]
  simp only [go_sem]
  have hdl:=(cV (ns:=ns) (Nat.le_refl _)).1
  unfold bL at hdl
  rw [List.take_length] at hdl
  rw [List.take_of_length_le (by rw [List.length_map,hdl];exact Nat.le_refl _)]
end Go.Proofs.YtejpnabbmgpmaaaGreat

