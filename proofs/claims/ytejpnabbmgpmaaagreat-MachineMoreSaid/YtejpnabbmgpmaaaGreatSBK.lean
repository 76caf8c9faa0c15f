/-
  The law: with more fuel what came to an end comes to the same end. (with the parts that follow it)
-/
import Derived.Test.YtejpnabbmgpmaaaGreatSBJ
import Derived.Test.YtejpnabbmgpmaaaGreatSBC
import Derived.Test.YtejpnabbmgpmaaaGreatRows
import Derived.ProofKit
import Derived.JoinedOf
import Derived.ChangeMaps5
set_option linter.unusedSimpArgs false
namespace Go.Proofs.YtejpnabbmgpmaaaGreat
open Go.Ab
theorem iW {ns:List EN} {f d:Nat} {o:Int × Nat × Option MV} (h:n9 ns f d o):∃ a b c e:D,nK o=[i64 o.1,a,b,c,e,i64 (o.2.1:Int)]:=by
 obtain ⟨k,st,v⟩:=o
 cases v with
 | none=>exact ⟨_,_,_,_,rfl⟩
 | some v =>
   have hk:k=1:=h.val.2 ⟨v,rfl⟩
   subst hk
   obtain ⟨a,b,c,e,hv⟩:=tQ v
   exact ⟨a,b,c,e,by rw [j7,hv];rfl⟩
theorem zr {ns:List EN} (h:Run ns):(ms0 ns).ok ns∧(ms0 ns).st.length+wtM ns (ms0 ns)≤600*(0+1):=by
 have hp:=h.t.pos
 refine ⟨⟨by show ns.length-1<_;omega,trivial,fun v e=>(by cases e),fun f e=>(by cases e)⟩,?_⟩
 have:wtM ns (ms0 ns)≤600:=by
  unfold wtM ms0
  simp only [Option.isNone_none,if_true,List.map_nil,List.sum_nil,Nat.add_zero]
  exact vj h (by omega)
 show 0+wtM ns (ms0 ns)≤_
 omega
theorem ma {ns:List EN} (h:Run ns) (f:Nat):∃ o,Runs ns f (ms0 ns) 0 o∧n9 ns f 0 o:=by
 obtain ⟨h1,h2⟩:=zr h
 obtain ⟨o,ho⟩:=BO h (msr ns f (ms0 ns) 0+1) (ms0 ns) 0 (Nat.lt_succ_self _) h1 h2
 exact ⟨o,ho,vD h ho h1 (Nat.zero_le _)⟩
theorem tm3 (n:Nat):Int.tmod (n:Int) 300=((n % 300:Nat):Int):=by rw [Int.tmod_eq_emod_of_nonneg (by omega)];omega
theorem tw3 (n:Nat):w64 (Int.tmod (n:Int) 300)=((n % 300:Nat):Int):=by rw [tm3,ao ⟨by omega,by omega⟩]
set_option maxHeartbeats 1000000 in
theorem GD {G} {ds:List D} {ns:List EN} {n m:Nat} (hw:Wk (.agg ds) (exD ns)) (hl:ns.length≤maxLen) (hn:∀ n∈ns,InN n) (hr:∀ n∈ns,inR n.n):HP Tryz.prog G 9 [.agg ds,.int .u16 (n:Int),.int .u16 (m:Int)] (fun r=>r=.d (.bool true)):=by
 refine HP.wk (bs:=[exD ns,.int .u16 (n:Int),.int .u16 (m:Int)]) ?_ ⟨hw,.refl _,.refl _,trivial⟩
 have hx:=oL
 obtain ⟨N,hN⟩:∃ N,N=sC ns:=⟨_,rfl⟩
 have ha:Any N:=by rw [hN];exact BI hn hr
 have c0:=E9 (G:=G) ns (by omega) (fun n h=>by have:=(hn n h).2.2.1;omega)
 rw [← hN] at c0
 by_cases hm:jc N=0
 ·have h:Run N:=⟨hm,ha.rng⟩
  obtain ⟨hs0,_⟩:=zr h
  obtain ⟨o,ho,oo⟩:=ma h (n % 300)
  obtain ⟨p,hp,op⟩:=ma h (n % 300+m % 300)
  have hmore:=wq h (Nat.le_add_right (n % 300) (m % 300)) ho hs0 (Nat.zero_le _) p hp
  have c1:=pw (G:=G) h (by omega) ho
  have c2:=pw (G:=G) h (by omega) hp
  have cs:=Fy (G:=G) (ns:=N) (o:=o) oo.ok
  obtain ⟨a1,a2,a3,a4,hoD⟩:=iW oo
  obtain ⟨b1,b2,b3,b4,hpD⟩:=iW op
  have hle:=oo.le
  have hfull:=oo.full
  rw [hoD] at c1 cs
  unfold exD at c0 c1 c2 ⊢
  by_cases h3:o.1=3
  ·rw [if_pos h3] at hmore
   have hst:=(hfull h3).1
   refine al Tryz.func9 rfl (by decide +kernel) (by simp [Tryz.ntmps9]) (veil fun E=>?_)
   simp only [go_sem]
   refine ag E (ui) rfl rfl (by simp) ?_
   rintro _ rfl
   simp only [go_sem]
   refine ag E (c0) rfl rfl (by simp) ?_
   rintro _ rfl
   simp only [go_sem]
   rw [tw3]
   refine ag E (c1) rfl rfl (by simp) ?_
   rintro _ rfl
   simp only [go_sem]
   rw [tw3,ao (n:=((n % 300:Nat):Int)+((m % 300:Nat):Int)) ⟨by omega,by omega⟩,← Int.natCast_add]
   rw [hpD] at c2
   refine ag E (c2) rfl rfl (by simp) ?_
   rintro _ rfl
   simp only [go_sem]
   rw [decide_eq_false (show ¬ ((n % 300:Nat):Int)<(o.2.1:Int) by omega)]
   simp only [go_sem]
   rw [decide_eq_true h3]
   simp only [go_sem]
   rw [decide_eq_false (show ¬ ¬ (o.2.1:Int)=((n % 300:Nat):Int) by omega)]
   simp only [go_sem]
   rw [decide_eq_true h3]
   simp only [go_sem]
   exact congrArg (fun b=>AV.d (.bool b)) (decide_eq_true (by omega))
  ·rw [if_neg h3] at hmore
   rw [hmore] at c2
   have hq:o.2.1≠0→∃ q,Runs N (o.2.1-1) (ms0 N) 0 q∧n9 N (o.2.1-1) 0 q∧q.1=3:=fun h0=>by
    obtain ⟨q,g1,g2⟩:=ma h (o.2.1-1)
    exact ⟨q,g1,g2,xd h ho hs0 (Nat.zero_le _) h3 (by omega) (Nat.zero_le _) q g1⟩
   refine al Tryz.func9 rfl (by decide +kernel) (by simp [Tryz.ntmps9]) (veil fun E=>?_)
   simp only [go_sem]
   refine ag E (ui) rfl rfl (by simp) ?_
   rintro _ rfl
   simp only [go_sem]
   refine ag E (c0) rfl rfl (by simp) ?_
   rintro _ rfl
   simp only [go_sem]
   rw [tw3]
   refine ag E (c1) rfl rfl (by simp) ?_
   rintro _ rfl
   simp only [go_sem]
   rw [tw3,ao (n:=((n % 300:Nat):Int)+((m % 300:Nat):Int)) ⟨by omega,by omega⟩,← Int.natCast_add]
   rw [hoD] at c2
   refine ag E (c2) rfl rfl (by simp) ?_
   rintro _ rfl
   simp only [go_sem]
   rw [decide_eq_false (show ¬ ((n % 300:Nat):Int)<(o.2.1:Int) by omega)]
   simp only [go_sem]
   rw [decide_eq_false h3]
   simp only [go_sem]
   rw [decide_eq_false h3]
   simp only [go_sem]
   refine ag E (cs) rfl rfl (by simp) ?_
   rintro _ rfl
   simp only [go_sem]
   refine aj E (fun h0=>?_) (fun h0=>?_)<;>simp only [go_sem]
   obtain ⟨q,g1,g2,g3⟩:=hq (by omega)
   have c4:=pw (G:=G) h (by omega) g1
   obtain ⟨d1,d2,d3,d4,hqD⟩:=iW g2
   rw [hqD,g3,show ((o.2.1-1:Nat):Int)=(o.2.1:Int)-1 by omega] at c4
   unfold exD at c4
   rw [ao (n:=(o.2.1:Int)-1) ⟨by omega,by omega⟩]
   refine ag E (c4) rfl rfl (by simp) ?_
   rintro _ rfl
   simp only [go_sem]
 ·have c1:=Cd (G:=G) hm ha.sane (by have:=ha.few;omega) (fu:=n % 300)
  rw [bY] at c1
  generalize jc N=e at *
  unfold exD at c0 c1 ⊢
  refine al Tryz.func9 rfl (by decide +kernel) (by simp [Tryz.ntmps9]) (veil fun E=>?_)
  simp only [go_sem]
  refine ag E (ui) rfl rfl (by simp) ?_
  rintro _ rfl
  simp only [go_sem]
  refine ag E (c0) rfl rfl (by simp) ?_
  rintro _ rfl
  simp only [go_sem]
  rw [tw3]
  refine ag E (c1) rfl rfl (by simp) ?_
  rintro _ rfl
  simp only [go_sem]
  rw [decide_eq_true hm]
  simp only [go_sem]
theorem vY {d:D} (h:(TS.int .u16).ok d):∃ n:Nat,d=.int .u16 (n:Int):=by
 cases d with
 | int k n =>
   obtain ⟨h1,h2,h3⟩:=h
   subst h1
   have h2:0≤n:=h2
   exact ⟨n.toNat,by rw [show ((n.toNat:Nat):Int)=n by omega]⟩
 | _=>exact h.elim
theorem nz {G} {d1:List D} {d2 d3:D} (h1:oks Er d1) (h2:(TS.int .u16).ok d2) (h3:(TS.int .u16).ok d3):HP Tryz.prog G 9 [.agg d1,d2,d3] (fun r=>r=.d (.bool true)):=by
 obtain ⟨ns,hw,hl,hn,hr⟩:=Eu h1
 obtain ⟨n,rfl⟩:=vY h2
 obtain ⟨m,rfl⟩:=vY h3
 exact GD hw hl hn hr
end Go.Proofs.YtejpnabbmgpmaaaGreat

namespace Go.Proofs.YtejpnabbmgpmaaaGreat
open Go.Ab
open Go.ChangeShapes Go.WideShapes Go.ChangeAt Go.RowKit
theorem Tryz.own:ownKnob Tryz.prog.godebug=none:=by kernel_rfl
theorem Tryz.laidOut:laidOutB Tryz.prog=true:=by kernel_rfl
theorem m9 {H:Type} {enc:TypeId × Value→H} {t:TypeId} (hr:Tryz.prog.readableRec t=true) (hrow:t<Tryz.prog.types.size) {W W':World} {v:Value} {d:DataW H} {ps:List MemPlace}
  (h:DataW.Trod enc Tryz.prog W 0 (fun _=>true) true t v d ps) (he:Ext W W') (hlt:∀ x∈ps,x.block<W.heap.size) :
  DataW.Trod enc Tryz.prog W' 0 (fun b=>decide (b<W.heap.size)) true t v d ps :=
 WideElems.Trod_stays Tryz.laidOut hr hrow h (fun x hx=>by
  have h1:=he.old x.block (hlt x hx)
  cases x with
  | cell b off=>show W'.cell? _=W.cell? _;unfold World.cell?;rw [show W'.heap[b]?=W.heap[b]? from h1]
  | map b=>exact h1) (fun x hx=>by simpa using hlt x hx)
end Go.Proofs.YtejpnabbmgpmaaaGreat

namespace Go.Proofs.YtejpnabbmgpmaaaGreat
open Go.Ab
open Go.ChangeShapes Go.WideShapes Go.ChangeAt Go.RowKit
theorem mS:(Rows.machineMoreRow.wf (OpenSpec.ofChange Rows.machineMoreSpec))=true:=by kernel_rfl
theorem nt:(Tryz.f9.params.all (Tryz.prog.readableRec ·))=true:=by kernel_rfl
theorem l6:(namedTie Tryz.prog Rows.machineMoreRow.named Rows.machineMoreSpec.vars)=true:=by kernel_rfl
theorem mY:((Rows.machineMoreRow.stops == []))=true:=by kernel_rfl
theorem mT:((Rows.machineMoreRow.knobs == []))=true:=by kernel_rfl
theorem lg:((Rows.machineMoreRow.inPlace == Tryz.prog.inPlace 9))=true:=by kernel_rfl
theorem kZ:((Rows.machineMoreRow.unfollowed == Tryz.prog.unfollowed 9))=true:=by kernel_rfl
theorem lp:((Rows.machineMoreRow.recurses == Tryz.prog.recurses 9))=true:=by kernel_rfl
theorem lh:((Rows.machineMoreRow.named == Tryz.prog.varsNamed 9))=true:=by kernel_rfl
theorem kU:((Rows.machineMoreRow.maps == (Tryz.f9.params.toList++Rows.machineMoreSpec.plain.varTypes Tryz.prog).any (Tryz.prog.mapsRec ·)))=true:=by kernel_rfl
theorem lB:((Rows.machineMoreRow.ifaces == (Tryz.f9.params.toList++Rows.machineMoreSpec.plain.varTypes Tryz.prog).any (Tryz.prog.ifacesRec ·)))=true:=by kernel_rfl
theorem kT:((Rows.machineMoreRow.mapsOut == Tryz.prog.mapsAmong Tryz.f9.resultTypes.toList))=true:=by kernel_rfl
theorem kV:((Rows.machineMoreRow.loops == (Tryz.f9.params.toList++Rows.machineMoreSpec.plain.varTypes Tryz.prog).any (Tryz.prog.loopsFrom ·)))=true:=by kernel_rfl
theorem lx:((Rows.machineMoreRow.wideKeys == (Tryz.f9.params.toList++Rows.machineMoreSpec.plain.varTypes Tryz.prog++Tryz.f9.resultTypes.toList).any (Tryz.prog.wideKeysFrom ·)))=true:=by kernel_rfl
theorem kS:(Rows.machineMoreSpec.vars.all (Tryz.prog.varReadable ·))=true:=by kernel_rfl
theorem lj:(Tryz.f9.resultTypes.all (fun t=>Tryz.prog.readableRec t && decide (t<Tryz.prog.types.size)))=true:=by kernel_rfl
theorem kY:((Rows.machineMoreRow.ifacesOut == Tryz.f9.resultTypes.toList.any (Tryz.prog.ifacesRec ·)))=true:=by kernel_rfl
theorem lC:((Rows.machineMoreRow.loopsOut == Tryz.f9.resultTypes.toList.any (Tryz.prog.loopsFrom ·)))=true:=by kernel_rfl
theorem kW:((Rows.machineMoreRow.plainKeys == Tryz.prog.plainKeys))=true:=by kernel_rfl
theorem ly:(Rows.machineMoreRow.shortTexts.isNone)=true:=by kernel_rfl
theorem lE:((Rows.machineMoreRow.lifted == Tryz.prog.liftsFinal))=true:=by kernel_rfl
theorem lz:((Tryz.prog.make == some Rows.machineMoreRow.make))=true:=by kernel_rfl
theorem kR:((Rows.machineMoreRow.kinds == (if Rows.machineMoreRow.domain.isEmpty then [] else Tryz.f9.params.toList.map fun t=>match Tryz.prog.underlying t with | some (.int k)=>some k | _=>none)))=true:=by kernel_rfl
theorem kX:((Rows.machineMoreRow.pinned == Rows.machineMoreRow.pinnedBy))=true:=by kernel_rfl
theorem lr:((Rows.machineMoreRow.veiled == (Tryz.f9.params.toList++Rows.machineMoreSpec.plain.varTypes Tryz.prog++Tryz.f9.resultTypes.toList).any (Tryz.prog.veiledRec ·)))=true:=by kernel_rfl
theorem lA:(Rows.machineMoreRow.veiledFits Tryz.prog Tryz.f9.params.toList (Tryz.f9.params.toList++Rows.machineMoreSpec.plain.varTypes Tryz.prog++Tryz.f9.resultTypes.toList))=true:=by kernel_rfl
end Go.Proofs.YtejpnabbmgpmaaaGreat

namespace Go.Proofs.YtejpnabbmgpmaaaGreat
open Go.Ab
open Go.ChangeShapes Go.WideShapes Go.ChangeAt Go.RowKit
theorem ba {a b:Bool} (ha:a=true) (hb:b=true):(a && b)=true:=by rw [ha,hb];rfl
theorem CK:(laidOutB Tryz.prog)=true:=by kernel_rfl
theorem CS:(mapsRowed Tryz.prog)=true:=by kernel_rfl
theorem A9:((Tryz.prog.stops == []))=true:=by kernel_rfl
theorem z8:((Tryz.prog.stopKnobs == []))=true:=by kernel_rfl
theorem zO:(Tryz.prog.stopsHeard)=true:=by kernel_rfl
theorem Bh:(Tryz.prog.mayEnter)=true:=by kernel_rfl
end Go.Proofs.YtejpnabbmgpmaaaGreat

