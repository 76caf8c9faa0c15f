/-
  Records and cases, read. (with the parts that follow it)
-/
import Derived.Test.YtejpnabbmgpmaaaGreatDoorVAJ
import Derived.Test.YtejpnabbmgpmaaaGreatDoorVAE
import Derived.Test.YtejpnabbmgpmaaaGreatDoorVAH
import Derived.Test.YtejpnabbmgpmaaaGreatDoorVAG
import Derived.Test.YtejpnabbmgpmaaaGreatDoorVAI
import Derived.Test.YtejpnabbmgpmaaaGreatDoorVAC
import Derived.Test.YtejpnabbmgpmaaaGreatDoorRows
import Derived.Test.YtejpnabbmgpmaaaGreatDoorTie
import Derived.ProofKit
import Derived.JoinedOf
import Derived.ChangeMaps5
import Derived.LaidLaws
import Derived.LaidHandle
import Derived.Stop.Joined
import Derived.Lib.LaidTab
import Derived.Lay
import Derived.SevenTiedAt
import Derived.Test.YtejpnabbmgpmaaaGreatDoorCards
set_option linter.all false
namespace Go.Proofs.YtejpnabbmgpmaaaGreatDoor
open Go.Ab
theorem Ep {G} {N:Nat} {ex:PS→PR} (hex:∀ s,GP 1 s (ex s)) (hc:Reads 34 G N ex):qT 181 G N (dO ex):=by
 intro s p hl hN
 generalize hR:dO ex s p=R
 unfold dO at hR
 have h0:=ir (G:=G) s [125] (by omega)
 have hg:=eg hex [44] fG SS.field s.l.length.succ s [] [] rfl (fun _ h=>by cases h)
 have hp:=vA (G:=G) (b:=[44]) hex hc (Di (G:=G)) (fun s l=>SS.field s l) s (nd0 11 p) hl hN
 rw [show (fun s l=>q7 s s.peek l)=fG from rfl] at hp
 obtain ⟨F,hF⟩:∃ F,F=bt ex [44] fG s.l.length.succ s [] []:=⟨_,rfl⟩
 rw [← hF] at hg hp
 simp only [← hF] at hR
 obtain ⟨fl,ks,q⟩:=F
 simp only at hp hR
 have g1:=hg.sz
 have g2:=hg.ln
 have g3:=hg.ss.len
 have g4:=hg.eq
 simp only [bl,List.map_nil,List.sum_nil,List.length_nil] at g1 g2 g3 g4
 have hm:=ek (G:=G) q 7 [125] (by omega) (by decide)
 have h4:=qU (G:=G) { nd0 11 p with l:=fl } ks (by simp only;omega) (by omega) (by simp only [bl];omega)
  (fun l h=>(hg.tr l h).kids.2) (fun l h=>(hg.wd (s.l.length+1) (fun _ h=>by cases h) (by simp only;omega) l h).mono (by omega))
 unfold RO TO ag
 refine ao Tryz.func181 rfl (by decide +kernel) (by simp [Tryz.ntmps181]) (veil fun E=>?_)
 simp only [go_sem]
 refine ae E [.bx [100] 0,.d (.str [125])] (RO s) [100,101] (h0) rfl rfl ⟨by simp only [go_sem],by first | (rw [aa];decide) | (simp only [go_sem]<;>(try rw [aa])<;>decide)⟩ rfl (by unfold RO TO ag;simp only [go_sem]) (by unfold RO TO;simp only [go_sem]) ?_
 rintro _ _ ⟨rfl,rfl⟩
 unfold RO TO ag
 simp only [go_sem]
 refine aG E (fun h=>?_) (fun h=>?_)<;>simp only [go_sem]
 ·rw [if_pos h] at hR
  rw [cL h]
  have hlf:=eW (G:=G) (nd0 11 p) rfl
  generalize bR (nd0 11 p)=L at hlf hR
  unfold exD at hlf
  refine ab E hlf rfl rfl (by simp) ?_
  rintro _ rfl
  simp only [go_sem]
  subst hR
  refine ⟨_,_,[100,101],id,⟨rfl,rfl⟩,?_⟩
  simp only [go_sem]
  rfl
 ·rw [if_neg (by rw [h];decide)] at hR
  rw [eI h]
  refine wR E [5] 7 98 (some 3) [.d (i64 11),.d (i64 0),.d (i64 0),.d (i64 0),.d (i64 0),.d (.str []),.d (.str []),.d .nils,.d (i64 p)] rfl rfl (by rw [aa];decide) rfl ?_
  simp only [go_sem]
  refine bw E (tau [([105],[2]),([102],[5]),([103],[98])]) [.bx [100] 0,.bx [102] 0,.d (.str [44]),.clo 184 [.bx [105] 0,.bx [102] 0]] (NO s (nd0 11 p) []) [100,101,102,103,105] (hp) rfl (by simp only [go_sem];try rfl) ⟨by simp only [go_sem],by first | (rw [aa];decide) | (simp only [go_sem]<;>(try rw [aa])<;>decide)⟩ rfl (by unfold NO FO RO TO ag;simp only [go_sem];try rfl) (by unfold NO FO RO TO;simp only [go_sem]) ?_
  rintro _ _ ⟨rfl,rfl⟩
  unfold NQ NO FO RO TO ag nd0
  simp only [go_sem]
  refine ae E [.bx [100] 0,.d (i64 7),.d (.str [125])] (RO q) [100,101] (hm) rfl rfl ⟨by simp only [go_sem],by first | (rw [aa];decide) | (simp only [go_sem]<;>(try rw [aa])<;>decide)⟩ rfl (by unfold RO TO ag;simp only [go_sem]) (by unfold RO TO;simp only [go_sem]) ?_
  rintro _ _ ⟨rfl,rfl⟩
  unfold RO TO ag
  simp only [go_sem]
  refine jX E [15,107] (some 1) (ks.map exD) rfl (by simp only [go_sem];rfl) ?_
  simp only [go_sem]
  refine jX E [15,106] (some 3) (fl.map fD) rfl (by simp only [go_sem];rfl) ?_
  simp only [go_sem]
  generalize aF { nd0 11 p with l:=fl } ks=J at h4 hR
  unfold exD at h4
  refine ab E h4 rfl rfl (by simp) ?_
  rintro _ rfl
  simp only [go_sem]
  subst hR
  refine ⟨_,_,[100,101],id,⟨rfl,rfl⟩,?_⟩
  simp only [go_sem]
  rfl
theorem Ew {G} {N:Nat} {ex:PS→PR} (hex:∀ s,GP 1 s (ex s)) (hc:Reads 34 G N ex):qT 182 G N (fT ex):=by
 intro s p hl hN
 generalize hR:fT ex s p=R
 unfold fT at hR
 have ce:=hc s hl hN
 have he:=hex s
 obtain ⟨e,s0,e0⟩:∃ e s0,ex s=(e,s0):=⟨_,_,rfl⟩
 rw [e0] at ce he hR
 simp only at ce hR
 have le:=he.ss.len
 have ne:=he.ss.nest
 have ze:=he.sz
 simp only at le ne ze
 have cm:=ek (G:=G) s0 1 bOf (by omega) (by decide)
 have hm:=SS.must s0 1 bOf
 generalize s0.must 1 bOf=s1 at cm hm hR
 have lm:=hm.len
 have nm:=hm.nest
 have hg:=eg hex [124] dW SS.branch s1.l.length.succ s1 [] [] rfl (fun _ h=>by cases h)
 have hp:=vA (G:=G) (b:=[124]) hex hc (C5 (G:=G)) (fun s l=>SS.branch s l) s1 (nd0 14 p) (by omega) (by rw [nm,ne,hN])
 rw [show (fun s l=>lF s s.peek l)=dW from rfl] at hp
 obtain ⟨F,hF⟩:∃ F,F=bt ex [124] dW s1.l.length.succ s1 [] []:=⟨_,rfl⟩
 rw [← hF] at hg hp
 simp only [← hF] at hR
 obtain ⟨fl,ks,q⟩:=F
 simp only at hp hR
 have g1:=hg.sz
 have g2:=hg.ln
 have g3:=hg.ss.len
 have g4:=hg.eq
 simp only [bl,List.map_nil,List.sum_nil,List.length_nil] at g1 g2 g3 g4
 have cx:=ek (G:=G) q 1 zC (by omega) (by decide)
 have h4:=qU (G:=G) { nd0 14 p with l:=fl } (e::ks) (by simp only;omega) (by rw [List.length_cons];omega) (by simp only [bl,List.map_cons,List.sum_cons];omega)
  (fun l h=>by
   rcases List.mem_cons.1 h with rfl | h
   ·exact he.tr.kids.2
   ·exact (hg.tr l h).kids.2)
  (fun l h=>by
   rcases List.mem_cons.1 h with rfl | h
   ·exact he.wd.mono (by omega)
   ·exact (hg.wd (s1.l.length+1) (fun _ h=>by cases h) (by simp only;omega) l h).mono (by omega))
 unfold exD at ce
 unfold RO TO ag
 refine ao Tryz.func182 rfl (by decide +kernel) (by simp [Tryz.ntmps182]) (veil fun E=>?_)
 simp only [go_sem]
 refine ae E [.bx [100] 0] (RO s) [100,101] (ce) rfl rfl ⟨by simp only [go_sem],by first | (rw [aa];decide) | (simp only [go_sem]<;>(try rw [aa])<;>decide)⟩ rfl (by unfold RO TO ag;simp only [go_sem]) (by unfold RO TO;simp only [go_sem]) ?_
 rintro _ _ ⟨rfl,rfl⟩
 unfold RO TO ag
 simp only [go_sem]
 refine ae E [.bx [100] 0,.d (i64 1),.d (.str bOf)] (RO s0) [100,101] (cm) rfl rfl ⟨by simp only [go_sem],by first | (rw [aa];decide) | (simp only [go_sem]<;>(try rw [aa])<;>decide)⟩ rfl (by unfold RO TO ag;simp only [go_sem]) (by unfold RO TO;simp only [go_sem]) ?_
 rintro _ _ ⟨rfl,rfl⟩
 unfold RO TO ag
 simp only [go_sem]
 refine wR E [5] 7 98 (some 3) [.d (i64 14),.d (i64 0),.d (i64 0),.d (i64 0),.d (i64 0),.d (.str []),.d (.str []),.d .nils,.d (i64 p)] rfl rfl (by rw [aa];decide) rfl ?_
 simp only [go_sem]
 refine bw E (tau [([105],[2]),([102],[5]),([103],[98])]) [.bx [100] 0,.bx [102] 0,.d (.str [124]),.clo 186 [.bx [105] 0,.bx [102] 0]] (NO s1 (nd0 14 p) []) [100,101,102,103,105] (hp) rfl (by simp only [go_sem];try rfl) ⟨by simp only [go_sem],by first | (rw [aa];decide) | (simp only [go_sem]<;>(try rw [aa])<;>decide)⟩ rfl (by unfold NO FO RO TO ag;simp only [go_sem];try rfl) (by unfold NO FO RO TO;simp only [go_sem]) ?_
 rintro _ _ ⟨rfl,rfl⟩
 unfold NQ NO FO RO TO ag nd0
 simp only [go_sem]
 refine ae E [.bx [100] 0,.d (i64 1),.d (.str zC)] (RO q) [100,101] (cx) rfl rfl ⟨by simp only [go_sem],by first | (rw [aa];decide) | (simp only [go_sem]<;>(try rw [aa])<;>decide)⟩ rfl (by unfold RO TO ag;simp only [go_sem]) (by unfold RO TO;simp only [go_sem]) ?_
 rintro _ _ ⟨rfl,rfl⟩
 unfold RO TO ag
 simp only [go_sem]
 refine j3 E [16,107] (some 1) (ks.map exD) rfl ?_
 simp only [go_sem]
 refine j3 E [16,106] (some 3) (fl.map fD) rfl ?_
 simp only [go_sem]
 refine ak mixed E fun X=>?_
 simp only [go_sem]
 refine ⟨by omega,?_⟩
 generalize aF { nd0 14 p with l:=fl } (e::ks)=J at h4 hR
 unfold exD at h4
 refine b6 X 23 [23] (some 1) (.agg [.sl (some 9) (e.map enD)]::ks.map exD) h4 (fun _=>rfl) rfl rfl rfl (by simp) (by rw [List.drop_zero,List.take_of_length_le (by simp;omega)];rfl) (by simp only [go_sem]) ?_
 simp only [go_sem]
 refine ⟨by decide +kernel,?_⟩
 subst hR
 refine ⟨_,_,[100,101],id,⟨rfl,rfl⟩,?_⟩
 simp only [go_sem]
 rfl
end Go.Proofs.YtejpnabbmgpmaaaGreatDoor

namespace Go.Proofs.YtejpnabbmgpmaaaGreatDoor
open Go.Ab
theorem CO {G} {N:Nat} {ex:PS→PR} (hex:∀ s,GP 1 s (ex s)) (hc:Reads 34 G N ex):Reads 178 G N (cX ex):=by
 intro s hl hN
 generalize hR:cX ex s=R
 unfold cX at hR
 rw [ix] at hR
 have hpk:=dj (G:=G) s.l s.fin (by omega)
 generalize bI s.l s.fin=t at hpk hR
 simp only at hR
 have hnx:s.next.nest=N:=hN
 have hnl:s.next.l.length≤100000:=by have:=(SS.next s).len;omega
 have c1:=iW (G:=G) s eV (by omega)
 have c2:=iW (G:=G) s cE (by omega)
 have c3:=ir (G:=G) s [40] (by omega)
 have c4:=ir (G:=G) s [123] (by omega)
 have c5:=iW (G:=G) s jS (by omega)
 have cr:=Ep (G:=G) hex hc s.next t.pos hnl hnx
 have cc:=Ew (G:=G) hex hc s.next t.pos hnl hnx
 have ce:=hc s.next hnl hnx
 have he:=hex s.next
 generalize dO ex s.next t.pos=R1 at hR cr
 generalize fT ex s.next t.pos=R2 at hR cc
 obtain ⟨e0,s0,h0⟩:∃ e0 s0,ex s.next=(e0,s0):=⟨_,_,rfl⟩
 rw [h0] at ce hR he
 have ln:=he.ss.len
 simp only at hR ce ln
 have cm:=ek (G:=G) s0 7 [41] (by omega) (by decide)
 unfold exD at cr cc ce
 unfold RO TO ag
 refine ao Tryz.func178 rfl (by decide +kernel) (by simp [Tryz.ntmps178]) (veil fun E=>?_)
 simp only [go_sem]
 refine ae E [.bx [101] 0] (TO s.l s.fin) [101] (hpk) rfl rfl ⟨by simp only [go_sem],by first | (rw [aa];decide) | (simp only [go_sem]<;>(try rw [aa])<;>decide)⟩ rfl (by unfold TO ag;simp only [go_sem]) (by unfold TO;simp only [go_sem]) ?_
 rintro _ _ ⟨rfl,rfl⟩
 unfold TO ag
 simp only [go_sem]
 refine ae E [.bx [100] 0] (RO s) [100,101] (ei s) rfl rfl ⟨by simp only [go_sem],by first | (rw [aa];decide) | (simp only [go_sem]<;>(try rw [aa])<;>decide)⟩ rfl (by unfold RO TO ag;simp only [go_sem]) (by unfold RO TO;simp only [go_sem]) ?_
 rintro _ _ ⟨rfl,rfl⟩
 unfold RO TO ag
 simp only [go_sem]
 refine aG E (fun h=>?_) (fun h=>?_)<;>simp only [go_sem]
 ·rw [if_pos (by simpa using h)] at hR
  refine ae E [.bx [100] 0] (RO s) [100,101] (mN s (by omega)) rfl rfl ⟨by simp only [go_sem],by first | (rw [aa];decide) | (simp only [go_sem]<;>(try rw [aa])<;>decide)⟩ rfl (by unfold RO TO ag;simp only [go_sem]) (by unfold RO TO;simp only [go_sem]) ?_
  rintro _ _ ⟨rfl,rfl⟩
  unfold RO TO ag
  simp only [go_sem]
  have hlf:=eW (G:=G) (nd0 1 0) rfl
  unfold noE at hR
  generalize bR (nd0 1 0)=L at hlf hR
  unfold exD at hlf
  refine ab E hlf rfl rfl (by simp) ?_
  rintro _ rfl
  simp only [go_sem]
  subst hR
  refine ⟨_,_,[100,101],id,⟨rfl,rfl⟩,?_⟩
  simp only [go_sem]
  all_goals first | rfl | exact ⟨rfl,rfl,rfl⟩
 rw [if_neg (by simpa using h)] at hR
 refine ah E (fun h=>?_) (fun h=>?_)<;>simp only [go_sem]
 ·rw [if_pos h] at hR
  refine ae E [.bx [101] 0] (TO s.l s.fin) [101] (il s.l s.fin (by omega)) rfl rfl ⟨by simp only [go_sem],by first | (rw [aa];decide) | (simp only [go_sem]<;>(try rw [aa])<;>decide)⟩ rfl (by unfold TO ag;simp only [go_sem]) (by unfold TO;simp only [go_sem]) ?_
  rintro _ _ ⟨rfl,rfl⟩
  unfold TO ag
  simp only [go_sem]
  have hlf:=eW (G:=G) ({ nd0 1 t.pos with n:=t.n }) rfl
  generalize bR ({ nd0 1 t.pos with n:=t.n })=L at hlf hR
  unfold exD at hlf
  refine ab E hlf rfl rfl (by simp) ?_
  rintro _ rfl
  simp only [go_sem]
  subst hR
  refine ⟨_,_,[100,101],id,⟨rfl,rfl⟩,?_⟩
  simp only [go_sem]
  all_goals first | rfl | exact ⟨rfl,rfl,rfl⟩
 rw [if_neg h] at hR
 refine ah E (fun h=>?_) (fun h=>?_)<;>simp only [go_sem]
 ·rw [if_pos h] at hR
  refine ae E [.bx [101] 0] (TO s.l s.fin) [101] (il s.l s.fin (by omega)) rfl rfl ⟨by simp only [go_sem],by first | (rw [aa];decide) | (simp only [go_sem]<;>(try rw [aa])<;>decide)⟩ rfl (by unfold TO ag;simp only [go_sem]) (by unfold TO;simp only [go_sem]) ?_
  rintro _ _ ⟨rfl,rfl⟩
  unfold TO ag
  simp only [go_sem]
  have hlf:=eW (G:=G) ({ nd0 3 t.pos with s:=t.s }) rfl
  generalize bR ({ nd0 3 t.pos with s:=t.s })=L at hlf hR
  unfold exD at hlf
  refine ab E hlf rfl rfl (by simp) ?_
  rintro _ rfl
  simp only [go_sem]
  subst hR
  refine ⟨_,_,[100,101],id,⟨rfl,rfl⟩,?_⟩
  simp only [go_sem]
  all_goals first | rfl | exact ⟨rfl,rfl,rfl⟩
 rw [if_neg h] at hR
 refine ah E (fun h=>?_) (fun h=>?_)<;>simp only [go_sem]
 ·rw [if_pos h] at hR
  refine ae E [.bx [101] 0] (TO s.l s.fin) [101] (il s.l s.fin (by omega)) rfl rfl ⟨by simp only [go_sem],by first | (rw [aa];decide) | (simp only [go_sem]<;>(try rw [aa])<;>decide)⟩ rfl (by unfold TO ag;simp only [go_sem]) (by unfold TO;simp only [go_sem]) ?_
  rintro _ _ ⟨rfl,rfl⟩
  unfold TO ag
  simp only [go_sem]
  have hlf:=eW (G:=G) ({ nd0 4 t.pos with name:=t.s }) rfl
  generalize bR ({ nd0 4 t.pos with name:=t.s })=L at hlf hR
  unfold exD at hlf
  refine ab E hlf rfl rfl (by simp) ?_
  rintro _ rfl
  simp only [go_sem]
  subst hR
  refine ⟨_,_,[100,101],id,⟨rfl,rfl⟩,?_⟩
  simp only [go_sem]
  all_goals first | rfl | exact ⟨rfl,rfl,rfl⟩
 rw [if_neg h] at hR
 refine ae E [.bx [100] 0,.d (.str eV)] (RO s) [100,101] (c1) rfl rfl ⟨by simp only [go_sem],by first | (rw [aa];decide) | (simp only [go_sem]<;>(try rw [aa])<;>decide)⟩ rfl (by unfold RO TO ag;simp only [go_sem]) (by unfold RO TO;simp only [go_sem]) ?_
 rintro _ _ ⟨rfl,rfl⟩
 unfold RO TO ag
 simp only [go_sem]
 refine aG E (fun h=>?_) (fun h=>?_)<;>simp only [go_sem]
 ·rw [if_pos h] at hR
  rw [cL h]
  have hlf:=eW (G:=G) ({ nd0 2 t.pos with n:=1 }) rfl
  generalize bR ({ nd0 2 t.pos with n:=1 })=L at hlf hR
  unfold exD at hlf
  refine ab E hlf rfl rfl (by simp) ?_
  rintro _ rfl
  simp only [go_sem]
  subst hR
  refine ⟨_,_,[100,101],id,⟨rfl,rfl⟩,?_⟩
  simp only [go_sem]
  all_goals first | rfl | exact ⟨rfl,rfl,rfl⟩
 rw [if_neg (by rw [h];decide)] at hR
 rw [eI h]
 refine ae E [.bx [100] 0,.d (.str cE)] (RO s) [100,101] (c2) rfl rfl ⟨by simp only [go_sem],by first | (rw [aa];decide) | (simp only [go_sem]<;>(try rw [aa])<;>decide)⟩ rfl (by unfold RO TO ag;simp only [go_sem]) (by unfold RO TO;simp only [go_sem]) ?_
 rintro _ _ ⟨rfl,rfl⟩
 unfold RO TO ag
 simp only [go_sem]
 refine aG E (fun h=>?_) (fun h=>?_)<;>simp only [go_sem]
 ·rw [if_pos h] at hR
  rw [cL h]
  have hlf:=eW (G:=G) (nd0 2 t.pos) rfl
  generalize bR (nd0 2 t.pos)=L at hlf hR
  unfold exD at hlf
  refine ab E hlf rfl rfl (by simp) ?_
  rintro _ rfl
  simp only [go_sem]
  subst hR
  refine ⟨_,_,[100,101],id,⟨rfl,rfl⟩,?_⟩
  simp only [go_sem]
  all_goals first | rfl | exact ⟨rfl,rfl,rfl⟩
 rw [if_neg (by rw [h];decide)] at hR
 rw [eI h]
 refine ae E [.bx [100] 0,.d (.str [40])] (RO s) [100,101] (c3) rfl rfl ⟨by simp only [go_sem],by first | (rw [aa];decide) | (simp only [go_sem]<;>(try rw [aa])<;>decide)⟩ rfl (by unfold RO TO ag;simp only [go_sem]) (by unfold RO TO;simp only [go_sem]) ?_
 rintro _ _ ⟨rfl,rfl⟩
 unfold RO TO ag
 simp only [go_sem]
 refine aG E (fun h=>?_) (fun h=>?_)<;>simp only [go_sem]
 ·rw [if_pos h] at hR
  rw [cL h]
  refine ae E [.bx [100] 0] (RO s.next) [100,101] (ce) rfl rfl ⟨by simp only [go_sem],by first | (rw [aa];decide) | (simp only [go_sem]<;>(try rw [aa])<;>decide)⟩ rfl (by unfold RO TO ag;simp only [go_sem]) (by unfold RO TO;simp only [go_sem]) ?_
  rintro _ _ ⟨rfl,rfl⟩
  unfold RO TO ag
  simp only [go_sem]
  refine ae E [.bx [100] 0,.d (i64 7),.d (.str [41])] (RO s0) [100,101] (cm) rfl rfl ⟨by simp only [go_sem],by first | (rw [aa];decide) | (simp only [go_sem]<;>(try rw [aa])<;>decide)⟩ rfl (by unfold RO TO ag;simp only [go_sem]) (by unfold RO TO;simp only [go_sem]) ?_
  rintro _ _ ⟨rfl,rfl⟩
  unfold RO TO ag
  simp only [go_sem]
  subst hR
  refine ⟨_,_,[100,101],id,⟨rfl,rfl⟩,?_⟩
  simp only [go_sem]
  all_goals rfl
 rw [if_neg (by rw [h];decide)] at hR
 rw [eI h]
 refine ae E [.bx [100] 0,.d (.str [123])] (RO s) [100,101] (c4) rfl rfl ⟨by simp only [go_sem],by first | (rw [aa];decide) | (simp only [go_sem]<;>(try rw [aa])<;>decide)⟩ rfl (by unfold RO TO ag;simp only [go_sem]) (by unfold RO TO;simp only [go_sem]) ?_
 rintro _ _ ⟨rfl,rfl⟩
 unfold RO TO ag
 simp only [go_sem]
 refine aG E (fun h=>?_) (fun h=>?_)<;>simp only [go_sem]
 ·rw [if_pos h] at hR
  rw [cL h]
  refine ae E [.bx [100] 0,.d (i64 t.pos)] (RO s.next) [100,101] (cr) rfl rfl ⟨by simp only [go_sem],by first | (rw [aa];decide) | (simp only [go_sem]<;>(try rw [aa])<;>decide)⟩ rfl (by unfold RO TO ag;simp only [go_sem]) (by unfold RO TO;simp only [go_sem]) ?_
  rintro _ _ ⟨rfl,rfl⟩
  unfold RO TO ag
  simp only [go_sem]
  subst hR
  refine ⟨_,_,[100,101],id,⟨rfl,rfl⟩,?_⟩
  simp only [go_sem]
  all_goals rfl
 rw [if_neg (by rw [h];decide)] at hR
 rw [eI h]
 refine ae E [.bx [100] 0,.d (.str jS)] (RO s) [100,101] (c5) rfl rfl ⟨by simp only [go_sem],by first | (rw [aa];decide) | (simp only [go_sem]<;>(try rw [aa])<;>decide)⟩ rfl (by unfold RO TO ag;simp only [go_sem]) (by unfold RO TO;simp only [go_sem]) ?_
 rintro _ _ ⟨rfl,rfl⟩
 unfold RO TO ag
 simp only [go_sem]
 refine aG E (fun h=>?_) (fun h=>?_)<;>simp only [go_sem]
 ·rw [if_pos h] at hR
  rw [cL h]
  refine ae E [.bx [100] 0,.d (i64 t.pos)] (RO s.next) [100,101] (cc) rfl rfl ⟨by simp only [go_sem],by first | (rw [aa];decide) | (simp only [go_sem]<;>(try rw [aa])<;>decide)⟩ rfl (by unfold RO TO ag;simp only [go_sem]) (by unfold RO TO;simp only [go_sem]) ?_
  rintro _ _ ⟨rfl,rfl⟩
  unfold RO TO ag
  simp only [go_sem]
  subst hR
  refine ⟨_,_,[100,101],id,⟨rfl,rfl⟩,?_⟩
  simp only [go_sem]
  all_goals rfl
 rw [if_neg (by rw [h];decide)] at hR
 rw [eI h]
 refine ae E [.bx [100] 0] (RO s) [100,101] (mN s (by omega)) rfl rfl ⟨by simp only [go_sem],by first | (rw [aa];decide) | (simp only [go_sem]<;>(try rw [aa])<;>decide)⟩ rfl (by unfold RO TO ag;simp only [go_sem]) (by unfold RO TO;simp only [go_sem]) ?_
 rintro _ _ ⟨rfl,rfl⟩
 unfold RO TO ag
 simp only [go_sem]
 have hlf:=eW (G:=G) (nd0 1 0) rfl
 unfold noE at hR
 generalize bR (nd0 1 0)=L at hlf hR
 unfold exD at hlf
 refine ab E hlf rfl rfl (by simp) ?_
 rintro _ rfl
 simp only [go_sem]
 subst hR
 refine ⟨_,_,[100,101],id,⟨rfl,rfl⟩,?_⟩
 simp only [go_sem]
 all_goals first | rfl | exact ⟨rfl,rfl,rfl⟩
end Go.Proofs.YtejpnabbmgpmaaaGreatDoor

namespace Go.Proofs.YtejpnabbmgpmaaaGreatDoor
open Go.Ab
theorem zh (s:PS) (e p:Int) (he:e≠0):(s.fail e p).err≠0:=by
 unfold PS.fail
 split
 ·exact he
 ·assumption
theorem AB {G}:Reads 34 G 100 (gm 0):=by
 intro s hl hN
 generalize hR:gm 0 s=R
 unfold gm at hR
 rw [ix] at hR
 have hpk:=dj (G:=G) s.l s.fin (by omega)
 generalize bI s.l s.fin=t at hpk hR
 have hf:=nB (G:=G) s 6 t.pos
 have hne:=zh s 6 t.pos (by decide)
 generalize s.fail 6 t.pos=s2 at hf hne hR
 unfold noE at hR
 have hlf:=eW (G:=G) (nd0 1 0) rfl
 generalize bR (nd0 1 0)=L at hlf hR
 subst hR
 unfold exD at hlf
 unfold RO TO ag
 refine vO Tryz.func34 rfl (by decide +kernel) (by simp [Tryz.ntmps34]) fun B0 hB0=>?_
 refine bf (az fun E=>?_)
 simp only [go_sem]
 refine bf (az fun E=>?_)
 simp only [go_sem]
 refine ae E [.bx [101] 0] (TO s.l s.fin) [101] (hpk) rfl rfl ⟨by simp only [go_sem],by first | (rw [aa];decide) | (simp only [go_sem]<;>(try rw [aa])<;>decide)⟩ rfl (by unfold TO ag;simp only [go_sem]) (by unfold TO;simp only [go_sem]) ?_
 rintro _ _ ⟨rfl,rfl⟩
 unfold TO ag
 simp only [go_sem]
 refine bf (az fun E=>?_)
 simp only [go_sem]
 refine ah E (fun h=>?_) (fun h=>absurd (by omega) h)<;>simp only [go_sem]
 refine ae E [.bx [100] 0,.d (i64 6),.d (i64 t.pos)] (RO s) [100,101] (hf) rfl rfl ⟨by simp only [go_sem],by first | (rw [aa];decide) | (simp only [go_sem]<;>(try rw [aa])<;>decide)⟩ rfl (by unfold RO TO ag;simp only [go_sem]) (by unfold RO TO;simp only [go_sem]) ?_
 rintro _ _ ⟨rfl,rfl⟩
 unfold RO TO ag
 simp only [go_sem]
 refine bf (az fun E=>?_)
 simp only [go_sem]
 refine ae E [.bx [100] 0] (RO s2) [100,101] (ei s2) rfl rfl ⟨by simp only [go_sem],by first | (rw [aa];decide) | (simp only [go_sem]<;>(try rw [aa])<;>decide)⟩ rfl (by unfold RO TO ag;simp only [go_sem]) (by unfold RO TO;simp only [go_sem]) ?_
 rintro _ _ ⟨rfl,rfl⟩
 unfold RO TO ag
 simp only [go_sem]
 refine aG E (fun g=>?_) (fun g=>absurd (by simpa using g) hne)<;>simp only [go_sem]
 refine ab E hlf rfl rfl (by simp) ?_
 rintro _ rfl
 simp only [go_sem]
 refine vF (.inl rfl) hB0 ?_
 simp only [go_sem]
 refine ⟨_,_,[100,101],id,⟨rfl,rfl⟩,?_⟩
 simp only [go_sem]
 rfl
def Al (ex:PS→PR) (s:PS):PR:=if s.err≠0 then (noE,s) else
 let r:=nR ex { s with nest:=s.nest+1 }
 (r.1,{ r.2 with nest:=s.nest })
set_option maxHeartbeats 1000000 in
theorem y7 {G} {N:Nat} {ex:PS→PR} (hN0:N<100) (hex:∀ s,GP 1 s (ex s)) (hc:Reads 34 G (N+1) ex):Reads 34 G N (Al ex):=by
 intro s hl hN
 generalize hR:Al ex s=R
 unfold Al nR at hR
 have hp1:({ s with nest:=s.nest+1 }:PS).peek=bI s.l s.fin:=rfl
 obtain ⟨s1,hs1⟩:∃ s1:PS,s1={ s with nest:=s.nest+1 }:=⟨_,rfl⟩
 rw [← hs1] at hp1
 simp only [← hs1,hp1] at hR
 have hpk:=dj (G:=G) s.l s.fin (by omega)
 generalize bI s.l s.fin=t at hpk hR
 have l1:s1.l.length≤100000:=by rw [hs1];exact hl
 have n1:s1.nest=N+1:=by rw [hs1];show s.nest+1=_;rw [hN]
 have hlf:=eW (G:=G) (nd0 1 0) rfl
 unfold noE at hR
 generalize bR (nd0 1 0)=L at hlf hR
 have c1:=iW (G:=G) s1 De (by omega)
 have c2:=iW (G:=G) s1 BS (by omega)
 have c3:=iW (G:=G) s1 bIf (by omega)
 have nn:=(SS.next s1).nest
 have ln:=(SS.next s1).len
 have c4:=Hf (G:=G) hex hc s1.next t.pos (by omega) (nn.trans n1)
 have c5:=FI (G:=G) hex hc s1.next t.pos (by omega) (nn.trans n1)
 have c6:=GH (G:=G) hex (Dc hex (EC hex (C2 hex (DC hex (CO hex hc))))) s1 l1 n1
 have g4:=(rU hex s1.next t.pos).ss.nest
 have g5:=(wZ hex s1.next t.pos).ss.nest
 have g6:=(tT hex s1).ss.nest
 generalize qV ex s1.next t.pos=R4 at c4 g4 hR
 generalize ifS ex s1.next t.pos=R5 at c5 g5 hR
 generalize ra ex s1=R6 at c6 g6 hR
 have c7:=kL (G:=G) s1.next 2 (by omega)
 have g7:=SS.of s1.next 2
 obtain ⟨nm,s2,e2⟩:∃ nm s2,s1.next.of 2=(nm,s2):=⟨_,_,rfl⟩
 rw [e2] at c7 g7
 simp only [e2] at hR
 simp only at c7 g7
 have l2:=g7.len
 have n2:=g7.nest
 have c8:=ek (G:=G) s2 7 bTo (by omega) (by decide)
 have g8:=SS.must s2 7 bTo
 generalize s2.must 7 bTo=s3 at c8 g8 hR
 have l3:=g8.len
 have n3:=g8.nest
 have c9:=hc s3 (by omega) (by rw [n3,n2,nn,n1])
 have g9:=hex s3
 obtain ⟨b,s4,e4⟩:∃ b s4,ex s3=(b,s4):=⟨_,_,rfl⟩
 rw [e4] at c9 g9
 simp only [e4] at hR
 have n4:=g9.ss.nest
 have z4:=g9.sz
 simp only at n4 z4
 have h4:=iJ (G:=G) { nd0 5 t.pos with name:=nm } [b] rfl (by simp) (by simp only [bl,List.map_cons,List.map_nil,List.sum_cons,List.sum_nil];omega)
  (fun l h=>by rw [List.mem_singleton.1 h];exact g9.tr.kids.2)
  (fun l h=>by rw [List.mem_singleton.1 h];exact g9.wd.mono (by omega))
 generalize aF { nd0 5 t.pos with name:=nm } [b]=J at h4 hR
 unfold exD at hlf c4 c5 c6 c9 h4
 unfold RO TO ag
 refine vO Tryz.func34 rfl (by decide +kernel) (by simp [Tryz.ntmps34]) fun B0 hB0=>?_
 refine bf (az fun E=>?_)
 simp only [go_sem]
 refine bf (az fun E=>?_)
 simp only [go_sem]
 refine ae E [.bx [101] 0] (TO s.l s.fin) [101] (hpk) rfl rfl ⟨by simp only [go_sem],by first | (rw [aa];decide) | (simp only [go_sem]<;>(try rw [aa])<;>decide)⟩ rfl (by unfold TO ag;simp only [go_sem]) (by unfold TO;simp only [go_sem]) ?_
 rintro _ _ ⟨rfl,rfl⟩
 unfold TO ag
 simp only [go_sem]
 refine bf (az fun E=>?_)
 simp only [go_sem]
 refine ah E (fun h=>absurd h (by omega)) (fun h=>?_)<;>simp only [go_sem]
 refine bf (az fun E=>?_)
 simp only [go_sem]
 refine ae E [.bx [100] 0] (RO s) [100,101] (ei s) rfl rfl ⟨by simp only [go_sem],by first | (rw [aa];decide) | (simp only [go_sem]<;>(try rw [aa])<;>decide)⟩ rfl (by unfold RO TO ag;simp only [go_sem]) (by unfold RO TO;simp only [go_sem]) ?_
 rintro _ _ ⟨rfl,rfl⟩
 unfold RO TO ag
 simp only [go_sem]
 refine aG E (fun g=>?_) (fun g=>?_)<;>simp only [go_sem]
 ·rw [if_pos (by simpa using g)] at hR
  refine ab E hlf rfl rfl (by simp) ?_
  rintro _ rfl
  simp only [go_sem]
  subst hR
  refine vF (.inl rfl) hB0 ?_
  simp only [go_sem]
  refine ⟨_,_,[100,101],id,⟨rfl,rfl⟩,?_⟩
  simp only [go_sem]
  all_goals first | rfl | exact ⟨rfl,rfl⟩ | exact ⟨rfl,rfl,rfl⟩
 rw [if_neg (by simpa using g)] at hR
 refine bf (az fun E=>?_)
 simp only [go_sem]
 rw [ai (n:=(s.nest:Int)+1) ⟨by omega,by omega⟩]
 rw [show s.err=s1.err by rw [hs1],show s.pos=s1.pos by rw [hs1],show s.l=s1.l by rw [hs1],show s.fin=s1.fin by rw [hs1],show (s.nest:Int)+1=(s1.nest:Int) by rw [n1,← hN];rfl]
 refine bf (rL ?_)
 refine DT rfl ?_
 simp only [go_sem]
 refine D5 [[1]] rfl rfl (by intro p hp;rw [List.mem_singleton.1 hp];exact ⟨_,rfl⟩) ?_
 refine yF ?_
 refine bf (az fun E=>?_)
 simp only [go_sem]
 refine ae E [.bx [100] 0,.d (.str De)] (RO s1) [100,101] (c1) rfl rfl ⟨by simp only [go_sem],by first | (rw [aa];decide) | (simp only [go_sem]<;>(try rw [aa])<;>decide)⟩ rfl (by unfold RO TO ag;simp only [go_sem]) (by unfold RO TO;simp only [go_sem]) ?_
 rintro _ _ ⟨rfl,rfl⟩
 unfold RO TO ag
 simp only [go_sem]
 refine aG E (fun h=>?_) (fun h=>?_)<;>simp only [go_sem]
 ·rw [if_pos h] at hR
  rw [cL h]
  refine ae E [.bx [100] 0,.d (i64 2)] (RO s1.next) [100,101] (c7) rfl rfl ⟨by simp only [go_sem],by first | (rw [aa];decide) | (simp only [go_sem]<;>(try rw [aa])<;>decide)⟩ rfl (by unfold RO TO ag;simp only [go_sem]) (by unfold RO TO;simp only [go_sem]) ?_
  rintro _ _ ⟨rfl,rfl⟩
  unfold RO TO ag
  simp only [go_sem]
  refine ae E [.bx [100] 0,.d (i64 7),.d (.str bTo)] (RO s2) [100,101] (c8) rfl rfl ⟨by simp only [go_sem],by first | (rw [aa];decide) | (simp only [go_sem]<;>(try rw [aa])<;>decide)⟩ rfl (by unfold RO TO ag;simp only [go_sem]) (by unfold RO TO;simp only [go_sem]) ?_
  rintro _ _ ⟨rfl,rfl⟩
  unfold RO TO ag
  simp only [go_sem]
  refine ak mixed E fun X=>?_
  simp only [go_sem]
  refine cl X [.bx [100] 0] (RO s3) [100,101] _ _ c9 rfl rfl ⟨by simp only [go_sem],by rw [aa];decide⟩ rfl (by unfold RO TO ag;simp only [go_sem]) (by unfold RO TO;simp only [go_sem]) (by unfold RO TO;simp only [go_sem]) ?_
  unfold RO TO ag
  simp only [go_sem]
  refine b6 X 45 [45] (some 1) [.agg [.sl (some 9) (b.map enD)]] h4 (fun _=>rfl) rfl rfl rfl (by simp) rfl (by simp only [go_sem]) ?_
  simp only [go_sem]
  refine ⟨by decide +kernel,?_⟩
  subst hR
  refine pL (ns:=[[1]]) (.inl rfl) hB0 Tryz.func73 rfl (by decide +kernel) (by simp [Tryz.ntmps73]) (by intro p hp;rw [List.mem_singleton.1 hp];simp only [go_sem]) (veil fun E=>?_)
  simp only [go_sem]
  rw [gF]
  simp only [go_sem]
  rw [ai (n:=(s4.nest:Int)-1) ⟨by omega,by omega⟩]
  refine ⟨o8 (fI (by simp only [go_sem])),?_⟩
  simp only [gF]
  simp only [go_sem]
  refine ⟨_,_,[100,101],id,⟨rfl,rfl⟩,?_⟩
  simp only [go_sem]
  have hq:(s4.nest:Int)-1=(s.nest:Int):=by omega
  rw [hq]
  exact ⟨rfl,rfl⟩
 rw [if_neg (by rw [h];decide)] at hR
 rw [eI h]
 refine ae E [.bx [100] 0,.d (.str BS)] (RO s1) [100,101] (c2) rfl rfl ⟨by simp only [go_sem],by first | (rw [aa];decide) | (simp only [go_sem]<;>(try rw [aa])<;>decide)⟩ rfl (by unfold RO TO ag;simp only [go_sem]) (by unfold RO TO;simp only [go_sem]) ?_
 rintro _ _ ⟨rfl,rfl⟩
 unfold RO TO ag
 simp only [go_sem]
 refine aG E (fun h=>?_) (fun h=>?_)<;>simp only [go_sem]
 ·rw [if_pos h] at hR
  rw [cL h]
  refine ae E [.bx [100] 0,.d (i64 t.pos)] (RO s1.next) [100,101] (c4) rfl rfl ⟨by simp only [go_sem],by first | (rw [aa];decide) | (simp only [go_sem]<;>(try rw [aa])<;>decide)⟩ rfl (by unfold RO TO ag;simp only [go_sem]) (by unfold RO TO;simp only [go_sem]) ?_
  rintro _ _ ⟨rfl,rfl⟩
  unfold RO TO ag
  simp only [go_sem]
  subst hR
  refine pL (ns:=[[1]]) (.inl rfl) hB0 Tryz.func73 rfl (by decide +kernel) (by simp [Tryz.ntmps73]) (by intro p hp;rw [List.mem_singleton.1 hp];simp only [go_sem]) (veil fun E=>?_)
  simp only [go_sem]
  rw [gF]
  simp only [go_sem]
  rw [ai (n:=(R4.2.nest:Int)-1) ⟨by omega,by omega⟩]
  refine ⟨o8 (fI (by simp only [go_sem])),?_⟩
  simp only [gF]
  simp only [go_sem]
  refine ⟨_,_,[100,101],id,⟨rfl,rfl⟩,?_⟩
  simp only [go_sem]
  have hq:(R4.2.nest:Int)-1=(s.nest:Int):=by omega
  rw [hq]
  exact ⟨rfl,rfl⟩
 rw [if_neg (by rw [h];decide)] at hR
 rw [eI h]
 refine ae E [.bx [100] 0,.d (.str bIf)] (RO s1) [100,101] (c3) rfl rfl ⟨by simp only [go_sem],by first | (rw [aa];decide) | (simp only [go_sem]<;>(try rw [aa])<;>decide)⟩ rfl (by unfold RO TO ag;simp only [go_sem]) (by unfold RO TO;simp only [go_sem]) ?_
 rintro _ _ ⟨rfl,rfl⟩
 unfold RO TO ag
 simp only [go_sem]
 refine aG E (fun h=>?_) (fun h=>?_)<;>simp only [go_sem]
 ·rw [if_pos h] at hR
  rw [cL h]
  refine ae E [.bx [100] 0,.d (i64 t.pos)] (RO s1.next) [100,101] (c5) rfl rfl ⟨by simp only [go_sem],by first | (rw [aa];decide) | (simp only [go_sem]<;>(try rw [aa])<;>decide)⟩ rfl (by unfold RO TO ag;simp only [go_sem]) (by unfold RO TO;simp only [go_sem]) ?_
  rintro _ _ ⟨rfl,rfl⟩
  unfold RO TO ag
  simp only [go_sem]
  subst hR
  refine pL (ns:=[[1]]) (.inl rfl) hB0 Tryz.func73 rfl (by decide +kernel) (by simp [Tryz.ntmps73]) (by intro p hp;rw [List.mem_singleton.1 hp];simp only [go_sem]) (veil fun E=>?_)
  simp only [go_sem]
  rw [gF]
  simp only [go_sem]
  rw [ai (n:=(R5.2.nest:Int)-1) ⟨by omega,by omega⟩]
  refine ⟨o8 (fI (by simp only [go_sem])),?_⟩
  simp only [gF]
  simp only [go_sem]
  refine ⟨_,_,[100,101],id,⟨rfl,rfl⟩,?_⟩
  simp only [go_sem]
  have hq:(R5.2.nest:Int)-1=(s.nest:Int):=by omega
  rw [hq]
  exact ⟨rfl,rfl⟩
 rw [if_neg (by rw [h];decide)] at hR
 rw [eI h]
 refine az fun E=>?_
 simp only [go_sem]
 refine ae E [.bx [100] 0] (RO s1) [100,101] (c6) rfl rfl ⟨by simp only [go_sem],by first | (rw [aa];decide) | (simp only [go_sem]<;>(try rw [aa])<;>decide)⟩ rfl (by unfold RO TO ag;simp only [go_sem]) (by unfold RO TO;simp only [go_sem]) ?_
 rintro _ _ ⟨rfl,rfl⟩
 unfold RO TO ag
 simp only [go_sem]
 subst hR
 refine pL (ns:=[[1]]) (.inl rfl) hB0 Tryz.func73 rfl (by decide +kernel) (by simp [Tryz.ntmps73]) (by intro p hp;rw [List.mem_singleton.1 hp];simp only [go_sem]) (veil fun E=>?_)
 simp only [go_sem]
 rw [gF]
 simp only [go_sem]
 rw [ai (n:=(R6.2.nest:Int)-1) ⟨by omega,by omega⟩]
 refine ⟨o8 (fI (by simp only [go_sem])),?_⟩
 simp only [gF]
 simp only [go_sem]
 refine ⟨_,_,[100,101],id,⟨rfl,rfl⟩,?_⟩
 simp only [go_sem]
 have hq:(R6.2.nest:Int)-1=(s.nest:Int):=by omega
 rw [hq]
 exact ⟨rfl,rfl⟩
theorem Bm {G}:∀ (m N:Nat),N+m=100→Reads 34 G N (gm m)
 | 0,N,h=>by
   obtain rfl:N=100:=by omega
   exact AB
 | m+1,N,h=>y7 (by omega) (ie m) (Bm m (N+1) (by omega))
end Go.Proofs.YtejpnabbmgpmaaaGreatDoor

namespace Go.Proofs.YtejpnabbmgpmaaaGreatDoor
open Go.Ab
def Fm (B:Nat) (f:EF):Prop:=f.nm.length≤B∧f.var.length≤B
def Nm (B:Nat) (n:EN):Prop:=n.name.length≤B∧n.s.length≤B∧∀ f∈n.l,Fm B f
def Sm (B:Nat) (ns:List EN):Prop:=∀ n∈ns,Nm B n
def Tm (B:Nat) (s:PS):Prop:=∀ t∈s.l,t.s.length≤B
section
variable {B:Nat}
theorem rO (ks:List Int) (o:Nat):∀ (l:List EF) (i:Nat),(∀ f∈l,Fm B f)→∀ f∈aU ks o l i,Fm B f
 | [],_,_,f,hf=>by simp [aU] at hf
 | g::r,i,h,f,hf=>by
   rw [aU] at hf
   rcases List.mem_cons.1 hf with rfl | hf
   ·have:=h g List.mem_cons_self
    split<;>exact this
   ·exact rO ks o r (i+1) (fun x hx=>h x (List.mem_cons_of_mem _ hx)) f hf
theorem Nm.with {n:EN} (h:Nm B n) (ks:List Int):Nm B (bg n ks):=by
 refine ⟨h.1,h.2.1,fun f hf=>?_⟩
 have hf:f∈(if aJ n.k then aU ks (aY n.k) n.l 0 else []):=hf
 split at hf
 ·exact rO _ _ _ _ h.2.2 f hf
 ·cases hf
theorem A6:∀ (ls:List (List EN)) (acc:List EN) (rs:List Int),(∀ l∈ls,Sm B l)→Sm B acc→Sm B (bO ls acc rs).1
 | [],_,_,_,h=>h
 | l::r,acc,rs,hl,h=>by
   refine A6 r _ _ (fun x hx=>hl x (List.mem_cons_of_mem _ hx)) fun n hn=>?_
   rcases List.mem_append.1 hn with hn | hn
   ·exact h n hn
   ·obtain ⟨m,hm,rfl⟩:=List.mem_map.1 hn
    exact (hl l List.mem_cons_self m hm).with _
theorem cH {n:EN} {ls:List (List EN)} (hn:Nm B n) (hl:∀ l∈ls,Sm B l):Sm B (aF n ls):=by
 intro m hm
 rcases List.mem_append.1 hm with hm | hm
 ·exact A6 ls [] [] hl (fun _ h=>by cases h) m hm
 ·rw [List.mem_singleton.1 hm];exact hn.with _
theorem nk (k p:Int):Nm B (nd0 k p):=⟨Nat.zero_le _,Nat.zero_le _,fun _ h=>by cases h⟩
theorem gj {n:EN} (hn:Nm B n):Sm B (bR n):=cH hn fun _ h=>by cases h
theorem vZ:Sm B noE:=gj (nk 1 0)
theorem Tm.ss {s r:PS} (h:SS s r) (g:Tm B s):Tm B r:=by
 obtain ⟨k,hk⟩:=h.suf
 intro t ht
 rw [hk] at ht
 exact g t (List.mem_of_mem_drop ht)
theorem Tm.peek {s:PS} (g:Tm B s):s.peek.s.length≤B:=by
 unfold PS.peek
 split
 ·exact Nat.zero_le _
 ·rename_i t r e
  exact g t (by rw [e];exact List.mem_cons_self)
theorem Tm.of {s:PS} (g:Tm B s) (k:Int):(s.of k).1.length≤B:=by
 unfold PS.of
 split
 ·exact g.peek
 ·exact Nat.zero_le _
variable {ex:PS→PR} (hex:∀ s,GP 1 s (ex s)) (hx:∀ s,Tm B s→Sm B (ex s).1)
include hex hx
omit hex hx in
theorem Bo {s:PS} (g:Tm B s) (l:List EF):Fm B (fG s l).1:=⟨g.of 2,Nat.zero_le _⟩
omit hex hx in
theorem xr {s:PS} (g:Tm B s) (l:List EF):Fm B (dW s l).1 :=
 ⟨g.of 3,Tm.of (g.ss (SS.partp (s:=s) (SS.of s 3) s.peek l fun _ h=>jK h)) 2⟩
theorem nE (between:List UInt8) (part:PS→List EF→EF × PS) (hp:∀ s l,SS s (part s l).2) (hf:∀ s l,Tm B s→Fm B (part s l).1):∀ (m:Nat) (s:PS) (l:List EF) (ks:List (List EN)),Tm B s→(∀ f∈l,Fm B f)→(∀ k∈ks,Sm B k) →
  (∀ f∈(bt ex between part m s l ks).1,Fm B f)∧(∀ k∈(bt ex between part m s l ks).2.1,Sm B k)
 | 0,s,l,ks,_,h1,h2=>⟨h1,h2⟩
 | m+1,s,l,ks,g,h1,h2=>by
   have g1:=g.ss (hp s l)
   have g2:=g1.ss (hex (part s l).2).ss
   have a1:∀ f∈l++[(part s l).1],Fm B f:=fun f h=>by
    rcases List.mem_append.1 h with h | h
    ·exact h1 f h
    ·rw [List.mem_singleton.1 h];exact hf s l g
   have a2:∀ k∈ks++[(ex (part s l).2).1],Sm B k:=fun k h=>by
    rcases List.mem_append.1 h with h | h
    ·exact h2 k h
    ·rw [List.mem_singleton.1 h];exact hx _ g1
   unfold bt
   simp only
   split
   ·exact nE between part hp hf m _ _ _ (g2.ss (SS.next _)) a1 a2
   ·exact ⟨a1,a2⟩
theorem yC (s:PS) (g:Tm B s) (pos:Int):Sm B (dO ex s pos).1:=by
 unfold dO
 split
 ·exact gj (nk 11 pos)
 ·have h:=nE hex hx [44] fG SS.field (fun s l g=>Bo g l) s.l.length.succ s [] [] g (fun _ h=>by cases h) (fun _ h=>by cases h)
  exact cH ⟨Nat.zero_le _,Nat.zero_le _,h.1⟩ h.2
theorem AE (s:PS) (g:Tm B s) (pos:Int):Sm B (fT ex s pos).1:=by
 unfold fT
 have g1:=(g.ss (hex s).ss).ss (SS.must (ex s).2 1 bOf)
 simp only
 have h:=nE hex hx [124] dW SS.branch (fun s l g=>xr g l) ((ex s).2.must 1 bOf).l.length.succ _ [] [] g1 (fun _ h=>by cases h) (fun _ h=>by cases h)
 refine cH ⟨Nat.zero_le _,Nat.zero_le _,h.1⟩ fun l hl=>?_
 rcases List.mem_cons.1 hl with rfl | hl
 ·exact hx s g
 ·exact h.2 l hl
theorem DE (s:PS) (g:Tm B s):Sm B (cX ex s).1:=by
 have gn:=g.ss (SS.next s)
 unfold cX
 simp only
 repeat' split
 ·exact vZ
 ·exact gj ⟨Nat.zero_le _,Nat.zero_le _,fun _ h=>by cases h⟩
 ·exact gj ⟨Nat.zero_le _,g.peek,fun _ h=>by cases h⟩
 ·exact gj ⟨g.peek,Nat.zero_le _,fun _ h=>by cases h⟩
 ·exact gj ⟨Nat.zero_le _,Nat.zero_le _,fun _ h=>by cases h⟩
 ·exact gj (nk _ _)
 ·exact hx _ gn
 ·exact yC hex hx _ gn _
 ·exact AE hex hx _ gn _
 ·exact vZ
omit hex hx in
theorem wX:∀ (m:Nat) (a:List EN) (s:PS),Sm B a→Tm B s→Sm B (e9 m a s).1
 | 0,_,_,h,_=>h
 | m+1,a,s,h,g=>by
   unfold e9
   split
   ·exact wX m _ _ (cH ⟨(g.ss (SS.next s)).of 2,Nat.zero_le _,fun _ h=>by cases h⟩ fun l hl=>by rw [List.mem_singleton.1 hl];exact h) ((g.ss (SS.next s)).ss (SS.of _ 2))
   ·exact h
theorem pF (s:PS) (g:Tm B s):Sm B (cY ex s).1:=wX _ _ _ (DE hex hx s g) (g.ss (jY hex s).1.ss)
theorem vz:∀ (m:Nat) (a:List EN) (s:PS),Sm B a→Tm B s→Sm B (gx ex m a s).1
 | 0,_,_,h,_=>h
 | m+1,a,s,h,g=>by
   unfold gx
   split
   ·refine vz m _ _ (cH (nk _ _) fun l hl=>?_) (g.ss (ee hex s).1.ss)
    rcases List.mem_cons.1 hl with rfl | hl
    ·exact h
    ·rw [List.mem_singleton.1 hl];exact pF hex hx s g
   ·exact h
theorem BW (s:PS) (g:Tm B s):Sm B (j2 ex s).1:=by
 unfold j2
 simp only
 split
 ·exact cH ⟨g.peek,Nat.zero_le _,fun _ h=>by cases h⟩ fun l hl=>by rw [List.mem_singleton.1 hl];exact pF hex hx _ (g.ss (SS.next s))
 ·exact vz hex hx _ _ _ (pF hex hx s g) (g.ss (ee hex s).1.ss)
omit hex hx in
theorem u5 (ops:List (List UInt8 × Int)) (sub:PS→PR) (h1:∀ s,SS s (sub s).2) (h2:∀ s,Tm B s→Sm B (sub s).1):∀ (m:Nat) (a:List EN) (s:PS),Sm B a→Tm B s→Sm B (jd ops sub m a s).1
 | 0,_,_,h,_=>h
 | m+1,a,s,h,g=>by
   unfold jd
   split
   ·have gn:=g.ss (SS.next s)
    refine u5 ops sub h1 h2 m _ _ (cH ⟨Nat.zero_le _,Nat.zero_le _,fun _ h=>by cases h⟩ fun l hl=>?_) (gn.ss (h1 _))
    rcases List.mem_cons.1 hl with rfl | hl
    ·exact h
    ·rw [List.mem_singleton.1 hl];exact h2 _ gn
   ·exact h
theorem xc (s:PS) (g:Tm B s):Sm B (iH ex s).1:=u5 _ _ (fun s=>(gN hex s).ss) (BW hex hx) _ _ _ (BW hex hx s g) (g.ss (gN hex s).ss)
theorem uz (s:PS) (g:Tm B s):Sm B (su ex s).1:=u5 _ _ (fun s=>(fc hex s).ss) (xc hex hx) _ _ _ (xc hex hx s g) (g.ss (fc hex s).ss)
theorem Gy (s:PS) (g:Tm B s):Sm B (ra ex s).1:=by
 unfold ra
 simp only
 split
 ·refine cH ⟨Nat.zero_le _,Nat.zero_le _,fun _ h=>by cases h⟩ fun l hl=>?_
  rcases List.mem_cons.1 hl with rfl | hl
  ·exact uz hex hx s g
  ·rw [List.mem_singleton.1 hl];exact uz hex hx _ ((g.ss (gE hex s).ss).ss (SS.next _))
 ·exact uz hex hx s g
theorem FJ (s:PS) (g:Tm B s) (pos:Int):Sm B (qV ex s pos).1:=by
 unfold qV
 simp only
 obtain ⟨k,hk⟩:∃ k:Int,k=if s.sees 1 iS=true then 8 else 7:=⟨_,rfl⟩
 rw [← hk]
 have g1:=g.ss (SS.may s 1 iS)
 have g2:=g1.ss (SS.of _ 2)
 have g3:=g2.ss (SS.must _ 7 [61])
 have g4:=g3.ss (hex _).ss
 refine cH ⟨g1.of 2,Nat.zero_le _,fun _ h=>by cases h⟩ fun l hl=>?_
 rcases List.mem_cons.1 hl with rfl | hl
 ·exact hx _ g3
 ·rw [List.mem_singleton.1 hl]
  refine hx _ (Tm.ss (SS.must _ 1 bIn) ?_)
  split
  ·intro t ht
   rw [mS] at ht
   exact g4 t ht
  ·exact g4
theorem HA (s:PS) (g:Tm B s) (pos:Int):Sm B (ifS ex s pos).1:=by
 unfold ifS
 simp only
 have g1:=(g.ss (hex _).ss).ss (SS.must _ 1 nA)
 have g2:=(g1.ss (hex _).ss).ss (SS.must _ 1 mf)
 refine cH (nk _ _) fun l hl=>?_
 simp only [List.mem_cons,List.not_mem_nil,or_false] at hl
 rcases hl with rfl | rfl | rfl
 ·exact hx _ g
 ·exact hx _ g1
 ·exact hx _ g2
theorem EA (s:PS) (g:Tm B s):Sm B (nR ex s).1:=by
 have gn:=g.ss (SS.next s)
 unfold nR
 simp only
 repeat' split
 ·exact cH ⟨gn.of 2,Nat.zero_le _,fun _ h=>by cases h⟩ fun l hl=>by rw [List.mem_singleton.1 hl];exact hx _ ((gn.ss (SS.of _ 2)).ss (SS.must _ 7 bTo))
 ·exact FJ hex hx _ gn _
 ·exact HA hex hx _ gn _
 ·exact Gy hex hx s g
end
theorem wo {B:Nat}:∀ (m:Nat) (s:PS),Tm B s→Sm B (gm m s).1
 | 0,s,_=>vZ
 | m+1,s,g=>by
   unfold gm
   split
   ·exact vZ
   ·exact EA (ie m) (wo m) _ g
theorem q0:∀ (m:Nat) (r:List UInt8) (i:Nat) (acc:List UInt8),(dE m r i acc).1.length≤200
 | 0,_,_,_=>Nat.zero_le _
 | _+1,[],_,_=>Nat.zero_le _
 | m+1,c::r,i,acc=>by
   unfold dE
   split
   ·split
    ·exact Nat.zero_le _
    ·simp only;omega
   split
   ·split
    ·exact Nat.zero_le _
    ·exact q0 m _ _ _
   split
   ·exact q0 m _ _ _
   ·exact Nat.zero_le _
theorem Fc (s:List UInt8):(bP s).t.s.length≤200:=by
 unfold bP
 split
 ·unfold mT
  repeat' split
  ·exact Nat.zero_le _
  all_goals (show (s.take _).length≤_;rw [List.length_take];omega)
 split
 ·unfold tE
  repeat' split
  ·exact Nat.zero_le _
  ·exact Nat.zero_le _
  ·show ((s.drop 1).take _).length≤_;rw [List.length_take];omega
 split
 ·exact Nat.zero_le _
 split
 ·unfold uf cy
  repeat' split
  ·exact Nat.zero_le _
  ·exact q0 _ _ _ _
  ·exact Nat.zero_le _
 ·unfold n9
  repeat' split
  ·show (s.take _).length≤_;rw [List.length_take];omega
  ·exact Nat.zero_le _
  ·show (s.take _).length≤_;rw [List.length_take];omega
theorem zi:∀ (m:Nat) (s:List UInt8) (a:Nat),∀ q∈dA m s a,q.2.t.s.length≤200
 | 0,_,_,_,h=>by simp [dA] at h
 | m+1,s,a,q,h=>by
   unfold dA at h
   split at h
   ·cases h
   split at h
   ·rw [List.mem_singleton.1 h];exact Fc _
   ·rcases List.mem_cons.1 h with rfl | h
    ·exact Fc _
    ·exact zi m _ _ q h
theorem Hu (s:List UInt8):∀ t∈(cO s).1,t.s.length≤200:=by
 unfold cO
 split
 ·intro _ h;cases h
 ·intro t ht
  obtain ⟨q,hq,rfl⟩:=List.mem_map.1 ht
  exact zi _ _ _ q hq
end Go.Proofs.YtejpnabbmgpmaaaGreatDoor

namespace Go.Proofs.YtejpnabbmgpmaaaGreatDoor
open Go.Ab
def fS (q:List EN × Int × Int):AV:=.tup [.d (if q.2.2=0 then exD q.1 else .agg [.nils]),.d (i64 q.2.1),.d (i64 q.2.2)]
theorem Gm {G} (s:PS) (ns:List EN) (hN:ns.length≤1000000) (hs:∀ n∈ns,eu BIG n):HCall Tryz.prog G 37 [.bx [100] 0,.d (exD ns)] (RO s) [100,101] (fun r hp'=>r=fS (p3 s ns)∧hp'=RO s):=by
 generalize hR:p3 s ns=R
 unfold p3 at hR
 have c1:=F7 (G:=G) ns (fun n=>decide (1048576<n.pos)) 82 [] hN (fun x _=>Gj x)
 have c2:=uO (G:=G) ns hs hN
 generalize (ns.any fun n=>decide (1048576<n.pos))=b at c1 hR
 generalize eX ns=m at c2 hR
 have c3:=HP.clo (args:=[.d (.sl (some 9) (ns.map enD)),.clo 82 []]) rfl (fun i x y hx hy=>by
  rcases i with _ | _ | i
  ·cases hx;cases hy;exact .inl rfl
  ·cases hx;cases hy;exact .inr ⟨82,rfl,rfl⟩
  ·cases hx) c1
 unfold exD at *
 unfold RO TO ag
 refine ao Tryz.func37 rfl (by decide +kernel) (by simp [Tryz.ntmps37]) (veil fun E=>?_)
 simp only [go_sem]
 refine ae E [.bx [100] 0] (RO s) [100,101] (ei s) rfl rfl ⟨by simp only [go_sem],by first | (rw [aa];decide) | (simp only [go_sem]<;>(try rw [aa])<;>decide)⟩ rfl (by unfold RO TO ag;simp only [go_sem]) (by unfold RO TO;simp only [go_sem]) ?_
 rintro _ _ ⟨rfl,rfl⟩
 unfold RO TO ag
 simp only [go_sem]
 refine aG E (fun h=>?_) (fun h=>?_)<;>simp only [go_sem]
 ·have h':¬ s.err=0:=by simpa using h
  rw [if_pos h'] at hR
  refine ak mixed E fun X=>?_
  simp only [go_sem]
  refine dH X (d:=13) [100] 0 none [.bx [101] 0,.d (i64 s.err),.d (i64 s.pos),.d (i64 s.nest)] (by simp only [go_sem]) rfl rfl ?_
  simp only [go_sem]
  refine dH X (d:=17) [100] 0 none [.bx [101] 0,.d (i64 s.err),.d (i64 s.pos),.d (i64 s.nest)] (by simp only [go_sem]) rfl rfl ?_
  simp only [go_sem]
  refine ⟨by decide +kernel,?_⟩
  subst hR
  have he:fS ([],s.pos,s.err)=.tup [.d (.agg [.nils]),.d (i64 s.pos),.d (i64 s.err)]:=by unfold fS;rw [if_neg h']
  rw [he]
  refine ⟨_,_,[100,101],id,⟨rfl,rfl⟩,?_⟩
  simp only [go_sem]
 rw [if_neg (by simpa using h)] at hR
 refine ae E [.d (.sl (some 9) (ns.map enD)),.clo 82 []] [] [] c3 rfl rfl ⟨by simp only [go_sem],by rw [aa];decide⟩ rfl (by simp only [go_sem]) (by simp only [go_sem]) ?_
 rintro _ _ ⟨rfl,_,rfl⟩
 simp only [go_sem]
 refine aG E (fun h=>?_) (fun h=>?_)<;>simp only [go_sem]
 ·rw [if_pos h] at hR
  subst hR
  have he:fS ([],0,7)=.tup [.d (.agg [.nils]),.d (i64 0),.d (i64 7)]:=by unfold fS;rw [if_neg (by decide)]
  rw [he]
  refine ⟨_,_,[100,101],id,⟨rfl,rfl⟩,?_⟩
  simp only [go_sem]
 rw [if_neg (by rw [h];decide)] at hR
 refine ab E c2 rfl rfl (by simp) ?_
 rintro _ rfl
 simp only [go_sem]
 refine aG E (fun h=>?_) (fun h=>?_)<;>simp only [go_sem]
 ·have h':¬ m=0:=by simpa using h
  rw [if_pos h'] at hR
  subst hR
  have he:fS ([],0,m)=.tup [.d (.agg [.nils]),.d (i64 0),.d (i64 m)]:=by unfold fS;rw [if_neg h']
  rw [he]
  refine ⟨_,_,[100,101],id,⟨rfl,rfl⟩,?_⟩
  simp only [go_sem]
 ·have h':m=0:=by simpa using h
  rw [if_neg (by simpa using h')] at hR
  subst hR
  have he:fS (ns,0,0)=.tup [.d (.agg [.sl (some 9) (ns.map enD)]),.d (i64 0),.d (i64 0)]:=by unfold fS;rw [if_pos rfl];rfl
  rw [he]
  refine ⟨_,_,[100,101],id,⟨rfl,rfl⟩,?_⟩
  simp only [go_sem]
theorem Dd {G} (l:List Tok) (fin:Int) (hl:l.length≤1000000):HCall Tryz.prog G 33 [.d (ag l),.d (i64 fin)] [] [] (fun r hp'=>r=.bx [101] 0∧hp'=[([101],.box [.vw [102] 0 l.length,.d (i64 fin)]),([102],.arr (some 4) (l.map gi))]):=by
 unfold ag
 refine ao Tryz.func33 rfl (by decide +kernel) (by simp [Tryz.ntmps33]) (veil fun E=>?_)
 simp only [go_sem]
 refine ⟨by omega,?_⟩
 refine ⟨_,_,[101,102],tau [([101],[9]),([102],[6])],⟨rfl,rfl⟩,?_⟩
 simp only [go_sem]
 all_goals rfl
theorem G3 {G} (l:List Tok) (fin:Int) (hl:l.length≤1000000):HCall Tryz.prog G 33 [.d (ag l),.d (i64 fin)] [] [] (fun r hp'=>r=.bx [101] 0∧hp'=TO l fin) :=
 HCall.fA (Dd l fin hl) [102] (by
  rintro r hp' ⟨rfl,rfl⟩
  refine ⟨some 4,l.map gi,by simp only [go_sem],by simp only [go_sem],?_⟩
  unfold TO ag
  simp only [go_sem])
theorem D0 {s:PS} {ns:List EN} {r:PS} (h:GP 1 s (ns,r)) (hl:s.l.length≤100000) (hn:Sm 200 ns):ns.length≤1000000∧∀ n∈ns,eu BIG n:=by
 have h1:=h.sz
 have h2:=h.wd
 simp only at h1
 refine ⟨by omega,fun n hm=>?_⟩
 obtain ⟨a,b,c⟩:=hn n hm
 have:=h2 n hm
 simp only at this
 exact ⟨by unfold BIG;omega,by unfold BIG;omega,by omega,fun f hf=>⟨by have:=(c f hf).1;unfold BIG;omega,by have:=(c f hf).2;unfold BIG;omega⟩⟩
set_option maxHeartbeats 1000000 in
theorem Gu {G} (s:List UInt8) (hl:s.length≤100000):HP Tryz.prog G 11 [.str s] (fun r=>r=fS (cP s)):=by
 generalize hR:cP s=R
 unfold cP at hR
 obtain ⟨hl1,hl2,hl3,hl4⟩:=FF s
 have hls:=Hu s
 cases hb:fh (aD s) with
 | some q =>
   obtain ⟨i,e⟩:=q
   have c1:=Dl (G:=G) s (by omega) hb
   have hne:=qG hb
   have hlx:cO s=([],i,e):=by unfold cO;rw [hb]
   rw [hlx,if_pos hne] at hR
   simp only at hR hne
   have he:fS R=.tup [.d (.agg [.nils]),.d (i64 i),.d (i64 e)]:=by rw [← hR];unfold fS;rw [if_neg hne]
   rw [he]
   refine aL Tryz.func11 rfl (by decide +kernel) (by simp [Tryz.ntmps11]) (veil fun E=>?_)
   simp only [go_sem]
   refine ab E c1 rfl rfl (by simp) ?_
   rintro _ rfl
   simp only [go_sem]
   refine aG E (fun h=>?_) (fun h=>absurd (by simpa using h) hne)<;>simp only [go_sem]
   refine ⟨[],?_⟩
   simp only [go_sem]
 | none =>
   have c1:=Gl (G:=G) s (by omega) hb
   have hz:(cO s).2.2=0:=by unfold cO;rw [hb]
   rw [if_neg (by rw [hz];decide)] at hR
   rw [hz] at c1
   generalize cO s=q at c1 hR hl1 hl2 hl3 hls
   obtain ⟨l,n,z⟩:=q
   simp only at c1 hR hl1 hl2 hl3 hls
   have c2:=G3 (G:=G) l n (by omega)
   have hst:qa l n=⟨l,n,0,0,0⟩:=rfl
   obtain ⟨st,hs⟩:∃ st,st=qa l n:=⟨_,rfl⟩
   rw [← hs] at hR hst
   have hsl:st.l.length≤100000:=by rw [hst];simp only;omega
   have c3:=Bm (G:=G) 100 0 rfl st hsl (by rw [hst])
   have g3:=ie 100 st
   have n3:=wo (B:=200) 100 st (by rw [hst];exact hls)
   obtain ⟨x,s2,hx⟩:∃ x s2,gm 100 st=(x,s2):=⟨_,_,rfl⟩
   rw [hx] at c3 g3 n3 hR
   simp only at c3 n3 hR
   have hl2':=g3.ss.len
   simp only at hl2'
   obtain ⟨hxl,hxs⟩:=D0 g3 hsl n3
   have c4:=uG (G:=G) s2.l s2.fin
   have c5:=mN (G:=G) s2 (by omega)
   have c6:=Gm (G:=G) (rS s2) x hxl hxs
   unfold rS at hR c6
   unfold exD at c3 c6
   unfold ag at c2
   refine aL Tryz.func11 rfl (by decide +kernel) (by simp [Tryz.ntmps11]) (veil fun E=>?_)
   simp only [go_sem]
   refine ab E c1 rfl rfl (by simp) ?_
   rintro _ rfl
   simp only [go_sem]
   refine ae E [.d (.sl (some 4) (l.map gi)),.d (i64 n)] [] [] c2 rfl rfl ⟨by simp only [go_sem],by rw [aa];decide⟩ rfl (by simp only [go_sem]) (by simp only [go_sem]) ?_
   rintro _ _ ⟨rfl,rfl⟩
   unfold TO ag
   simp only [go_sem]
   rw [hst] at c3
   refine bw E (tau [([100],[25]),([101],[23,101])]) [.bx [100] 0] (RO ⟨l,n,0,0,0⟩) [100,101] (c3) rfl (by simp only [go_sem];try rfl) ⟨by simp only [go_sem],by first | (rw [aa];decide) | (simp only [go_sem]<;>(try rw [aa])<;>decide)⟩ rfl (by unfold RO TO ag;simp only [go_sem];try rfl) (by unfold RO TO;simp only [go_sem]) ?_
   rintro _ _ ⟨rfl,rfl⟩
   unfold RO TO ag
   simp only [go_sem]
   refine bw E (tau [([101],[23,101])]) [.bx [101] 0] (TO s2.l s2.fin) [101] c4 rfl (by simp only [go_sem];try rfl) ⟨by simp only [go_sem],by rw [aa];decide⟩ rfl (by unfold TO ag;simp only [go_sem];try rfl) (by unfold TO;simp only [go_sem]) ?_
   rintro _ _ ⟨rfl,rfl⟩
   unfold TO ag
   simp only [go_sem]
   refine aG E (fun h=>?_) (fun h=>?_)<;>simp only [go_sem]
   ·have h':s2.l.isEmpty=false:=by simpa using h
    rw [h'] at hR c6
    simp only [Bool.false_eq_true,if_false] at hR c6
    refine bw E (tau [([100],[25]),([101],[23,101])]) [.bx [100] 0] (RO s2) [100,101] (c5) rfl (by simp only [go_sem];try rfl) ⟨by simp only [go_sem],by first | (rw [aa];decide) | (simp only [go_sem]<;>(try rw [aa])<;>decide)⟩ rfl (by unfold RO TO ag;simp only [go_sem];try rfl) (by unfold RO TO;simp only [go_sem]) ?_
    rintro _ _ ⟨rfl,rfl⟩
    unfold RO TO ag
    simp only [go_sem]
    refine bw E (tau [([100],[25]),([101],[23,101])]) [.bx [100] 0,.d (.agg [.sl (some 9) (x.map enD)])] (RO s2.wrong) [100,101] (c6) rfl (by simp only [go_sem];try rfl) ⟨by simp only [go_sem],by first | (rw [aa];decide) | (simp only [go_sem]<;>(try rw [aa])<;>decide)⟩ rfl (by unfold RO TO ag;simp only [go_sem];try rfl) (by unfold RO TO;simp only [go_sem]) ?_
    rintro _ _ ⟨rfl,rfl⟩
    unfold RO TO ag
    simp only [go_sem]
    rw [hR]
    unfold fS exD
    by_cases hz:R.2.2=0
    ·simp only [if_pos hz]
     simp only [go_sem]
     refine ⟨[],?_⟩
     simp only [go_sem]
     unfold fS exD
     rw [if_pos hz]
    ·simp only [if_neg hz]
     simp only [go_sem]
     refine ⟨[],?_⟩
     simp only [go_sem]
     unfold fS
     rw [if_neg hz]
   ·have h':s2.l.isEmpty=true:=by simpa using h
    rw [h'] at hR c6
    simp only [if_true] at hR c6
    refine bw E (tau [([100],[25]),([101],[23,101])]) [.bx [100] 0,.d (.agg [.sl (some 9) (x.map enD)])] (RO s2) [100,101] (c6) rfl (by simp only [go_sem];try rfl) ⟨by simp only [go_sem],by first | (rw [aa];decide) | (simp only [go_sem]<;>(try rw [aa])<;>decide)⟩ rfl (by unfold RO TO ag;simp only [go_sem];try rfl) (by unfold RO TO;simp only [go_sem]) ?_
    rintro _ _ ⟨rfl,rfl⟩
    unfold RO TO ag
    simp only [go_sem]
    rw [hR]
    unfold fS exD
    by_cases hz:R.2.2=0
    ·simp only [if_pos hz]
     simp only [go_sem]
     refine ⟨[],?_⟩
     simp only [go_sem]
     unfold fS exD
     rw [if_pos hz]
    ·simp only [if_neg hz]
     simp only [go_sem]
     refine ⟨[],?_⟩
     simp only [go_sem]
     unfold fS
     rw [if_neg hz]
end Go.Proofs.YtejpnabbmgpmaaaGreatDoor

namespace Go.Proofs.YtejpnabbmgpmaaaGreatDoor
open Go.Ab
theorem qt {ns:List EN} (ht:eO ns) (hr:∀ n∈ns,inR n.n):∀ (m i:Nat),i<m→i<ns.length→cq (trE ns i)=true→(vtE ns i).may=true∧(vtE ns i).wf∧(vtE ns i).fine
 | 0,_,h,_,_=>absurd h (Nat.not_lt_zero _)
 | m+1,i,him,hi,hv=>by
   have hrt:=ht.right i hi
   have hnr:=hr _ (by rw [bX hi];exact List.getElem_mem hi:ndE ns i∈ns)
   have hs:=xf hrt
   have z0:inR 0:=⟨by decide,by decide⟩
   have hva:=lW (eE ht) hi
   rw [hv] at hva
   have hkid:(ndE ns i).k=11∨(ndE ns i).k=13→∀ k∈an (ndE ns i),(vtE ns k.toNat).may=true∧(vtE ns k.toNat).wf∧(vtE ns k.toNat).fine:=fun hc k hk=>by
    rw [if_pos hc] at hva
    have h2:=List.all_eq_true.1 hva.symm _ hk
    obtain ⟨a,rfl,ha⟩:=pE ht hi hk
    exact qt ht hr m a (by omega) (by omega) h2
   have hcase:(ndE ns i).k=1∨(ndE ns i).k=2∨(ndE ns i).k=3∨(ndE ns i).k=5∨(ndE ns i).k=13∨(ndE ns i).k=11:=by
    by_cases hc:(ndE ns i).k=11∨(ndE ns i).k=13
    ·omega
    ·rw [if_neg hc] at hva
     have hva:=hva.symm
     simp only [Bool.or_eq_true,decide_eq_true_eq] at hva
     omega
   rcases hcase with h | h | h | h | h | h
   ·rw [vt1 ht hi h]
    refine ⟨by simp [VT.may,VT.mays,eC],?_,?_⟩
    ·rw [VT.wf,VT.wfs];exact ⟨⟨rfl,Nat.zero_le _,Nat.zero_le _,fun _ h=>by cases h⟩,trivial⟩
    ·rw [VT.fine,VT.fines];exact ⟨⟨hnr,Nat.zero_le _⟩,trivial⟩
   ·rw [vt2 ht hi h]
    have hc:(ndE ns i).n=0∨(ndE ns i).n=1:=by
     unfold aH bS at hrt
     simp only [Bool.and_eq_true] at hrt
     have h1:=hrt.2.1.1.2
     rw [if_neg (by omega),if_pos h] at h1
     simp only [Bool.and_eq_true,Bool.or_eq_true,decide_eq_true_eq] at h1
     exact h1.1
    refine ⟨by rcases hc with e | e<;>simp [VT.may,VT.mays,eC,e],?_,?_⟩
    ·rw [VT.wf,VT.wfs];exact ⟨⟨rfl,Nat.zero_le _,Nat.zero_le _,fun _ h=>by cases h⟩,trivial⟩
    ·rw [VT.fine,VT.fines];exact ⟨⟨hnr,Nat.zero_le _⟩,trivial⟩
   ·rw [vt3 ht hi h]
    refine ⟨by simp [VT.may,VT.mays,eC],?_,?_⟩
    ·rw [VT.wf,VT.wfs];exact ⟨⟨rfl,Nat.zero_le _,by omega,fun _ h=>by cases h⟩,trivial⟩
    ·rw [VT.fine,VT.fines];exact ⟨⟨z0,by omega⟩,trivial⟩
   ·rw [vt5 ht hi h]
    refine ⟨by simp [VT.may,VT.mays,eC],?_,?_⟩
    ·rw [VT.wf,VT.wfs];exact ⟨⟨rfl,Nat.zero_le _,Nat.zero_le _,fun _ h=>by cases h⟩,trivial⟩
    ·rw [VT.fine,VT.fines];exact ⟨⟨z0,Nat.zero_le _⟩,trivial⟩
   ·rw [Gb ht hi h]
    have htg:=xI hrt h
    have htl:=qZ htg
    obtain ⟨k1,k2,k3⟩:=hkid (.inr h) (ndE ns i).a (by rw [sJ (.inr (.inr h))];exact List.mem_singleton_self _)
    refine ⟨by simp [VT.may,VT.mays,eC,htg,k1],?_,?_⟩
    ·rw [VT.wf,jI]
     refine ⟨⟨rfl,by simp,by omega,fun x hx=>?_⟩,fun u hu=>?_⟩
     ·rw [List.mem_singleton.1 hx];exact Nat.zero_le _
     ·rw [List.mem_singleton.1 hu];exact k2
    ·rw [VT.fine,ff]
     refine ⟨⟨z0,by omega⟩,fun u hu=>?_⟩
     rw [List.mem_singleton.1 hu];exact k3
   ·rw [F4 ht hi h]
    have hp:aJ (ndE ns i).k=true:=by unfold aJ;rw [h];rfl
    have hpt:=sr hrt hp
    have hl:=qj hrt
    have hnd:((ndE ns i).l.map (·.nm)).Nodup:=by
     unfold aH bd at hrt
     simp only [Bool.and_eq_true] at hrt
     have h1:=hrt.2.1.2
     rw [if_pos hp] at h1
     simp only [Bool.and_eq_true,decide_eq_true_eq] at h1
     exact h1.2.2
    have hnm:∀ f∈(ndE ns i).l,aM f.nm=true:=fun f hf=>by
     have:=hpt f hf
     unfold cW at this
     rw [if_pos h,Bool.and_eq_true] at this
     exact this.1
    have hk:=hkid (.inl h)
    rw [tP h] at hk
    have hk2:∀ u∈(ndE ns i).l.map (fun f=>vtE ns f.to.toNat),u.may=true∧u.wf∧u.fine:=fun u hu=>by
     obtain ⟨f,hf,rfl⟩:=List.mem_map.1 hu
     exact hk f.to (List.mem_map_of_mem hf)
    refine ⟨?_,?_,?_⟩
    ·rw [VT.may,nI]
     have e1:((ndE ns i).l.map fun f=>vtE ns f.to.toNat).all VT.may=true:=List.all_eq_true.2 fun u hu=>(hk2 u hu).1
     have e2:((ndE ns i).l.map (·.nm)).all aM=true:=List.all_eq_true.2 fun x hx=>by
      obtain ⟨f,hf,rfl⟩:=List.mem_map.1 hx
      exact hnm f hf
     rw [e1,e2,decide_eq_true hnd]
     simp [eC]
    ·rw [VT.wf,jI]
     refine ⟨⟨by simp,by rw [List.length_map];omega,Nat.zero_le _,fun x hx=>?_⟩,fun u hu=>(hk2 u hu).2.1⟩
     obtain ⟨f,hf,rfl⟩:=List.mem_map.1 hx
     have:=iw (hnm f hf)
     omega
    ·rw [VT.fine,ff]
     exact ⟨⟨z0,Nat.zero_le _⟩,fun u hu=>(hk2 u hu).2.2⟩
def zeroV:D:=.agg [i64 0,i64 0,.str [],.nils]
def ofR (ns:List EN):AV :=
 if eX ns=0 then (if cq (trE ns (ns.length-1)) then .tup [.d (vtE ns (ns.length-1)).dat,.d (i64 0)] else .tup [.d zeroV,.d (i64 2)]) else .tup [.d zeroV,.d (i64 (eX ns))]
theorem zu {G} (ns:List EN) (hs:∀ n∈ns,eu BIG n) (hN:ns.length≤1000000):HP Tryz.prog G 13 [exD ns] (fun r=>r=ofR ns):=by
 have hm:=uO (G:=G) ns hs hN
 by_cases h0:eX ns=0
 ·have ht:=Dt h0
  have hp:=ht.pos
  have hv:=Hb (G:=G) ht h0
  unfold ofR
  rw [if_pos h0]
  rw [h0] at hm
  have hn:=fun h=>Ap (G:=G) ht ns.length (ns.length-1) (by omega) (by omega) h
  rw [show ((ns.length-1:Nat):Int)=(ns.length:Int)-1 by omega,av] at hn
  rw [av]
  generalize cq (trE ns (ns.length-1))=b at hv hn ⊢
  generalize vtE ns (ns.length-1)=V at hn ⊢
  unfold exD zeroV at *
  refine aL Tryz.func13 rfl (by decide +kernel) (by simp [Tryz.ntmps13]) (veil fun E=>?_)
  simp only [go_sem]
  refine ab E hm rfl rfl (by simp) ?_
  rintro _ rfl
  simp only [go_sem]
  refine ab E hv rfl rfl (by simp) ?_
  rintro _ rfl
  cases b with
  | false =>
    simp only [go_sem]
    refine ⟨[],?_⟩
    simp only [go_sem]
  | true =>
    simp only [go_sem]
    rw [ai (n:=(ns.length:Int)-1) ⟨by omega,by omega⟩]
    refine ab E (hn rfl) rfl rfl (by simp) ?_
    rintro _ rfl
    simp only [go_sem]
    refine ⟨[],?_⟩
    simp only [go_sem]
 ·unfold ofR
  rw [if_neg h0]
  generalize eX ns=f at h0 hm ⊢
  unfold exD zeroV at *
  refine aL Tryz.func13 rfl (by decide +kernel) (by simp [Tryz.ntmps13]) (veil fun E=>?_)
  simp only [go_sem]
  refine ab E hm rfl rfl (by simp) ?_
  rintro _ rfl
  simp only [go_sem]
  refine ah E (fun g=>?_) (fun g=>?_)<;>simp only [go_sem]
  ·refine ⟨[],?_⟩
   simp only [go_sem]
  ·exact absurd h0 g
theorem FN {G} (ns:List EN) (hs:∀ n∈ns,eu BIG n) (hN:ns.length≤1000000):HP Tryz.prog G 14 [exD ns] (fun r=>r=ofR ns):=by
 have hm:=GD (G:=G) ns hs hN
 by_cases h0:eX ns=0
 ·have ht:=Dt h0
  have hp:=ht.pos
  have hv:=An (G:=G) (DP ht) ns.length (ns.length-1) (by omega) (by omega)
  unfold ofR
  rw [if_pos h0]
  rw [h0] at hm
  have hn:=fun h=>CJ (G:=G) ht ns.length (ns.length-1) (by omega) (by omega) h
  rw [show ((ns.length-1:Nat):Int)=(ns.length:Int)-1 by omega,av] at hn
  rw [show ((ns.length-1:Nat):Int)=(ns.length:Int)-1 by omega] at hv
  rw [av]
  generalize cq (trE ns (ns.length-1))=b at hv hn ⊢
  generalize vtE ns (ns.length-1)=V at hn ⊢
  unfold exD zeroV at *
  refine aL Tryz.func14 rfl (by decide +kernel) (by simp [Tryz.ntmps14]) (veil fun E=>?_)
  simp only [go_sem]
  refine ab E hm rfl rfl (by simp) ?_
  rintro _ rfl
  simp only [go_sem]
  rw [ai (n:=(ns.length:Int)-1) ⟨by omega,by omega⟩]
  refine ab E hv rfl rfl (by simp) ?_
  rintro _ rfl
  cases b with
  | false =>
    simp only [go_sem]
    refine ⟨[],?_⟩
    simp only [go_sem]
  | true =>
    simp only [go_sem]
    rw [ai (n:=(ns.length:Int)-1) ⟨by omega,by omega⟩]
    refine ab E (hn rfl) rfl rfl (by simp) ?_
    rintro _ rfl
    simp only [go_sem]
    refine ⟨[],?_⟩
    simp only [go_sem]
 ·unfold ofR
  rw [if_neg h0]
  generalize eX ns=f at h0 hm ⊢
  unfold exD zeroV at *
  refine aL Tryz.func14 rfl (by decide +kernel) (by simp [Tryz.ntmps14]) (veil fun E=>?_)
  simp only [go_sem]
  refine ab E hm rfl rfl (by simp) ?_
  rintro _ rfl
  simp only [go_sem]
  refine ah E (fun g=>?_) (fun g=>?_)<;>simp only [go_sem]
  ·refine ⟨[],?_⟩
   simp only [go_sem]
  ·exact absurd h0 g
def exV:List UInt8:=[123,97,32,61,32,49,44,32,98,32,61,32,65,32,40,66,32,116,114,117,101,41,125]
theorem yU:(cP exV).2.2=0∧(cP exV).2.1=0∧eX (cP exV).1=0∧cq (trE (cP exV).1 ((cP exV).1.length-1))=true:=by
 decide +kernel
theorem DK:(vtE (cP exV).1 ((cP exV).1.length-1)).txt=exV∧(vtE (cP exV).1 ((cP exV).1.length-1)).sz=5∧((cP exV).1.all fun n=>decide (-9223372036854775808≤n.n) && decide (n.n≤9223372036854775807))=true:=by
 decide +kernel
theorem AS {tt:TypeId} {fz:Nat × Nat}:HP Tryz.prog (GT tt fz) 17 [] (fun r=>r=.d (.bool true)):=by
 obtain ⟨h1,h2,h3,h4⟩:=yU
 obtain ⟨g1,g2,g3⟩:=DK
 have c1:=Gu (G:=GT tt fz) exV (by decide)
 unfold fS at c1
 rw [if_pos h1,h1,h2] at c1
 generalize (cP exV).1=ns at *
 have ht:=Dt h3
 have hr:∀ n∈ns,inR n.n:=fun n hn=>by
  have:=List.all_eq_true.1 g3 n hn
  simp only [Bool.and_eq_true,decide_eq_true_eq] at this
  exact this
 have hp:=ht.pos
 obtain ⟨k1,k2,k3⟩:=qt ht hr ns.length (ns.length-1) (by omega) (by omega) h4
 have c2:=zu (G:=GT tt fz) ns (sG ht) (by have:=ht.few;omega)
 unfold ofR at c2
 rw [if_pos h3,if_pos h4] at c2
 generalize vtE ns (ns.length-1)=V at *
 have c3:=ux (tt:=tt) (fz:=fz) V k2 k3 (fun _=>by rw [g1];decide)
 have c4:=Hg (G:=GT tt fz) V k2 (by rw [g2];decide)
 have c5:=fZ (G:=GT tt fz) V.hg V (Nat.le_refl _) k2
 rw [k1,if_pos rfl,g1] at c3
 rw [k1,if_pos rfl,g2] at c4
 rw [k1] at c5
 rw [av] at *
 unfold exD exV at *
 refine aj Tryz.func17 rfl (by decide +kernel) (by simp [Tryz.ntmps17]) (veil fun E=>?_)
 simp only [go_sem]
 refine ab E (c1) rfl rfl (by simp) ?_
 rintro _ rfl
 simp only [go_sem]
 refine ab E (c2) rfl rfl (by simp) ?_
 rintro _ rfl
 simp only [go_sem]
 refine ab E (c3) rfl rfl (by simp) ?_
 rintro _ rfl
 simp only [go_sem]
 refine ab E (c4) rfl rfl (by simp) ?_
 rintro _ rfl
 simp only [go_sem]
 refine ab E (c5) rfl rfl (by simp) ?_
 rintro _ rfl
 simp only [go_sem]
end Go.Proofs.YtejpnabbmgpmaaaGreatDoor

namespace Go.Proofs.YtejpnabbmgpmaaaGreatDoor
open Go.Ab
theorem vD:∀ {xs:List D} {ns:List EN},RwL xs ns→(∀ x∈xs,okW (some 9) x∧oks [.int .i64,.int .i64,.int .i64,.int .i64,.int .i64,.str,.str,.sl (some 3) [.str,.str,.int .i64],.int .i64] x.cells)→∀ n∈ns,inR n.n
 | [],[],_,_,n,hn=>by cases hn
 | x::xs,m::ns,h,hx,n,hn=>by
   rcases List.mem_cons.1 hn with rfl | hn
   ·obtain ⟨F,rfl,_⟩:=h.1
    have h2:=(hx _ List.mem_cons_self).2
    exact h2.2.2.2.2.1.2
   ·exact vD h.2 (fun y hy=>hx y (List.mem_cons_of_mem _ hy)) n hn
 | [],_::_,h,_,_,_=>h.elim
 | _::_,[],h,_,_,_=>h.elim
theorem G1 {ds:List D} (h:oks Il ds):∃ ns,Wk (.agg ds) (exD ns)∧ns.length≤maxLen∧(∀ n∈ns,InN n)∧∀ n∈ns,inR n.n:=by
 match ds,h with
 | [L],h =>
   obtain ⟨h1,_⟩:=h
   cases L with
   | nils =>
     refine ⟨[],Wk.agg rfl (by simp [D.scal]) fun i a b ha hb=>?_,by simp,by simp,by simp⟩
     match i,ha,hb with
     | 0,ha,hb=>cases ha;cases hb;exact .nils _
   | sl w xs =>
     obtain ⟨rfl,g1,g2⟩:=h1
     obtain ⟨ns,k1,k2⟩:=AY g2
     exact ⟨ns,HN k1,by rw [← k1.len];exact g1,k2,vD k1 g2⟩
   | _=>exact h1.elim
end Go.Proofs.YtejpnabbmgpmaaaGreatDoor

namespace Go.Proofs.YtejpnabbmgpmaaaGreatDoor
open Go.Ab
theorem mC:∀ (d:Nat) (v:VT),v.inn→(bL d v).fine
 | 0,v,_=>by
   rw [jk,VT.fine,VT.fines]
   exact ⟨⟨⟨by decide,by decide⟩,Nat.zero_le _⟩,trivial⟩
 | d+1,v,h=>by
   have hi:=h.of
   cases v with
   | mk k n s nms vs =>
     rw [bL,VT.fine,ff]
     have h1:inR n:=hi.n
     refine ⟨⟨h1,by rw [List.length_take];omega⟩,fun u hu=>?_⟩
     obtain ⟨q,hq,rfl⟩:=List.mem_map.1 hu
     exact mC d q (hi.kids q (List.mem_of_mem_take hq))
theorem yO {n:Int} (h:inR n):(eH n).length≤20:=by
 have h1:-9223372036854775808≤n∧n≤9223372036854775807:=h
 unfold eH
 split
 ·have:=(oH (BL n.natAbs (by omega))).2
  rw [List.length_cons]
  omega
 ·have:=(oH (BL n.toNat (by omega))).2
  omega
theorem FG (s:List UInt8):(quS s).length≤4*s.length+2:=by
 have:(s.flatMap quC).length≤4*s.length:=by
  induction s with
  | nil=>exact Nat.le_refl _
  | cons c s ih =>
    have:=wP c
    rw [List.flatMap_cons,List.length_append,List.length_cons]
    omega
 unfold quS
 rw [List.length_cons,List.length_append,List.length_singleton]
 omega
theorem wu {B:Nat}:∀ l:List (List UInt8),(∀ x∈l,x.length≤B)→cR l≤l.length*B
 | [],_=>Nat.zero_le _
 | a::l,h=>by
   have h1:=wu l fun x hx=>h x (List.mem_cons_of_mem _ hx)
   have h2:=h a List.mem_cons_self
   unfold cR at *
   rw [List.map_cons,List.sum_cons,List.length_cons,Nat.add_mul]
   omega
theorem Eh (l:List (List UInt8)):(cU cM l).length≤cR l+2*l.length:=by
 cases l with
 | nil=>exact Nat.zero_le _
 | cons a r =>
   have:=l9 r
   unfold cR at *
   rw [cU,List.length_append,List.map_cons,List.sum_cons,List.length_cons]
   omega
theorem pG:∀ (d:Nat) (v:VT),v.inn→(bL d v).may=true→(bL d v).txt.length≤1400*7 ^ d
 | 0,v,_,_=>by
   rw [jk]
   decide +kernel
 | d+1,v,h,hm=>by
   have hi:=h.of
   have hw:=pI (d+1) v h
   have B:=fm hw.ok hm
   have hk:=B.k
   obtain ⟨g1,g2,g3,g4,g5⟩:=zl d v
   have hp:1≤7 ^ d:=Nat.pow_pos (by decide)
   rw [Nat.pow_succ]
   have hkid:∀ u∈(bL (d+1) v).vs,u.txt.length≤1400*7 ^ d:=fun u hu=>by
    have hmu:=iy hm hu
    rw [g5] at hu
    obtain ⟨q,hq,rfl⟩:=List.mem_map.1 hu
    exact pG d q (hi.kids q (List.mem_of_mem_take hq)) hmu
   have hl6:(bL (d+1) v).vs.length≤6:=by rw [g5,List.length_map,List.length_take];omega
   have hs3:(bL (d+1) v).s.length≤300:=by rw [g3,List.length_take];omega
   have hn:inR (bL (d+1) v).n:=by rw [g2];exact hi.n
   have hok:=hw.ok
   generalize bL (d+1) v=w at *
   generalize 7 ^ d=P at *
   rcases (by omega:w.k=1∨w.k=2∨w.k=3∨w.k=4∨w.k=5∨w.k=6) with e | e | e | e | e | e
   ·rw [BK e]
    have:=yO hn
    omega
   ·rw [Ao e]
    split
    ·show 4≤_;omega
    ·show 5≤_;omega
   ·rw [z7 e]
    have:=FG w.s
    omega
   ·rw [Gn e]
    show 5≤_;omega
   ·rw [xA e,List.length_cons,List.length_append,List.length_singleton]
    have h1:=Eh (dG w.nms w.vs)
    have h2:=wu (B:=23+1400*P) (dG w.nms w.vs) (wx _ _ fun nm hnm t ht=>by
     have h3:=iw (List.all_eq_true.1 (B.r e) nm hnm)
     obtain ⟨u,hu,rfl⟩:=List.mem_map.1 ht
     have h4:=hkid u hu
     simp only [List.length_append,show eqB.length=3 from rfl]
     omega)
    have h5:=vX hok
    have h6:(dG w.nms w.vs).length*(23+1400*P)≤6*(23+1400*P):=Nat.mul_le_mul_right _ (by omega)
    omega
   ·obtain ⟨t1,_,u,hu⟩:=B.t e
    have h1:=hkid u (by rw [hu];exact List.mem_cons_self)
    have h2:=qZ t1
    rw [xF e hu]
    split<;>simp only [List.length_append,List.length_cons,List.length_nil]<;>omega
theorem Ht {tt:TypeId} {fz:Nat × Nat} (x y:VT) (hx:x.inn) (hy:y.inn):HP Tryz.prog (GT tt fz) 6 [x.dat,y.dat] (fun r=>r=.d (.bool true)):=by
 have w0:=AS (tt:=tt) (fz:=fz)
 have c1:=vg (G:=GT tt fz) 5 x hx (by decide)
 have c2:=vg (G:=GT tt fz) 5 y hy (by decide)
 have wa:=pI 5 x hx
 have wb:=pI 5 y hy
 have fa:=mC 5 x hx
 have fb:=mC 5 y hy
 have la:=pG 5 x hx
 have lb:=pG 5 y hy
 generalize bL 5 x=a at *
 generalize bL 5 y=b at *
 have m1:=fZ (G:=GT tt fz) a.hg a (Nat.le_refl _) wa
 have m2:=fZ (G:=GT tt fz) b.hg b (Nat.le_refl _) wb
 have s1:=AP (G:=GT tt fz) a b wa wb
 have s2:=AP (G:=GT tt fz) b a wb wa
 have p1:=ux (tt:=tt) (fz:=fz) a wa fa (fun h=>Nat.le_trans (la h) (by decide))
 have p2:=ux (tt:=tt) (fz:=fz) b wb fb (fun h=>Nat.le_trans (lb h) (by decide))
 have q1:=uJ (G:=GT tt fz) a.hg a (Nat.le_refl _) wa
 have q2:=uJ (G:=GT tt fz) b.hg b (Nat.le_refl _) wb
 have e1:a.eq b=true→a.txt=b.txt∧b.eq a=true:=fun h=>by
  have:=(eq_iff a b).1 h
  subst this
  exact ⟨rfl,h⟩
 have e2:a.may=true→b.may=true→a.eq b=false→a.pl=true→b.pl=true→(a.txt == b.txt)=false:=fun h1 h2 h3 h4 h5=>by
  rw [beq_eq_false_iff_ne]
  intro h
  have:=(eq_iff a b).2 (Da wa wb h1 h2 h4 h5 h)
  rw [h3] at this
  cases this
 generalize a.may=ka at *
 generalize b.may=kb at *
 generalize a.eq b=ke at *
 generalize b.eq a=ke2 at *
 generalize a.pl=pa at *
 generalize b.pl=pb at *
 generalize a.txt=T at *
 generalize b.txt=U at *
 simp only [av] at *
 clear wa wb fa fb la lb
 refine aj Tryz.func6 rfl (by decide +kernel) (by simp [Tryz.ntmps6]) (veil fun E=>?_)
 simp only [go_sem]
 refine ab E (w0) rfl rfl (by simp) ?_
 rintro _ rfl
 simp only [go_sem]
 refine ak mixed E fun X=>?_
 simp only [go_sem]
 refine bp X c1 rfl rfl (by simp) ?_
 simp only [go_sem]
 refine bp X c2 rfl rfl (by simp) ?_
 simp only [go_sem]
 refine ⟨by decide +kernel,?_⟩
 refine ab E (m1) rfl rfl (by simp) ?_
 rintro _ rfl
 simp only [go_sem]
 cases ka with
 | false =>
   simp only [go_sem]
   repeat (first
    | (apply br E;(· simp only [go_sem]);(· intro h;(try simp only [bq] at h);simp only [↓h,go_sem];rfl);simp only [go_sem])
    | (apply aK E;(· simp only [go_sem]);(· intro h;(try simp only [bq] at h);simp only [↓h,go_sem];rfl);(· intro h;(try simp only [bq] at h);simp only [↓h,go_sem];rfl);simp only [go_sem])
    | (apply aI E;(· simp only [go_sem]);(· rfl);(· intro h h';(try simp only [bq] at h h');simp only [↓h,↓h',go_sem];rfl);simp only [go_sem])
    | (apply aw E;(· simp only [go_sem]);(· rfl);(· intro h h';(try simp only [bq] at h h');simp only [↓h,↓h',go_sem];rfl);(· intro h h';(try simp only [bq] at h h');simp only [↓h,↓h',go_sem];rfl);simp only [go_sem])
    | (apply bo E;(· decide);simp only [go_sem]))
   refine ab E (s1) rfl rfl (by simp) ?_
   rintro _ rfl
   simp only [go_sem]
 | true =>
   simp only [go_sem]
   refine ab E (m2) rfl rfl (by simp) ?_
   rintro _ rfl
   simp only [go_sem]
   cases kb with
   | false =>
     simp only [go_sem]
     repeat (first
      | (apply br E;(· simp only [go_sem]);(· intro h;(try simp only [bq] at h);simp only [↓h,go_sem];rfl);simp only [go_sem])
      | (apply aK E;(· simp only [go_sem]);(· intro h;(try simp only [bq] at h);simp only [↓h,go_sem];rfl);(· intro h;(try simp only [bq] at h);simp only [↓h,go_sem];rfl);simp only [go_sem])
      | (apply aI E;(· simp only [go_sem]);(· rfl);(· intro h h';(try simp only [bq] at h h');simp only [↓h,↓h',go_sem];rfl);simp only [go_sem])
      | (apply aw E;(· simp only [go_sem]);(· rfl);(· intro h h';(try simp only [bq] at h h');simp only [↓h,↓h',go_sem];rfl);(· intro h h';(try simp only [bq] at h h');simp only [↓h,↓h',go_sem];rfl);simp only [go_sem])
      | (apply bo E;(· decide);simp only [go_sem]))
     refine ab E (s1) rfl rfl (by simp) ?_
     rintro _ rfl
     simp only [go_sem]
   | true =>
     simp only [go_sem]
     refine ab E (s1) rfl rfl (by simp) ?_
     rintro _ rfl
     simp only [go_sem]
     cases ke with
     | true =>
       obtain ⟨h1,h2⟩:=e1 rfl
       subst h1 h2
       simp only [go_sem]
       refine ak mixed E fun X=>?_
       simp only [go_sem]
       refine bp X p1 rfl rfl (by simp) ?_
       simp only [go_sem]
       refine bp X p2 rfl rfl (by simp) ?_
       simp only [go_sem]
       refine bp X s2 rfl rfl (by simp) ?_
       simp only [go_sem]
       decide +kernel
     | false =>
       have e2':=e2 rfl rfl rfl
       simp only [go_sem]
       refine ak mixed E fun X=>?_
       simp only [go_sem]
       refine bp X q1 rfl rfl (by simp) ?_
       cases pa with
       | false =>
         simp only [go_sem]
         decide +kernel
       | true =>
         simp only [go_sem]
         refine bp X q2 rfl rfl (by simp) ?_
         cases pb with
         | false =>
           simp only [go_sem]
           decide +kernel
         | true =>
           have e3:=e2' rfl rfl
           simp only [go_sem]
           refine bp X p1 rfl rfl (by simp) ?_
           simp only [go_sem]
           refine bp X p2 rfl rfl (by simp) ?_
           simp only [go_sem]
           refine ⟨by decide +kernel,?_⟩
           rw [e3];rfl
def noD:VT:=.mk 0 0 [] [] []
theorem zero_le:DLe zeroV noD.dat:=by
 unfold zeroV noD
 rw [av]
 refine .agg _ _ rfl (by simp [D.scal]) fun i x y hx hy=>?_
 rcases i with _ | _ | _ | _ | i
 ·cases hx;cases hy;exact .inl rfl
 ·cases hx;cases hy;exact .inl rfl
 ·cases hx;cases hy;exact .inl rfl
 ·cases hx;cases hy;exact .inr ⟨some 5,rfl,rfl⟩
 ·simp at hx
theorem s6 {G}:HP Tryz.prog G 15 [zeroV,zeroV] (fun r=>r=.d (.bool true)):=by
 have h:=uo (G:=G) noD.hg noD noD (Nat.le_refl _) (by unfold noD;rw [VT.wf,VT.wfs];exact ⟨⟨rfl,Nat.zero_le _,Nat.zero_le _,fun _ h=>by cases h⟩,trivial⟩) (by unfold noD;rw [VT.wf,VT.wfs];exact ⟨⟨rfl,Nat.zero_le _,Nat.zero_le _,fun _ h=>by cases h⟩,trivial⟩)
 rw [(eq_iff noD noD).2 rfl] at h
 refine HP.le (args':=[noD.dat,noD.dat]) rfl (fun i x y hx hy=>?_) h
 rcases i with _ | _ | i
 ·cases hx;cases hy;exact zero_le
 ·cases hx;cases hy;exact zero_le
 ·simp at hx
theorem Ho {tt:TypeId} {fz:Nat × Nat} (ns:List EN) (hl:ns.length≤maxLen) (hn:∀ n∈ns,InN n) (hr:∀ n∈ns,inR n.n):HP Tryz.prog (GT tt fz) 4 [exD ns] (fun r=>r=.d (.bool true)):=by
 obtain ⟨N,hN⟩:∃ N,N=lj ns:=⟨_,rfl⟩
 have hin:InF N:=by rw [hN];exact F5 hn
 have w0:=AS (tt:=tt) (fz:=fz)
 have c0:=Fq (G:=GT tt fz) ns (Nat.le_trans hl ku) (fun n h=>Nat.le_trans (hn n h).2.2.1 ku)
 have c1:=B9 (G:=GT tt fz) hin (by rw [hN,CX])
 rw [← hN] at c0
 have hs:∀ n∈N,eu BIG n:=fun n h=>(hin.2 n h).1
 have hlN:N.length≤1000000:=by have:=hin.1;omega
 have c2:=zu (G:=GT tt fz) N hs hlN
 have c3:=FN (G:=GT tt fz) N hs hlN
 have hrN:∀ n∈N,inR n.n:=fun n h=>by
  rw [hN] at h
  unfold lj at h
  obtain ⟨m,hm,rfl⟩:=List.mem_map.1 h
  exact hr m (List.mem_of_mem_take hm)
 unfold ofR at c2 c3
 by_cases h0:eX N=0
 ·have ht:=Dt h0
  have hp:=ht.pos
  rw [if_pos h0] at c2 c3
  cases hv:cq (trE N (N.length-1)) with
  | true =>
    rw [if_pos hv] at c2 c3
    obtain ⟨k1,k2,_⟩:=qt ht hrN N.length (N.length-1) (by omega) (by omega) hv
    generalize vtE N (N.length-1)=V at *
    have c4:=uo (G:=GT tt fz) V.hg V V (Nat.le_refl _) k2 k2
    rw [(eq_iff V V).2 rfl] at c4
    have c5:=fZ (G:=GT tt fz) V.hg V (Nat.le_refl _) k2
    rw [k1] at c5
    clear k1 k2 hv
    try simp only [av] at *
    unfold exD at *
    refine aj Tryz.func4 rfl (by decide +kernel) (by simp [Tryz.ntmps4]) (veil fun E=>?_)
    simp only [go_sem]
    refine ab E (c0) rfl rfl (by simp) ?_
    rintro _ rfl
    simp only [go_sem]
    refine ab E (c1) rfl rfl (by simp) ?_
    rintro _ rfl
    simp only [go_sem]
    refine ab E (c2) rfl rfl (by simp) ?_
    rintro _ rfl
    simp only [go_sem]
    refine ab E (c3) rfl rfl (by simp) ?_
    rintro _ rfl
    simp only [go_sem]
    refine ab E (c4) rfl rfl (by simp) ?_
    rintro _ rfl
    simp only [go_sem]
    refine ab E (c5) rfl rfl (by simp) ?_
    rintro _ rfl
    simp only [go_sem]
    refine ab E (w0) rfl rfl (by simp) ?_
    rintro _ rfl
    simp only [go_sem]
  | false =>
    rw [if_neg (by rw [hv];decide)] at c2 c3
    have c4:=s6 (G:=GT tt fz)
    unfold zeroV at c2 c3 c4
    try simp only [av] at *
    unfold exD at *
    refine aj Tryz.func4 rfl (by decide +kernel) (by simp [Tryz.ntmps4]) (veil fun E=>?_)
    simp only [go_sem]
    refine ab E (c0) rfl rfl (by simp) ?_
    rintro _ rfl
    simp only [go_sem]
    refine ab E (c1) rfl rfl (by simp) ?_
    rintro _ rfl
    simp only [go_sem]
    refine ab E (c2) rfl rfl (by simp) ?_
    rintro _ rfl
    simp only [go_sem]
    refine ab E (c3) rfl rfl (by simp) ?_
    rintro _ rfl
    simp only [go_sem]
    refine ab E (c4) rfl rfl (by simp) ?_
    rintro _ rfl
    simp only [go_sem]
    refine ab E (w0) rfl rfl (by simp) ?_
    rintro _ rfl
    simp only [go_sem]
 ·rw [if_neg h0] at c2 c3
  have c4:=s6 (G:=GT tt fz)
  unfold zeroV at c2 c3 c4
  generalize eX N=f at *
  try simp only [av] at *
  unfold exD at *
  refine aj Tryz.func4 rfl (by decide +kernel) (by simp [Tryz.ntmps4]) (veil fun E=>?_)
  simp only [go_sem]
  refine ab E (c0) rfl rfl (by simp) ?_
  rintro _ rfl
  simp only [go_sem]
  refine ab E (c1) rfl rfl (by simp) ?_
  rintro _ rfl
  simp only [go_sem]
  refine ab E (c2) rfl rfl (by simp) ?_
  rintro _ rfl
  simp only [go_sem]
  refine ab E (c3) rfl rfl (by simp) ?_
  rintro _ rfl
  simp only [go_sem]
  refine ab E (c4) rfl rfl (by simp) ?_
  rintro _ rfl
  simp only [go_sem]
  refine ar E (fun g=>?_) (fun g=>?_)<;>simp only [go_sem]
  ·refine ab E (w0) rfl rfl (by simp) ?_
   rintro _ rfl
   simp only [go_sem]
  ·exact absurd h0 g
theorem Hz {tt:TypeId} {fz:Nat × Nat} {ds:List D} {ns:List EN} (hw:Wk (.agg ds) (exD ns)) (hl:ns.length≤maxLen) (hn:∀ n∈ns,InN n) (hr:∀ n∈ns,inR n.n):HP Tryz.prog (GT tt fz) 4 [.agg ds] (fun r=>r=.d (.bool true)) :=
 (Ho ns hl hn hr).wk ⟨hw,trivial⟩
end Go.Proofs.YtejpnabbmgpmaaaGreatDoor

namespace Go.Proofs.YtejpnabbmgpmaaaGreatDoor
open Go.Ab
open Go.ChangeShapes Go.WideShapes Go.ChangeAt Go.RowKit
theorem Tryz.own:ownKnob Tryz.prog.godebug=none:=by kernel_rfl
def iK:List (String × DataW Unit):=[("math/bits.deBruijn32tab",Rows.laid_math_bits_deBruijn32tab),("math/bits.deBruijn64tab",Rows.laid_math_bits_deBruijn64tab),("internal/strconv.uint64pow10",Rows.laid_internal_strconv_uint64pow10)]
theorem jz {P:Program} {x:String × DataW Unit} {r:List (String × DataW Unit)} {W:World} (h:laidMet P (x::r) W):laidMet P r W:=by
 obtain ⟨ps,⟨g,t,cs,fuel,p,q,h1,h2,h3,h4,h5,rfl⟩,hnd,hall⟩:=h
 exact ⟨q,h5,(List.nodup_append.1 hnd).2.1,fun b off hb=>hall b off (List.mem_append_right _ hb)⟩
theorem Gg:(Tryz.prog.globals[0]?).map (·.type)=some 174:=by kernel_rfl
theorem kZ {W:World} (h:laidMetH Tryz.prog iK W):∃ t fz,∀ q∈GT t fz,W.heap[q.1]?=some q.2:=by
 have h1:laidMet Tryz.prog iK W:=h
 have h2:=Lib.tabIs_of_head (k:=.u64) (zs:=Lib.pow10Tab) (show Tryz.prog.globalNamed "internal/strconv.uint64pow10" = some 0 by kernel_rfl) Gg (show Tryz.prog.underlying 174=some (.array 20 163) by kernel_rfl) (show Tryz.prog.underlying 163=some (.int .u64) by kernel_rfl) (by kernel_rfl) (by kernel_rfl) (jz (jz h1))
 unfold Lib.TabIs World.var? at h2
 rw [show Tryz.prog.globalNamed "internal/strconv.uint64pow10" = some 0 by kernel_rfl] at h2
 simp only [Option.bind_some] at h2
 split at h2
 ·rename_i cs t fz hh
  simp only [Option.some.injEq] at h2
  subst h2
  refine ⟨t,fz,fun q hq=>?_⟩
  obtain rfl:=List.mem_singleton.1 hq
  exact hh
 ·cases h2
noncomputable def kJ (os:Os):World:=World.laidAll Tryz.prog os iK
theorem iG (os:Os) (args:Array Value):laidMetH Tryz.prog iK ((kJ os).forCall (fun _ _=>0) ⟨#[],args,[]⟩).memory :=
 laidMetH_of_parts (laidMet_laidAll args (by kernel_rfl) (by kernel_rfl)) (by kernel_rfl)
theorem Tryz.laidOut:laidOutB Tryz.prog=true:=by kernel_rfl
theorem mg {H:Type} {enc:TypeId × Value→H} {t:TypeId} (hr:Tryz.prog.readableRec t=true) (hrow:t<Tryz.prog.types.size) {W W':World} {v:Value} {d:DataW H} {ps:List MemPlace}
  (h:DataW.Trod enc Tryz.prog W 0 (fun _=>true) true t v d ps) (he:Ext W W') (hlt:∀ x∈ps,x.block<W.heap.size) :
  DataW.Trod enc Tryz.prog W' 0 (fun b=>decide (b<W.heap.size)) true t v d ps :=
 WideElems.Trod_stays Tryz.laidOut hr hrow h (fun x hx=>by
  have h1:=he.old x.block (hlt x hx)
  cases x with
  | cell b off=>show W'.cell? _=W.cell? _;unfold World.cell?;rw [show W'.heap[b]?=W.heap[b]? from h1]
  | map b=>exact h1) (fun x hx=>by simpa using hlt x hx)
end Go.Proofs.YtejpnabbmgpmaaaGreatDoor

namespace Go.Proofs.YtejpnabbmgpmaaaGreatDoor
open Go.Ab
open Go.ChangeShapes Go.WideShapes Go.ChangeAt Go.RowKit
theorem vi:(Rows.valueOfRow.wf (OpenSpec.ofChange Rows.valueOfSpec))=true:=by kernel_rfl
theorem uC:(Tryz.f4.params.all (Tryz.prog.readableRec ·))=true:=by kernel_rfl
theorem u3:(namedTie Tryz.prog Rows.valueOfRow.named Rows.valueOfSpec.vars)=true:=by kernel_rfl
theorem vp:((Rows.valueOfRow.stops == []))=true:=by kernel_rfl
theorem u9:((Rows.valueOfRow.knobs == []))=true:=by kernel_rfl
theorem tD:((Rows.valueOfRow.inPlace == Tryz.prog.inPlace 4))=true:=by kernel_rfl
theorem sE:((Rows.valueOfRow.unfollowed == Tryz.prog.unfollowed 4))=true:=by kernel_rfl
theorem sF:((Rows.valueOfRow.recurses == Tryz.prog.recurses 4))=true:=by kernel_rfl
theorem tH:((Rows.valueOfRow.named == Tryz.prog.varsNamed 4))=true:=by kernel_rfl
theorem sw:((Rows.valueOfRow.maps == (Tryz.f4.params.toList++Rows.valueOfSpec.plain.varTypes Tryz.prog).any (Tryz.prog.mapsRec ·)))=true:=by kernel_rfl
theorem sj:((Rows.valueOfRow.ifaces == (Tryz.f4.params.toList++Rows.valueOfSpec.plain.varTypes Tryz.prog).any (Tryz.prog.ifacesRec ·)))=true:=by kernel_rfl
theorem r8:((Rows.valueOfRow.mapsOut == Tryz.prog.mapsAmong Tryz.f4.resultTypes.toList))=true:=by kernel_rfl
theorem tV:((Rows.valueOfRow.loops == (Tryz.f4.params.toList++Rows.valueOfSpec.plain.varTypes Tryz.prog).any (Tryz.prog.loopsFrom ·)))=true:=by kernel_rfl
theorem rW:((Rows.valueOfRow.wideKeys == (Tryz.f4.params.toList++Rows.valueOfSpec.plain.varTypes Tryz.prog++Tryz.f4.resultTypes.toList).any (Tryz.prog.wideKeysFrom ·)))=true:=by kernel_rfl
theorem ta:(Rows.valueOfSpec.vars.all (Tryz.prog.varReadable ·))=true:=by kernel_rfl
theorem rp:(Tryz.f4.resultTypes.all (fun t=>Tryz.prog.readableRec t && decide (t<Tryz.prog.types.size)))=true:=by kernel_rfl
theorem sZ:((Rows.valueOfRow.ifacesOut == Tryz.f4.resultTypes.toList.any (Tryz.prog.ifacesRec ·)))=true:=by kernel_rfl
theorem rj:((Rows.valueOfRow.loopsOut == Tryz.f4.resultTypes.toList.any (Tryz.prog.loopsFrom ·)))=true:=by kernel_rfl
theorem tx:((Rows.valueOfRow.plainKeys == Tryz.prog.plainKeys))=true:=by kernel_rfl
theorem sS:(Rows.valueOfRow.shortTexts.isNone)=true:=by kernel_rfl
theorem tQ:((Rows.valueOfRow.lifted == Tryz.prog.liftsFinal))=true:=by kernel_rfl
theorem ub:((Tryz.prog.make == some Rows.valueOfRow.make))=true:=by kernel_rfl
theorem tC:((Rows.valueOfRow.kinds == (if Rows.valueOfRow.domain.isEmpty then [] else Tryz.f4.params.toList.map fun t=>match Tryz.prog.underlying t with | some (.int k)=>some k | _=>none)))=true:=by kernel_rfl
theorem tl:((Rows.valueOfRow.pinned == Rows.valueOfRow.pinnedBy))=true:=by kernel_rfl
theorem sq:((Rows.valueOfRow.veiled == (Tryz.f4.params.toList++Rows.valueOfSpec.plain.varTypes Tryz.prog++Tryz.f4.resultTypes.toList).any (Tryz.prog.veiledRec ·)))=true:=by kernel_rfl
theorem tz:(Rows.valueOfRow.veiledFits Tryz.prog Tryz.f4.params.toList (Tryz.f4.params.toList++Rows.valueOfSpec.plain.varTypes Tryz.prog++Tryz.f4.resultTypes.toList))=true:=by kernel_rfl
end Go.Proofs.YtejpnabbmgpmaaaGreatDoor

namespace Go.Proofs.YtejpnabbmgpmaaaGreatDoor
open Go.Ab
open Go.ChangeShapes Go.WideShapes Go.ChangeAt Go.RowKit
theorem ax {a b:Bool} (ha:a=true) (hb:b=true):(a && b)=true:=by rw [ha,hb];rfl
theorem xi:(laidOutB Tryz.prog)=true:=by kernel_rfl
theorem vS:(mapsRowed Tryz.prog)=true:=by kernel_rfl
theorem rC:((Tryz.prog.stops == []))=true:=by kernel_rfl
theorem th:((Tryz.prog.stopKnobs == []))=true:=by kernel_rfl
theorem rJ:(Tryz.prog.stopsHeard)=true:=by kernel_rfl
theorem rR:(Tryz.prog.mayEnter)=true:=by kernel_rfl
end Go.Proofs.YtejpnabbmgpmaaaGreatDoor

namespace Go.Proofs.YtejpnabbmgpmaaaGreatDoor
open Go.Ab
open Go.ChangeShapes Go.WideShapes Go.ChangeAt Go.RowKit
set_option maxRecDepth 100000 in
theorem mh (os:Os) (started:os.Started) (H:Type) (enc:TypeId × Value→H) :
  ReturnsInHanded {} Tryz.checked os 4 .any (fun w args=>(Rows.valueOfSpec.pre enc Tryz.prog Tryz.f4 [] false w args∧laidMetH Tryz.prog iK w)∧sizedMet enc Tryz.prog Tryz.f4 (OpenSpec.ofChange Rows.valueOfSpec) false w args)
   (Rows.valueOfSpec.post enc Tryz.prog Tryz.f4 false true false false):=by
 refine returnsInHanded_of_change_and (C:=Tryz.checked) (X:=fun w _=>laidMetH Tryz.prog iK w) (fun _ _ _ hh h=>h.of_heap hh) Tryz.own started (by kernel_rfl) Tryz.func4
  (ChangeSpec.witness_at (enc:=enc) (C:=Tryz.checked) (os:=os) (X:=fun w _=>laidMetH Tryz.prog iK w) false (kJ os) #[.agg #[.slice none 0 0]] 8 (World.laidAll_os _ _ _) (by kernel_rfl) (by kernel_rfl) (by kernel_rfl) (by kernel_rfl) (by kernel_rfl) (iG os _)) ?_
 intro W base args ds gs before hval0 hW _ _ hL _
 have hval:∀ (j:Nat) t v,Tryz.f4.params[j]?=some t→args[j]?=some v→Value.okWide Tryz.prog W .any base t v:=hval0
 have hW':=hW
 obtain ⟨p,q,hA0,hV,rfl,hfz,hnd⟩:=hW
 have hA:DataW.TrodAll enc Tryz.prog W 0 (fun _=>true) true Tryz.f4.params.toList args.toList ds p:=hA0
 rw [Tryz.params4] at hA hval
 obtain ⟨v0,d0,rfl,rfl,h0⟩:=trodAll_one hA
 obtain ⟨rfl,rfl⟩:=trodVars_none hV
 clear hA0 hval0
 obtain ⟨tt,fz,hG⟩:=kZ hL
 obtain ⟨x0,rfl,_⟩:=okWide_struct Tryz.underlying24 (hval 0 24 v0 rfl rfl)
 obtain ⟨e0,k0,r0⟩:=yA (m:=30) (show shp Tryz.prog 30 24=some Il by kernel_rfl) h0
 obtain ⟨n0,a0,b0,c0,g0⟩:=G1 k0
 have eF:Rows.valueOfSpec.fn H ([d0]++[])={ results:=[.lit (.bool true)],args:=[d0] }:=rfl
 refine (k7 (Hz (tt:=tt) (fz:=fz) a0 b0 c0 g0 ) hG (vs:=#[.agg x0]) rfl ?_).mono ?_
 ·intro i d hi
  match i,hi with
  | 0,hi=>obtain rfl:=Option.some.inj hi;exact r0
 rintro e W' ⟨v,r,rfl,rfl,hext,_,_,_,_,hv⟩
 obtain rfl:=hv.bool
 have hlt:∀ x∈p,x.block<W.heap.size:=fun x hx=>by simpa using hW'.lt x (by simpa using hx)
 refine ⟨_,rfl,_,_,_,[],p,[],hW',?_,?_,?_,hext.frame _,fun h=>by cases h⟩
 ·rw [eF];exact trodAll_mk1 (shut_bool Tryz.underlying4 true)
 ·rw [eF];exact trodAll_mk1 (mg (by kernel_rfl) (of_decide_eq_true (by kernel_rfl)) h0 hext (fun x hx=>hlt x (by exact hx)))
 ·rw [eF];rfl
set_option maxRecDepth 100000 in
theorem ou:joinedFacts Tryz.prog 4 Tryz.f4 Rows.valueOfSpec Rows.valueOfRow=true:=by
 unfold joinedFacts
 exact ax (ax (ax (ax (ax (ax (ax (ax (ax (ax (ax (ax (ax (ax (ax (ax (ax (ax (ax (ax (ax (ax (ax (ax (ax (ax (ax (ax (ax (ax (ax vi xi) vS) uC) u3) vp) rC) u9) th) tD) sE) sF) tH) sw) sj) r8) tV) rW) ta) rp) sZ) rj) tx) sS) rJ) rR) tQ) ub) tC) tl) sq) tz
theorem ov:Tryz.pinned.checked.prog.funcNamed Rows.valueOfRow.func=some 4:=by kernel_rfl
theorem p7:decide (Tryz.f4.isInstance Tryz.pinned.checked.prog Rows.valueOfRow.origin Rows.valueOfRow.targs)=true:=by kernel_rfl
theorem oq:Rows.ValueOfSaid :=
 OpenClaim.holds_of_wide 4 Tryz.f4 rfl rfl rfl rfl rfl rfl rfl ⟨rfl,rfl,rfl,rfl,rfl⟩ rfl rfl rfl rfl rfl ov Tryz.func4 ou
  (of_decide_eq_true p7) (by unfold Func.isWrapper;rw [if_neg (of_decide_eq_false (by kernel_rfl))];exact ⟨rfl,rfl⟩)
  (fun os started H enc _=>mh os started H enc)
theorem valueOf_card:Rows.ValueOfCardSaid :=
 Claim7.holds_tied_plain_at .later [] [.data,.data,.data] true (true, "86e9b69d87c22ae8a93ee535abd4a3a0f1d48777251695e23a39c441c3c7c814") false
  oq (fun _ h=>by cases h) (by kernel_rfl) (fun _ h=>by cases h) valueOf_row_tie rfl ⟨rfl,rfl⟩ (by kernel_rfl) rfl
  (fun f fn hf hfn=>by
   obtain rfl:f=4:=Option.some.inj ((show Tryz.prog.funcNamed "syntagma/syntagmalaw11.ValueOf" = some 4 by kernel_rfl).symm.trans hf) |>.symm
   obtain rfl:fn=Tryz.f4:=(Option.some.inj (Tryz.func4.symm.trans hfn)).symm
   exact ⟨by kernel_rfl,fun j t ht=>by
    rw [Tryz.params4] at ht
    match j,ht with
    | 0,ht=>obtain rfl:=Option.some.inj ht;exact (show Tryz.prog.wantsStandIn 24=false by kernel_rfl)⟩)
  (by kernel_rfl)
end Go.Proofs.YtejpnabbmgpmaaaGreatDoor

namespace Go.Proofs.YtejpnabbmgpmaaaGreatDoor
open Go.Ab
open Go.ChangeShapes Go.WideShapes Go.ChangeAt Go.RowKit
theorem od:(Rows.valueTextsRow.wf (OpenSpec.ofChange Rows.valueTextsSpec))=true:=by kernel_rfl
theorem ot:(Tryz.f6.params.all (Tryz.prog.readableRec ·))=true:=by kernel_rfl
theorem oc:(namedTie Tryz.prog Rows.valueTextsRow.named Rows.valueTextsSpec.vars)=true:=by kernel_rfl
theorem oe:((Rows.valueTextsRow.stops == []))=true:=by kernel_rfl
theorem ox:((Rows.valueTextsRow.knobs == []))=true:=by kernel_rfl
theorem nq:((Rows.valueTextsRow.inPlace == Tryz.prog.inPlace 6))=true:=by kernel_rfl
theorem mY:((Rows.valueTextsRow.unfollowed == Tryz.prog.unfollowed 6))=true:=by kernel_rfl
theorem nU:((Rows.valueTextsRow.recurses == Tryz.prog.recurses 6))=true:=by kernel_rfl
theorem nL:((Rows.valueTextsRow.named == Tryz.prog.varsNamed 6))=true:=by kernel_rfl
theorem mA:((Rows.valueTextsRow.maps == (Tryz.f6.params.toList++Rows.valueTextsSpec.plain.varTypes Tryz.prog).any (Tryz.prog.mapsRec ·)))=true:=by kernel_rfl
theorem mn:((Rows.valueTextsRow.ifaces == (Tryz.f6.params.toList++Rows.valueTextsSpec.plain.varTypes Tryz.prog).any (Tryz.prog.ifacesRec ·)))=true:=by kernel_rfl
theorem lX:((Rows.valueTextsRow.mapsOut == Tryz.prog.mapsAmong Tryz.f6.resultTypes.toList))=true:=by kernel_rfl
theorem mM:((Rows.valueTextsRow.loops == (Tryz.f6.params.toList++Rows.valueTextsSpec.plain.varTypes Tryz.prog).any (Tryz.prog.loopsFrom ·)))=true:=by kernel_rfl
theorem mE:((Rows.valueTextsRow.wideKeys == (Tryz.f6.params.toList++Rows.valueTextsSpec.plain.varTypes Tryz.prog++Tryz.f6.resultTypes.toList).any (Tryz.prog.wideKeysFrom ·)))=true:=by kernel_rfl
theorem ny:(Rows.valueTextsSpec.vars.all (Tryz.prog.varReadable ·))=true:=by kernel_rfl
theorem ni:(Tryz.f6.resultTypes.all (fun t=>Tryz.prog.readableRec t && decide (t<Tryz.prog.types.size)))=true:=by kernel_rfl
theorem nY:((Rows.valueTextsRow.ifacesOut == Tryz.f6.resultTypes.toList.any (Tryz.prog.ifacesRec ·)))=true:=by kernel_rfl
theorem nf:((Rows.valueTextsRow.loopsOut == Tryz.f6.resultTypes.toList.any (Tryz.prog.loopsFrom ·)))=true:=by kernel_rfl
theorem nK:((Rows.valueTextsRow.plainKeys == Tryz.prog.plainKeys))=true:=by kernel_rfl
theorem mi:(Rows.valueTextsRow.shortTexts.isNone)=true:=by kernel_rfl
theorem nj:((Rows.valueTextsRow.lifted == Tryz.prog.liftsFinal))=true:=by kernel_rfl
theorem nP:((Tryz.prog.make == some Rows.valueTextsRow.make))=true:=by kernel_rfl
theorem nW:((Rows.valueTextsRow.kinds == (if Rows.valueTextsRow.domain.isEmpty then [] else Tryz.f6.params.toList.map fun t=>match Tryz.prog.underlying t with | some (.int k)=>some k | _=>none)))=true:=by kernel_rfl
theorem mm:((Rows.valueTextsRow.pinned == Rows.valueTextsRow.pinnedBy))=true:=by kernel_rfl
theorem nN:((Rows.valueTextsRow.veiled == (Tryz.f6.params.toList++Rows.valueTextsSpec.plain.varTypes Tryz.prog++Tryz.f6.resultTypes.toList).any (Tryz.prog.veiledRec ·)))=true:=by kernel_rfl
theorem lT:(Rows.valueTextsRow.veiledFits Tryz.prog Tryz.f6.params.toList (Tryz.f6.params.toList++Rows.valueTextsSpec.plain.varTypes Tryz.prog++Tryz.f6.resultTypes.toList))=true:=by kernel_rfl
end Go.Proofs.YtejpnabbmgpmaaaGreatDoor

namespace Go.Proofs.YtejpnabbmgpmaaaGreatDoor
open Go.Ab
open Go.ChangeShapes Go.WideShapes Go.ChangeAt Go.RowKit
set_option maxRecDepth 100000 in
theorem jF (os:Os) (started:os.Started) (H:Type) (enc:TypeId × Value→H) :
  ReturnsInHanded {} Tryz.checked os 6 .any (fun w args=>(Rows.valueTextsSpec.pre enc Tryz.prog Tryz.f6 [] false w args∧laidMetH Tryz.prog iK w)∧sizedMet enc Tryz.prog Tryz.f6 (OpenSpec.ofChange Rows.valueTextsSpec) false w args)
   (Rows.valueTextsSpec.post enc Tryz.prog Tryz.f6 false true false false):=by
 refine returnsInHanded_of_change_and (C:=Tryz.checked) (X:=fun w _=>laidMetH Tryz.prog iK w) (fun _ _ _ hh h=>h.of_heap hh) Tryz.own started (by kernel_rfl) Tryz.func6
  (ChangeSpec.witness_at (enc:=enc) (C:=Tryz.checked) (os:=os) (X:=fun w _=>laidMetH Tryz.prog iK w) false (kJ os) #[.agg #[.int .i64 0,.int .i64 0,.string ⟨#[]⟩,.slice none 0 0],.agg #[.int .i64 0,.int .i64 0,.string ⟨#[]⟩,.slice none 0 0]] 8 (World.laidAll_os _ _ _) (by kernel_rfl) (by kernel_rfl) (by kernel_rfl) (by kernel_rfl) (by kernel_rfl) (iG os _)) ?_
 intro W base args ds gs before hval0 hW _ _ hL _
 have hval:∀ (j:Nat) t v,Tryz.f6.params[j]?=some t→args[j]?=some v→Value.okWide Tryz.prog W .any base t v:=hval0
 have hW':=hW
 obtain ⟨p,q,hA0,hV,rfl,hfz,hnd⟩:=hW
 have hA:DataW.TrodAll enc Tryz.prog W 0 (fun _=>true) true Tryz.f6.params.toList args.toList ds p:=hA0
 rw [Tryz.params6] at hA hval
 obtain ⟨v0,v1,d0,d1,p0,p1,rfl,rfl,rfl,h0,h1⟩:=trodAll_two hA
 obtain ⟨rfl,rfl⟩:=trodVars_none hV
 clear hA0 hval0
 obtain ⟨tt,fz,hG⟩:=kZ hL
 obtain ⟨x0,rfl,_⟩:=okWide_struct Tryz.underlying37 (hval 0 37 v0 rfl rfl)
 obtain ⟨u0,k0,r0⟩:=B3 h0
 obtain ⟨x1,rfl,_⟩:=okWide_struct Tryz.underlying37 (hval 1 37 v1 rfl rfl)
 obtain ⟨u1,k1,r1⟩:=B3 h1
 have eF:Rows.valueTextsSpec.fn H ([d0,d1]++[])={ results:=[.lit (.bool true)],args:=[d0,d1] }:=rfl
 refine (k7 (Ht (tt:=tt) (fz:=fz) u0 u1 k0 k1) hG (vs:=#[.agg x0,.agg x1]) rfl ?_).mono ?_
 ·intro i d hi
  match i,hi with
  | 0,hi=>obtain rfl:=Option.some.inj hi;exact r0
  | 1,hi=>obtain rfl:=Option.some.inj hi;exact r1
 rintro e W' ⟨v,r,rfl,rfl,hext,_,_,_,_,hv⟩
 obtain rfl:=hv.bool
 have hlt:∀ x∈p0++p1,x.block<W.heap.size:=fun x hx=>by simpa using hW'.lt x (by simpa using hx)
 refine ⟨_,rfl,_,_,_,[],p0++p1,[],hW',?_,?_,?_,hext.frame _,fun h=>by cases h⟩
 ·rw [eF];exact trodAll_mk1 (shut_bool Tryz.underlying4 true)
 ·rw [eF];exact trodAll_mk2 (mg (by kernel_rfl) (of_decide_eq_true (by kernel_rfl)) h0 hext (fun x hx=>hlt x (by simp [hx]))) (mg (by kernel_rfl) (of_decide_eq_true (by kernel_rfl)) h1 hext (fun x hx=>hlt x (by simp [hx])))
 ·rw [eF];rfl
set_option maxRecDepth 100000 in
theorem kn:joinedFacts Tryz.prog 6 Tryz.f6 Rows.valueTextsSpec Rows.valueTextsRow=true:=by
 unfold joinedFacts
 exact ax (ax (ax (ax (ax (ax (ax (ax (ax (ax (ax (ax (ax (ax (ax (ax (ax (ax (ax (ax (ax (ax (ax (ax (ax (ax (ax (ax (ax (ax (ax od xi) vS) ot) oc) oe) rC) ox) th) nq) mY) nU) nL) mA) mn) lX) mM) mE) ny) ni) nY) nf) nK) mi) rJ) rR) nj) nP) nW) mm) nN) lT
theorem ki:Tryz.pinned.checked.prog.funcNamed Rows.valueTextsRow.func=some 6:=by kernel_rfl
theorem ll:decide (Tryz.f6.isInstance Tryz.pinned.checked.prog Rows.valueTextsRow.origin Rows.valueTextsRow.targs)=true:=by kernel_rfl
theorem j5:Rows.ValueTextsSaid :=
 OpenClaim.holds_of_wide 6 Tryz.f6 rfl rfl rfl rfl rfl rfl rfl ⟨rfl,rfl,rfl,rfl,rfl⟩ rfl rfl rfl rfl rfl ki Tryz.func6 kn
  (of_decide_eq_true ll) (by unfold Func.isWrapper;rw [if_neg (of_decide_eq_false (by kernel_rfl))];exact ⟨rfl,rfl⟩)
  (fun os started H enc _=>jF os started H enc)
theorem valueTexts_card:Rows.ValueTextsCardSaid :=
 Claim7.holds_tied_plain_at .later [] [.data,.data,.data] true (true, "86e9b69d87c22ae8a93ee535abd4a3a0f1d48777251695e23a39c441c3c7c814") false
  j5 (fun _ h=>by cases h) (by kernel_rfl) (fun _ h=>by cases h) valueTexts_row_tie rfl ⟨rfl,rfl⟩ (by kernel_rfl) rfl
  (fun f fn hf hfn=>by
   obtain rfl:f=6:=Option.some.inj ((show Tryz.prog.funcNamed "syntagma/syntagmalaw11.ValueTexts" = some 6 by kernel_rfl).symm.trans hf) |>.symm
   obtain rfl:fn=Tryz.f6:=(Option.some.inj (Tryz.func6.symm.trans hfn)).symm
   exact ⟨by kernel_rfl,fun j t ht=>by
    rw [Tryz.params6] at ht
    match j,ht with
    | 0,ht=>obtain rfl:=Option.some.inj ht;exact (show Tryz.prog.wantsStandIn 37=false by kernel_rfl)
    | 1,ht=>obtain rfl:=Option.some.inj ht;exact (show Tryz.prog.wantsStandIn 37=false by kernel_rfl)⟩)
  (by kernel_rfl)
end Go.Proofs.YtejpnabbmgpmaaaGreatDoor

