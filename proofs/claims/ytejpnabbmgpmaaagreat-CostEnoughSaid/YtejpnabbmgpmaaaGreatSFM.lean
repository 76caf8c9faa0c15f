/-
  How wide a node is: the program's walk. (with the parts that follow it)
-/
import Derived.Test.YtejpnabbmgpmaaaGreatSFL
import Derived.Test.YtejpnabbmgpmaaaGreatSFG
import Derived.Test.YtejpnabbmgpmaaaGreatSFK
import Derived.Test.YtejpnabbmgpmaaaGreatSFC
import Derived.Test.YtejpnabbmgpmaaaGreatRows
import Derived.ProofKit
import Derived.JoinedOf
import Derived.ChangeMaps5
set_option linter.all false
namespace Go.Proofs.YtejpnabbmgpmaaaGreat
open Go.Ab
def wO (ns:List EN) (ws:List Int):List (Name × Ob):=[([100],.box [.d (.sl (some 9) (ns.map enD)),.d (.sl (some 2) ((bn ns).map bD)),.vw [101] 0 ns.length]),([101],.arr none (ws.map i64))]
theorem qu {ns:List EN} {i:Nat} (h:i<ns.length):((bn ns).map bD).getD i .nilp=.agg [i64 (bH ns i).1,i64 (bH ns i).2]:=by
 simp [bn,h,bD]
theorem w8 {ns:List EN} (ht:cW ns) {i:Nat} (hi:i<ns.length) (h:0≤(bH ns i).1):∃ x:Nat,(bH ns i).1=(x:Int)∧x<ns.length:=by
 unfold bH at h ⊢
 split
 ·rename_i h4
  rw [if_pos h4] at h
  obtain ⟨x,h1,h2,_⟩:=mi ht ns.length i hi h
  exact ⟨x,h1,h2⟩
 ·rename_i h4
  rw [if_neg h4] at h
  exact absurd h (by decide)
theorem ru (a c:Int):(if c<a then c else a)=min a c:=by split<;>omega
set_option maxHeartbeats 2000000 in
theorem v9 {G} (ns:List EN) (ht:cW ns) (hN:ns.length≤1000000) (hs:∀ n∈ns,n.l.length≤900000) :
  ∀ (m i:Nat) (ws:List Int),i<ns.length→rkE ns i<m→ws.length=ns.length→Wb ws→HCall Tryz.prog G 112 [.bx [100] 0,.d (i64 (i:Int))] (wO ns ws) [100,101] (fun r hp'=>r=.d (i64 (wdM 0 ns m ws i).1)∧hp'=wO ns (wdM 0 ns m ws i).2)
 | 0,_,_,_,h,_,_=>absurd h (Nat.not_lt_zero _)
 | m+1,i,ws,hi,hm,hl,hw=>by
   have ih:=v9 (G:=G) ns ht hN hs m
   have hk:=aO ht
   have hf:=md (z:=0) (by decide) ns ns.length m
   have hg:=aP hi
   have hgB:=qu hi
   have hsi:=hs _ (by rw [bG hi];exact List.getElem_mem hi:ndE ns i∈ns)
   have hkn:=aM hk hi
   have hbi:=w8 ht hi
   have hda:∀ a,gi ns i=some a→_:=fun a=>rh ht hi
   have hrk:∀ k:Nat,(k:Int)∈aj (ndE ns i)→rkE ns k<rkE ns i:=fun k=>sk ht hi
   have hdf:gi ns i=if 0≤(bH ns i).1∧((ndE ns (bH ns i).1.toNat).k=7∨(ndE ns (bH ns i).1.toNat).k=8)∧bp ns ns.length (ndE ns (bH ns i).1.toNat).a i=false then some (ndE ns (bH ns i).1.toNat).a else none:=rfl
   have hku:=fun x:Nat=>aO ht x
   generalize hR:wdM 0 ns (m+1) ws i=R
   rw [wdM,Int.toNat_natCast] at hR
   obtain ⟨n,hne⟩:∃ n,n=ndE ns i:=⟨_,rfl⟩
   rw [← hne] at hg hsi hkn hR hrk
   obtain ⟨K,hK⟩:∃ K,K=aj n:=⟨_,rfl⟩
   have hkc:=gL (G:=G) n (by omega)
   have hKl:K.length≤900003:=by rw [hK,bt];unfold bf;have:=bC n.k;split<;>omega
   rw [← hK] at hkc hkn hR hrk
   obtain ⟨b,hb⟩:∃ b,b=bH ns i:=⟨_,rfl⟩
   rw [← hb] at hgB hbi hdf
   have hg0:=hw.get i
   obtain ⟨p,hp⟩:∃ p,p=wd0 ns (wdM 0 ns m) ws i:=⟨_,rfl⟩
   have hpo:=vK hf ns i hl hw
   rw [← hp] at hR hpo
   have hpn:gi ns i=none→p=(1,ws):=fun h=>by rw [hp];unfold wd0;rw [h]
   have hps:∀ a,gi ns i=some a→p=(1+(wdM 0 ns m ws a).1,(wdM 0 ns m ws a).2):=fun a h=>by rw [hp];unfold wd0;rw [h]
   have hBl:=eB ns
   clear hp
   unfold wO at ih ⊢
   refine gl Tryz.func112 rfl (by decide +kernel) (by simp [Tryz.ntmps112]) fun B0 hB0=>?_
   refine aB (aq fun E=>?_)
   simp only [go_sem]
   refine aB (aq fun E=>?_)
   simp only [go_sem]
   refine ⟨⟨by omega,by omega⟩,?_⟩
   rw [aw (by omega)]
   simp only [go_sem]
   refine ah E (fun g1=>?_) (fun g1=>?_)<;>simp only [go_sem]
   ·rw [if_pos g1] at hR
    refine ⟨⟨by omega,by omega⟩,?_⟩
    rw [aw (by omega)]
    simp only [go_sem]
    rw [← hR]
    refine uk (.inl rfl) hB0 ?_
    simp only [go_sem]
    refine ⟨_,_,[100,101],id,⟨rfl,rfl⟩,?_⟩
    simp only [go_sem]
   rw [if_neg g1] at hR
   refine aB (aq fun E=>?_)
   simp only [go_sem]
   refine aB (my [(0,.bx [100] 0),(1,.d (i64 i)),(5,.d (i64 p.1))] [([100],.box [.d (.sl (some 9) (ns.map enD)),.d (.sl (some 2) ((bn ns).map bD)),.vw [101] 0 ns.length]),([101],.arr none (p.2.map i64))] [100,101] (fun E=>?_) ?_)
   ·simp only [go_sem]
    refine ⟨⟨by omega,by omega⟩,?_⟩
    rw [hgB]
    simp only [go_sem]
    refine ah E (fun g2=>?_) (fun g2=>?_)<;>simp only [go_sem]
    ·obtain ⟨x,hx1,hx2⟩:=hbi g2
     rw [hx1] at hdf ⊢
     simp only [Int.toNat_natCast] at hdf
     have hgx:=aP hx2
     have hkx:=aM hk hx2
     obtain ⟨nx,hnx⟩:∃ nx,nx=ndE ns x:=⟨_,rfl⟩
     rw [← hnx] at hgx hkx hdf
     refine ⟨⟨by omega,by omega⟩,?_⟩
     rw [Int.toNat_natCast,hgx]
     simp only [go_sem]
     have hax:nx.k=7∨nx.k=8→∃ a:Nat,nx.a=(a:Int)∧a<ns.length:=fun h=>by
      have hke:aj nx=[nx.a,nx.b]:=by
       rcases h with h | h<;>simp [aj,h,aG,aI]
      obtain ⟨q1,q2⟩:=hkx nx.a (by rw [hke];exact List.mem_cons_self)
      exact ⟨nx.a.toNat,by omega,by omega⟩
     refine ao E (fun h7=>?_) (fun h7=>?_)<;>simp only [go_sem]
     ·obtain ⟨a,ha,han⟩:=hax (.inl h7)
      have hcu:=qK (G:=G) ns (bn ns) ws hs hk (i:Int) ns.length a han han
      rw [← ha] at hcu
      unfold wsD at hcu
      refine xn E [.A [101] none (ws.map i64),.B [100] (.agg [.sl (some 9) (ns.map enD),.sl (some 2) ((bn ns).map bD),.sl none (ws.map i64)])] hcu (by rintro _ rfl;rfl) (by simp only [go_sem];rw [List.take_of_length_le (by rw [List.length_map,hl];exact Nat.le_refl _)]) rfl (by simp only [go_sem];try rfl) (by simp) ?_
      rintro _ rfl
      simp only [go_sem]
      cases hwb:bp ns ns.length nx.a i with
      | true =>
        have e0:=hpn (by rw [hdf,if_neg (by rw [hwb];simp)])
        simp only [go_sem]
        refine cG id ?_
        rw [e0]
        simp only [go_sem]
        all_goals rfl
      | false =>
        have e0:=hps _ (by rw [hdf,if_pos ⟨by omega,(.inl h7),hwb⟩])
        obtain ⟨b1,b2,b3⟩:=hda _ (by rw [hdf,if_pos ⟨by omega,(.inl h7),hwb⟩])
        rw [ha,Int.toNat_natCast] at b3
        have hfa:=hf ws nx.a hl hw
        have ihc:=ih a ws han (by omega) hl hw
        rw [← ha] at ihc
        simp only [go_sem]
        refine ab E _ _ _ ihc rfl rfl ⟨by simp only [go_sem],by first | (rw [aa];decide) | (simp only [go_sem]<;>(try rw [aa])<;>decide)⟩ (by simp only [go_sem]) (by simp only [go_sem]) (by simp only [go_sem]) ?_
        rintro _ _ ⟨rfl,rfl⟩
        refine ⟨by simp only [go_sem];try omega,?_⟩
        simp only [go_sem]
        rw [ai ⟨by omega,by omega⟩]
        refine cG id ?_
        rw [e0]
        simp only [go_sem]
        all_goals rfl
     ·refine ao E (fun h8=>?_) (fun h8=>?_)<;>simp only [go_sem]
      ·obtain ⟨a,ha,han⟩:=hax (.inr h8)
       have hcu:=qK (G:=G) ns (bn ns) ws hs hk (i:Int) ns.length a han han
       rw [← ha] at hcu
       unfold wsD at hcu
       refine xn E [.A [101] none (ws.map i64),.B [100] (.agg [.sl (some 9) (ns.map enD),.sl (some 2) ((bn ns).map bD),.sl none (ws.map i64)])] hcu (by rintro _ rfl;rfl) (by simp only [go_sem];rw [List.take_of_length_le (by rw [List.length_map,hl];exact Nat.le_refl _)]) rfl (by simp only [go_sem];try rfl) (by simp) ?_
       rintro _ rfl
       simp only [go_sem]
       cases hwb:bp ns ns.length nx.a i with
       | true =>
         have e0:=hpn (by rw [hdf,if_neg (by rw [hwb];simp)])
         simp only [go_sem]
         refine cG id ?_
         rw [e0]
         simp only [go_sem]
         all_goals rfl
       | false =>
         have e0:=hps _ (by rw [hdf,if_pos ⟨by omega,(.inr h8),hwb⟩])
         obtain ⟨b1,b2,b3⟩:=hda _ (by rw [hdf,if_pos ⟨by omega,(.inr h8),hwb⟩])
         rw [ha,Int.toNat_natCast] at b3
         have hfa:=hf ws nx.a hl hw
         have ihc:=ih a ws han (by omega) hl hw
         rw [← ha] at ihc
         simp only [go_sem]
         refine ab E _ _ _ ihc rfl rfl ⟨by simp only [go_sem],by first | (rw [aa];decide) | (simp only [go_sem]<;>(try rw [aa])<;>decide)⟩ (by simp only [go_sem]) (by simp only [go_sem]) (by simp only [go_sem]) ?_
         rintro _ _ ⟨rfl,rfl⟩
         refine ⟨by simp only [go_sem];try omega,?_⟩
         simp only [go_sem]
         rw [ai ⟨by omega,by omega⟩]
         refine cG id ?_
         rw [e0]
         simp only [go_sem]
         all_goals rfl
      ·have e0:=hpn (by rw [hdf,if_neg (by rintro ⟨_,h,_⟩;exact h.elim h7 h8)])
       refine cG id ?_
       rw [e0]
       simp only [go_sem]
       all_goals rfl
    ·have e0:=hpn (by rw [hdf,if_neg (by rintro ⟨h,_⟩;exact g2 h)])
     refine cG id ?_
     rw [e0]
     simp only [go_sem]
     all_goals rfl
   refine aB (aq fun E=>?_)
   simp only [go_sem]
   refine ⟨⟨by omega,by omega⟩,?_⟩
   rw [hg]
   simp only [go_sem]
   refine ab E [.d (enD n)] [] [] hkc rfl rfl ⟨by simp only [go_sem],by rw [aa];decide⟩ rfl (by simp only [go_sem]) (by simp only [go_sem]) ?_
   rintro _ _ ⟨rfl,rfl⟩
   simp only [go_sem]
   refine ju E [73,0] none (K.map i64) rfl ?_
   simp only [go_sem]
   refine bl E (X:={ x:Nat × (Int × List Int) // x.1≤K.length∧(0≤x.2.1∧x.2.1≤1000001∧x.2.2.length=ns.length∧Wb x.2.2)∧(K.drop x.1).foldl (wdK (wdM 0 ns m)) x.2=K.foldl (wdK (wdM 0 ns m)) p })
    (fun x=>[(0,.bx [100] 0),(1,.d (i64 i)),(5,.d (i64 x.1.2.1)),(73,.d (.sl none (K.map i64))),(74,.d (i64 K.length)),(75,.d (i64 x.1.1))])
    (fun x=>[([100],.box [.d (.sl (some 9) (ns.map enD)),.d (.sl (some 2) ((bn ns).map bD)),.vw [101] 0 ns.length]),([101],.arr none (x.1.2.2.map i64))]) [100,101] (fun x=>K.length-x.1.1) ⟨(0,p),Nat.zero_le _,hpo,rfl⟩ ?_ ?_
   ·simp only [go_sem]
    all_goals first | rfl | exact ⟨rfl,rfl⟩
   rintro ⟨⟨q,y⟩,hq,hyo,hyf⟩ E0
   refine aC E0 fun Q' hQ E'=>?_
   simp only at hq hyo hyf ⊢
   simp only [go_sem]
   refine ah E' (fun f1=>?_) (fun f1=>?_)<;>simp only [go_sem]
   ·have hq':q<K.length:=by omega
    refine ⟨⟨by omega,by omega⟩,?_⟩
    have hkm:=List.getElem_mem hq'
    have hkq:=hkn K[q] hkm
    obtain ⟨k,hkk⟩:∃ k:Nat,K[q]=(k:Int):=⟨K[q].toNat,by omega⟩
    rw [aw hq',show K.getD q 0=(k:Int) by simp [hq',hkk]]
    rw [hkk] at hkm
    have hrkk:=hrk k hkm
    have hfk:=hf y.2 (k:Int) hyo.2.2.1 hyo.2.2.2
    simp only [go_sem]
    refine ab E' _ _ _ (ih k y.2 (by omega) (by omega) hyo.2.2.1 hyo.2.2.2) rfl rfl ⟨by simp only [go_sem],by first | (rw [aa];decide) | (simp only [go_sem]<;>(try rw [aa])<;>decide)⟩ (by simp only [go_sem]) (by simp only [go_sem]) (by simp only [go_sem]) ?_
    rintro _ _ ⟨rfl,rfl⟩
    refine ⟨by simp only [go_sem];try omega,?_⟩
    simp only [go_sem]
    rw [ai (n:=y.1+(wdM 0 ns m y.2 (k:Int)).1) ⟨by omega,by omega⟩,ai (n:=(q:Int)+1) ⟨by omega,by omega⟩,ru,hQ]
    simp only [go_sem]
    refine ⟨⟨(q+1,wdK (wdM 0 ns m) y (k:Int)),by show q+1≤_;omega,⟨by show 0≤min (y.1+(wdM 0 ns m y.2 (k:Int)).1) 1000000;omega,by show min (y.1+(wdM 0 ns m y.2 (k:Int)).1) 1000000≤1000001;omega,hfk.2.2.1,hfk.2.2.2⟩,?_⟩,by show K.length-(q+1)<_;omega,?_⟩
    ·show (K.drop (q+1)).foldl (wdK (wdM 0 ns m)) (wdK (wdM 0 ns m) y (k:Int))=_
     rw [← hyf,List.drop_eq_getElem_cons hq',List.foldl_cons,hkk]
    ·first | rfl | exact ⟨rfl,rfl⟩ | exact ⟨⟨rfl,rfl⟩,rfl⟩
   ·have h3:q=K.length:=by omega
    subst h3
    rw [List.drop_length,List.foldl_nil] at hyf
    rw [← hyf] at hR
    obtain ⟨y1,y2,y3,y4⟩:=hyo
    rw [hQ]
    simp only [go_sem]
    refine aB (aq fun E=>?_)
    simp only [go_sem]
    refine ⟨⟨by omega,by omega⟩,?_⟩
    rw [ru]
    rw [show (y.2.map i64).set i (.int .i64 (min y.1 1000000))=(y.2.set i (min y.1 1000000)).map i64 by rw [List.map_set]]
    refine aq fun E=>?_
    simp only [go_sem]
    refine ⟨⟨by omega,by omega⟩,?_⟩
    rw [aw (by rw [List.length_set];omega),show (y.2.set i (min y.1 1000000)).getD i 0=min y.1 1000000 by simp [List.getD_eq_getElem?_getD,y3,hi]]
    simp only [go_sem]
    rw [← hR]
    refine uk (.inl rfl) hB0 ?_
    simp only [go_sem]
    refine ⟨_,_,[100,101],id,⟨rfl,rfl⟩,?_⟩
    simp only [go_sem]
end Go.Proofs.YtejpnabbmgpmaaaGreat

namespace Go.Proofs.YtejpnabbmgpmaaaGreat
open Go.Ab
theorem FU (ns:List EN) (i:Nat):0≤wvE ns i∧wvE ns i≤1000000:=⟨(qT ns _ _).1,(qT ns _ _).2.1⟩
set_option maxHeartbeats 1000000 in
theorem G9 {G} (ns:List EN) (hs:∀ n∈ns,dx BIG n) (hN:ns.length≤1000000) (hl:∀ n∈ns,n.l.length≤900000):HP Tryz.prog G 63 [exD ns] (fun r=>r=.d (i64 (cJ ns))):=by
 have hl':∀ n∈ns,n.l.length≤1000000:=fun n hn=>by have:=hl n hn;omega
 have c1:=Ec (G:=G) ns hs hN hl'
 have c2:=GD (G:=G) ns hs hN hl'
 have herr:=EA ns
 unfold cJ
 by_cases h0:cH ns=0
 ·have ht:=pM h0
  have hp:=ht.pos
  rw [if_pos h0,h0,pY ht] at c1
  obtain ⟨c,hc⟩:∃ c,c=fj ns:=⟨_,rfl⟩
  rw [← hc] at c2 herr
  by_cases h1:c.2=0
  ·rw [if_pos (herr.1 ⟨h0,h1⟩)]
   obtain ⟨hv,_⟩:=rP (z:=0) (by decide) ht (rkE ns (ns.length-1)+1) (ns.length-1) (by omega) (by omega) _ (Aq 0 ns)
   have c3:=v9 (G:=G) ns ht hN hl (rkE ns (ns.length-1)+1) (ns.length-1) (List.replicate ns.length 0) (by omega) (by omega) (by simp) (fun x hx=>by rw [List.mem_replicate] at hx;omega)
   have hWl:=(md (z:=0) (by decide) ns ns.length (rkE ns (ns.length-1)+1) (List.replicate ns.length 0) ((ns.length-1:Nat):Int) (by simp) (fun x hx=>by rw [List.mem_replicate] at hx;omega)).2.2.1
   rw [hv] at c3
   generalize (wdM 0 ns (rkE ns (ns.length-1)+1) (List.replicate ns.length 0) ((ns.length-1:Nat):Int)).2=W at c3 hWl
   unfold wO at c3
   unfold exD at c1 c2 ⊢
   rw [h1] at c2
   refine ax Tryz.func63 rfl (by decide +kernel) (by simp [Tryz.ntmps63]) (veil fun E=>?_)
   simp only [go_sem]
   refine ag E (c1) rfl rfl (by simp) ?_
   rintro _ rfl
   simp only [go_sem]
   refine ag E (c2) rfl rfl (by simp) ?_
   rintro _ rfl
   simp only [go_sem]
   refine ak mixed E fun X=>?_
   simp only [go_sem]
   refine Cs X (d:=27) (t:=95) (e:=3) (n:=ns.length) (z:=i64 0) (by rw [Ak]) (by rw [ti3];rfl) (by rw [ti3];rfl) rfl rfl (by rw [ti3];exact ⟨by simp only;omega,by omega⟩) ⟨by simp only [go_sem],by rw [aa];decide⟩ ?_
   simp only [go_sem]
   refine H6 X (cs:=[.d (.sl (some 9) (ns.map enD)),.d (.sl (some 2) ((bn ns).map bD)),.vw [27] 0 ns.length]) rfl ⟨by simp only [go_sem],by rw [aa];decide⟩ ?_
   simp only [go_sem]
   refine ⟨by decide +kernel,?_⟩
   rw [ai ⟨by omega,by omega⟩]
   rw [show ((ns.length-1:Nat):Int)=(ns.length:Int)-1 by omega,List.map_replicate] at c3
   refine aU E (tau [([100],[29]),([101],[27])]) _ _ _ c3 rfl (by simp only [go_sem];try rfl) ⟨by simp only [go_sem],by first | (rw [aa];decide) | (simp only [go_sem]<;>(try rw [aa])<;>decide)⟩ rfl (by simp only [go_sem];try rfl) (by simp only [go_sem]) ?_
   rintro _ _ ⟨rfl,rfl⟩
   refine ⟨by simp only [go_sem];try simp;try omega,?_⟩
   simp only [go_sem]
   refine ⟨[],?_⟩
   simp only [go_sem]
  ·rw [if_neg (fun h=>h1 (herr.2 h).2)]
   unfold exD at c1 c2 ⊢
   refine ax Tryz.func63 rfl (by decide +kernel) (by simp [Tryz.ntmps63]) (veil fun E=>?_)
   simp only [go_sem]
   refine ag E (c1) rfl rfl (by simp) ?_
   rintro _ rfl
   simp only [go_sem]
   refine ag E (c2) rfl rfl (by simp) ?_
   rintro _ rfl
   simp only [go_sem]
   refine ah E (fun _=>?_) (fun h=>absurd (by simpa using h) h1)<;>simp only [go_sem]
   refine ⟨[],?_⟩
   simp only [go_sem]
 ·rw [if_neg (fun h=>h0 (herr.2 h).1)]
  rw [if_neg h0] at c1
  clear herr
  generalize cH ns=b at c1 h0
  unfold exD at c1 ⊢
  refine ax Tryz.func63 rfl (by decide +kernel) (by simp [Tryz.ntmps63]) (veil fun E=>?_)
  simp only [go_sem]
  refine ag E (c1) rfl rfl (by simp) ?_
  rintro _ rfl
  simp only [go_sem]
  refine ah E (fun _=>?_) (fun h=>absurd (by simpa using h) h0)<;>simp only [go_sem]
  refine ⟨[],?_⟩
  simp only [go_sem]
end Go.Proofs.YtejpnabbmgpmaaaGreat

namespace Go.Proofs.YtejpnabbmgpmaaaGreat
open Go.Ab
theorem DZ {ns:List EN} {i:Nat} (h:(ndE ns i).k≠4):gi ns i=none:=by
 unfold gi bH
 rw [if_neg h,if_neg]
 rintro ⟨h,_⟩
 exact absurd h (by decide)
set_option maxHeartbeats 2000000 in
theorem xH {G} (ns:List EN) (ht:cW ns) (hN:ns.length≤1000000) (hs:∀ n∈ns,n.l.length≤900000) (hcl:∀ j,j<ns.length→(ndE ns j).k=4→0≤(bH ns j).1) :
  ∀ (m i:Nat) (ws:List Int),i<ns.length→rkE ns i<m→ws.length=ns.length→Wb ws→HCall Tryz.prog G 115 [.d (exD ns),.d (.sl (some 2) ((bn ns).map bD)),.d (i64 (i:Int)),.vw [101] 0 ns.length] [([101],.arr none (ws.map i64))] [101] (fun r hp'=>r=.d (i64 (wdM (-1) ns m ws i).1)∧hp'=[([101],.arr none ((wdM (-1) ns m ws i).2.map i64))])
 | 0,_,_,_,h,_,_=>absurd h (Nat.not_lt_zero _)
 | m+1,i,ws,hi,hm,hl,hw=>by
   have ih:=xH (G:=G) ns ht hN hs hcl m
   have hk:=aO ht
   have hs':∀ n∈ns,n.l.length≤1000000:=fun n hn=>by have:=hs n hn;omega
   have hf:=md (z:=-1) (by decide) ns ns.length m
   have hg:=aP hi
   have hgB:=qu hi
   have hsi:=hs' _ (by rw [bG hi];exact List.getElem_mem hi:ndE ns i∈ns)
   have hkn:=aM hk hi
   have hbi:=w8 ht hi
   have hda:∀ a,gi ns i=some a→_:=fun a=>rh ht hi
   have hrk:∀ k:Nat,(k:Int)∈aj (ndE ns i)→rkE ns k<rkE ns i:=fun k=>sk ht hi
   have hdf:gi ns i=if 0≤(bH ns i).1∧((ndE ns (bH ns i).1.toNat).k=7∨(ndE ns (bH ns i).1.toNat).k=8)∧bp ns ns.length (ndE ns (bH ns i).1.toNat).a i=false then some (ndE ns (bH ns i).1.toNat).a else none:=rfl
   have hdn:=DZ (ns:=ns) (i:=i)
   have hci:=hcl i hi
   have hkc:=mA (G:=G) (ndE ns i) hsi
   generalize hR:wdM (-1) ns (m+1) ws i=R
   rw [wdM,Int.toNat_natCast] at hR
   obtain ⟨n,hne⟩:∃ n,n=ndE ns i:=⟨_,rfl⟩
   rw [← hne] at hg hsi hkn hR hrk hkc hdn hci
   obtain ⟨K,hK⟩:∃ K,K=aj n:=⟨_,rfl⟩
   have hKl:K.length≤1000003:=by rw [hK,bt];unfold bf;have:=bC n.k;split<;>omega
   rw [← hK] at hkc hkn hR hrk
   obtain ⟨b,hb⟩:∃ b,b=bH ns i:=⟨_,rfl⟩
   rw [← hb] at hgB hbi hdf hci
   have hg0:=hw.get i
   obtain ⟨p,hp⟩:∃ p,p=wd0 ns (wdM (-1) ns m) ws i:=⟨_,rfl⟩
   have hpo:=vK hf ns i hl hw
   rw [← hp] at hR hpo
   have hpn:gi ns i=none→p=(1,ws):=fun h=>by rw [hp];unfold wd0;rw [h]
   have hps:∀ a,gi ns i=some a→p=(1+(wdM (-1) ns m ws a).1,(wdM (-1) ns m ws a).2):=fun a h=>by rw [hp];unfold wd0;rw [h]
   have hBl:=eB ns
   clear hp
   unfold exD at ih ⊢
   refine gl Tryz.func115 rfl (by decide +kernel) (by simp [Tryz.ntmps115]) fun B0 hB0=>?_
   refine aB (aq fun E=>?_)
   simp only [go_sem]
   refine aB (aq fun E=>?_)
   simp only [go_sem]
   refine ⟨⟨by omega,by omega⟩,?_⟩
   rw [aw (by omega)]
   simp only [go_sem]
   refine ah E (fun g1=>?_) (fun g1=>?_)<;>simp only [go_sem]
   ·rw [if_pos (by omega)] at hR
    refine ⟨⟨by omega,by omega⟩,?_⟩
    rw [aw (by omega)]
    simp only [go_sem]
    rw [← hR]
    refine uk (.inl rfl) hB0 ?_
    simp only [go_sem]
    refine ⟨_,_,[101],id,⟨rfl,rfl⟩,?_⟩
    simp only [go_sem]
   rw [if_neg (by omega)] at hR
   refine aB (aq fun E=>?_)
   simp only [go_sem]
   refine aB (my [(1,.d (.sl (some 2) ((bn ns).map bD))),(2,.d (i64 i)),(3,.vw [101] 0 ns.length),(4,.bx [4] 0),(9,.d (i64 p.1))] [([4],.box [.d (.sl (some 9) (ns.map enD))]),([101],.arr none (p.2.map i64))] [4,101] (fun E=>?_) ?_)
   ·simp only [go_sem]
    refine ⟨⟨by omega,by omega⟩,?_⟩
    rw [hgB]
    simp only [go_sem]
    refine ak mixed E fun X=>?_
    simp only [go_sem]
    refine ⟨⟨by omega,by omega⟩,?_⟩
    rw [hg]
    simp only [go_sem]
    refine nR X (fun h4=>?_) (fun h4=>?_)<;>simp only [go_sem]
    ·have g2:=hci h4
     obtain ⟨x,hx1,hx2⟩:=hbi g2
     rw [hx1] at hdf ⊢
     simp only [Int.toNat_natCast] at hdf
     have hgx:=aP hx2
     have hkx:=aM hk hx2
     obtain ⟨nx,hnx⟩:∃ nx,nx=ndE ns x:=⟨_,rfl⟩
     rw [← hnx] at hgx hkx hdf
     refine ⟨⟨by omega,by omega⟩,?_⟩
     first | rw [hgx] | rw [Int.toNat_natCast,hgx]
     simp only [go_sem]
     have hax:nx.k=7∨nx.k=8→∃ a:Nat,nx.a=(a:Int)∧a<ns.length:=fun h=>by
      have hke:aj nx=[nx.a,nx.b]:=by
       rcases h with h | h<;>simp [aj,h,aG,aI]
      obtain ⟨q1,q2⟩:=hkx nx.a (by rw [hke];exact List.mem_cons_self)
      exact ⟨nx.a.toNat,by omega,by omega⟩
     refine nR X (fun h7=>?_) (fun h7=>?_)<;>simp only [go_sem]
     ·obtain ⟨a,ha,han⟩:=hax (.inl h7)
      have hcu:=qO (G:=G) ns hs' hk (i:Int) ns.length a han han
      rw [← ha] at hcu
      unfold exD at hcu
      refine ⟨⟨by omega,by omega⟩,?_⟩
      first | rw [hgx] | rw [Int.toNat_natCast,hgx]
      simp only [go_sem]
      refine bK X hcu rfl rfl (by simp) ?_
      cases hwb:bp ns ns.length nx.a i with
      | true =>
        have e0:=hpn (by rw [hdf,if_neg (by rw [hwb];simp)])
        simp only [go_sem]
        refine ⟨by decide +kernel,?_⟩
        try simp only [go_sem]
        refine cG id ?_
        rw [e0]
        simp only [go_sem]
        all_goals first | rfl | exact ⟨rfl,rfl⟩
      | false =>
        have e0:=hps _ (by rw [hdf,if_pos ⟨by omega,(.inl h7),hwb⟩])
        obtain ⟨b1,b2,b3⟩:=hda _ (by rw [hdf,if_pos ⟨by omega,(.inl h7),hwb⟩])
        rw [ha,Int.toNat_natCast] at b3
        have hfa:=hf ws nx.a hl hw
        have ihc:=ih a ws han (by omega) hl hw
        rw [← ha] at ihc
        simp only [go_sem]
        refine ⟨by decide +kernel,?_⟩
        try simp only [go_sem]
        refine ak mixed E fun X=>?_
        simp only [go_sem]
        refine ⟨⟨by omega,by omega⟩,?_⟩
        first | rw [hgx] | rw [Int.toNat_natCast,hgx]
        simp only [go_sem]
        refine aZ X _ _ _ _ _ ihc rfl rfl ⟨by simp only [go_sem],by first | (rw [aa];decide) | (simp only [go_sem]<;>(try rw [aa])<;>decide)⟩ (by simp only [go_sem]) (by simp only [go_sem]) (by simp only [go_sem]) (by simp only [go_sem];try omega) ?_
        simp only [go_sem]
        refine ⟨by decide +kernel,?_⟩
        rw [ai ⟨by omega,by omega⟩]
        refine cG id ?_
        rw [e0]
        simp only [go_sem]
        all_goals first | rfl | exact ⟨rfl,rfl⟩
     ·refine ⟨⟨by omega,by omega⟩,?_⟩
      first | rw [hgx] | rw [Int.toNat_natCast,hgx]
      simp only [go_sem]
      refine nR X (fun h8=>?_) (fun h8=>?_)<;>simp only [go_sem]
      ·obtain ⟨a,ha,han⟩:=hax (.inr h8)
       have hcu:=qO (G:=G) ns hs' hk (i:Int) ns.length a han han
       rw [← ha] at hcu
       unfold exD at hcu
       refine ⟨⟨by omega,by omega⟩,?_⟩
       first | rw [hgx] | rw [Int.toNat_natCast,hgx]
       simp only [go_sem]
       refine bK X hcu rfl rfl (by simp) ?_
       cases hwb:bp ns ns.length nx.a i with
       | true =>
         have e0:=hpn (by rw [hdf,if_neg (by rw [hwb];simp)])
         simp only [go_sem]
         refine ⟨by decide +kernel,?_⟩
         try simp only [go_sem]
         refine cG id ?_
         rw [e0]
         simp only [go_sem]
         all_goals first | rfl | exact ⟨rfl,rfl⟩
       | false =>
         have e0:=hps _ (by rw [hdf,if_pos ⟨by omega,(.inr h8),hwb⟩])
         obtain ⟨b1,b2,b3⟩:=hda _ (by rw [hdf,if_pos ⟨by omega,(.inr h8),hwb⟩])
         rw [ha,Int.toNat_natCast] at b3
         have hfa:=hf ws nx.a hl hw
         have ihc:=ih a ws han (by omega) hl hw
         rw [← ha] at ihc
         simp only [go_sem]
         refine ⟨by decide +kernel,?_⟩
         try simp only [go_sem]
         refine ak mixed E fun X=>?_
         simp only [go_sem]
         refine ⟨⟨by omega,by omega⟩,?_⟩
         first | rw [hgx] | rw [Int.toNat_natCast,hgx]
         simp only [go_sem]
         refine aZ X _ _ _ _ _ ihc rfl rfl ⟨by simp only [go_sem],by first | (rw [aa];decide) | (simp only [go_sem]<;>(try rw [aa])<;>decide)⟩ (by simp only [go_sem]) (by simp only [go_sem]) (by simp only [go_sem]) (by simp only [go_sem];try omega) ?_
         simp only [go_sem]
         refine ⟨by decide +kernel,?_⟩
         rw [ai ⟨by omega,by omega⟩]
         refine cG id ?_
         rw [e0]
         simp only [go_sem]
         all_goals first | rfl | exact ⟨rfl,rfl⟩
      ·have e0:=hpn (by rw [hdf,if_neg (by rintro ⟨_,h,_⟩;exact h.elim h7 h8)])
       refine ⟨by decide +kernel,?_⟩
       try simp only [go_sem]
       refine cG id ?_
       rw [e0]
       simp only [go_sem]
       all_goals first | rfl | exact ⟨rfl,rfl⟩
    ·have e0:=hpn (hdn h4)
     refine ⟨by decide +kernel,?_⟩
     try simp only [go_sem]
     refine cG id ?_
     rw [e0]
     simp only [go_sem]
     all_goals first | rfl | exact ⟨rfl,rfl⟩
   refine aB (aq fun E=>?_)
   simp only [go_sem]
   refine ⟨⟨by omega,by omega⟩,?_⟩
   rw [hg]
   simp only [go_sem]
   refine ag E hkc rfl rfl (by simp) ?_
   rintro _ rfl
   simp only [go_sem]
   refine aB (aq fun E=>?_)
   simp only [go_sem]
   refine bl E (X:={ x:Nat × (Int × List Int) // x.1≤K.length∧(0≤x.2.1∧x.2.1≤1000001∧x.2.2.length=ns.length∧Wb x.2.2)∧(K.drop x.1).foldl (wdK (wdM (-1) ns m)) x.2=K.foldl (wdK (wdM (-1) ns m)) p })
    (fun x=>[(1,.d (.sl (some 2) ((bn ns).map bD))),(2,.d (i64 i)),(3,.vw [101] 0 ns.length),(4,.bx [4] 0),(9,.d (i64 x.1.2.1)),(11,.d (.sl none (K.map i64))),(12,.d (i64 x.1.1))])
    (fun x=>[([4],.box [.d (.sl (some 9) (ns.map enD))]),([101],.arr none (x.1.2.2.map i64))]) [4,101] (fun x=>K.length-x.1.1) ⟨(0,p),Nat.zero_le _,hpo,rfl⟩ ?_ ?_
   ·simp only [go_sem]
    all_goals first | rfl | exact ⟨rfl,rfl⟩
   rintro ⟨⟨q,y⟩,hq,hyo,hyf⟩ E0
   refine aC E0 fun Q' hQ E'=>?_
   simp only at hq hyo hyf ⊢
   simp only [go_sem]
   refine ah E' (fun f1=>?_) (fun f1=>?_)<;>simp only [go_sem]
   ·have hq':q<K.length:=by omega
    refine ak mixed E' fun X=>?_
    simp only [go_sem]
    refine ⟨⟨by omega,by omega⟩,?_⟩
    have hkm:=List.getElem_mem hq'
    have hkq:=hkn K[q] hkm
    obtain ⟨k,hkk⟩:∃ k:Nat,K[q]=(k:Int):=⟨K[q].toNat,by omega⟩
    rw [aw hq',show K.getD q 0=(k:Int) by simp [hq',hkk]]
    rw [hkk] at hkm
    have hrkk:=hrk k hkm
    have hfk:=hf y.2 (k:Int) hyo.2.2.1 hyo.2.2.2
    simp only [go_sem]
    refine aZ X _ _ _ _ _ (ih k y.2 (by omega) (by omega) hyo.2.2.1 hyo.2.2.2) rfl rfl ⟨by simp only [go_sem],by first | (rw [aa];decide) | (simp only [go_sem]<;>(try rw [aa])<;>decide)⟩ (by simp only [go_sem]) (by simp only [go_sem]) (by simp only [go_sem]) (by simp only [go_sem];try omega) ?_
    simp only [go_sem]
    refine ⟨by decide +kernel,?_⟩
    rw [ai (n:=y.1+(wdM (-1) ns m y.2 (k:Int)).1) ⟨by omega,by omega⟩,ai (n:=(q:Int)+1) ⟨by omega,by omega⟩,ru,hQ]
    simp only [go_sem]
    refine ⟨⟨(q+1,wdK (wdM (-1) ns m) y (k:Int)),by show q+1≤_;omega,⟨by show 0≤min (y.1+(wdM (-1) ns m y.2 (k:Int)).1) 1000000;omega,by show min (y.1+(wdM (-1) ns m y.2 (k:Int)).1) 1000000≤1000001;omega,hfk.2.2.1,hfk.2.2.2⟩,?_⟩,by show K.length-(q+1)<_;omega,?_⟩
    ·show (K.drop (q+1)).foldl (wdK (wdM (-1) ns m)) (wdK (wdM (-1) ns m) y (k:Int))=_
     rw [← hyf,List.drop_eq_getElem_cons hq',List.foldl_cons,hkk]
    ·first | rfl | exact ⟨rfl,rfl⟩ | exact ⟨⟨rfl,rfl⟩,rfl⟩
   ·have h3:q=K.length:=by omega
    subst h3
    rw [List.drop_length,List.foldl_nil] at hyf
    rw [← hyf] at hR
    obtain ⟨y1,y2,y3,y4⟩:=hyo
    rw [hQ]
    simp only [go_sem]
    refine aB (aq fun E=>?_)
    simp only [go_sem]
    refine ⟨⟨by omega,by omega⟩,?_⟩
    rw [ru]
    rw [show (y.2.map i64).set i (.int .i64 (min y.1 1000000))=(y.2.set i (min y.1 1000000)).map i64 by rw [List.map_set]]
    refine aq fun E=>?_
    simp only [go_sem]
    refine ⟨⟨by omega,by omega⟩,?_⟩
    rw [aw (by rw [List.length_set];omega),show (y.2.set i (min y.1 1000000)).getD i 0=min y.1 1000000 by simp [List.getD_eq_getElem?_getD,y3,hi]]
    simp only [go_sem]
    rw [← hR]
    refine uk (.inl rfl) hB0 ?_
    simp only [go_sem]
    refine ⟨_,_,[101],id,⟨rfl,rfl⟩,?_⟩
    simp only [go_sem]
end Go.Proofs.YtejpnabbmgpmaaaGreat

namespace Go.Proofs.YtejpnabbmgpmaaaGreat
open Go.Ab
theorem vE {ns:List EN} (h:b9 ns<0):∀ j,j<ns.length→(ndE ns j).k=4→0≤(bH ns j).1:=fun j hj h4=>by
 refine Classical.byContradiction fun hn=>?_
 unfold b9 at h
 cases hf:(List.range ns.length).find? (fun i=>decide ((ndE ns i).k=4) && decide ((bH ns i).1<0)) with
 | none =>
   have:=List.find?_eq_none.1 hf j (List.mem_range.2 hj)
   simp [h4] at this
   omega
 | some i =>
   rw [hf] at h
   simp at h
   omega
set_option maxHeartbeats 1000000 in
theorem HF {G} (ns:List EN) (ht:cW ns) (hc:b9 ns<0) (hN:ns.length≤1000000) (hl:∀ n∈ns,n.l.length≤900000):HP Tryz.prog G 65 [exD ns] (fun r=>r=.d (i64 (wvE ns (ns.length-1)))):=by
 have hl':∀ n∈ns,n.l.length≤1000000:=fun n hn=>by have:=hl n hn;omega
 have hp:=ht.pos
 have c1:=wu (G:=G) ns ht hN hl'
 obtain ⟨hv,_⟩:=rP (z:=-1) (by decide) ht (rkE ns (ns.length-1)+1) (ns.length-1) (by omega) (by omega) _ (Aq (-1) ns)
 have hwb:Wb (List.replicate ns.length (-1)):=fun x hx=>by rw [List.mem_replicate] at hx;omega
 have c3:=xH (G:=G) ns ht hN hl (vE hc) (rkE ns (ns.length-1)+1) (ns.length-1) (List.replicate ns.length (-1)) (by omega) (by omega) (by simp) hwb
 have hWl:=(md (z:=-1) (by decide) ns ns.length (rkE ns (ns.length-1)+1) (List.replicate ns.length (-1)) ((ns.length-1:Nat):Int) (by simp) hwb).2.2.1
 rw [hv] at c3
 generalize (wdM (-1) ns (rkE ns (ns.length-1)+1) (List.replicate ns.length (-1)) ((ns.length-1:Nat):Int)).2=W at c3 hWl
 have hvp:=FU ns (ns.length-1)
 generalize wvE ns (ns.length-1)=V at c3 hvp ⊢
 unfold exD at c1 c3 ⊢
 refine ax Tryz.func65 rfl (by decide +kernel) (by simp [Tryz.ntmps65]) (veil fun E=>?_)
 simp only [go_sem]
 refine ag E (c1) rfl rfl (by simp) ?_
 rintro _ rfl
 simp only [go_sem]
 refine ⟨⟨by omega,by omega,by omega,by omega⟩,?_⟩
 rw [show (List.replicate ns.length (D.int IntKind.i64 0))=((List.replicate 0 (-1)++List.replicate (ns.length-0) 0:List Int).map i64) by simp]
 refine bl E (X:={ i:Nat // i≤ns.length }) (fun x=>[(1,.bx [1] 0),(3,.d (.sl (some 2) ((bn ns).map bD))),(5,.vw [12] 0 ns.length),(6,.d (i64 x.1))])
  (fun x=>[([1],.box [.d (.sl (some 9) (ns.map enD))]),([12],.arr none ((List.replicate x.1 (-1)++List.replicate (ns.length-x.1) 0:List Int).map i64))]) [1,12] (fun x=>ns.length-x.1) ⟨0,Nat.zero_le _⟩ ?_ ?_
 ·simp only [go_sem]
  all_goals first | rfl | exact ⟨rfl,rfl⟩
 rintro ⟨i,hi⟩ E0
 refine aC E0 fun Q' hQ E'=>?_
 simp only at hi ⊢
 simp only [go_sem]
 refine ah E' (fun f1=>?_) (fun f1=>?_)<;>simp only [go_sem]
 ·have hst:(List.replicate i (-1)++List.replicate (ns.length-i) 0:List Int).set i (-1)=List.replicate (i+1) (-1)++List.replicate (ns.length-(i+1)) 0:=by
   rw [List.set_append_right _ _ (by simp),List.length_replicate,Nat.sub_self,show ns.length-i=(ns.length-(i+1))+1 by omega,List.replicate_succ,List.set_cons_zero,List.replicate_succ',List.append_assoc]
   rfl
  refine ⟨⟨by omega,by omega⟩,?_⟩
  rw [ai ⟨by omega,by omega⟩,show ((List.replicate i (-1)++List.replicate (ns.length-i) 0:List Int).map i64).set i (.int .i64 (-1))=(List.replicate (i+1) (-1)++List.replicate (ns.length-(i+1)) 0:List Int).map i64 by rw [← hst,List.map_set],hQ]
  simp only [go_sem]
  refine ⟨⟨i+1,by omega⟩,by show ns.length-(i+1)<_;omega,?_⟩
  first | rfl | exact ⟨rfl,rfl⟩
 ·have h3:i=ns.length:=by omega
  subst h3
  rw [hQ,Nat.sub_self,List.replicate_zero,List.append_nil]
  simp only [go_sem]
  rw [ai ⟨by omega,by omega⟩]
  rw [show ((ns.length-1:Nat):Int)=(ns.length:Int)-1 by omega] at c3
  refine aU E (tau [([101],[12])]) _ _ _ c3 rfl (by simp only [go_sem];try rfl) ⟨by simp only [go_sem],by first | (rw [aa];decide) | (simp only [go_sem]<;>(try rw [aa])<;>decide)⟩ rfl (by simp only [go_sem];try rfl) (by simp only [go_sem]) ?_
  rintro _ _ ⟨rfl,rfl⟩
  refine ⟨by simp only [go_sem];try simp;try omega,?_⟩
  simp only [go_sem]
  rw [if_neg (by omega)]
  refine ⟨[],?_⟩
  simp only [go_sem]
theorem Gk {G} (ns:List EN) (hs:∀ n∈ns,dx BIG n) (hN:ns.length≤1000000) (hl:∀ n∈ns,n.l.length≤900000):HP Tryz.prog G 21 [exD ns] (fun r=>r=.d (i64 (cJ ns))):=by
 have hl':∀ n∈ns,n.l.length≤1000000:=fun n hn=>by have:=hl n hn;omega
 have c1:=Hh (G:=G) ns hs hN hl'
 unfold cJ
 by_cases h0:rQ ns=0
 ·have hm:cH ns=0:=by
   refine Classical.byContradiction fun h=>?_
   unfold rQ at h0
   rw [if_pos h] at h0
   exact h h0
  have hc:b9 ns<0:=by
   refine Classical.byContradiction fun h=>?_
   unfold rQ at h0
   rw [if_neg (by simp [hm]),if_pos (by omega)] at h0
   exact absurd h0 (by decide)
  have c2:=HF (G:=G) ns (pM hm) hc hN hl
  rw [if_pos h0]
  rw [h0] at c1
  unfold exD at c1 c2 ⊢
  refine al Tryz.func21 rfl (by decide +kernel) (by simp [Tryz.ntmps21]) (veil fun E=>?_)
  simp only [go_sem]
  refine ag E (c1) rfl rfl (by simp) ?_
  rintro _ rfl
  simp only [go_sem]
  refine ag E (c2) rfl rfl (by simp) ?_
  rintro _ rfl
  simp only [go_sem]
 ·rw [if_neg h0]
  unfold exD at c1 ⊢
  refine al Tryz.func21 rfl (by decide +kernel) (by simp [Tryz.ntmps21]) (veil fun E=>?_)
  simp only [go_sem]
  refine ag E (c1) rfl rfl (by simp) ?_
  rintro _ rfl
  simp only [go_sem]
  refine ah E (fun _=>?_) (fun h=>absurd (by simpa using h) h0)<;>simp only [go_sem]
theorem CF {G} (ns:List EN) (hs:∀ n∈ns,dx BIG n) (hN:ns.length≤1000000) (hl:∀ n∈ns,n.l.length≤900000):HP Tryz.prog G 20 [exD ns] (fun r=>r=.d (i64 (cJ ns))):=by
 have c1:=G9 (G:=G) ns hs hN hl
 unfold exD at c1 ⊢
 refine al Tryz.func20 rfl (by decide +kernel) (by simp [Tryz.ntmps20]) (veil fun E=>?_)
 simp only [go_sem]
 refine ag E (c1) rfl rfl (by simp) ?_
 rintro _ rfl
 simp only [go_sem]
def bgD (b:Int × Int × Int × Int):D:=.agg [i64 b.1,i64 b.2.1,i64 b.2.2.1,i64 b.2.2.2]
theorem Ax {G} (ns:List EN) (hm:cH ns=0) (hs:∀ n∈ns,dx BIG n) (hN:ns.length≤1000000) (hl:∀ n∈ns,n.l.length≤900000):HP Tryz.prog G 66 [exD ns] (fun r=>r=.d (bgD (0,bJ ns,cJ ns,0))):=by
 have c1:=Ep (G:=G) ns hs hN
 have c2:=CF (G:=G) ns hs hN hl
 rw [if_pos hm] at c1
 unfold bgD
 unfold exD at c1 c2 ⊢
 refine ax Tryz.func66 rfl (by decide +kernel) (by simp [Tryz.ntmps66]) (veil fun E=>?_)
 simp only [go_sem]
 refine ak mixed E fun X=>?_
 simp only [go_sem]
 refine bK X c1 rfl rfl (by simp) ?_
 simp only [go_sem]
 refine bK X c2 rfl rfl (by simp) ?_
 simp only [go_sem]
 refine ⟨by decide +kernel,[],?_⟩
 simp only [go_sem]
def gf (ns:List EN) (b:Int × Int × Int × Int):Int:=if cH ns≠0 then cH ns else if bJ ns > b.2.1 then 6 else if cJ ns > b.2.2.1 then 8 else 0
theorem As {G} (ns:List EN) (b:Int × Int × Int × Int) (hs:∀ n∈ns,dx BIG n) (hN:ns.length≤1000000) (hl:∀ n∈ns,n.l.length≤900000):HP Tryz.prog G 22 [exD ns,bgD b] (fun r=>r=.d (i64 (gf ns b))):=by
 have c1:=o0 (G:=G) ns hs hN
 generalize hR:gf ns b=R
 unfold gf at hR
 by_cases hm:cH ns=0
 ·have c2:=Ax (G:=G) ns hm hs hN hl
  rw [hm] at c1
  rw [if_neg (by simp [hm])] at hR
  unfold bgD at c2 ⊢
  unfold exD at c1 c2 ⊢
  refine al Tryz.func22 rfl (by decide +kernel) (by simp [Tryz.ntmps22]) (veil fun E=>?_)
  simp only [go_sem]
  refine ag E (c1) rfl rfl (by simp) ?_
  rintro _ rfl
  simp only [go_sem]
  refine ag E (c2) rfl rfl (by simp) ?_
  rintro _ rfl
  simp only [go_sem]
  refine ah E (fun g1=>?_) (fun g1=>?_)<;>simp only [go_sem]
  ·rw [if_pos g1] at hR
   rw [← hR]
  rw [if_neg g1] at hR
  refine ah E (fun g2=>?_) (fun g2=>?_)<;>simp only [go_sem]
  ·rw [if_pos g2] at hR
   rw [← hR]
  ·rw [if_neg g2] at hR
   rw [← hR]
 ·rw [if_pos hm] at hR
  rw [hR] at c1 hm
  unfold bgD
  unfold exD at c1 ⊢
  refine al Tryz.func22 rfl (by decide +kernel) (by simp [Tryz.ntmps22]) (veil fun E=>?_)
  simp only [go_sem]
  refine ag E (c1) rfl rfl (by simp) ?_
  rintro _ rfl
  simp only [go_sem]
  refine ah E (fun _=>?_) (fun h=>absurd (by simpa using h) hm)<;>simp only [go_sem]
end Go.Proofs.YtejpnabbmgpmaaaGreat

namespace Go.Proofs.YtejpnabbmgpmaaaGreat
open Go.Ab
theorem im {s:List UInt8} (hl:s.length≤100000) (h:(an s).2.2=0):(an s).1.length≤1000000∧∀ n∈(an s).1,dx BIG n:=by
 obtain ⟨_,_,hl3,_⟩:=mc s
 have hls:=Dg s
 unfold an at h ⊢
 split
 ·rename_i g;rw [if_pos g] at h;exact absurd h g
 rename_i he
 rw [if_neg he] at h
 have g3:=dr 100 (eC (bo s).1 (bo s).2.1)
 have n3:=m8 (B:=200) 100 (eC (bo s).1 (bo s).2.1) hls
 have hx:=rN g3 (by show (bo s).1.length≤_;omega) n3
 unfold fV at h ⊢
 repeat' split
 ·exact ⟨Nat.zero_le _,fun _ h=>by cases h⟩
 ·exact ⟨Nat.zero_le _,fun _ h=>by cases h⟩
 ·exact ⟨Nat.zero_le _,fun _ h=>by cases h⟩
 ·exact hx
end Go.Proofs.YtejpnabbmgpmaaaGreat

namespace Go.Proofs.YtejpnabbmgpmaaaGreat
open Go.Ab
def dD (s:List UInt8) (b:Int × Int × Int × Int):List EN × Int × Int :=
 if (s.length:Int) > b.1 then ([],0,7) else if (an s).2.2≠0 then ([],(an s).2.1,(an s).2.2) else if gf (an s).1 b≠0 then ([],0,gf (an s).1 b) else ((an s).1,0,0)
theorem lF {s:List UInt8} (hl:s.length≤100000) (h:(an s).2.2=0):∀ n∈(an s).1,n.l.length≤900000:=by
 obtain ⟨_,_,hl3,_⟩:=mc s
 unfold an at h ⊢
 split
 ·rename_i g;rw [if_pos g] at h;exact absurd h g
 rename_i he
 rw [if_neg he] at h
 have g3:=(dr 100 (eC (bo s).1 (bo s).2.1)).wd
 have hx:∀ n∈(er 100 (eC (bo s).1 (bo s).2.1)).1,n.l.length≤900000:=fun n hn=>by
  have:=g3 n hn
  have h4:(eC (bo s).1 (bo s).2.1).l.length=(bo s).1.length:=rfl
  omega
 unfold fV at h ⊢
 repeat' split
 ·exact fun _ h=>by cases h
 ·exact fun _ h=>by cases h
 ·exact fun _ h=>by cases h
 ·exact hx
theorem lV {G} (s:List UInt8) (b:Int × Int × Int × Int) (hl:s.length≤100000):HP Tryz.prog G 26 [.str s,bgD b] (fun r=>r=bb (dD s b)):=by
 have c1:=CU (G:=G) s hl
 have ho:=gZ (s:=s)
 have hsn:=im (s:=s) hl
 have hp:=lF (s:=s) hl
 generalize hR:dD s b=R
 unfold dD at hR
 generalize an s=p at c1 ho hsn hR hp
 unfold bgD
 refine ax Tryz.func26 rfl (by decide +kernel) (by simp [Tryz.ntmps26]) (veil fun E=>?_)
 simp only [go_sem]
 refine ah E (fun g1=>?_) (fun g1=>?_)<;>simp only [go_sem]
 ·rw [if_pos g1] at hR
  rw [← hR]
  refine ⟨[],?_⟩
  unfold bb
  simp only [go_sem]
 rw [if_neg g1] at hR
 by_cases h0:p.2.2=0
 ·obtain ⟨_,hm,hpp⟩:=ho h0
  obtain ⟨hN,hs⟩:=hsn h0
  have c2:=As (G:=G) p.1 b hs hN (hp h0)
  rw [if_neg (by simp [h0])] at hR
  rw [show bb p=.tup [.d (.agg [.sl (some 9) (p.1.map enD)]),.d (i64 0),.d (i64 0)] by unfold bb exD;rw [if_pos h0,h0,hpp]] at c1
  obtain ⟨w,hw⟩:∃ w,w=gf p.1 b:=⟨_,rfl⟩
  rw [← hw] at c2 hR
  unfold bgD exD at c2
  refine ag E (c1) rfl rfl (by simp) ?_
  rintro _ rfl
  simp only [go_sem]
  refine ag E (c2) rfl rfl (by simp) ?_
  rintro _ rfl
  simp only [go_sem]
  refine ah E (fun g2=>?_) (fun g2=>?_)<;>simp only [go_sem]
  ·rw [if_pos g2] at hR
   rw [← hR]
   refine ⟨[],?_⟩
   unfold bb
   simp only [go_sem]
   rw [if_neg (by simpa using g2)]
  ·rw [if_neg g2] at hR
   rw [← hR]
   refine ⟨[],?_⟩
   unfold bb
   simp only [go_sem]
   rfl
 ·rw [if_pos h0] at hR
  rw [show bb p=.tup [.d (.agg [.nils]),.d (i64 p.2.1),.d (i64 p.2.2)] by unfold bb;rw [if_neg h0]] at c1
  refine ag E (c1) rfl rfl (by simp) ?_
  rintro _ rfl
  simp only [go_sem]
  refine ah E (fun _=>?_) (fun h=>absurd (by simpa using h) h0)<;>simp only [go_sem]
  rw [← hR]
  refine ⟨[],?_⟩
  unfold bb
  simp only [go_sem]
  rw [if_neg h0]
def coT:List UInt8:=[108,101,116,32,120,32,61,32,49,32,105,110,32,120]
theorem Ff:(dD coT (20,5,9,0)).2.2=0∧(dD coT (20,5,9,0)).2.1=0∧cJ (dD coT (20,5,9,0)).1=4∧gf (dD coT (20,5,9,0)).1 (0,5,3,0)=8∧(an coT).2.2=0∧(dD coT (20,5,9,0)).1=(an coT).1:=by
 have h:(an coT).2.2=0∧gf (an coT).1 (20,5,9,0)=0∧cJ (an coT).1=4∧gf (an coT).1 (0,5,3,0)=8:=by
  decide +kernel
 obtain ⟨h1,h2,h3,h4⟩:=h
 have e:dD coT (20,5,9,0)=((an coT).1,0,0):=by
  unfold dD
  rw [if_neg (by decide),if_neg (by simp [h1]),if_neg (by simp [h2])]
 rw [e]
 exact ⟨rfl,rfl,h3,h4,h1,rfl⟩
theorem BT {G}:HP Tryz.prog G 24 [] (fun r=>r=.d (.bool true)):=by
 have c1:=lV (G:=G) coT (20,5,9,0) (by decide)
 obtain ⟨h1,h2,h3,h4,h5,h6⟩:=Ff
 obtain ⟨hN,hs⟩:=im (s:=coT) (by decide) h5
 have hl:=lF (s:=coT) (by decide) h5
 generalize dD coT (20,5,9,0)=R at c1 h1 h2 h3 h4 h6
 rw [← h6] at hN hs hl
 have he:bb R=.tup [.d (.agg [.sl (some 9) (R.1.map enD)]),.d (i64 0),.d (i64 0)]:=by unfold bb exD;rw [if_pos h1,h1,h2]
 have c2:=CF (G:=G) R.1 hs hN hl
 have c3:=As (G:=G) R.1 (0,5,3,0) hs hN hl
 rw [he] at c1
 rw [h3] at c2
 rw [h4] at c3
 unfold coT bgD at c1
 unfold exD at c2
 unfold exD bgD at c3
 refine al Tryz.func24 rfl (by decide +kernel) (by simp [Tryz.ntmps24]) (veil fun E=>?_)
 simp only [go_sem]
 refine ag E (c1) rfl rfl (by simp) ?_
 rintro _ rfl
 simp only [go_sem]
 refine ag E (c2) rfl rfl (by simp) ?_
 rintro _ rfl
 simp only [go_sem]
 refine ag E (c3) rfl rfl (by simp) ?_
 rintro _ rfl
 simp only [go_sem]
end Go.Proofs.YtejpnabbmgpmaaaGreat

namespace Go.Proofs.YtejpnabbmgpmaaaGreat
open Go.Ab
def enS (s:List UInt8):Int × Int × Int × Int:=if (an s).2.2=0 then ((s.length:Int),bJ (an s).1,cJ (an s).1,0) else ((s.length:Int),0,0,0)
theorem sR {ns:List EN} (ht:cW ns):1≤bJ ns∧bJ ns≤100:=by
 refine ⟨?_,ht.deep⟩
 have hp:=ht.pos
 have hr:=A3 (ns:=ns) (i:=ns.length-1) (by omega) (fun c hc=>aM (aO ht) (by omega) c hc)
 unfold bJ
 rw [hr]
 have hmx:∀ (d:List Int) (ks:List Int) (m:Int),0≤m→0≤ks.foldl (fun m k=>max m (d.getD k.toNat 0)) m:=fun d ks=>by
  induction ks with
  | nil=>exact fun m h=>h
  | cons k r ih=>exact fun m h=>ih (max m (d.getD k.toNat 0)) (by omega)
 have:0≤mx (cM ns []) (aj (ndE ns (ns.length-1))):=hmx _ _ 0 (Int.le_refl 0)
 omega
theorem F1 (ns:List EN):1≤cJ ns∧cJ ns≤1000000:=by
 unfold cJ wvE
 split
 ·obtain ⟨_,h2,h3⟩:=qT ns (rkE ns (ns.length-1)+1) ((ns.length-1:Nat):Int)
  exact ⟨h3 (Nat.succ_pos _),h2⟩
 ·omega
theorem F9:Tryz.prog.ek 36=true:=by decide +kernel
theorem GS {G} (s:List UInt8) (hl:s.length≤100000):HP Tryz.prog G 29 [.str s] (fun r=>r=.d (bgD (enS s))):=by
 have c1:=CU (G:=G) s hl
 have ho:=gZ (s:=s)
 have hsn:=im (s:=s) hl
 have hp:=lF (s:=s) hl
 generalize hR:enS s=R
 unfold enS at hR
 generalize an s=p at c1 ho hsn hR hp
 unfold bgD
 by_cases h0:p.2.2=0
 ·obtain ⟨_,hm,hpp⟩:=ho h0
  obtain ⟨hN,hs⟩:=hsn h0
  obtain ⟨hd1,hd2⟩:=sR (pM hm)
  have c2:=Ax (G:=G) p.1 hm hs hN (hp h0)
  rw [if_pos h0] at hR
  rw [show bb p=.tup [.d (.agg [.sl (some 9) (p.1.map enD)]),.d (i64 0),.d (i64 0)] by unfold bb exD;rw [if_pos h0,h0,hpp]] at c1
  unfold bgD exD at c2
  generalize bJ p.1=dp at *
  generalize cJ p.1=cp at *
  refine ax Tryz.func29 rfl (by decide +kernel) (by simp [Tryz.ntmps29]) (veil fun E=>?_)
  simp only [go_sem]
  refine ag E (c1) rfl rfl (by simp) ?_
  rintro _ rfl
  simp only [go_sem]
  refine ag E (c2) rfl rfl (by simp) ?_
  rintro _ rfl
  simp only [go_sem]
  refine F7 E (r:=false) F9 (by rw [GN]) (by simp only [go_sem]) rfl rfl (by simp [eqS,eqP,kOk,ti3];omega) ?_
  simp only [go_sem]
  refine ah E (fun h=>absurd h (by omega)) (fun _=>?_)<;>simp only [go_sem]
  rw [← hR]
  refine ⟨[],?_⟩
  simp only [go_sem]
 ·rw [if_neg h0] at hR
  rw [show bb p=.tup [.d (.agg [.nils]),.d (i64 p.2.1),.d (i64 p.2.2)] by unfold bb;rw [if_neg h0]] at c1
  refine ax Tryz.func29 rfl (by decide +kernel) (by simp [Tryz.ntmps29]) (veil fun E=>?_)
  simp only [go_sem]
  refine ag E (c1) rfl rfl (by simp) ?_
  rintro _ rfl
  simp only [go_sem]
  refine ah E (fun h=>absurd h h0) (fun _=>?_)<;>simp only [go_sem]
  refine F7 E (r:=true) F9 (by rw [GN]) (by simp only [go_sem]) rfl rfl (by simp [eqS,eqP,kOk,ti3]) ?_
  simp only [go_sem]
  rw [← hR]
  refine ⟨[],?_⟩
  simp only [go_sem]
theorem qh {s:List UInt8} {m:Int} (hm:0≤m) (h:(an s).2.2=0):dD s ((s.length:Int)+m,bJ (an s).1+m,cJ (an s).1+m,0)=((an s).1,0,0):=by
 obtain ⟨_,hmm,_⟩:=gZ h
 have hw:gf (an s).1 ((s.length:Int)+m,bJ (an s).1+m,cJ (an s).1+m,0)=0:=by
  unfold gf
  simp only
  rw [if_neg (by simpa using hmm),if_neg (by omega),if_neg (by omega)]
 unfold dD
 rw [hw]
 simp only
 rw [if_neg (by omega),if_neg (by simp [h]),if_neg (by decide)]
theorem zH {s:List UInt8} (h:(an s).2.2=0):dD s ((s.length:Int),bJ (an s).1,cJ (an s).1-1,0)=([],0,8):=by
 obtain ⟨_,hmm,_⟩:=gZ h
 have hw:gf (an s).1 ((s.length:Int),bJ (an s).1,cJ (an s).1-1,0)=8:=by
  unfold gf
  simp only
  rw [if_neg (by simpa using hmm),if_neg (by omega),if_pos (by omega)]
 unfold dD
 rw [hw]
 simp only
 rw [if_neg (by omega),if_neg (by simp [h]),if_pos (by decide)]
theorem zE {s:List UInt8} (h:(an s).2.2=0):dD s ((s.length:Int),bJ (an s).1-1,cJ (an s).1,0)=([],0,6):=by
 obtain ⟨_,hmm,_⟩:=gZ h
 have hw:gf (an s).1 ((s.length:Int),bJ (an s).1-1,cJ (an s).1,0)=6:=by
  unfold gf
  simp only
  rw [if_neg (by simpa using hmm),if_pos (by omega)]
 unfold dD
 rw [hw]
 simp only
 rw [if_neg (by omega),if_neg (by simp [h]),if_pos (by decide)]
theorem zr {s:List UInt8} {a b c:Int}:dD s ((s.length:Int)-1,a,b,c)=([],0,7):=by
 unfold dD
 rw [if_pos (by simp only;omega)]
theorem BZ (x:List EN):bb (x,0,0)=.tup [.d (.agg [.sl (some 9) (x.map enD)]),.d (i64 0),.d (i64 0)]:=rfl
theorem se (n e:Int) (h:e≠0):bb ([],n,e)=.tup [.d (.agg [.nils]),.d (i64 n),.d (i64 e)]:=by
 unfold bb
 rw [if_neg h]
set_option maxRecDepth 10000 in
set_option maxHeartbeats 4000000 in
theorem IP {G} (s:List UInt8) (m:Int) (hm:0≤m∧m≤65535):HP Tryz.prog G 6 [.str s,.int .u16 m] (fun r=>r=.d (.bool true)):=by
 have c0:=GF (G:=G) s
 have hS:(s.take 500).length≤500:=by rw [List.length_take];omega
 generalize s.take 500=S at c0 hS
 have hl:S.length≤100000:=by omega
 have c1:=GS (G:=G) S hl
 have c3:=Hg (G:=G) S hl
 have c2:=lV (G:=G) S (enS S) hl
 by_cases h0:(an S).2.2=0
 ·obtain ⟨_,hmm,hpp⟩:=gZ h0
  obtain ⟨hN,hs⟩:=im hl h0
  have hp:=lF hl h0
  have ht:=pM hmm
  obtain ⟨hd1,hd2⟩:=sR ht
  obtain ⟨hc1,hc2⟩:=F1 (an S).1
  have r0:=qh (s:=S) (m:=0) (Int.le_refl 0) h0
  simp only [Int.add_zero] at r0
  have c4:=lV (G:=G) S ((S.length:Int)+m,bJ (an S).1+m,cJ (an S).1+m,0) hl
  have c5:=lV (G:=G) S ((S.length:Int),bJ (an S).1,cJ (an S).1-1,0) hl
  have c6:=lV (G:=G) S ((S.length:Int),bJ (an S).1-1,cJ (an S).1,0) hl
  have c7:=lV (G:=G) S ((S.length:Int)-1,bJ (an S).1,cJ (an S).1,0) hl
  rw [qh hm.1 h0,BZ] at c4
  rw [zH h0,se 0 8 (by decide)] at c5
  rw [zE h0,se 0 6 (by decide)] at c6
  rw [zr,se 0 7 (by decide)] at c7
  have he:enS S=((S.length:Int),bJ (an S).1,cJ (an S).1,0):=by unfold enS;rw [if_pos h0]
  rw [he] at c1 c2
  rw [r0,BZ] at c2
  rw [show bb (an S)=.tup [.d (.agg [.sl (some 9) ((an S).1.map enD)]),.d (i64 0),.d (i64 0)] by unfold bb exD;rw [if_pos h0,h0,hpp]] at c3
  have c8:=Gv (G:=G) (an S).1 hN fun n hn=>by have:=hp n hn;omega
  have hk:∀ i,i<(an S).1.length→(aj (ndE (an S).1 i)).all (inB i)=true:=aO ht
  have hpos:=ht.pos
  have c9:=Cc (G:=G) (an S).1 hN (fun n hn=>by have:=hp n hn;omega) hk (an S).1.length ((an S).1.length-1) (by omega) (by omega)
  have c10:=Gk (G:=G) (an S).1 hs hN hp
  have hde:(cM (an S).1 []).getD ((an S).1.length-1) 0=bJ (an S).1:=rfl
  rw [hde] at c9
  generalize bJ (an S).1=dp at *
  generalize cJ (an S).1=cp at *
  generalize (an S).1=ns at *
  have hix:(((ns.length-1:Nat)):Int)=(ns.length:Int)-1:=by omega
  rw [hix] at c9
  unfold bgD exD at *
  refine al Tryz.func6 rfl (by decide +kernel) (by simp [Tryz.ntmps6]) (veil fun E=>?_)
  simp only [go_sem]
  refine ag E (BT) rfl rfl (by simp) ?_
  rintro _ rfl
  simp only [go_sem]
  refine ag E (c0) rfl rfl (by simp) ?_
  rintro _ rfl
  simp only [go_sem]
  refine ag E (c1) rfl rfl (by simp) ?_
  rintro _ rfl
  simp only [go_sem]
  refine ag E (c2) rfl rfl (by simp) ?_
  rintro _ rfl
  simp only [go_sem]
  refine ag E (c3) rfl rfl (by simp) ?_
  rintro _ rfl
  simp only [go_sem]
  refine ak mixed E fun X=>?_
  simp only [go_sem]
  refine bK X c8 rfl rfl (by simp) ?_
  simp only [go_sem]
  rw [ai (n:=(ns.length:Int)-1) ⟨by omega,by omega⟩]
  refine bK X c9 rfl rfl (by simp) ?_
  simp only [go_sem]
  refine bK X c10 rfl rfl (by simp) ?_
  simp only [go_sem]
  refine ⟨by decide +kernel,?_⟩
  rw [ai (n:=m) ⟨by omega,by omega⟩,ai (n:=(S.length:Int)+m) ⟨by omega,by omega⟩,ai (n:=dp+m) ⟨by omega,by omega⟩,ai (n:=cp+m) ⟨by omega,by omega⟩]
  refine ag E (c4) rfl rfl (by simp) ?_
  rintro _ rfl
  simp only [go_sem]
  rw [ai (n:=cp-1) ⟨by omega,by omega⟩]
  refine ag E (c5) rfl rfl (by simp) ?_
  rintro _ rfl
  simp only [go_sem]
  rw [ai (n:=dp-1) ⟨by omega,by omega⟩]
  refine ag E (c6) rfl rfl (by simp) ?_
  rintro _ rfl
  simp only [go_sem]
  rw [ai (n:=(S.length:Int)-1) ⟨by omega,by omega⟩]
  refine ag E (c7) rfl rfl (by simp) ?_
  rintro _ rfl
  simp only [go_sem]
  refine ag E (c8) rfl rfl (by simp) ?_
  rintro _ rfl
  simp only [go_sem]
 ·obtain ⟨hb1,_,_⟩:=yB h0
  have he:enS S=((S.length:Int),0,0,0):=by unfold enS;rw [if_neg h0]
  have hr:dD S ((S.length:Int),0,0,0)=([],(an S).2.1,(an S).2.2):=by
   unfold dD
   rw [if_neg (by simp only;omega),if_pos h0]
  rw [he] at c1 c2
  rw [hr,se _ _ h0] at c2
  rw [show bb (an S)=.tup [.d (.agg [.nils]),.d (i64 (an S).2.1),.d (i64 (an S).2.2)] by unfold bb;rw [if_neg h0]] at c3
  generalize (an S).2.1=n at *
  generalize (an S).2.2=e at *
  unfold bgD at *
  refine al Tryz.func6 rfl (by decide +kernel) (by simp [Tryz.ntmps6]) (veil fun E=>?_)
  simp only [go_sem]
  refine ag E (BT) rfl rfl (by simp) ?_
  rintro _ rfl
  simp only [go_sem]
  refine ag E (c0) rfl rfl (by simp) ?_
  rintro _ rfl
  simp only [go_sem]
  refine ag E (c1) rfl rfl (by simp) ?_
  rintro _ rfl
  simp only [go_sem]
  refine ag E (c2) rfl rfl (by simp) ?_
  rintro _ rfl
  simp only [go_sem]
  refine ag E (c3) rfl rfl (by simp) ?_
  rintro _ rfl
  simp only [go_sem]
  refine ah E (fun _=>?_) (fun h=>absurd h0 h)<;>simp only [go_sem]
theorem GC {d:D} (h:Go.Ab.TS.str.ok d):∃ l,d=.str l:=by
 match d,h with
 | .str l,_=>exact ⟨l,rfl⟩
theorem HE {d:D} (h:(Go.Ab.TS.int .u16).ok d):∃ n:Int,d=.int .u16 n∧0≤n∧n≤65535:=by
 match d,h with
 | .int k n,h =>
   obtain ⟨rfl,h1,h2⟩:=h
   exact ⟨n,rfl,h1,h2⟩
theorem pR {G} {d1 d2:D} (h1:Go.Ab.TS.str.ok d1) (h2:(Go.Ab.TS.int .u16).ok d2):HP Tryz.prog G 6 [d1,d2] (fun r=>r=.d (.bool true)):=by
 obtain ⟨s,rfl⟩:=GC h1
 obtain ⟨m,rfl,hm⟩:=HE h2
 exact IP s m hm
end Go.Proofs.YtejpnabbmgpmaaaGreat

namespace Go.Proofs.YtejpnabbmgpmaaaGreat
open Go.Ab
open Go.ChangeShapes Go.WideShapes Go.ChangeAt Go.RowKit
theorem Tryz.own:ownKnob Tryz.prog.godebug=none:=by kernel_rfl
theorem Tryz.laidOut:laidOutB Tryz.prog=true:=by kernel_rfl
theorem tD {H:Type} {enc:TypeId × Value→H} {t:TypeId} (hr:Tryz.prog.readableRec t=true) (hrow:t<Tryz.prog.types.size) {W W':World} {v:Value} {d:DataW H} {ps:List MemPlace}
  (h:DataW.Trod enc Tryz.prog W 0 (fun _=>true) true t v d ps) (he:Ext W W') (hlt:∀ x∈ps,x.block<W.heap.size) :
  DataW.Trod enc Tryz.prog W' 0 (fun b=>decide (b<W.heap.size)) true t v d ps :=
 WideElems.Trod_stays Tryz.laidOut hr hrow h (fun x hx=>by
  have h1:=he.old x.block (hlt x hx)
  cases x with
  | cell b off=>show W'.cell? _=W.cell? _;unfold World.cell?;rw [show W'.heap[b]?=W.heap[b]? from h1]
  | map b=>exact h1) (fun x hx=>by simpa using hlt x hx)
end Go.Proofs.YtejpnabbmgpmaaaGreat

namespace Go.Proofs.YtejpnabbmgpmaaaGreat
open Go.Ab
open Go.ChangeShapes Go.WideShapes Go.ChangeAt Go.RowKit
theorem pE:(Rows.costEnoughRow.wf (OpenSpec.ofChange Rows.costEnoughSpec))=true:=by kernel_rfl
theorem pO:(Tryz.f6.params.all (Tryz.prog.readableRec ·))=true:=by kernel_rfl
theorem pQ:(namedTie Tryz.prog Rows.costEnoughRow.named Rows.costEnoughSpec.vars)=true:=by kernel_rfl
theorem pJ:((Rows.costEnoughRow.stops == []))=true:=by kernel_rfl
theorem pL:((Rows.costEnoughRow.knobs == []))=true:=by kernel_rfl
theorem ox:((Rows.costEnoughRow.inPlace == Tryz.prog.inPlace 6))=true:=by kernel_rfl
theorem oB:((Rows.costEnoughRow.unfollowed == Tryz.prog.unfollowed 6))=true:=by kernel_rfl
theorem oc:((Rows.costEnoughRow.recurses == Tryz.prog.recurses 6))=true:=by kernel_rfl
theorem nT:((Rows.costEnoughRow.named == Tryz.prog.varsNamed 6))=true:=by kernel_rfl
theorem n8:((Rows.costEnoughRow.maps == (Tryz.f6.params.toList++Rows.costEnoughSpec.plain.varTypes Tryz.prog).any (Tryz.prog.mapsRec ·)))=true:=by kernel_rfl
theorem oQ:((Rows.costEnoughRow.ifaces == (Tryz.f6.params.toList++Rows.costEnoughSpec.plain.varTypes Tryz.prog).any (Tryz.prog.ifacesRec ·)))=true:=by kernel_rfl
theorem oV:((Rows.costEnoughRow.mapsOut == Tryz.prog.mapsAmong Tryz.f6.resultTypes.toList))=true:=by kernel_rfl
theorem pn:((Rows.costEnoughRow.loops == (Tryz.f6.params.toList++Rows.costEnoughSpec.plain.varTypes Tryz.prog).any (Tryz.prog.loopsFrom ·)))=true:=by kernel_rfl
theorem pg:((Rows.costEnoughRow.wideKeys == (Tryz.f6.params.toList++Rows.costEnoughSpec.plain.varTypes Tryz.prog++Tryz.f6.resultTypes.toList).any (Tryz.prog.wideKeysFrom ·)))=true:=by kernel_rfl
theorem om:(Rows.costEnoughSpec.vars.all (Tryz.prog.varReadable ·))=true:=by kernel_rfl
theorem oz:(Tryz.f6.resultTypes.all (fun t=>Tryz.prog.readableRec t && decide (t<Tryz.prog.types.size)))=true:=by kernel_rfl
theorem nG:((Rows.costEnoughRow.ifacesOut == Tryz.f6.resultTypes.toList.any (Tryz.prog.ifacesRec ·)))=true:=by kernel_rfl
theorem pA:((Rows.costEnoughRow.loopsOut == Tryz.f6.resultTypes.toList.any (Tryz.prog.loopsFrom ·)))=true:=by kernel_rfl
theorem oA:((Rows.costEnoughRow.plainKeys == Tryz.prog.plainKeys))=true:=by kernel_rfl
theorem oM:(Rows.costEnoughRow.shortTexts.isNone)=true:=by kernel_rfl
theorem px:((Rows.costEnoughRow.lifted == Tryz.prog.liftsFinal))=true:=by kernel_rfl
theorem oJ:((Tryz.prog.make == some Rows.costEnoughRow.make))=true:=by kernel_rfl
theorem oY:((Rows.costEnoughRow.kinds == (if Rows.costEnoughRow.domain.isEmpty then [] else Tryz.f6.params.toList.map fun t=>match Tryz.prog.underlying t with | some (.int k)=>some k | _=>none)))=true:=by kernel_rfl
theorem nY:((Rows.costEnoughRow.pinned == Rows.costEnoughRow.pinnedBy))=true:=by kernel_rfl
theorem nX:((Rows.costEnoughRow.veiled == (Tryz.f6.params.toList++Rows.costEnoughSpec.plain.varTypes Tryz.prog++Tryz.f6.resultTypes.toList).any (Tryz.prog.veiledRec ·)))=true:=by kernel_rfl
theorem oN:(Rows.costEnoughRow.veiledFits Tryz.prog Tryz.f6.params.toList (Tryz.f6.params.toList++Rows.costEnoughSpec.plain.varTypes Tryz.prog++Tryz.f6.resultTypes.toList))=true:=by kernel_rfl
end Go.Proofs.YtejpnabbmgpmaaaGreat

namespace Go.Proofs.YtejpnabbmgpmaaaGreat
open Go.Ab
open Go.ChangeShapes Go.WideShapes Go.ChangeAt Go.RowKit
theorem bW {a b:Bool} (ha:a=true) (hb:b=true):(a && b)=true:=by rw [ha,hb];rfl
theorem EL:(laidOutB Tryz.prog)=true:=by kernel_rfl
theorem DF:(mapsRowed Tryz.prog)=true:=by kernel_rfl
theorem Bh:((Tryz.prog.stops == []))=true:=by kernel_rfl
theorem CZ:((Tryz.prog.stopKnobs == []))=true:=by kernel_rfl
theorem Ao:(Tryz.prog.stopsHeard)=true:=by kernel_rfl
theorem Cu:(Tryz.prog.mayEnter)=true:=by kernel_rfl
end Go.Proofs.YtejpnabbmgpmaaaGreat

namespace Go.Proofs.YtejpnabbmgpmaaaGreat
open Go.Ab
open Go.ChangeShapes Go.WideShapes Go.ChangeAt Go.RowKit
set_option maxRecDepth 100000 in
theorem lE (os:Os) (started:os.Started) (H:Type) (enc:TypeId × Value→H) :
  ReturnsInHanded {} Tryz.checked os 6 .any (Rows.costEnoughSpec.pre6 enc Tryz.prog Tryz.f6 [] false) (Rows.costEnoughSpec.post enc Tryz.prog Tryz.f6 false true false false):=by
 refine returnsInHanded_of_change (C:=Tryz.checked) Tryz.own started (by kernel_rfl) Tryz.func6
  (ChangeSpec.witness6 (enc:=enc) (C:=Tryz.checked) false ⟨#[],#[.string ⟨#[]⟩,.int .u16 0],[]⟩ 8 (by kernel_rfl) (by kernel_rfl) (by kernel_rfl) (by kernel_rfl)) ?_
 intro W base args ds gs before hval0 hW _ _
 have hval:∀ (j:Nat) t v,Tryz.f6.params[j]?=some t→args[j]?=some v→Value.okWide Tryz.prog W .any base t v:=hval0
 have hW':=hW
 obtain ⟨p,q,hA0,hV,rfl,hfz,hnd⟩:=hW
 have hA:DataW.TrodAll enc Tryz.prog W 0 (fun _=>true) true Tryz.f6.params.toList args.toList ds p:=hA0
 rw [Tryz.params6] at hA hval
 obtain ⟨v0,v1,d0,d1,p0,p1,rfl,rfl,rfl,h0,h1⟩:=trodAll_two hA
 obtain ⟨rfl,rfl⟩:=trodVars_none hV
 clear hA0 hval0
 obtain ⟨n0,rfl⟩:=okWide_string Tryz.underlying9 (hval 0 9 v0 rfl rfl)
 obtain ⟨e0,k0,r0⟩:=p5 (m:=30) (show shp Tryz.prog 30 9=some [.str] by kernel_rfl) rfl h0
 obtain ⟨n1,rfl⟩:=okWide_int Tryz.underlying43 (hval 1 43 v1 rfl rfl)
 obtain ⟨e1,k1,r1⟩:=p5 (m:=30) (show shp Tryz.prog 30 43=some [.int .u16] by kernel_rfl) rfl h1
 have eF:Rows.costEnoughSpec.fn H ([d0,d1]++[])={ results:=[.lit (.bool true)],args:=[d0,d1] }:=rfl
 refine (tP (G:=[]) (pR k0 k1) (by simp) (vs:=#[.string n0,.int .u16 n1]) rfl ?_).mono ?_
 ·intro i d hi
  match i,hi with
  | 0,hi=>obtain rfl:=Option.some.inj hi;exact r0
  | 1,hi=>obtain rfl:=Option.some.inj hi;exact r1
 rintro e W' ⟨v,r,rfl,rfl,hext,_,_,_,_,hv⟩
 obtain rfl:=hv.bool
 have hlt:∀ x∈p0++p1,x.block<W.heap.size:=fun x hx=>by simpa using hW'.lt x (by simpa using hx)
 refine ⟨_,rfl,_,_,_,[],p0++p1,[],hW',?_,?_,?_,hext.frame _,fun h=>by cases h⟩
 ·rw [eF];exact trodAll_mk1 (shut_bool Tryz.underlying4 true)
 ·rw [eF];exact trodAll_mk2 (tD (by kernel_rfl) (of_decide_eq_true (by kernel_rfl)) h0 hext (fun x hx=>hlt x (by simp [hx]))) (tD (by kernel_rfl) (of_decide_eq_true (by kernel_rfl)) h1 hext (fun x hx=>hlt x (by simp [hx])))
 ·rw [eF];rfl
set_option maxRecDepth 100000 in
theorem mD:joinedFacts Tryz.prog 6 Tryz.f6 Rows.costEnoughSpec Rows.costEnoughRow=true:=by
 unfold joinedFacts
 exact bW (bW (bW (bW (bW (bW (bW (bW (bW (bW (bW (bW (bW (bW (bW (bW (bW (bW (bW (bW (bW (bW (bW (bW (bW (bW (bW (bW (bW (bW (bW pE EL) DF) pO) pQ) pJ) Bh) pL) CZ) ox) oB) oc) nT) n8) oQ) oV) pn) pg) om) oz) nG) pA) oA) oM) Ao) Cu) px) oJ) oY) nY) nX) oN
theorem lO:Tryz.pinned.checked.prog.funcNamed Rows.costEnoughRow.func=some 6:=by kernel_rfl
theorem mU:decide (Tryz.f6.isInstance Tryz.pinned.checked.prog Rows.costEnoughRow.origin Rows.costEnoughRow.targs)=true:=by kernel_rfl
theorem costEnough_holds:Rows.CostEnoughSaid :=
 OpenClaim.holds_of_wide 6 Tryz.f6 rfl rfl rfl rfl rfl rfl rfl ⟨rfl,rfl,rfl,rfl,rfl⟩ rfl rfl rfl rfl rfl lO Tryz.func6 mD
  (of_decide_eq_true mU) (by unfold Func.isWrapper;rw [if_neg (of_decide_eq_false (by kernel_rfl))];exact ⟨rfl,rfl⟩)
  (fun os started H enc _=>lE os started H enc)
end Go.Proofs.YtejpnabbmgpmaaaGreat

