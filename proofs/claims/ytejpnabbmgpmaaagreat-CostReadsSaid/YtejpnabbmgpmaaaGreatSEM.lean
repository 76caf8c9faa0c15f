/-
  How wide a node is: the program's walk. (with the parts that follow it)
-/
import Derived.Test.YtejpnabbmgpmaaaGreatSEL
import Derived.Test.YtejpnabbmgpmaaaGreatSEG
import Derived.Test.YtejpnabbmgpmaaaGreatSEK
import Derived.Test.YtejpnabbmgpmaaaGreatSEC
import Derived.Test.YtejpnabbmgpmaaaGreatRows
import Derived.ProofKit
import Derived.JoinedOf
import Derived.ChangeMaps5
set_option linter.all false
namespace Go.Proofs.YtejpnabbmgpmaaaGreat
open Go.Ab
def wO (ns:List EN) (ws:List Int):List (Name × Ob):=[([100],.box [.d (.sl (some 9) (ns.map enD)),.d (.sl (some 2) ((bn ns).map bD)),.vw [101] 0 ns.length]),([101],.arr none (ws.map i64))]
theorem qd {ns:List EN} {i:Nat} (h:i<ns.length):((bn ns).map bD).getD i .nilp=.agg [i64 (bE ns i).1,i64 (bE ns i).2]:=by
 simp [bn,h,bD]
theorem xF {ns:List EN} (ht:cV ns) {i:Nat} (hi:i<ns.length) (h:0≤(bE ns i).1):∃ x:Nat,(bE ns i).1=(x:Int)∧x<ns.length:=by
 unfold bE at h ⊢
 split
 ·rename_i h4
  rw [if_pos h4] at h
  obtain ⟨x,h1,h2,_⟩:=lX ht ns.length i hi h
  exact ⟨x,h1,h2⟩
 ·rename_i h4
  rw [if_neg h4] at h
  exact absurd h (by decide)
theorem qN (a c:Int):(if c<a then c else a)=min a c:=by split<;>omega
set_option maxHeartbeats 2000000 in
theorem v3 {G} (ns:List EN) (ht:cV ns) (hN:ns.length≤1000000) (hs:∀ n∈ns,n.l.length≤900000) :
  ∀ (m i:Nat) (ws:List Int),i<ns.length→rkE ns i<m→ws.length=ns.length→Wb ws→HCall Tryz.prog G 112 [.bx [100] 0,.d (i64 (i:Int))] (wO ns ws) [100,101] (fun r hp'=>r=.d (i64 (wdM 0 ns m ws i).1)∧hp'=wO ns (wdM 0 ns m ws i).2)
 | 0,_,_,_,h,_,_=>absurd h (Nat.not_lt_zero _)
 | m+1,i,ws,hi,hm,hl,hw=>by
   have ih:=v3 (G:=G) ns ht hN hs m
   have hk:=aQ ht
   have hf:=lR (z:=0) (by decide) ns ns.length m
   have hg:=aN hi
   have hgB:=qd hi
   have hsi:=hs _ (by rw [bG hi];exact List.getElem_mem hi:ndE ns i∈ns)
   have hkn:=aL hk hi
   have hbi:=xF ht hi
   have hda:∀ a,fY ns i=some a→_:=fun a=>sk ht hi
   have hrk:∀ k:Nat,(k:Int)∈aj (ndE ns i)→rkE ns k<rkE ns i:=fun k=>si ht hi
   have hdf:fY ns i=if 0≤(bE ns i).1∧((ndE ns (bE ns i).1.toNat).k=7∨(ndE ns (bE ns i).1.toNat).k=8)∧bo ns ns.length (ndE ns (bE ns i).1.toNat).a i=false then some (ndE ns (bE ns i).1.toNat).a else none:=rfl
   have hku:=fun x:Nat=>aQ ht x
   generalize hR:wdM 0 ns (m+1) ws i=R
   rw [wdM,Int.toNat_natCast] at hR
   obtain ⟨n,hne⟩:∃ n,n=ndE ns i:=⟨_,rfl⟩
   rw [← hne] at hg hsi hkn hR hrk
   obtain ⟨K,hK⟩:∃ K,K=aj n:=⟨_,rfl⟩
   have hkc:=gQ (G:=G) n (by omega)
   have hKl:K.length≤900003:=by rw [hK,br];unfold bf;have:=bB n.k;split<;>omega
   rw [← hK] at hkc hkn hR hrk
   obtain ⟨b,hb⟩:∃ b,b=bE ns i:=⟨_,rfl⟩
   rw [← hb] at hgB hbi hdf
   have hg0:=hw.get i
   obtain ⟨p,hp⟩:∃ p,p=wd0 ns (wdM 0 ns m) ws i:=⟨_,rfl⟩
   have hpo:=vm hf ns i hl hw
   rw [← hp] at hR hpo
   have hpn:fY ns i=none→p=(1,ws):=fun h=>by rw [hp];unfold wd0;rw [h]
   have hps:∀ a,fY ns i=some a→p=(1+(wdM 0 ns m ws a).1,(wdM 0 ns m ws a).2):=fun a h=>by rw [hp];unfold wd0;rw [h]
   have hBl:=eA ns
   clear hp
   unfold wO at ih ⊢
   refine gf Tryz.func112 rfl (by decide +kernel) (by simp [Tryz.ntmps112]) fun B0 hB0=>?_
   refine aA (ao fun E=>?_)
   simp only [go_sem]
   refine aA (ao fun E=>?_)
   simp only [go_sem]
   refine ⟨⟨by omega,by omega⟩,?_⟩
   rw [av (by omega)]
   simp only [go_sem]
   refine ah E (fun g1=>?_) (fun g1=>?_)<;>simp only [go_sem]
   ·rw [if_pos g1] at hR
    refine ⟨⟨by omega,by omega⟩,?_⟩
    rw [av (by omega)]
    simp only [go_sem]
    rw [← hR]
    refine tT (.inl rfl) hB0 ?_
    simp only [go_sem]
    refine ⟨_,_,[100,101],id,⟨rfl,rfl⟩,?_⟩
    simp only [go_sem]
   rw [if_neg g1] at hR
   refine aA (ao fun E=>?_)
   simp only [go_sem]
   refine aA (lW [(0,.bx [100] 0),(1,.d (i64 i)),(5,.d (i64 p.1))] [([100],.box [.d (.sl (some 9) (ns.map enD)),.d (.sl (some 2) ((bn ns).map bD)),.vw [101] 0 ns.length]),([101],.arr none (p.2.map i64))] [100,101] (fun E=>?_) ?_)
   ·simp only [go_sem]
    refine ⟨⟨by omega,by omega⟩,?_⟩
    rw [hgB]
    simp only [go_sem]
    refine ah E (fun g2=>?_) (fun g2=>?_)<;>simp only [go_sem]
    ·obtain ⟨x,hx1,hx2⟩:=hbi g2
     rw [hx1] at hdf ⊢
     simp only [Int.toNat_natCast] at hdf
     have hgx:=aN hx2
     have hkx:=aL hk hx2
     obtain ⟨nx,hnx⟩:∃ nx,nx=ndE ns x:=⟨_,rfl⟩
     rw [← hnx] at hgx hkx hdf
     refine ⟨⟨by omega,by omega⟩,?_⟩
     rw [Int.toNat_natCast,hgx]
     simp only [go_sem]
     have hax:nx.k=7∨nx.k=8→∃ a:Nat,nx.a=(a:Int)∧a<ns.length:=fun h=>by
      have hke:aj nx=[nx.a,nx.b]:=by
       rcases h with h | h<;>simp [aj,h,aF,aH]
      obtain ⟨q1,q2⟩:=hkx nx.a (by rw [hke];exact List.mem_cons_self)
      exact ⟨nx.a.toNat,by omega,by omega⟩
     refine an E (fun h7=>?_) (fun h7=>?_)<;>simp only [go_sem]
     ·obtain ⟨a,ha,han⟩:=hax (.inl h7)
      have hcu:=rM (G:=G) ns (bn ns) ws hs hk (i:Int) ns.length a han han
      rw [← ha] at hcu
      unfold wsD at hcu
      refine wN E [.A [101] none (ws.map i64),.B [100] (.agg [.sl (some 9) (ns.map enD),.sl (some 2) ((bn ns).map bD),.sl none (ws.map i64)])] hcu (by rintro _ rfl;rfl) (by simp only [go_sem];rw [List.take_of_length_le (by rw [List.length_map,hl];exact Nat.le_refl _)]) rfl (by simp only [go_sem];try rfl) (by simp) ?_
      rintro _ rfl
      simp only [go_sem]
      cases hwb:bo ns ns.length nx.a i with
      | true =>
        have e0:=hpn (by rw [hdf,if_neg (by rw [hwb];simp)])
        simp only [go_sem]
        refine cC id ?_
        rw [e0]
        simp only [go_sem]
        all_goals rfl
      | false =>
        have e0:=hps _ (by rw [hdf,if_pos ⟨by omega,(.inl h7),hwb⟩])
        obtain ⟨b1,b2,b3⟩:=hda _ (by rw [hdf,if_pos ⟨by omega,(.inl h7),hwb⟩])
        rw [ha,Int.toNat_natCast] at b3
        have hfa:=hf ws nx.a hl hw
        have ihc:=ih a ws han (by omega) hl hw
        rw [← ha] at ihc
        simp only [go_sem]
        refine ab E _ _ _ ihc rfl rfl ⟨by simp only [go_sem],by first | (rw [aa];decide) | (simp only [go_sem]<;>(try rw [aa])<;>decide)⟩ (by simp only [go_sem]) (by simp only [go_sem]) (by simp only [go_sem]) ?_
        rintro _ _ ⟨rfl,rfl⟩
        refine ⟨by simp only [go_sem];try omega,?_⟩
        simp only [go_sem]
        rw [ai ⟨by omega,by omega⟩]
        refine cC id ?_
        rw [e0]
        simp only [go_sem]
        all_goals rfl
     ·refine an E (fun h8=>?_) (fun h8=>?_)<;>simp only [go_sem]
      ·obtain ⟨a,ha,han⟩:=hax (.inr h8)
       have hcu:=rM (G:=G) ns (bn ns) ws hs hk (i:Int) ns.length a han han
       rw [← ha] at hcu
       unfold wsD at hcu
       refine wN E [.A [101] none (ws.map i64),.B [100] (.agg [.sl (some 9) (ns.map enD),.sl (some 2) ((bn ns).map bD),.sl none (ws.map i64)])] hcu (by rintro _ rfl;rfl) (by simp only [go_sem];rw [List.take_of_length_le (by rw [List.length_map,hl];exact Nat.le_refl _)]) rfl (by simp only [go_sem];try rfl) (by simp) ?_
       rintro _ rfl
       simp only [go_sem]
       cases hwb:bo ns ns.length nx.a i with
       | true =>
         have e0:=hpn (by rw [hdf,if_neg (by rw [hwb];simp)])
         simp only [go_sem]
         refine cC id ?_
         rw [e0]
         simp only [go_sem]
         all_goals rfl
       | false =>
         have e0:=hps _ (by rw [hdf,if_pos ⟨by omega,(.inr h8),hwb⟩])
         obtain ⟨b1,b2,b3⟩:=hda _ (by rw [hdf,if_pos ⟨by omega,(.inr h8),hwb⟩])
         rw [ha,Int.toNat_natCast] at b3
         have hfa:=hf ws nx.a hl hw
         have ihc:=ih a ws han (by omega) hl hw
         rw [← ha] at ihc
         simp only [go_sem]
         refine ab E _ _ _ ihc rfl rfl ⟨by simp only [go_sem],by first | (rw [aa];decide) | (simp only [go_sem]<;>(try rw [aa])<;>decide)⟩ (by simp only [go_sem]) (by simp only [go_sem]) (by simp only [go_sem]) ?_
         rintro _ _ ⟨rfl,rfl⟩
         refine ⟨by simp only [go_sem];try omega,?_⟩
         simp only [go_sem]
         rw [ai ⟨by omega,by omega⟩]
         refine cC id ?_
         rw [e0]
         simp only [go_sem]
         all_goals rfl
      ·have e0:=hpn (by rw [hdf,if_neg (by rintro ⟨_,h,_⟩;exact h.elim h7 h8)])
       refine cC id ?_
       rw [e0]
       simp only [go_sem]
       all_goals rfl
    ·have e0:=hpn (by rw [hdf,if_neg (by rintro ⟨h,_⟩;exact g2 h)])
     refine cC id ?_
     rw [e0]
     simp only [go_sem]
     all_goals rfl
   refine aA (ao fun E=>?_)
   simp only [go_sem]
   refine ⟨⟨by omega,by omega⟩,?_⟩
   rw [hg]
   simp only [go_sem]
   refine ab E [.d (enD n)] [] [] hkc rfl rfl ⟨by simp only [go_sem],by rw [aa];decide⟩ rfl (by simp only [go_sem]) (by simp only [go_sem]) ?_
   rintro _ _ ⟨rfl,rfl⟩
   simp only [go_sem]
   refine jb E [73,0] none (K.map i64) rfl ?_
   simp only [go_sem]
   refine bl E (X:={ x:Nat × (Int × List Int) // x.1≤K.length∧(0≤x.2.1∧x.2.1≤1000001∧x.2.2.length=ns.length∧Wb x.2.2)∧(K.drop x.1).foldl (wdK (wdM 0 ns m)) x.2=K.foldl (wdK (wdM 0 ns m)) p })
    (fun x=>[(0,.bx [100] 0),(1,.d (i64 i)),(5,.d (i64 x.1.2.1)),(73,.d (.sl none (K.map i64))),(74,.d (i64 K.length)),(75,.d (i64 x.1.1))])
    (fun x=>[([100],.box [.d (.sl (some 9) (ns.map enD)),.d (.sl (some 2) ((bn ns).map bD)),.vw [101] 0 ns.length]),([101],.arr none (x.1.2.2.map i64))]) [100,101] (fun x=>K.length-x.1.1) ⟨(0,p),Nat.zero_le _,hpo,rfl⟩ ?_ ?_
   ·simp only [go_sem]
    all_goals first | rfl | exact ⟨rfl,rfl⟩
   rintro ⟨⟨q,y⟩,hq,hyo,hyf⟩ E0
   refine aC E0 fun Q' hQ E'=>?_
   simp only at hq hyo hyf ⊢
   simp only [go_sem]
   refine ah E' (fun f1=>?_) (fun f1=>?_)<;>simp only [go_sem]
   ·have hq':q<K.length:=by omega
    refine ⟨⟨by omega,by omega⟩,?_⟩
    have hkm:=List.getElem_mem hq'
    have hkq:=hkn K[q] hkm
    obtain ⟨k,hkk⟩:∃ k:Nat,K[q]=(k:Int):=⟨K[q].toNat,by omega⟩
    rw [av hq',show K.getD q 0=(k:Int) by simp [hq',hkk]]
    rw [hkk] at hkm
    have hrkk:=hrk k hkm
    have hfk:=hf y.2 (k:Int) hyo.2.2.1 hyo.2.2.2
    simp only [go_sem]
    refine ab E' _ _ _ (ih k y.2 (by omega) (by omega) hyo.2.2.1 hyo.2.2.2) rfl rfl ⟨by simp only [go_sem],by first | (rw [aa];decide) | (simp only [go_sem]<;>(try rw [aa])<;>decide)⟩ (by simp only [go_sem]) (by simp only [go_sem]) (by simp only [go_sem]) ?_
    rintro _ _ ⟨rfl,rfl⟩
    refine ⟨by simp only [go_sem];try omega,?_⟩
    simp only [go_sem]
    rw [ai (n:=y.1+(wdM 0 ns m y.2 (k:Int)).1) ⟨by omega,by omega⟩,ai (n:=(q:Int)+1) ⟨by omega,by omega⟩,qN,hQ]
    simp only [go_sem]
    refine ⟨⟨(q+1,wdK (wdM 0 ns m) y (k:Int)),by show q+1≤_;omega,⟨by show 0≤min (y.1+(wdM 0 ns m y.2 (k:Int)).1) 1000000;omega,by show min (y.1+(wdM 0 ns m y.2 (k:Int)).1) 1000000≤1000001;omega,hfk.2.2.1,hfk.2.2.2⟩,?_⟩,by show K.length-(q+1)<_;omega,?_⟩
    ·show (K.drop (q+1)).foldl (wdK (wdM 0 ns m)) (wdK (wdM 0 ns m) y (k:Int))=_
     rw [← hyf,List.drop_eq_getElem_cons hq',List.foldl_cons,hkk]
    ·first | rfl | exact ⟨rfl,rfl⟩ | exact ⟨⟨rfl,rfl⟩,rfl⟩
   ·have h3:q=K.length:=by omega
    subst h3
    rw [List.drop_length,List.foldl_nil] at hyf
    rw [← hyf] at hR
    obtain ⟨y1,y2,y3,y4⟩:=hyo
    rw [hQ]
    simp only [go_sem]
    refine aA (ao fun E=>?_)
    simp only [go_sem]
    refine ⟨⟨by omega,by omega⟩,?_⟩
    rw [qN]
    rw [show (y.2.map i64).set i (.int .i64 (min y.1 1000000))=(y.2.set i (min y.1 1000000)).map i64 by rw [List.map_set]]
    refine ao fun E=>?_
    simp only [go_sem]
    refine ⟨⟨by omega,by omega⟩,?_⟩
    rw [av (by rw [List.length_set];omega),show (y.2.set i (min y.1 1000000)).getD i 0=min y.1 1000000 by simp [List.getD_eq_getElem?_getD,y3,hi]]
    simp only [go_sem]
    rw [← hR]
    refine tT (.inl rfl) hB0 ?_
    simp only [go_sem]
    refine ⟨_,_,[100,101],id,⟨rfl,rfl⟩,?_⟩
    simp only [go_sem]
end Go.Proofs.YtejpnabbmgpmaaaGreat

namespace Go.Proofs.YtejpnabbmgpmaaaGreat
open Go.Ab
theorem Fk (ns:List EN) (i:Nat):0≤wvE ns i∧wvE ns i≤1000000:=⟨(uS ns _ _).1,(uS ns _ _).2.1⟩
set_option maxHeartbeats 1000000 in
theorem F7 {G} (ns:List EN) (hs:∀ n∈ns,dc BIG n) (hN:ns.length≤1000000) (hl:∀ n∈ns,n.l.length≤900000):HP Tryz.prog G 63 [exD ns] (fun r=>r=.d (i64 (lu ns))):=by
 have hl':∀ n∈ns,n.l.length≤1000000:=fun n hn=>by have:=hl n hn;omega
 have c1:=D8 (G:=G) ns hs hN hl'
 have c2:=F9 (G:=G) ns hs hN hl'
 have herr:=DB ns
 unfold lu
 by_cases h0:cA ns=0
 ·have ht:=sh h0
  have hp:=ht.pos
  rw [if_pos h0,h0,pR ht] at c1
  obtain ⟨c,hc⟩:∃ c,c=fj ns:=⟨_,rfl⟩
  rw [← hc] at c2 herr
  by_cases h1:c.2=0
  ·rw [if_pos (herr.1 ⟨h0,h1⟩)]
   obtain ⟨hv,_⟩:=rL (z:=0) (by decide) ht (rkE ns (ns.length-1)+1) (ns.length-1) (by omega) (by omega) _ (Aj 0 ns)
   have c3:=v3 (G:=G) ns ht hN hl (rkE ns (ns.length-1)+1) (ns.length-1) (List.replicate ns.length 0) (by omega) (by omega) (by simp) (fun x hx=>by rw [List.mem_replicate] at hx;omega)
   have hWl:=(lR (z:=0) (by decide) ns ns.length (rkE ns (ns.length-1)+1) (List.replicate ns.length 0) ((ns.length-1:Nat):Int) (by simp) (fun x hx=>by rw [List.mem_replicate] at hx;omega)).2.2.1
   rw [hv] at c3
   generalize (wdM 0 ns (rkE ns (ns.length-1)+1) (List.replicate ns.length 0) ((ns.length-1:Nat):Int)).2=W at c3 hWl
   unfold wO at c3
   unfold exD at c1 c2 ⊢
   rw [h1] at c2
   refine aw Tryz.func63 rfl (by decide +kernel) (by simp [Tryz.ntmps63]) (veil fun E=>?_)
   simp only [go_sem]
   refine ag E (c1) rfl rfl (by simp) ?_
   rintro _ rfl
   simp only [go_sem]
   refine ag E (c2) rfl rfl (by simp) ?_
   rintro _ rfl
   simp only [go_sem]
   refine ak mixed E fun X=>?_
   simp only [go_sem]
   refine CG X (d:=27) (t:=95) (e:=3) (n:=ns.length) (z:=i64 0) (by rw [CT]) (by rw [ti3];rfl) (by rw [ti3];rfl) rfl rfl (by rw [ti3];exact ⟨by simp only;omega,by omega⟩) ⟨by simp only [go_sem],by rw [aa];decide⟩ ?_
   simp only [go_sem]
   refine IS X (cs:=[.d (.sl (some 9) (ns.map enD)),.d (.sl (some 2) ((bn ns).map bD)),.vw [27] 0 ns.length]) rfl ⟨by simp only [go_sem],by rw [aa];decide⟩ ?_
   simp only [go_sem]
   refine ⟨by decide +kernel,?_⟩
   rw [ai ⟨by omega,by omega⟩]
   rw [show ((ns.length-1:Nat):Int)=(ns.length:Int)-1 by omega,List.map_replicate] at c3
   refine aS E (tau [([100],[29]),([101],[27])]) _ _ _ c3 rfl (by simp only [go_sem];try rfl) ⟨by simp only [go_sem],by first | (rw [aa];decide) | (simp only [go_sem]<;>(try rw [aa])<;>decide)⟩ rfl (by simp only [go_sem];try rfl) (by simp only [go_sem]) ?_
   rintro _ _ ⟨rfl,rfl⟩
   refine ⟨by simp only [go_sem];try simp;try omega,?_⟩
   simp only [go_sem]
   refine ⟨[],?_⟩
   simp only [go_sem]
  ·rw [if_neg (fun h=>h1 (herr.2 h).2)]
   unfold exD at c1 c2 ⊢
   refine aw Tryz.func63 rfl (by decide +kernel) (by simp [Tryz.ntmps63]) (veil fun E=>?_)
   simp only [go_sem]
   refine ag E (c1) rfl rfl (by simp) ?_
   rintro _ rfl
   simp only [go_sem]
   refine ag E (c2) rfl rfl (by simp) ?_
   rintro _ rfl
   simp only [go_sem]
   refine ah E (fun _=>?_) (fun h=>absurd (by simpa using h) h1)<;>simp only [go_sem]
   refine ⟨[],?_⟩
   simp only [go_sem]
 ·rw [if_neg (fun h=>h0 (herr.2 h).1)]
  rw [if_neg h0] at c1
  clear herr
  generalize cA ns=b at c1 h0
  unfold exD at c1 ⊢
  refine aw Tryz.func63 rfl (by decide +kernel) (by simp [Tryz.ntmps63]) (veil fun E=>?_)
  simp only [go_sem]
  refine ag E (c1) rfl rfl (by simp) ?_
  rintro _ rfl
  simp only [go_sem]
  refine ah E (fun _=>?_) (fun h=>absurd (by simpa using h) h0)<;>simp only [go_sem]
  refine ⟨[],?_⟩
  simp only [go_sem]
end Go.Proofs.YtejpnabbmgpmaaaGreat

namespace Go.Proofs.YtejpnabbmgpmaaaGreat
open Go.Ab
theorem EA {ns:List EN} {i:Nat} (h:(ndE ns i).k≠4):fY ns i=none:=by
 unfold fY bE
 rw [if_neg h,if_neg]
 rintro ⟨h,_⟩
 exact absurd h (by decide)
set_option maxHeartbeats 2000000 in
theorem wT {G} (ns:List EN) (ht:cV ns) (hN:ns.length≤1000000) (hs:∀ n∈ns,n.l.length≤900000) (hcl:∀ j,j<ns.length→(ndE ns j).k=4→0≤(bE ns j).1) :
  ∀ (m i:Nat) (ws:List Int),i<ns.length→rkE ns i<m→ws.length=ns.length→Wb ws→HCall Tryz.prog G 115 [.d (exD ns),.d (.sl (some 2) ((bn ns).map bD)),.d (i64 (i:Int)),.vw [101] 0 ns.length] [([101],.arr none (ws.map i64))] [101] (fun r hp'=>r=.d (i64 (wdM (-1) ns m ws i).1)∧hp'=[([101],.arr none ((wdM (-1) ns m ws i).2.map i64))])
 | 0,_,_,_,h,_,_=>absurd h (Nat.not_lt_zero _)
 | m+1,i,ws,hi,hm,hl,hw=>by
   have ih:=wT (G:=G) ns ht hN hs hcl m
   have hk:=aQ ht
   have hs':∀ n∈ns,n.l.length≤1000000:=fun n hn=>by have:=hs n hn;omega
   have hf:=lR (z:=-1) (by decide) ns ns.length m
   have hg:=aN hi
   have hgB:=qd hi
   have hsi:=hs' _ (by rw [bG hi];exact List.getElem_mem hi:ndE ns i∈ns)
   have hkn:=aL hk hi
   have hbi:=xF ht hi
   have hda:∀ a,fY ns i=some a→_:=fun a=>sk ht hi
   have hrk:∀ k:Nat,(k:Int)∈aj (ndE ns i)→rkE ns k<rkE ns i:=fun k=>si ht hi
   have hdf:fY ns i=if 0≤(bE ns i).1∧((ndE ns (bE ns i).1.toNat).k=7∨(ndE ns (bE ns i).1.toNat).k=8)∧bo ns ns.length (ndE ns (bE ns i).1.toNat).a i=false then some (ndE ns (bE ns i).1.toNat).a else none:=rfl
   have hdn:=EA (ns:=ns) (i:=i)
   have hci:=hcl i hi
   have hkc:=l7 (G:=G) (ndE ns i) hsi
   generalize hR:wdM (-1) ns (m+1) ws i=R
   rw [wdM,Int.toNat_natCast] at hR
   obtain ⟨n,hne⟩:∃ n,n=ndE ns i:=⟨_,rfl⟩
   rw [← hne] at hg hsi hkn hR hrk hkc hdn hci
   obtain ⟨K,hK⟩:∃ K,K=aj n:=⟨_,rfl⟩
   have hKl:K.length≤1000003:=by rw [hK,br];unfold bf;have:=bB n.k;split<;>omega
   rw [← hK] at hkc hkn hR hrk
   obtain ⟨b,hb⟩:∃ b,b=bE ns i:=⟨_,rfl⟩
   rw [← hb] at hgB hbi hdf hci
   have hg0:=hw.get i
   obtain ⟨p,hp⟩:∃ p,p=wd0 ns (wdM (-1) ns m) ws i:=⟨_,rfl⟩
   have hpo:=vm hf ns i hl hw
   rw [← hp] at hR hpo
   have hpn:fY ns i=none→p=(1,ws):=fun h=>by rw [hp];unfold wd0;rw [h]
   have hps:∀ a,fY ns i=some a→p=(1+(wdM (-1) ns m ws a).1,(wdM (-1) ns m ws a).2):=fun a h=>by rw [hp];unfold wd0;rw [h]
   have hBl:=eA ns
   clear hp
   unfold exD at ih ⊢
   refine gf Tryz.func115 rfl (by decide +kernel) (by simp [Tryz.ntmps115]) fun B0 hB0=>?_
   refine aA (ao fun E=>?_)
   simp only [go_sem]
   refine aA (ao fun E=>?_)
   simp only [go_sem]
   refine ⟨⟨by omega,by omega⟩,?_⟩
   rw [av (by omega)]
   simp only [go_sem]
   refine ah E (fun g1=>?_) (fun g1=>?_)<;>simp only [go_sem]
   ·rw [if_pos (by omega)] at hR
    refine ⟨⟨by omega,by omega⟩,?_⟩
    rw [av (by omega)]
    simp only [go_sem]
    rw [← hR]
    refine tT (.inl rfl) hB0 ?_
    simp only [go_sem]
    refine ⟨_,_,[101],id,⟨rfl,rfl⟩,?_⟩
    simp only [go_sem]
   rw [if_neg (by omega)] at hR
   refine aA (ao fun E=>?_)
   simp only [go_sem]
   refine aA (lW [(1,.d (.sl (some 2) ((bn ns).map bD))),(2,.d (i64 i)),(3,.vw [101] 0 ns.length),(4,.bx [4] 0),(9,.d (i64 p.1))] [([4],.box [.d (.sl (some 9) (ns.map enD))]),([101],.arr none (p.2.map i64))] [4,101] (fun E=>?_) ?_)
   ·simp only [go_sem]
    refine ⟨⟨by omega,by omega⟩,?_⟩
    rw [hgB]
    simp only [go_sem]
    refine ak mixed E fun X=>?_
    simp only [go_sem]
    refine ⟨⟨by omega,by omega⟩,?_⟩
    rw [hg]
    simp only [go_sem]
    refine om X (fun h4=>?_) (fun h4=>?_)<;>simp only [go_sem]
    ·have g2:=hci h4
     obtain ⟨x,hx1,hx2⟩:=hbi g2
     rw [hx1] at hdf ⊢
     simp only [Int.toNat_natCast] at hdf
     have hgx:=aN hx2
     have hkx:=aL hk hx2
     obtain ⟨nx,hnx⟩:∃ nx,nx=ndE ns x:=⟨_,rfl⟩
     rw [← hnx] at hgx hkx hdf
     refine ⟨⟨by omega,by omega⟩,?_⟩
     first | rw [hgx] | rw [Int.toNat_natCast,hgx]
     simp only [go_sem]
     have hax:nx.k=7∨nx.k=8→∃ a:Nat,nx.a=(a:Int)∧a<ns.length:=fun h=>by
      have hke:aj nx=[nx.a,nx.b]:=by
       rcases h with h | h<;>simp [aj,h,aF,aH]
      obtain ⟨q1,q2⟩:=hkx nx.a (by rw [hke];exact List.mem_cons_self)
      exact ⟨nx.a.toNat,by omega,by omega⟩
     refine om X (fun h7=>?_) (fun h7=>?_)<;>simp only [go_sem]
     ·obtain ⟨a,ha,han⟩:=hax (.inl h7)
      have hcu:=qy (G:=G) ns hs' hk (i:Int) ns.length a han han
      rw [← ha] at hcu
      unfold exD at hcu
      refine ⟨⟨by omega,by omega⟩,?_⟩
      first | rw [hgx] | rw [Int.toNat_natCast,hgx]
      simp only [go_sem]
      refine bK X hcu rfl rfl (by simp) ?_
      cases hwb:bo ns ns.length nx.a i with
      | true =>
        have e0:=hpn (by rw [hdf,if_neg (by rw [hwb];simp)])
        simp only [go_sem]
        refine ⟨by decide +kernel,?_⟩
        try simp only [go_sem]
        refine cC id ?_
        rw [e0]
        simp only [go_sem]
        all_goals first | rfl | exact ⟨rfl,rfl⟩
      | false =>
        have e0:=hps _ (by rw [hdf,if_pos ⟨by omega,(.inl h7),hwb⟩])
        obtain ⟨b1,b2,b3⟩:=hda _ (by rw [hdf,if_pos ⟨by omega,(.inl h7),hwb⟩])
        rw [ha,Int.toNat_natCast] at b3
        have hfa:=hf ws nx.a hl hw
        have ihc:=ih a ws han (by omega) hl hw
        rw [← ha] at ihc
        simp only [go_sem]
        refine ⟨by decide +kernel,?_⟩
        try simp only [go_sem]
        refine ak mixed E fun X=>?_
        simp only [go_sem]
        refine ⟨⟨by omega,by omega⟩,?_⟩
        first | rw [hgx] | rw [Int.toNat_natCast,hgx]
        simp only [go_sem]
        refine aZ X _ _ _ _ _ ihc rfl rfl ⟨by simp only [go_sem],by first | (rw [aa];decide) | (simp only [go_sem]<;>(try rw [aa])<;>decide)⟩ (by simp only [go_sem]) (by simp only [go_sem]) (by simp only [go_sem]) (by simp only [go_sem];try omega) ?_
        simp only [go_sem]
        refine ⟨by decide +kernel,?_⟩
        rw [ai ⟨by omega,by omega⟩]
        refine cC id ?_
        rw [e0]
        simp only [go_sem]
        all_goals first | rfl | exact ⟨rfl,rfl⟩
     ·refine ⟨⟨by omega,by omega⟩,?_⟩
      first | rw [hgx] | rw [Int.toNat_natCast,hgx]
      simp only [go_sem]
      refine om X (fun h8=>?_) (fun h8=>?_)<;>simp only [go_sem]
      ·obtain ⟨a,ha,han⟩:=hax (.inr h8)
       have hcu:=qy (G:=G) ns hs' hk (i:Int) ns.length a han han
       rw [← ha] at hcu
       unfold exD at hcu
       refine ⟨⟨by omega,by omega⟩,?_⟩
       first | rw [hgx] | rw [Int.toNat_natCast,hgx]
       simp only [go_sem]
       refine bK X hcu rfl rfl (by simp) ?_
       cases hwb:bo ns ns.length nx.a i with
       | true =>
         have e0:=hpn (by rw [hdf,if_neg (by rw [hwb];simp)])
         simp only [go_sem]
         refine ⟨by decide +kernel,?_⟩
         try simp only [go_sem]
         refine cC id ?_
         rw [e0]
         simp only [go_sem]
         all_goals first | rfl | exact ⟨rfl,rfl⟩
       | false =>
         have e0:=hps _ (by rw [hdf,if_pos ⟨by omega,(.inr h8),hwb⟩])
         obtain ⟨b1,b2,b3⟩:=hda _ (by rw [hdf,if_pos ⟨by omega,(.inr h8),hwb⟩])
         rw [ha,Int.toNat_natCast] at b3
         have hfa:=hf ws nx.a hl hw
         have ihc:=ih a ws han (by omega) hl hw
         rw [← ha] at ihc
         simp only [go_sem]
         refine ⟨by decide +kernel,?_⟩
         try simp only [go_sem]
         refine ak mixed E fun X=>?_
         simp only [go_sem]
         refine ⟨⟨by omega,by omega⟩,?_⟩
         first | rw [hgx] | rw [Int.toNat_natCast,hgx]
         simp only [go_sem]
         refine aZ X _ _ _ _ _ ihc rfl rfl ⟨by simp only [go_sem],by first | (rw [aa];decide) | (simp only [go_sem]<;>(try rw [aa])<;>decide)⟩ (by simp only [go_sem]) (by simp only [go_sem]) (by simp only [go_sem]) (by simp only [go_sem];try omega) ?_
         simp only [go_sem]
         refine ⟨by decide +kernel,?_⟩
         rw [ai ⟨by omega,by omega⟩]
         refine cC id ?_
         rw [e0]
         simp only [go_sem]
         all_goals first | rfl | exact ⟨rfl,rfl⟩
      ·have e0:=hpn (by rw [hdf,if_neg (by rintro ⟨_,h,_⟩;exact h.elim h7 h8)])
       refine ⟨by decide +kernel,?_⟩
       try simp only [go_sem]
       refine cC id ?_
       rw [e0]
       simp only [go_sem]
       all_goals first | rfl | exact ⟨rfl,rfl⟩
    ·have e0:=hpn (hdn h4)
     refine ⟨by decide +kernel,?_⟩
     try simp only [go_sem]
     refine cC id ?_
     rw [e0]
     simp only [go_sem]
     all_goals first | rfl | exact ⟨rfl,rfl⟩
   refine aA (ao fun E=>?_)
   simp only [go_sem]
   refine ⟨⟨by omega,by omega⟩,?_⟩
   rw [hg]
   simp only [go_sem]
   refine ag E hkc rfl rfl (by simp) ?_
   rintro _ rfl
   simp only [go_sem]
   refine aA (ao fun E=>?_)
   simp only [go_sem]
   refine bl E (X:={ x:Nat × (Int × List Int) // x.1≤K.length∧(0≤x.2.1∧x.2.1≤1000001∧x.2.2.length=ns.length∧Wb x.2.2)∧(K.drop x.1).foldl (wdK (wdM (-1) ns m)) x.2=K.foldl (wdK (wdM (-1) ns m)) p })
    (fun x=>[(1,.d (.sl (some 2) ((bn ns).map bD))),(2,.d (i64 i)),(3,.vw [101] 0 ns.length),(4,.bx [4] 0),(9,.d (i64 x.1.2.1)),(11,.d (.sl none (K.map i64))),(12,.d (i64 x.1.1))])
    (fun x=>[([4],.box [.d (.sl (some 9) (ns.map enD))]),([101],.arr none (x.1.2.2.map i64))]) [4,101] (fun x=>K.length-x.1.1) ⟨(0,p),Nat.zero_le _,hpo,rfl⟩ ?_ ?_
   ·simp only [go_sem]
    all_goals first | rfl | exact ⟨rfl,rfl⟩
   rintro ⟨⟨q,y⟩,hq,hyo,hyf⟩ E0
   refine aC E0 fun Q' hQ E'=>?_
   simp only at hq hyo hyf ⊢
   simp only [go_sem]
   refine ah E' (fun f1=>?_) (fun f1=>?_)<;>simp only [go_sem]
   ·have hq':q<K.length:=by omega
    refine ak mixed E' fun X=>?_
    simp only [go_sem]
    refine ⟨⟨by omega,by omega⟩,?_⟩
    have hkm:=List.getElem_mem hq'
    have hkq:=hkn K[q] hkm
    obtain ⟨k,hkk⟩:∃ k:Nat,K[q]=(k:Int):=⟨K[q].toNat,by omega⟩
    rw [av hq',show K.getD q 0=(k:Int) by simp [hq',hkk]]
    rw [hkk] at hkm
    have hrkk:=hrk k hkm
    have hfk:=hf y.2 (k:Int) hyo.2.2.1 hyo.2.2.2
    simp only [go_sem]
    refine aZ X _ _ _ _ _ (ih k y.2 (by omega) (by omega) hyo.2.2.1 hyo.2.2.2) rfl rfl ⟨by simp only [go_sem],by first | (rw [aa];decide) | (simp only [go_sem]<;>(try rw [aa])<;>decide)⟩ (by simp only [go_sem]) (by simp only [go_sem]) (by simp only [go_sem]) (by simp only [go_sem];try omega) ?_
    simp only [go_sem]
    refine ⟨by decide +kernel,?_⟩
    rw [ai (n:=y.1+(wdM (-1) ns m y.2 (k:Int)).1) ⟨by omega,by omega⟩,ai (n:=(q:Int)+1) ⟨by omega,by omega⟩,qN,hQ]
    simp only [go_sem]
    refine ⟨⟨(q+1,wdK (wdM (-1) ns m) y (k:Int)),by show q+1≤_;omega,⟨by show 0≤min (y.1+(wdM (-1) ns m y.2 (k:Int)).1) 1000000;omega,by show min (y.1+(wdM (-1) ns m y.2 (k:Int)).1) 1000000≤1000001;omega,hfk.2.2.1,hfk.2.2.2⟩,?_⟩,by show K.length-(q+1)<_;omega,?_⟩
    ·show (K.drop (q+1)).foldl (wdK (wdM (-1) ns m)) (wdK (wdM (-1) ns m) y (k:Int))=_
     rw [← hyf,List.drop_eq_getElem_cons hq',List.foldl_cons,hkk]
    ·first | rfl | exact ⟨rfl,rfl⟩ | exact ⟨⟨rfl,rfl⟩,rfl⟩
   ·have h3:q=K.length:=by omega
    subst h3
    rw [List.drop_length,List.foldl_nil] at hyf
    rw [← hyf] at hR
    obtain ⟨y1,y2,y3,y4⟩:=hyo
    rw [hQ]
    simp only [go_sem]
    refine aA (ao fun E=>?_)
    simp only [go_sem]
    refine ⟨⟨by omega,by omega⟩,?_⟩
    rw [qN]
    rw [show (y.2.map i64).set i (.int .i64 (min y.1 1000000))=(y.2.set i (min y.1 1000000)).map i64 by rw [List.map_set]]
    refine ao fun E=>?_
    simp only [go_sem]
    refine ⟨⟨by omega,by omega⟩,?_⟩
    rw [av (by rw [List.length_set];omega),show (y.2.set i (min y.1 1000000)).getD i 0=min y.1 1000000 by simp [List.getD_eq_getElem?_getD,y3,hi]]
    simp only [go_sem]
    rw [← hR]
    refine tT (.inl rfl) hB0 ?_
    simp only [go_sem]
    refine ⟨_,_,[101],id,⟨rfl,rfl⟩,?_⟩
    simp only [go_sem]
end Go.Proofs.YtejpnabbmgpmaaaGreat

namespace Go.Proofs.YtejpnabbmgpmaaaGreat
open Go.Ab
theorem va {ns:List EN} (h:b9 ns<0):∀ j,j<ns.length→(ndE ns j).k=4→0≤(bE ns j).1:=fun j hj h4=>by
 refine Classical.byContradiction fun hn=>?_
 unfold b9 at h
 cases hf:(List.range ns.length).find? (fun i=>decide ((ndE ns i).k=4) && decide ((bE ns i).1<0)) with
 | none =>
   have:=List.find?_eq_none.1 hf j (List.mem_range.2 hj)
   simp [h4] at this
   omega
 | some i =>
   rw [hf] at h
   simp at h
   omega
set_option maxHeartbeats 1000000 in
theorem G5 {G} (ns:List EN) (ht:cV ns) (hc:b9 ns<0) (hN:ns.length≤1000000) (hl:∀ n∈ns,n.l.length≤900000):HP Tryz.prog G 65 [exD ns] (fun r=>r=.d (i64 (wvE ns (ns.length-1)))):=by
 have hl':∀ n∈ns,n.l.length≤1000000:=fun n hn=>by have:=hl n hn;omega
 have hp:=ht.pos
 have c1:=xE (G:=G) ns ht hN hl'
 obtain ⟨hv,_⟩:=rL (z:=-1) (by decide) ht (rkE ns (ns.length-1)+1) (ns.length-1) (by omega) (by omega) _ (Aj (-1) ns)
 have hwb:Wb (List.replicate ns.length (-1)):=fun x hx=>by rw [List.mem_replicate] at hx;omega
 have c3:=wT (G:=G) ns ht hN hl (va hc) (rkE ns (ns.length-1)+1) (ns.length-1) (List.replicate ns.length (-1)) (by omega) (by omega) (by simp) hwb
 have hWl:=(lR (z:=-1) (by decide) ns ns.length (rkE ns (ns.length-1)+1) (List.replicate ns.length (-1)) ((ns.length-1:Nat):Int) (by simp) hwb).2.2.1
 rw [hv] at c3
 generalize (wdM (-1) ns (rkE ns (ns.length-1)+1) (List.replicate ns.length (-1)) ((ns.length-1:Nat):Int)).2=W at c3 hWl
 have hvp:=Fk ns (ns.length-1)
 generalize wvE ns (ns.length-1)=V at c3 hvp ⊢
 unfold exD at c1 c3 ⊢
 refine aw Tryz.func65 rfl (by decide +kernel) (by simp [Tryz.ntmps65]) (veil fun E=>?_)
 simp only [go_sem]
 refine ag E (c1) rfl rfl (by simp) ?_
 rintro _ rfl
 simp only [go_sem]
 refine ⟨⟨by omega,by omega,by omega,by omega⟩,?_⟩
 rw [show (List.replicate ns.length (D.int IntKind.i64 0))=((List.replicate 0 (-1)++List.replicate (ns.length-0) 0:List Int).map i64) by simp]
 refine bl E (X:={ i:Nat // i≤ns.length }) (fun x=>[(1,.bx [1] 0),(3,.d (.sl (some 2) ((bn ns).map bD))),(5,.vw [12] 0 ns.length),(6,.d (i64 x.1))])
  (fun x=>[([1],.box [.d (.sl (some 9) (ns.map enD))]),([12],.arr none ((List.replicate x.1 (-1)++List.replicate (ns.length-x.1) 0:List Int).map i64))]) [1,12] (fun x=>ns.length-x.1) ⟨0,Nat.zero_le _⟩ ?_ ?_
 ·simp only [go_sem]
  all_goals first | rfl | exact ⟨rfl,rfl⟩
 rintro ⟨i,hi⟩ E0
 refine aC E0 fun Q' hQ E'=>?_
 simp only at hi ⊢
 simp only [go_sem]
 refine ah E' (fun f1=>?_) (fun f1=>?_)<;>simp only [go_sem]
 ·have hst:(List.replicate i (-1)++List.replicate (ns.length-i) 0:List Int).set i (-1)=List.replicate (i+1) (-1)++List.replicate (ns.length-(i+1)) 0:=by
   rw [List.set_append_right _ _ (by simp),List.length_replicate,Nat.sub_self,show ns.length-i=(ns.length-(i+1))+1 by omega,List.replicate_succ,List.set_cons_zero,List.replicate_succ',List.append_assoc]
   rfl
  refine ⟨⟨by omega,by omega⟩,?_⟩
  rw [ai ⟨by omega,by omega⟩,show ((List.replicate i (-1)++List.replicate (ns.length-i) 0:List Int).map i64).set i (.int .i64 (-1))=(List.replicate (i+1) (-1)++List.replicate (ns.length-(i+1)) 0:List Int).map i64 by rw [← hst,List.map_set],hQ]
  simp only [go_sem]
  refine ⟨⟨i+1,by omega⟩,by show ns.length-(i+1)<_;omega,?_⟩
  first | rfl | exact ⟨rfl,rfl⟩
 ·have h3:i=ns.length:=by omega
  subst h3
  rw [hQ,Nat.sub_self,List.replicate_zero,List.append_nil]
  simp only [go_sem]
  rw [ai ⟨by omega,by omega⟩]
  rw [show ((ns.length-1:Nat):Int)=(ns.length:Int)-1 by omega] at c3
  refine aS E (tau [([101],[12])]) _ _ _ c3 rfl (by simp only [go_sem];try rfl) ⟨by simp only [go_sem],by first | (rw [aa];decide) | (simp only [go_sem]<;>(try rw [aa])<;>decide)⟩ rfl (by simp only [go_sem];try rfl) (by simp only [go_sem]) ?_
  rintro _ _ ⟨rfl,rfl⟩
  refine ⟨by simp only [go_sem];try simp;try omega,?_⟩
  simp only [go_sem]
  rw [if_neg (by omega)]
  refine ⟨[],?_⟩
  simp only [go_sem]
theorem Gf {G} (ns:List EN) (hs:∀ n∈ns,dc BIG n) (hN:ns.length≤1000000) (hl:∀ n∈ns,n.l.length≤900000):HP Tryz.prog G 21 [exD ns] (fun r=>r=.d (i64 (lu ns))):=by
 have hl':∀ n∈ns,n.l.length≤1000000:=fun n hn=>by have:=hl n hn;omega
 have c1:=GO (G:=G) ns hs hN hl'
 unfold lu
 by_cases h0:rG ns=0
 ·have hm:cA ns=0:=by
   refine Classical.byContradiction fun h=>?_
   unfold rG at h0
   rw [if_pos h] at h0
   exact h h0
  have hc:b9 ns<0:=by
   refine Classical.byContradiction fun h=>?_
   unfold rG at h0
   rw [if_neg (by simp [hm]),if_pos (by omega)] at h0
   exact absurd h0 (by decide)
  have c2:=G5 (G:=G) ns (sh hm) hc hN hl
  rw [if_pos h0]
  rw [h0] at c1
  unfold exD at c1 c2 ⊢
  refine al Tryz.func21 rfl (by decide +kernel) (by simp [Tryz.ntmps21]) (veil fun E=>?_)
  simp only [go_sem]
  refine ag E (c1) rfl rfl (by simp) ?_
  rintro _ rfl
  simp only [go_sem]
  refine ag E (c2) rfl rfl (by simp) ?_
  rintro _ rfl
  simp only [go_sem]
 ·rw [if_neg h0]
  unfold exD at c1 ⊢
  refine al Tryz.func21 rfl (by decide +kernel) (by simp [Tryz.ntmps21]) (veil fun E=>?_)
  simp only [go_sem]
  refine ag E (c1) rfl rfl (by simp) ?_
  rintro _ rfl
  simp only [go_sem]
  refine ah E (fun _=>?_) (fun h=>absurd (by simpa using h) h0)<;>simp only [go_sem]
theorem BN {G} (ns:List EN) (hs:∀ n∈ns,dc BIG n) (hN:ns.length≤1000000) (hl:∀ n∈ns,n.l.length≤900000):HP Tryz.prog G 20 [exD ns] (fun r=>r=.d (i64 (lu ns))):=by
 have c1:=F7 (G:=G) ns hs hN hl
 unfold exD at c1 ⊢
 refine al Tryz.func20 rfl (by decide +kernel) (by simp [Tryz.ntmps20]) (veil fun E=>?_)
 simp only [go_sem]
 refine ag E (c1) rfl rfl (by simp) ?_
 rintro _ rfl
 simp only [go_sem]
def bgD (b:Int × Int × Int × Int):D:=.agg [i64 b.1,i64 b.2.1,i64 b.2.2.1,i64 b.2.2.2]
theorem Gr {G} (ns:List EN) (hm:cA ns=0) (hs:∀ n∈ns,dc BIG n) (hN:ns.length≤1000000) (hl:∀ n∈ns,n.l.length≤900000):HP Tryz.prog G 66 [exD ns] (fun r=>r=.d (bgD (0,iy ns,lu ns,0))):=by
 have c1:=EU (G:=G) ns hs hN
 have c2:=BN (G:=G) ns hs hN hl
 rw [if_pos hm] at c1
 unfold bgD
 unfold exD at c1 c2 ⊢
 refine aw Tryz.func66 rfl (by decide +kernel) (by simp [Tryz.ntmps66]) (veil fun E=>?_)
 simp only [go_sem]
 refine ak mixed E fun X=>?_
 simp only [go_sem]
 refine bK X c1 rfl rfl (by simp) ?_
 simp only [go_sem]
 refine bK X c2 rfl rfl (by simp) ?_
 simp only [go_sem]
 refine ⟨by decide +kernel,[],?_⟩
 simp only [go_sem]
def gM (ns:List EN) (b:Int × Int × Int × Int):Int:=if cA ns≠0 then cA ns else if iy ns > b.2.1 then 6 else if lu ns > b.2.2.1 then 8 else 0
theorem Bh {G} (ns:List EN) (b:Int × Int × Int × Int) (hs:∀ n∈ns,dc BIG n) (hN:ns.length≤1000000) (hl:∀ n∈ns,n.l.length≤900000):HP Tryz.prog G 22 [exD ns,bgD b] (fun r=>r=.d (i64 (gM ns b))):=by
 have c1:=og (G:=G) ns hs hN
 generalize hR:gM ns b=R
 unfold gM at hR
 by_cases hm:cA ns=0
 ·have c2:=Gr (G:=G) ns hm hs hN hl
  rw [hm] at c1
  rw [if_neg (by simp [hm])] at hR
  unfold bgD at c2 ⊢
  unfold exD at c1 c2 ⊢
  refine al Tryz.func22 rfl (by decide +kernel) (by simp [Tryz.ntmps22]) (veil fun E=>?_)
  simp only [go_sem]
  refine ag E (c1) rfl rfl (by simp) ?_
  rintro _ rfl
  simp only [go_sem]
  refine ag E (c2) rfl rfl (by simp) ?_
  rintro _ rfl
  simp only [go_sem]
  refine ah E (fun g1=>?_) (fun g1=>?_)<;>simp only [go_sem]
  ·rw [if_pos g1] at hR
   rw [← hR]
  rw [if_neg g1] at hR
  refine ah E (fun g2=>?_) (fun g2=>?_)<;>simp only [go_sem]
  ·rw [if_pos g2] at hR
   rw [← hR]
  ·rw [if_neg g2] at hR
   rw [← hR]
 ·rw [if_pos hm] at hR
  rw [hR] at c1 hm
  unfold bgD
  unfold exD at c1 ⊢
  refine al Tryz.func22 rfl (by decide +kernel) (by simp [Tryz.ntmps22]) (veil fun E=>?_)
  simp only [go_sem]
  refine ag E (c1) rfl rfl (by simp) ?_
  rintro _ rfl
  simp only [go_sem]
  refine ah E (fun _=>?_) (fun h=>absurd (by simpa using h) hm)<;>simp only [go_sem]
theorem Hs {G} (ns:List EN) (b:Int × Int × Int × Int) (hs:∀ n∈ns,dc BIG n) (hN:ns.length≤1000000) (hl:∀ n∈ns,n.l.length≤900000):HP Tryz.prog G 23 [exD ns,bgD b] (fun r=>r=.d (i64 (gM ns b))):=by
 have c1:=nX (G:=G) ns hs hN
 generalize hR:gM ns b=R
 unfold gM at hR
 by_cases hm:cA ns=0
 ·have ht:=sh hm
  have hp:=ht.pos
  have c2:=C9 (G:=G) ns hN (fun n hn=>(hs n hn).l) (aQ ht) ns.length (ns.length-1) (by omega) (by omega)
  have c3:=Gf (G:=G) ns hs hN hl
  rw [hm] at c1
  rw [if_neg (by simp [hm])] at hR
  rw [show ((ns.length-1:Nat):Int)=(ns.length:Int)-1 by omega,show (dy ns []).getD (ns.length-1) 0=iy ns from rfl] at c2
  unfold bgD
  unfold exD at c1 c2 c3 ⊢
  refine al Tryz.func23 rfl (by decide +kernel) (by simp [Tryz.ntmps23]) (veil fun E=>?_)
  simp only [go_sem]
  refine ag E (c1) rfl rfl (by simp) ?_
  rintro _ rfl
  simp only [go_sem]
  refine ak mixed E fun X=>?_
  simp only [go_sem]
  rw [ai ⟨by omega,by omega⟩]
  refine bK X c2 rfl rfl (by simp) ?_
  simp only [go_sem]
  refine ⟨by decide +kernel,?_⟩
  refine ah E (fun g1=>?_) (fun g1=>?_)<;>simp only [go_sem]
  ·rw [if_pos g1] at hR
   rw [← hR]
  rw [if_neg g1] at hR
  refine ak mixed E fun X=>?_
  simp only [go_sem]
  refine bK X c3 rfl rfl (by simp) ?_
  simp only [go_sem]
  refine ⟨by decide +kernel,?_⟩
  refine ah E (fun g2=>?_) (fun g2=>?_)<;>simp only [go_sem]
  ·rw [if_pos g2] at hR
   rw [← hR]
  ·rw [if_neg g2] at hR
   rw [← hR]
 ·rw [if_pos hm] at hR
  rw [hR] at c1 hm
  unfold bgD
  unfold exD at c1 ⊢
  refine al Tryz.func23 rfl (by decide +kernel) (by simp [Tryz.ntmps23]) (veil fun E=>?_)
  simp only [go_sem]
  refine ag E (c1) rfl rfl (by simp) ?_
  rintro _ rfl
  simp only [go_sem]
  refine ah E (fun _=>?_) (fun h=>absurd (by simpa using h) hm)<;>simp only [go_sem]
end Go.Proofs.YtejpnabbmgpmaaaGreat

namespace Go.Proofs.YtejpnabbmgpmaaaGreat
open Go.Ab
theorem iq {s:List UInt8} (hl:s.length≤100000) (h:(aV s).2.2=0):(aV s).1.length≤1000000∧∀ n∈(aV s).1,dc BIG n:=by
 obtain ⟨_,_,hl3,_⟩:=rQ s
 have hls:=C8 s
 unfold aV at h ⊢
 split
 ·rename_i g;rw [if_pos g] at h;exact absurd h g
 rename_i he
 rw [if_neg he] at h
 have g3:=dK 100 (fC (bM s).1 (bM s).2.1)
 have n3:=nq (B:=200) 100 (fC (bM s).1 (bM s).2.1) hls
 have hx:=qV g3 (by show (bM s).1.length≤_;omega) n3
 unfold gp at h ⊢
 repeat' split
 ·exact ⟨Nat.zero_le _,fun _ h=>by cases h⟩
 ·exact ⟨Nat.zero_le _,fun _ h=>by cases h⟩
 ·exact ⟨Nat.zero_le _,fun _ h=>by cases h⟩
 ·exact hx
end Go.Proofs.YtejpnabbmgpmaaaGreat

namespace Go.Proofs.YtejpnabbmgpmaaaGreat
open Go.Ab
def dx (s:List UInt8) (b:Int × Int × Int × Int):List EN × Int × Int :=
 if (s.length:Int) > b.1 then ([],0,7) else if (aV s).2.2≠0 then ([],(aV s).2.1,(aV s).2.2) else if gM (aV s).1 b≠0 then ([],0,gM (aV s).1 b) else ((aV s).1,0,0)
theorem kN {s:List UInt8} (hl:s.length≤100000) (h:(aV s).2.2=0):∀ n∈(aV s).1,n.l.length≤900000:=by
 obtain ⟨_,_,hl3,_⟩:=rQ s
 unfold aV at h ⊢
 split
 ·rename_i g;rw [if_pos g] at h;exact absurd h g
 rename_i he
 rw [if_neg he] at h
 have g3:=(dK 100 (fC (bM s).1 (bM s).2.1)).wd
 have hx:∀ n∈(ei 100 (fC (bM s).1 (bM s).2.1)).1,n.l.length≤900000:=fun n hn=>by
  have:=g3 n hn
  have h4:(fC (bM s).1 (bM s).2.1).l.length=(bM s).1.length:=rfl
  omega
 unfold gp at h ⊢
 repeat' split
 ·exact fun _ h=>by cases h
 ·exact fun _ h=>by cases h
 ·exact fun _ h=>by cases h
 ·exact hx
theorem Ae {G} (s:List UInt8) (b:Int × Int × Int × Int) (hl:s.length≤100000):HP Tryz.prog G 26 [.str s,bgD b] (fun r=>r=bd (dx s b)):=by
 have c1:=F5 (G:=G) s hl
 have ho:=tL (s:=s)
 have hsn:=iq (s:=s) hl
 have hp:=kN (s:=s) hl
 generalize hR:dx s b=R
 unfold dx at hR
 generalize aV s=p at c1 ho hsn hR hp
 unfold bgD
 refine aw Tryz.func26 rfl (by decide +kernel) (by simp [Tryz.ntmps26]) (veil fun E=>?_)
 simp only [go_sem]
 refine ah E (fun g1=>?_) (fun g1=>?_)<;>simp only [go_sem]
 ·rw [if_pos g1] at hR
  rw [← hR]
  refine ⟨[],?_⟩
  unfold bd
  simp only [go_sem]
 rw [if_neg g1] at hR
 by_cases h0:p.2.2=0
 ·obtain ⟨_,hm,hpp⟩:=ho h0
  obtain ⟨hN,hs⟩:=hsn h0
  have c2:=Bh (G:=G) p.1 b hs hN (hp h0)
  rw [if_neg (by simp [h0])] at hR
  rw [show bd p=.tup [.d (.agg [.sl (some 9) (p.1.map enD)]),.d (i64 0),.d (i64 0)] by unfold bd exD;rw [if_pos h0,h0,hpp]] at c1
  obtain ⟨w,hw⟩:∃ w,w=gM p.1 b:=⟨_,rfl⟩
  rw [← hw] at c2 hR
  unfold bgD exD at c2
  refine ag E (c1) rfl rfl (by simp) ?_
  rintro _ rfl
  simp only [go_sem]
  refine ag E (c2) rfl rfl (by simp) ?_
  rintro _ rfl
  simp only [go_sem]
  refine ah E (fun g2=>?_) (fun g2=>?_)<;>simp only [go_sem]
  ·rw [if_pos g2] at hR
   rw [← hR]
   refine ⟨[],?_⟩
   unfold bd
   simp only [go_sem]
   rw [if_neg (by simpa using g2)]
  ·rw [if_neg g2] at hR
   rw [← hR]
   refine ⟨[],?_⟩
   unfold bd
   simp only [go_sem]
   rfl
 ·rw [if_pos h0] at hR
  rw [show bd p=.tup [.d (.agg [.nils]),.d (i64 p.2.1),.d (i64 p.2.2)] by unfold bd;rw [if_neg h0]] at c1
  refine ag E (c1) rfl rfl (by simp) ?_
  rintro _ rfl
  simp only [go_sem]
  refine ah E (fun _=>?_) (fun h=>absurd (by simpa using h) h0)<;>simp only [go_sem]
  rw [← hR]
  refine ⟨[],?_⟩
  unfold bd
  simp only [go_sem]
  rw [if_neg h0]
def coT:List UInt8:=[108,101,116,32,120,32,61,32,49,32,105,110,32,120]
theorem Du:(dx coT (20,5,9,0)).2.2=0∧(dx coT (20,5,9,0)).2.1=0∧lu (dx coT (20,5,9,0)).1=4∧gM (dx coT (20,5,9,0)).1 (0,5,3,0)=8∧(aV coT).2.2=0∧(dx coT (20,5,9,0)).1=(aV coT).1:=by
 have h:(aV coT).2.2=0∧gM (aV coT).1 (20,5,9,0)=0∧lu (aV coT).1=4∧gM (aV coT).1 (0,5,3,0)=8:=by
  decide +kernel
 obtain ⟨h1,h2,h3,h4⟩:=h
 have e:dx coT (20,5,9,0)=((aV coT).1,0,0):=by
  unfold dx
  rw [if_neg (by decide),if_neg (by simp [h1]),if_neg (by simp [h2])]
 rw [e]
 exact ⟨rfl,rfl,h3,h4,h1,rfl⟩
theorem Gs {G}:HP Tryz.prog G 24 [] (fun r=>r=.d (.bool true)):=by
 have c1:=Ae (G:=G) coT (20,5,9,0) (by decide)
 obtain ⟨h1,h2,h3,h4,h5,h6⟩:=Du
 obtain ⟨hN,hs⟩:=iq (s:=coT) (by decide) h5
 have hl:=kN (s:=coT) (by decide) h5
 generalize dx coT (20,5,9,0)=R at c1 h1 h2 h3 h4 h6
 rw [← h6] at hN hs hl
 have he:bd R=.tup [.d (.agg [.sl (some 9) (R.1.map enD)]),.d (i64 0),.d (i64 0)]:=by unfold bd exD;rw [if_pos h1,h1,h2]
 have c2:=BN (G:=G) R.1 hs hN hl
 have c3:=Bh (G:=G) R.1 (0,5,3,0) hs hN hl
 rw [he] at c1
 rw [h3] at c2
 rw [h4] at c3
 unfold coT bgD at c1
 unfold exD at c2
 unfold exD bgD at c3
 refine al Tryz.func24 rfl (by decide +kernel) (by simp [Tryz.ntmps24]) (veil fun E=>?_)
 simp only [go_sem]
 refine ag E (c1) rfl rfl (by simp) ?_
 rintro _ rfl
 simp only [go_sem]
 refine ag E (c2) rfl rfl (by simp) ?_
 rintro _ rfl
 simp only [go_sem]
 refine ag E (c3) rfl rfl (by simp) ?_
 rintro _ rfl
 simp only [go_sem]
end Go.Proofs.YtejpnabbmgpmaaaGreat

namespace Go.Proofs.YtejpnabbmgpmaaaGreat
open Go.Ab
theorem GN {G} (s:List UInt8) (b:Int × Int × Int × Int) (hl:s.length≤100000):HP Tryz.prog G 27 [.str s,bgD b] (fun r=>r=bd (dx s b)):=by
 have c1:=GB (G:=G) s hl
 have ho:=tL (s:=s)
 have hsn:=iq (s:=s) hl
 have hp:=kN (s:=s) hl
 generalize hR:dx s b=R
 unfold dx at hR
 generalize aV s=p at c1 ho hsn hR hp
 unfold bgD
 refine aw Tryz.func27 rfl (by decide +kernel) (by simp [Tryz.ntmps27]) (veil fun E=>?_)
 simp only [go_sem]
 refine ah E (fun g1=>?_) (fun g1=>?_)<;>simp only [go_sem]
 ·rw [if_pos g1] at hR
  rw [← hR]
  refine ⟨[],?_⟩
  unfold bd
  simp only [go_sem]
 rw [if_neg g1] at hR
 by_cases h0:p.2.2=0
 ·obtain ⟨_,hm,hpp⟩:=ho h0
  obtain ⟨hN,hs⟩:=hsn h0
  have c2:=Hs (G:=G) p.1 b hs hN (hp h0)
  rw [if_neg (by simp [h0])] at hR
  rw [show bd p=.tup [.d (.agg [.sl (some 9) (p.1.map enD)]),.d (i64 0),.d (i64 0)] by unfold bd exD;rw [if_pos h0,h0,hpp]] at c1
  obtain ⟨w,hw⟩:∃ w,w=gM p.1 b:=⟨_,rfl⟩
  rw [← hw] at c2 hR
  unfold bgD exD at c2
  refine ag E (c1) rfl rfl (by simp) ?_
  rintro _ rfl
  simp only [go_sem]
  refine ag E (c2) rfl rfl (by simp) ?_
  rintro _ rfl
  simp only [go_sem]
  refine ah E (fun g2=>?_) (fun g2=>?_)<;>simp only [go_sem]
  ·rw [if_pos g2] at hR
   rw [← hR]
   refine ⟨[],?_⟩
   unfold bd
   simp only [go_sem]
   rw [if_neg (by simpa using g2)]
  ·rw [if_neg g2] at hR
   rw [← hR]
   refine ⟨[],?_⟩
   unfold bd
   simp only [go_sem]
   rfl
 ·rw [if_pos h0] at hR
  rw [show bd p=.tup [.d (.agg [.nils]),.d (i64 p.2.1),.d (i64 p.2.2)] by unfold bd;rw [if_neg h0]] at c1
  refine ag E (c1) rfl rfl (by simp) ?_
  rintro _ rfl
  simp only [go_sem]
  refine ah E (fun _=>?_) (fun h=>absurd (by simpa using h) h0)<;>simp only [go_sem]
  rw [← hR]
  refine ⟨[],?_⟩
  unfold bd
  simp only [go_sem]
  rw [if_neg h0]
theorem nil_le:DLe (.agg [.nils]) (exD []):=by
 refine .agg _ _ rfl (by simp [D.scal]) fun i x y hx hy=>?_
 rcases i with _ | i
 ·cases hx;cases hy;exact .inr ⟨some 9,rfl,rfl⟩
 ·cases hx
theorem Da {G}:HP Tryz.prog G 28 [.agg [.nils],.agg [.nils]] (fun r=>r=.d (.bool true)) :=
 HP.le (args':=[exD [],exD []]) rfl (h:=C1 [] (Nat.zero_le _) (fun _ h=>by cases h)) fun i x y hx hy=>by
  rcases i with _ | _ | i
  ·cases hx;cases hy;exact nil_le
  ·cases hx;cases hy;exact nil_le
  ·cases hx
theorem FM {G} (s:List UInt8) (b:Int × Int × Int × Int) (hl:s.length≤100000):HP Tryz.prog G 28 [if (dx s b).2.2=0 then exD (dx s b).1 else .agg [.nils],if (dx s b).2.2=0 then exD (dx s b).1 else .agg [.nils]] (fun r=>r=.d (.bool true)):=by
 split
 ·rename_i h0
  have h1:(aV s).2.2=0∧(dx s b).1=(aV s).1:=by
   unfold dx at h0 ⊢
   split at h0
   ·exact absurd h0 (by decide)
   rename_i g1
   rw [if_neg g1]
   split at h0
   ·rename_i g2;exact absurd h0 g2
   rename_i g2
   rw [if_neg g2]
   split at h0
   ·rename_i g3;exact absurd h0 g3
   rename_i g3
   rw [if_neg g3]
   exact ⟨by simpa using g2,rfl⟩
  obtain ⟨hN,_⟩:=iq hl h1.1
  rw [h1.2]
  exact C1 _ hN fun n hn=>by have:=kN hl h1.1 n hn;omega
 ·exact Da
theorem HQ {G} (s:List UInt8) (b:Int × Int × Int × Int):HP Tryz.prog G 5 [.str s,bgD b] (fun r=>r=.d (.bool true)):=by
 have c0:=Gn (G:=G) s
 have hS:(s.take 500).length≤500:=by rw [List.length_take];omega
 generalize s.take 500=S at c0 hS
 have c1:=Ae (G:=G) S b (by omega)
 have c2:=GN (G:=G) S b (by omega)
 have c3:=FM (G:=G) S b (by omega)
 unfold bd at c1 c2
 generalize dx S b=R at c1 c2 c3
 obtain ⟨y,hy⟩:∃ y,(if R.2.2=0 then exD R.1 else .agg [.nils]:D)=.agg [y]:=by split<;>exact ⟨_,rfl⟩
 rw [hy] at c1 c2 c3
 unfold bgD at *
 refine al Tryz.func5 rfl (by decide +kernel) (by simp [Tryz.ntmps5]) (veil fun E=>?_)
 simp only [go_sem]
 refine ag E (c0) rfl rfl (by simp) ?_
 rintro _ rfl
 simp only [go_sem]
 refine ag E (c1) rfl rfl (by simp) ?_
 rintro _ rfl
 simp only [go_sem]
 refine ag E (c2) rfl rfl (by simp) ?_
 rintro _ rfl
 simp only [go_sem]
 refine ag E (c3) rfl rfl (by simp) ?_
 rintro _ rfl
 simp only [go_sem]
 refine ag E (Gs) rfl rfl (by simp) ?_
 rintro _ rfl
 simp only [go_sem]
def Hh:List Go.Ab.TS:=[.int .i64,.int .i64,.int .i64,.int .i64]
theorem Gm {ds:List D} (h:oks Hh ds):∃ b,.agg ds=bgD b:=by
 match ds,h with
 | [.int k1 a,.int k2 b,.int k3 c,.int k4 d],h =>
   obtain ⟨g1,g2,g3,g4,_⟩:=h
   obtain rfl:k1=.i64:=g1.1
   obtain rfl:k2=.i64:=g2.1
   obtain rfl:k3=.i64:=g3.1
   obtain rfl:k4=.i64:=g4.1
   exact ⟨(a,b,c,d),rfl⟩
theorem Hq {d:D} (h:Go.Ab.TS.str.ok d):∃ l,d=.str l:=by
 match d,h with
 | .str l,_=>exact ⟨l,rfl⟩
theorem r8 {G} {d1:D} {d2:List D} (h1:Go.Ab.TS.str.ok d1) (h2:oks Hh d2):HP Tryz.prog G 5 [d1,.agg d2] (fun r=>r=.d (.bool true)):=by
 obtain ⟨s,rfl⟩:=Hq h1
 obtain ⟨b,hb⟩:=Gm h2
 rw [hb]
 exact HQ s b
end Go.Proofs.YtejpnabbmgpmaaaGreat

namespace Go.Proofs.YtejpnabbmgpmaaaGreat
open Go.Ab
open Go.ChangeShapes Go.WideShapes Go.ChangeAt Go.RowKit
theorem Tryz.own:ownKnob Tryz.prog.godebug=none:=by kernel_rfl
theorem Tryz.laidOut:laidOutB Tryz.prog=true:=by kernel_rfl
theorem ue {H:Type} {enc:TypeId × Value→H} {t:TypeId} (hr:Tryz.prog.readableRec t=true) (hrow:t<Tryz.prog.types.size) {W W':World} {v:Value} {d:DataW H} {ps:List MemPlace}
  (h:DataW.Trod enc Tryz.prog W 0 (fun _=>true) true t v d ps) (he:Ext W W') (hlt:∀ x∈ps,x.block<W.heap.size) :
  DataW.Trod enc Tryz.prog W' 0 (fun b=>decide (b<W.heap.size)) true t v d ps :=
 WideElems.Trod_stays Tryz.laidOut hr hrow h (fun x hx=>by
  have h1:=he.old x.block (hlt x hx)
  cases x with
  | cell b off=>show W'.cell? _=W.cell? _;unfold World.cell?;rw [show W'.heap[b]?=W.heap[b]? from h1]
  | map b=>exact h1) (fun x hx=>by simpa using hlt x hx)
end Go.Proofs.YtejpnabbmgpmaaaGreat

namespace Go.Proofs.YtejpnabbmgpmaaaGreat
open Go.Ab
open Go.ChangeShapes Go.WideShapes Go.ChangeAt Go.RowKit
theorem rD:(Rows.costReadsRow.wf (OpenSpec.ofChange Rows.costReadsSpec))=true:=by kernel_rfl
theorem rj:(Tryz.f5.params.all (Tryz.prog.readableRec ·))=true:=by kernel_rfl
theorem rZ:(namedTie Tryz.prog Rows.costReadsRow.named Rows.costReadsSpec.vars)=true:=by kernel_rfl
theorem rB:((Rows.costReadsRow.stops == []))=true:=by kernel_rfl
theorem qX:((Rows.costReadsRow.knobs == []))=true:=by kernel_rfl
theorem o9:((Rows.costReadsRow.inPlace == Tryz.prog.inPlace 5))=true:=by kernel_rfl
theorem pj:((Rows.costReadsRow.unfollowed == Tryz.prog.unfollowed 5))=true:=by kernel_rfl
theorem pC:((Rows.costReadsRow.recurses == Tryz.prog.recurses 5))=true:=by kernel_rfl
theorem pF:((Rows.costReadsRow.named == Tryz.prog.varsNamed 5))=true:=by kernel_rfl
theorem pw:((Rows.costReadsRow.maps == (Tryz.f5.params.toList++Rows.costReadsSpec.plain.varTypes Tryz.prog).any (Tryz.prog.mapsRec ·)))=true:=by kernel_rfl
theorem pf:((Rows.costReadsRow.ifaces == (Tryz.f5.params.toList++Rows.costReadsSpec.plain.varTypes Tryz.prog).any (Tryz.prog.ifacesRec ·)))=true:=by kernel_rfl
theorem pa:((Rows.costReadsRow.mapsOut == Tryz.prog.mapsAmong Tryz.f5.resultTypes.toList))=true:=by kernel_rfl
theorem o8:((Rows.costReadsRow.loops == (Tryz.f5.params.toList++Rows.costReadsSpec.plain.varTypes Tryz.prog).any (Tryz.prog.loopsFrom ·)))=true:=by kernel_rfl
theorem pd:((Rows.costReadsRow.wideKeys == (Tryz.f5.params.toList++Rows.costReadsSpec.plain.varTypes Tryz.prog++Tryz.f5.resultTypes.toList).any (Tryz.prog.wideKeysFrom ·)))=true:=by kernel_rfl
theorem ph:(Rows.costReadsSpec.vars.all (Tryz.prog.varReadable ·))=true:=by kernel_rfl
theorem pA:(Tryz.f5.resultTypes.all (fun t=>Tryz.prog.readableRec t && decide (t<Tryz.prog.types.size)))=true:=by kernel_rfl
theorem pE:((Rows.costReadsRow.ifacesOut == Tryz.f5.resultTypes.toList.any (Tryz.prog.ifacesRec ·)))=true:=by kernel_rfl
theorem py:((Rows.costReadsRow.loopsOut == Tryz.f5.resultTypes.toList.any (Tryz.prog.loopsFrom ·)))=true:=by kernel_rfl
theorem px:((Rows.costReadsRow.plainKeys == Tryz.prog.plainKeys))=true:=by kernel_rfl
theorem pb:(Rows.costReadsRow.shortTexts.isNone)=true:=by kernel_rfl
theorem o4:((Rows.costReadsRow.lifted == Tryz.prog.liftsFinal))=true:=by kernel_rfl
theorem oZ:((Tryz.prog.make == some Rows.costReadsRow.make))=true:=by kernel_rfl
theorem o0:((Rows.costReadsRow.kinds == (if Rows.costReadsRow.domain.isEmpty then [] else Tryz.f5.params.toList.map fun t=>match Tryz.prog.underlying t with | some (.int k)=>some k | _=>none)))=true:=by kernel_rfl
theorem o5:((Rows.costReadsRow.pinned == Rows.costReadsRow.pinnedBy))=true:=by kernel_rfl
theorem pc:((Rows.costReadsRow.veiled == (Tryz.f5.params.toList++Rows.costReadsSpec.plain.varTypes Tryz.prog++Tryz.f5.resultTypes.toList).any (Tryz.prog.veiledRec ·)))=true:=by kernel_rfl
theorem oY:(Rows.costReadsRow.veiledFits Tryz.prog Tryz.f5.params.toList (Tryz.f5.params.toList++Rows.costReadsSpec.plain.varTypes Tryz.prog++Tryz.f5.resultTypes.toList))=true:=by kernel_rfl
end Go.Proofs.YtejpnabbmgpmaaaGreat

namespace Go.Proofs.YtejpnabbmgpmaaaGreat
open Go.Ab
open Go.ChangeShapes Go.WideShapes Go.ChangeAt Go.RowKit
theorem bX {a b:Bool} (ha:a=true) (hb:b=true):(a && b)=true:=by rw [ha,hb];rfl
theorem Er:(laidOutB Tryz.prog)=true:=by kernel_rfl
theorem Fi:(mapsRowed Tryz.prog)=true:=by kernel_rfl
theorem Bt:((Tryz.prog.stops == []))=true:=by kernel_rfl
theorem Ao:((Tryz.prog.stopKnobs == []))=true:=by kernel_rfl
theorem AQ:(Tryz.prog.stopsHeard)=true:=by kernel_rfl
theorem BF:(Tryz.prog.mayEnter)=true:=by kernel_rfl
end Go.Proofs.YtejpnabbmgpmaaaGreat

namespace Go.Proofs.YtejpnabbmgpmaaaGreat
open Go.Ab
open Go.ChangeShapes Go.WideShapes Go.ChangeAt Go.RowKit
set_option maxRecDepth 100000 in
theorem lU (os:Os) (started:os.Started) (H:Type) (enc:TypeId × Value→H) :
  ReturnsInHanded {} Tryz.checked os 5 .any (Rows.costReadsSpec.pre6 enc Tryz.prog Tryz.f5 [] false) (Rows.costReadsSpec.post enc Tryz.prog Tryz.f5 false true false false):=by
 refine returnsInHanded_of_change (C:=Tryz.checked) Tryz.own started (by kernel_rfl) Tryz.func5
  (ChangeSpec.witness6 (enc:=enc) (C:=Tryz.checked) false ⟨#[],#[.string ⟨#[]⟩,.agg #[.int .i64 0,.int .i64 0,.int .i64 0,.int .i64 0]],[]⟩ 8 (by kernel_rfl) (by kernel_rfl) (by kernel_rfl) (by kernel_rfl)) ?_
 intro W base args ds gs before hval0 hW _ _
 have hval:∀ (j:Nat) t v,Tryz.f5.params[j]?=some t→args[j]?=some v→Value.okWide Tryz.prog W .any base t v:=hval0
 have hW':=hW
 obtain ⟨p,q,hA0,hV,rfl,hfz,hnd⟩:=hW
 have hA:DataW.TrodAll enc Tryz.prog W 0 (fun _=>true) true Tryz.f5.params.toList args.toList ds p:=hA0
 rw [Tryz.params5] at hA hval
 obtain ⟨v0,v1,d0,d1,p0,p1,rfl,rfl,rfl,h0,h1⟩:=trodAll_two hA
 obtain ⟨rfl,rfl⟩:=trodVars_none hV
 clear hA0 hval0
 obtain ⟨n0,rfl⟩:=okWide_string Tryz.underlying9 (hval 0 9 v0 rfl rfl)
 obtain ⟨e0,k0,r0⟩:=yO (m:=30) (show shp Tryz.prog 30 9=some [.str] by kernel_rfl) rfl h0
 obtain ⟨x1,rfl,_⟩:=okWide_struct Tryz.underlying36 (hval 1 36 v1 rfl rfl)
 obtain ⟨e1,k1,r1⟩:=yC (m:=30) (show shp Tryz.prog 30 36=some Hh by kernel_rfl) h1
 have eF:Rows.costReadsSpec.fn H ([d0,d1]++[])={ results:=[.lit (.bool true)],args:=[d0,d1] }:=rfl
 refine (tX (G:=[]) (r8 k0 k1) (by simp) (vs:=#[.string n0,.agg x1]) rfl ?_).mono ?_
 ·intro i d hi
  match i,hi with
  | 0,hi=>obtain rfl:=Option.some.inj hi;exact r0
  | 1,hi=>obtain rfl:=Option.some.inj hi;exact r1
 rintro e W' ⟨v,r,rfl,rfl,hext,_,_,_,_,hv⟩
 obtain rfl:=hv.bool
 have hlt:∀ x∈p0++p1,x.block<W.heap.size:=fun x hx=>by simpa using hW'.lt x (by simpa using hx)
 refine ⟨_,rfl,_,_,_,[],p0++p1,[],hW',?_,?_,?_,hext.frame _,fun h=>by cases h⟩
 ·rw [eF];exact trodAll_mk1 (shut_bool Tryz.underlying4 true)
 ·rw [eF];exact trodAll_mk2 (ue (by kernel_rfl) (of_decide_eq_true (by kernel_rfl)) h0 hext (fun x hx=>hlt x (by simp [hx]))) (ue (by kernel_rfl) (of_decide_eq_true (by kernel_rfl)) h1 hext (fun x hx=>hlt x (by simp [hx])))
 ·rw [eF];rfl
set_option maxRecDepth 100000 in
theorem mR:joinedFacts Tryz.prog 5 Tryz.f5 Rows.costReadsSpec Rows.costReadsRow=true:=by
 unfold joinedFacts
 exact bX (bX (bX (bX (bX (bX (bX (bX (bX (bX (bX (bX (bX (bX (bX (bX (bX (bX (bX (bX (bX (bX (bX (bX (bX (bX (bX (bX (bX (bX (bX rD Er) Fi) rj) rZ) rB) Bt) qX) Ao) o9) pj) pC) pF) pw) pf) pa) o8) pd) ph) pA) pE) py) px) pb) AQ) BF) o4) oZ) o0) o5) pc) oY
theorem mS:Tryz.pinned.checked.prog.funcNamed Rows.costReadsRow.func=some 5:=by kernel_rfl
theorem oF:decide (Tryz.f5.isInstance Tryz.pinned.checked.prog Rows.costReadsRow.origin Rows.costReadsRow.targs)=true:=by kernel_rfl
theorem costReads_holds:Rows.CostReadsSaid :=
 OpenClaim.holds_of_wide 5 Tryz.f5 rfl rfl rfl rfl rfl rfl rfl ⟨rfl,rfl,rfl,rfl,rfl⟩ rfl rfl rfl rfl rfl mS Tryz.func5 mR
  (of_decide_eq_true oF) (by unfold Func.isWrapper;rw [if_neg (of_decide_eq_false (by kernel_rfl))];exact ⟨rfl,rfl⟩)
  (fun os started H enc _=>lU os started H enc)
end Go.Proofs.YtejpnabbmgpmaaaGreat

