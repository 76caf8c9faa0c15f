/-
  The generic layer, part 6: each step is sound: the values. (with the parts that follow it) (with the parts that follow it)
-/
import Derived.Test.YtpmniabdmbmafaaGreatDoorSSA
import Derived.Laws.Strings2
import Derived.Laws.Concat
import Derived.Laws.Small
import Derived.Laws.MakeOwn
import Derived.Laws.NewBlocks
set_option linter.all false
set_option maxHeartbeats 16000000
namespace Go.Ab
section
variable {P:Program}{t:Nat}
theorem oO(h:(P.ti t).k.dA=false):∃i d,P.info? t=some i∧P.underlying t=some d∧(P.ti t).k=tk d∧(P.ti t).sz=i.size∧(P.ti t).by'=i.bytes ∧
  (P.ti t).z=i.zero.bind fun v=>v.cells.toList.mapM zd:=by
 unfold Program.ti at h ⊢;split
 .rename_i i d hi hd;exact⟨i,d,hi,hd,rfl,rfl,rfl,rfl⟩
 .rename_i aJ;split at h
  .rename_i i d hi hd;exact absurd hd (aJ i d hi)
  .simp[TK.dA]at h
theorem kW{e:Nat}(h:(P.ti t).k=.slice e):P.underlying t=some (.slice e):=by
 obtain⟨i,d,_,hd,hk,_⟩:=oO (P:=P) (t:=t) (by rw[h];rfl);rw[h]at hk;rw[hd];cases d<;>simp[tk]at hk;rw[hk]
theorem p5(h:(P.ti t).k=.str):P.underlying t=some .string:=by
 obtain⟨i,d,_,hd,hk,_⟩:=oO (P:=P) (t:=t) (by rw[h];rfl);rw[h]at hk;rw[hd];cases d<;>simp[tk]at hk;rfl
theorem ub{k:IntKind}(h:(P.ti t).k=.int k):P.underlying t=some (.int k):=by
 obtain⟨i,d,_,hd,hk,_⟩:=oO (P:=P) (t:=t) (by rw[h];rfl);rw[h]at hk;rw[hd];cases d<;>simp[tk]at hk;rw[hk]
theorem p6{a b:Nat}(h:(P.ti t).k=.map a b):P.underlying t=some (.map a b):=by
 obtain⟨i,d,_,hd,hk,_⟩:=oO (P:=P) (t:=t) (by rw[h];rfl);rw[h]at hk;rw[hd];cases d<;>simp[tk]at hk;rw[hk.1,hk.2]
theorem zC{fs:List (Nat×Nat)}(h:(P.ti t).k=.struct fs):∃fl:Array Field,P.underlying t=some (.struct fl)∧fs=fl.toList.map fun f=>(f.offset,f.type):=by
 obtain⟨i,d,_,hd,hk,_⟩:=oO (P:=P) (t:=t) (by rw[h];rfl);rw[h]at hk;rw[hd];cases d<;>simp[tk]at hk;exact⟨_,rfl,hk⟩
theorem Cl(h:(P.ti t).k.dA=false)(w:World):(isAgg t).run P w=.ok (P.ti t).k.agg w:=by
 obtain⟨i,d,_,hd,hk,_⟩:=oO h;rw[hk];cases d<;>simp[isAgg,run_underlying hd,tk,TK.agg]
theorem run_sizeOf(h:(P.ti t).k.dA=false)(w:World):(sizeOf t).run P w=.ok (P.ti t).sz w:=by
 obtain⟨i,d,hi,hd,_,hs,_⟩:=oO h;simp[sizeOf,typeInfo,hi,hs]
theorem T6{z:List D}(h:(P.ti t).z=some z):(P.ti t).k.dA=false:=by
 unfold Program.ti at h ⊢;split
 .rename_i i d _ _;cases d<;>rfl
 .split at h<;>simp_all
end
theorem KG{H:Array Obj}{own:Nat->Prop}{v:Value}{d:D}(h:zd v=some d):au H own v d∧d.ct=true∧v.oneCell'=true:=by
 cases v with
 |bool b=>cases h;exact⟨.bool b,rfl,rfl⟩
 |int k n=>cases h;exact⟨.int k n,rfl,rfl⟩
 |string s=>cases h;exact⟨.str s.data.toList,rfl,rfl⟩
 |pointer a=>cases a<;>cases h;exact⟨.aY,rfl,rfl⟩
 |slice a l c=>cases a<;>cases l<;>cases c<;>cases h;exact⟨.ai,rfl,rfl⟩
 |map r=>cases r<;>cases h;exact⟨.jT,rfl,rfl⟩
 |nilFunc=>cases h;exact⟨.lJ,rfl,rfl⟩
 |nilIface=>cases h;exact⟨.lK,rfl,rfl⟩
 |_=>cases h
theorem uc{H:Array Obj}{own:Nat->Prop}:∀{vs:List Value} {ds:List D},vs.mapM zd=some ds->ds.length=vs.length∧(∀d∈ds,d.ct=true)∧(∀v∈vs,v.oneCell'=true) ∧
  ∀(j:Nat) (d:D),ds[j]?=some d->∃v,vs[j]?=some v∧au H own v d
 |[],ds,h=>by simp at h;subst h;simp
 |v::r,ds,h=>by
   simp only[akA,Option.bind_eq_bind,ajj]at h;obtain⟨d,hd,gm,hr,h⟩:=h;cases h;obtain⟨h1,h2,h3⟩:=KG (H:=H) (own:=own) hd;obtain⟨g1,g2,g3,g4⟩:=uc (H:=H) (own:=own) hr;refine⟨by simp[g1],by simpa using⟨h2,g2⟩,by simpa using⟨h3,g3⟩,fun j d' hj=>?_⟩
   cases j with
   |zero=>simp at hj;subst hj;exact⟨v,rfl,h1⟩
   |succ j=>exact g4 j d' (by simpa using hj)
section
variable {B:Base}{β:Name->Option aU}{s:St}{a:Act}{w:World}
theorem T7{H own used hp}{β:Name->Option aU}(v:Value):VR H own used hp β v (cv v):=by
 cases v with
 |bool b=>exact .d _ _ (.bool b)
 |int k n=>exact .d _ _ (.int k n)
 |string s=>exact .d _ _ (.str s.data.toList)
 |pointer a=>cases a<;>first|exact .d _ _ .aY|exact .un _
 |slice a l c=>cases a<;>cases l<;>cases c<;>first|exact .d _ _ .ai|exact .un _
 |map r=>cases r<;>first|exact .d _ _ .jT|exact .un _
 |nilFunc=>exact .d _ _ .lJ
 |nilIface=>exact .d _ _ .lK
 |_=>exact .un _
theorem aj.ev(h:aj B β s a.tmps w)(x:Operand):VR w.heap (s.own B.A β) s.used s.hp β (a.eval x) (ev s x):=by
 cases x with
 |tmp t=>exact h.slots t
 |const v=>exact T7 v
 |global g=>exact .un _
 |func f=>exact .aW f #[] [] rfl (fun i x hi=>by simp at hi)
end
section
variable {H:Array Obj}{own:Nat->Prop}{used:List Nat}{hp:Name->Option Ob}{β:Name->Option aU}{v:Value}
theorem VR.cU{x:D}(h:VR H own used hp β v (.d x)):au H own v x:=by cases h;assumption
theorem VR.int{k n}(h:VR H own used hp β v (.d (.int k n))):v=.int k n:=by cases h.cU;rfl
theorem VR.bool{b}(h:VR H own used hp β v (.d (.bool b))):v=.bool b:=by cases h.cU;rfl
theorem VR.str{l}(h:VR H own used hp β v (.d (.str l))):v=.string ⟨l.toArray⟩:=by cases h.cU;rfl
theorem VR.ai(h:VR H own used hp β v (.d .ai)):v=.slice none 0 0:=by cases h.cU;rfl
end
theorem FM:∀{cs:List AV} {ds:List D},lM cs=some ds->cs=ds.map .d
 |[],ds,h=>by simp[lM]at h;subst h;rfl
 |.d x::r,ds,h=>by
   simp only[lM,ah4]at h;obtain⟨gm,hr,rfl⟩:=h;simp[FM hr]
 |.un::r,ds,h=>by simp[lM]at h
 |.vw _ _ _::r,ds,h=>by simp[lM]at h
 |.bx _ _::r,ds,h=>by simp[lM]at h
 |.el _ _ _::r,ds,h=>by simp[lM]at h
 |.mp _::r,ds,h=>by simp[lM]at h
 |.it _::r,ds,h=>by simp[lM]at h
 |.agg _::r,ds,h=>by simp[lM]at h
 |.aA _::r,ds,h=>by simp[lM]at h
 |.aW _ _::r,ds,h=>by simp[lM]at h
section
variable {H:Array Obj}{own:Nat->Prop}{used:List Nat}{hp:Name->Option Ob}{β:Name->Option aU}
theorem VR.ct{v:Value}{d:D}(h1:v.oneCell'=true)(h:VR H own used hp β v (.d d)):d.ct=true:=by
 have:=h.cU;cases this<;>first|rfl|simp[Value.oneCell']at h1
theorem xF{vs:List Value}{cs:List AV}(hs:vs.length=cs.length)(h1:∀v∈vs,v.oneCell'=true)(h:∀(i:Nat) v x,vs[i]?=some v->cs[i]?=some x->VR H own used hp β v x) :
  VR H own used hp β (.agg vs.toArray) (mT cs):=by
 unfold mT;split
 .rename_i ds hd;have e:=FM hd;subst e;refine .d _ _ (.agg _ ds (by simpa using hs) (fun d dB=>?_) (fun i d hi=>?_))
  .obtain⟨i,hi⟩:=ajq.1 dB;have hlt:i<vs.length:=by rw[hs];simp;exact(ah3.1 hi).1
   exact VR.ct (h1 _ (ah2 hlt)) (h i _ (.d d) (aib hlt) (by simp[hi]))
  .have hlt:i<vs.length:=by rw[hs];simp;exact(ah3.1 hi).1
   have:=(h i _ (.d d) (aib hlt) (by simp[hi])).cU;simpa[ahY,hlt]using this
 .refine .agg _ cs (by simpa using hs) (by simpa using h1) (fun i x hi=>?_);have hlt:i<vs.length:=by rw[hs];exact(ah3.1 hi).1
  have:=h i _ x (aib hlt) hi;simpa[ahY,hlt]using this
theorem KH{v:Value}{d:D}{cs:List AV}(hc:cellsD d=some cs)(h:au H own v d):v.cells.size=cs.length∧(∀u∈v.cells,u.oneCell'=true) ∧
  ∀i x,cs[i]?=some x->VR H own used hp β (v.cells.getD i undef) x:=by
 cases d with
 |agg ds =>
   simp only[cellsD,aiv]at hc;subst hc
   cases h with
   |agg vs ds hs ez h =>
     refine⟨by simpa[Value.cells]using hs,fun u hu=>?_,fun i x hi=>?_⟩
     .obtain⟨i,hi⟩:=Array.mem_iff_getElem?.1 hu;have hlt:i<ds.length:=by rw[<-hs];exact(ajH.1 hi).1
      have:=(h i _ (aib hlt)).vD (ez _ (ah2 hlt))
      have e:vs.getD i undef=u:=by
       simp only[Value.cells]at hi;simp[ahY,hi]
      rwa [e]at this
     .simp only[aii,ah4]at hi;obtain⟨d,hd,rfl⟩:=hi;exact .d _ _ (h i d hd)
 |_ =>
   simp only[cellsD,aiv]at hc;subst hc;have h1:=h.vD rfl;have e:v.cells=#[v]:=by cases v<;>first|rfl|simp[Value.oneCell']at h1
   rw[e];refine⟨rfl,by simpa using h1,fun i x hi=>?_⟩
   cases i with
   |zero=>simp at hi;subst hi;exact .d _ _ (by simpa using h)
   |succ i=>simp at hi
theorem FN{v:Value}{x:AV}{cs:List AV}(hc:iW x=some cs)(h:VR H own used hp β v x) :
  v.cells.size=cs.length∧(∀u∈v.cells,u.oneCell'=true)∧∀i x,cs[i]?=some x->VR H own used hp β (v.cells.getD i undef) x:=by
 have one:∀y:AV,cs=[y]->VR H own used hp β v y->v.oneCell'=true->v.cells.size=cs.length∧(∀u∈v.cells,u.oneCell'=true)∧∀i x,cs[i]?=some x->VR H own used hp β (v.cells.getD i undef) x:=by
  intro y hy hh h1;subst hy;have e:v.cells=#[v]:=by cases v<;>first|rfl|simp[Value.oneCell']at h1
  rw[e];refine⟨rfl,by simpa using h1,fun i x hi=>?_⟩
  cases i with
  |zero=>simp at hi;subst hi;simpa using hh
  |succ i=>simp at hi
 cases x with
 |d y=>exact KH hc h.cU
 |agg ds =>
   simp only[iW,aiv]at hc;subst hc
   cases h with
   |agg vs ds hs h1 h=>exact⟨by simpa[Value.cells]using hs,by simpa[Value.cells]using h1,fun i x hi=>by simpa[Value.cells]using h i x hi⟩
 |vw p o l=>simp only[iW,aiv]at hc;exact one _ hc.symm h (by cases h;assumption)
 |bx p c=>simp only[iW,aiv]at hc;exact one _ hc.symm h (by cases h;assumption)
 |el p i c=>simp only[iW,aiv]at hc;exact one _ hc.symm h (by cases h;assumption)
 |mp p=>simp only[iW,aiv]at hc;exact one _ hc.symm h (by cases h;assumption)
 |it p=>simp only[iW,aiv]at hc;exact one _ hc.symm h (by cases h;assumption)
 |aW f c=>simp only[iW,aiv]at hc;exact one _ hc.symm h (by cases h;rfl)
 |va p o l=>simp only[iW,aiv]at hc;exact one _ hc.symm h (by cases h;assumption)
 |ea p i=>simp only[iW,aiv]at hc;exact one _ hc.symm h (by cases h;assumption)
 |ma p=>simp only[iW,aiv]at hc;exact one _ hc.symm h (by cases h;assumption)
 |un=>cases hc
 |aA _=>cases hc
end
end Go.Ab
namespace Go.Ab
def RV{α:Type}:R α->(α->Prop)->Prop
 |.ok x,φ=>φ x
 |.need p r,φ=>p->RV r φ
 |.no,_=>True
theorem RV.mono{α:Type}{φ ψ:α->Prop}(h:∀x,φ x->ψ x):∀{r:R α},RV r φ->RV r ψ
 |.ok _,hr=>h _ hr
 |.need _ _,hr=>fun hp=>RV.mono h (hr hp)
 |.no,_=>trivial
theorem RV.bind{α β:Type}{φ:α->Prop}{ψ:β->Prop}{f:α->R β}(hf:∀x,φ x->RV (f x) ψ):∀{r:R α},RV r φ->RV (r.bind f) ψ
 |.ok _,hr=>hf _ hr
 |.need _ _,hr=>fun hp=>RV.bind hf (hr hp)
 |.no,_=>trivial
theorem RV.jU{α:Type}{φ:α->Prop}{o:Option α}(h:∀x,o=some x->φ x):RV (R.jU o) φ:=by
 cases o with
 |none=>trivial
 |some x=>exact h x rfl
theorem RV.run{φ:St->Prop}{f:St->Prop}{z:Prop}:∀{r:R St},RV r φ->r.run f z->z∨∃s,φ s∧f s
 |.ok _,hr,h=>.inr ⟨_,hr,h⟩
 |.need _ _,hr,h=>RV.run (hr h.1) h.2
 |.no,_,h=>.inl h
section
variable {P:Program}{t:Nat}
theorem lQ(b o n:Nat):(⟨b,o,none⟩:Addr).add n=⟨b,o+n,none⟩:=by unfold Addr.add;split<;>simp_all
theorem KI(hg:(P.ti t).k.dA=false)(ha:(P.ti t).k.agg=true){w:World}{b o:Nat}{c:Array Value}{e:TypeId}{fz:Nat×Nat}
  (hb:w.heap[b]?=some (.cells c e fz)) (hz:o+(P.ti t).sz<=c.size) :
  (loadVar t ⟨b,o,none⟩).run P w=.ok (.agg ((c.toList.drop o).take (P.ti t).sz).toArray) w:=by
 have hl:((c.toList.drop o).take (P.ti t).sz).length=(P.ti t).sz:=by simp;omega
 have:=run_loadCells_list (P:=P) w ⟨b,o,none⟩ ((c.toList.drop o).take (P.ti t).sz) (fun j v hv=>by
  rw[lQ,cell_of_row w b (o+j) c e fz hb];rw[ai4]at hv;split at hv
  .simpa using hv
  .cases hv)
 rw[hl]at this;simp[loadVar,Cl hg,ha,run_sizeOf hg,this]
theorem FP(hg:(P.ti t).k.dA=false)(ha:(P.ti t).k.agg=false){w:World}{b o:Nat}{c:Array Value}{e:TypeId}{fz:Nat×Nat}
  (hb:w.heap[b]?=some (.cells c e fz)) {v:Value} (hv:c[o]?=some v):(loadVar t ⟨b,o,none⟩).run P w=.ok v w:=by
 have hc:w.cell? ⟨b,o,none⟩=some v:=by rw[cell_of_row w b o c e fz hb,hv]
 simp[loadVar,Cl hg,ha,hc]
theorem qX{α:Type}{c:Array α}{i:Nat}{z:α}(h:i<c.size):c[i]?=some (c.getD i z):=by simp[ahY,h]
theorem KJ{H:Array Obj}{own:Nat->Prop}{w:World}(hw:w.heap=H){b o c0:Nat}{c:Array Value}{e:TypeId}{fz:Nat×Nat}(hb:H[b]?=some (.cells c e fz)){d y:D}
  (hz:o+d.cells.length<=c.size) (ez:∀x∈d.cells,x.ct=true) (h:∀j x,d.cells[j]?=some x->au H own (c.getD (o+j) undef) x) (hp:pY (P.ti t) d c0=some y) :
  ∃v,(loadVar t ⟨b,o+c0,none⟩).run P w=.ok v w∧au H own v y:=by
 subst hw;unfold pY at hp;by_cases hg:(P.ti t).k.dA=true
 .simp[hg]at hp
 .have hg:(P.ti t).k.dA=false:=by simpa using hg
  simp only[hg,aip,if_false]at hp
  have one:∀y',d.cells[c0]?=some y'->(P.ti t).k.agg=false->∃v,(loadVar t ⟨b,o+c0,none⟩).run P w=.ok v w∧au w.heap own v y':=by
   intro y' hy ha;have hlt:c0<d.cells.length:=(ah3.1 hy).1;exact⟨_,FP hg ha hb (qX (z:=undef) (show o+c0<c.size by omega)),h c0 y' hy⟩
  cases d with
  |agg cs =>
    simp only at hp;by_cases ha:(P.ti t).k.agg=true
    .simp only[ha,if_true]at hp;split at hp
     .rename_i hle;cases hp;simp only[D.cells]at hz ez h;refine⟨_,KI hg ha hb (by omega),.agg _ _ (by simp;omega) (fun x hx=>ez x (aiX (aiJ hx))) (fun i x hi=>?_)⟩;rw[ai4]at hi;split at hi
      .rename_i hlt;rw[aiU]at hi;have:=h (c0+i) x hi;have KK:c0+i<cs.length:=(ah3.1 hi).1
       have e1:((c.toList.drop (o+c0)).take (P.ti t).sz).toArray.getD i undef=c.getD (o+(c0+i)) undef:=by
        simp[ahY,hlt,ajn]
       rw[e1];exact this
      .cases hi
     .cases hp
    .have ha:(P.ti t).k.agg=false:=by simpa using ha
     simp only[ha,aip,if_false]at hp;exact one y hp ha
  |_ =>
    simp only at hp;by_cases ha:(P.ti t).k.agg=true
    .simp[ha]at hp
    .have ha:(P.ti t).k.agg=false:=by simpa using ha
     simp only[ha,aip,if_false]at hp;split at hp
     .rename_i h0;cases hp;subst h0;exact one _ rfl ha
     .cases hp
end
section
variable {P:Program}{B:Base}{β:Name->Option aU}{s:St}{tm:Array Value}{w:World}{t:Nat}
theorem T8(_h:aj B β s tm w){b c0:Nat}{c:Array Value}{e:TypeId}{fz:Nat×Nat}(hb:w.heap[b]?=some (.cells c e fz)){cs:List AV}(hl:c.size=cs.length)(h1:∀v∈c,v.oneCell'=true)
  (hc:∀(j:Nat) x,cs[j]?=some x->VR w.heap (s.own B.A β) s.used s.hp β (c.getD j undef) x) :
  RV (vE (P.ti t) cs c0) fun y=>∃v,(loadVar t ⟨b,c0,none⟩).run P w=.ok v w∧VR w.heap (s.own B.A β) s.used s.hp β v y:=by
 unfold vE;by_cases hg:(P.ti t).k.dA=true
 .simp[hg,RV]
 .have hg:(P.ti t).k.dA=false:=by simpa using hg
  simp only[hg,aip,if_false];by_cases ha:(P.ti t).k.agg=true
  .simp only[ha,if_true];split
   .rename_i hle;refine⟨_,KI hg ha hb (by omega),xF (by simp;omega) (fun v hv=>h1 v ?_) (fun i v x hv hx=>?_)⟩
    .have:=aiX (aiJ hv);simpa using this
    .rw[ai4]at hv hx;split at hv
     .rename_i hlt;rw[if_pos hlt]at hx;rw[aiU]at hv hx;have:=hc _ x hx
      have e1:c.getD (c0+i) undef=v:=by
       simp only[aiI]at hv;simp[ahY,hv]
      rwa [e1]at this
     .cases hv
   .trivial
  .have ha:(P.ti t).k.agg=false:=by simpa using ha
   simp only[ha,aip,if_false];refine RV.jU fun x hx=>?_;have hlt:c0<cs.length:=(ah3.1 hx).1;exact⟨_,FP hg ha hb (qX (z:=undef) (by omega)),hc c0 x hx⟩
theorem gN{w:W}{x:D}(h:okW w x):x.cells.length=wd w:=by
 cases w with
 |none=>cases x<;>first|rfl|simp[okW,D.ct]at h
 |some n=>cases x<;>first|exact h.1|exact h.elim
theorem Cm{w:W}{x:D}(h:okW w x):∀y∈x.cells,y.ct=true:=by
 cases w with
 |none=>cases x<;>first|simp[okW,D.ct]at h;done|(intro y hy;simp[D.cells]at hy;subst hy;rfl)
 |some n=>cases x<;>first|exact h.2|exact h.elim
theorem KL(h:aj B β s tm w){xv:Value}{x:AV}(hx:VR w.heap (s.own B.A β) s.used s.hp β xv x) :
  RV (qV (P.ti t) s.hp x) fun y=>∃v,(Instr.loadAt t xv).run P w=.ok v w∧VR w.heap (s.own B.A β) s.used s.hp β v y:=by
 unfold qV;split
 .rename_i p c;split
  .rename_i ty cs hp
   cases hx with
   |bx _ _ _ _ _ hx =>
     obtain⟨k,hk,nP,rfl⟩:=hx ty cs hp;obtain⟨k',c',e,az,_,hc,hz,hl,h1,hcs⟩:=(h.aO p _ hp).2;rw[hk]at az;cases az;exact(T8 (P:=P) (t:=t) h hc hl h1 hcs (c0:=c)).mono fun y ⟨v,hr,hv⟩=>⟨v,by simpa[Instr.loadAt,Instr.sureAddr]using hr,hv⟩
  .trivial
 .rename_i p j c;split
  .rename_i wf xs hp
   cases hx with
   |el _ _ _ _ _ _ hx =>
     obtain⟨hj,k,hk,rfl⟩:=hx none wf xs hp;refine RV.jU fun y hy=>?_;simp only[ah4]at hy;obtain⟨d,hd,rfl⟩:=hy;rcases(h.aO p _ hp).2 with⟨h0,p7⟩|⟨k',c',e,az,hc,hz,hl,hw,hcs⟩
     .rw[p7]at hj;simp at hj
     .rw[hk]at az;cases az;have eS:xs[j]?=some (xs.getD j .aY):=by simp[ahX,hj]
      have sq:xs.getD j .aY∈xs:=aiz eS;have aF:=hw _ sq
      have hle:j*wd wf+wd wf<=xs.length*wd wf:=by
       have:=aiu (wd wf) (akI hj);rwa [ai2]at this
      obtain⟨v,hr,hv⟩:=KJ (P:=P) (t:=t) (own:=s.own B.A β) (w:=w) rfl hc (o:=k.o+j*wd wf) (c0:=c) (d:=xs.getD j .aY) (y:=d)
       (by rw[gN aF];omega) (Cm aF) (fun i x hi=>hcs j _ i x eS hi) hd
      exact⟨v,by simpa[Instr.loadAt,Instr.sureAddr]using hr,.d _ _ hv⟩
  .trivial
 .rename_i d;refine RV.jU fun y hy=>?_;simp only[ah4]at hy;obtain⟨d',hd,rfl⟩:=hy
  cases hx.cU with
  |ptr b o c e fz d hb hn hz ez hc =>
    obtain⟨v,hr,hv⟩:=KJ (P:=P) (t:=t) (own:=s.own B.A β) (w:=w) rfl hb (o:=o) (c0:=0) hz ez hc hd;exact⟨v,by simpa[Instr.loadAt,Instr.sureAddr]using hr,.d _ _ hv⟩
 .trivial
theorem KM{t:Nat}(h:¬(P.ti t).sz=0):(P.ti t).k.dA=false:=by
 unfold Program.ti at h ⊢;split
 .rename_i i d _ _;cases d<;>rfl
 .rename_i aJ;split at h
  .rename_i i d hi hd;exact absurd hd (aJ i d hi)
  .simp at h
theorem FQ{fs:List (Nat×Nat)}(hk:(P.ti t).k=.struct fs){f o tt:Nat}(hf:fs[f]?=some (o,tt))(hs:¬(P.ti tt).sz=0)(b c:Nat)(w:World) :
  (Instr.fieldAt t (.pointer (some ⟨b,c,none⟩)) f).run P w=.ok (.pointer (some ⟨b,c+o,none⟩)) w:=by
 obtain⟨fl,hu,rfl⟩:=zC hk;simp only[aii,ah4,ajM]at hf;obtain⟨fd,zD,rfl,rfl⟩:=hf;have FR:fl[f]?=some fd:=by simpa using zD
 simp[Instr.fieldAt,run_underlying hu,FR,Instr.sureAddr,fieldPlace,run_sizeOf (KM hs),hs,lQ]
theorem T9{xv:Value}{x:AV}{f:Nat}(hx:VR w.heap (s.own B.A β) s.used s.hp β xv x) :
  RV (tU (P.ti t) P.ti s.hp x f) fun y=>∃v,(Instr.fieldAt t xv f).run P w=.ok v w∧VR w.heap (s.own B.A β) s.used s.hp β v y:=by
 unfold tU;split<;>try trivial
 rename_i fs hk;split<;>try trivial
 rename_i o tt hf;split<;>try trivial
 rename_i hs;split
 .rename_i p c;split<;>try trivial
  rename_i ty cs hp
  cases hx with
  |bx _ _ _ hn h1 hx =>
    obtain⟨k,az,nP,rfl⟩:=hx _ _ hp;exact⟨_,FQ hk hf hs _ _ w,.bx _ _ _ hn rfl fun ty' cs' ae=>⟨k,az,nP,rfl⟩⟩
 .rename_i p j c;split<;>try trivial
  rename_i wf xs hp
  cases hx with
  |el _ _ _ _ hn h1 hx =>
    obtain⟨hj,k,az,rfl⟩:=hx _ _ _ hp;refine⟨_,FQ hk hf hs _ _ w,.el _ _ _ _ hn rfl fun ty' w' xs' ae=>?_⟩;rw[hp]at ae;cases ae;exact⟨hj,k,az,by rw[ajn]⟩
 .rename_i cs;refine RV.jU fun y hy=>?_;simp only[ah4]at hy;obtain⟨d,hd,rfl⟩:=hy
  cases hx.cU with
  |ptr b o' c e fz d' hb hn hz ez hc =>
    refine⟨_,FQ hk hf hs _ _ w,.d _ _ ?_⟩;simp only[D.cells]at hz ez hc;unfold pY at hd;split at hd
    .cases hd
    .simp only at hd;split at hd
     .split at hd
      .rename_i hle;cases hd;refine .ptr b (o'+o) c e fz _ hb hn (by simp[D.cells];omega) (fun x aV=>ez x (aiX (aiJ aV))) (fun i x hi=>?_);simp only[D.cells]at hi;rw[ai4]at hi;split at hi
       .rw[aiU]at hi;have:=hc _ x hi
        rwa [<-ajn]at this
       .cases hi
      .cases hd
     .have hlt:o<cs.length:=(ah3.1 hd).1;have sr:=ez d (aiz hd);have e1:d.cells=[d]:=by cases d<;>first|rfl|simp[D.ct]at sr
      refine .ptr b (o'+o) c e fz d hb hn (by rw[e1];simp;omega) (by rw[e1];simpa using sr) (fun i x hi=>?_);rw[e1]at hi
      cases i with
      |zero=>simp at hi;subst hi;exact hc _ _ hd
      |succ i=>simp at hi
 .trivial
theorem FU{l e:Nat}(h:(P.ti t).k=.arr l e):P.underlying t=some (.array l e):=by
 obtain⟨i,d,_,hd,hk,_⟩:=oO (P:=P) (t:=t) (by rw[h];rfl);rw[h]at hk;rw[hd];cases d<;>simp[tk]at hk;rw[hk.1,hk.2]
theorem Ua{l e:Nat}(hk:(P.ti t).k=.arr l e)(hg:(P.ti e).k.dA=false)(b o:Nat)(kd:IntKind)(n:Int)(h0:0<=n)(h1:n<l)(w:World) :
  (Instr.indexAt t (.pointer (some ⟨b,o,none⟩)) (.int kd n)).run P w=.ok (.pointer (some ⟨b,o+n.toNat*(P.ti e).sz,none⟩)) w:=by
 have hu:=FU hk;simp[Instr.indexAt,Instr.sureAddr,asIntOf,run_underlying hu,h0,h1,run_sizeOf hg,lQ]
theorem FV{e:Nat}(hk:(P.ti t).k=.slice e)(hg:(P.ti e).k.dA=false)(b o:Nat)(len cap:Nat)(kd:IntKind)(n:Int)(h0:0<=n)(h1:n<len)(w:World) :
  (Instr.indexAt t (.slice (some ⟨b,o,none⟩) len cap) (.int kd n)).run P w=.ok (.pointer (some ⟨b,o+n.toNat*(P.ti e).sz,none⟩)) w:=by
 have hu:=kW hk;simp[Instr.indexAt,asIntOf,run_underlying hu,h0,h1,run_sizeOf hg,lQ]
theorem mq{i:TI}{w:W}(h:i.fM w=true):i.k.dA=false∧wd w=i.sz∧w=i.w:=by
 unfold TI.fM at h;simp only[aia,aiT]at h
 cases w with
 |none=>simp at h;exact⟨h.1,by simp[wd,h.2.2],by simp[TI.w,h.2.1]⟩
 |some n=>simp at h;exact⟨h.1,by simp[wd,h.2.2],by simp[TI.w,h.2.1,h.2.2]⟩
theorem Ub{xv jv:Value}{x j:AV}(hx:VR w.heap (s.own B.A β) s.used s.hp β xv x)(hj:VR w.heap (s.own B.A β) s.used s.hp β jv j) :
  RV (tV (P.ti t) P.ti s.hp x j) fun y=>∃v,(Instr.indexAt t xv jv).run P w=.ok v w∧VR w.heap (s.own B.A β) s.used s.hp β v y:=by
 unfold tV;split
 .rename_i e p o l kd n hk;split<;>try trivial
  rename_i wf xs hp;split<;>try trivial
  rename_i hw;obtain⟨hg,dk,_⟩:=mq hw;rintro⟨h0,h1⟩;obtain rfl:=hj.int
  cases hx with
  |vw _ _ _ _ hn cw hx =>
    obtain⟨hle,a,cap,rfl,aV⟩:=hx _ _ _ hp;obtain⟨ud,_⟩|⟨k,az,rfl,fL,hz⟩:=aV
    .omega
    .refine⟨_,FV hk hg _ _ _ _ _ n h0 h1 w,.el _ _ _ _ hn rfl fun ty' w' xs' ae=>?_⟩;rw[hp]at ae;cases ae;refine⟨by omega,k,az,?_⟩;rw[dk,ai8,ajn];rfl
 .rename_i e wf xs kd n hk;split<;>try trivial
  rename_i hw;obtain⟨hg,dk,_⟩:=mq hw;rintro⟨h0,h1⟩;obtain rfl:=hj.int
  cases hx.cU with
  |lL a cap _=>simp at h1;omega
  |sl b o cap c e' fz _ _ hb hn fL hz aF hc =>
    have hlt:n.toNat<xs.length:=by omega
    have eS:xs[n.toNat]?=some (xs.getD n.toNat .aY):=by simp[ahX,hlt]
    have sq:xs.getD n.toNat .aY∈xs:=aiz eS;have ho:=aF _ sq
    have hle:n.toNat*wd wf+wd wf<=xs.length*wd wf:=by
     have:=aiu (wd wf) (akI hlt);rwa [ai2]at this
    refine⟨_,FV hk hg _ _ _ _ _ n h0 h1 w,.d _ _ (.ptr b _ c e' fz _ hb hn ?_ (Cm ho) fun i x hi=>?_)⟩
    .rw[gN ho,<-dk];omega
    .rw[<-dk];exact hc _ _ i x eS hi
 .rename_i l e p i c kd n hk;split<;>try trivial
  rename_i wf xs hp;split<;>try trivial
  rename_i hw;obtain⟨hw,rfl,hle,_⟩:=hw;obtain⟨hg,dk,_⟩:=mq hw;rintro⟨h0,h1⟩;obtain rfl:=hj.int
  cases hx with
  |el _ _ _ _ hn cw hx =>
    obtain⟨hlt,k,az,rfl⟩:=hx _ _ _ hp;refine⟨_,Ua hk hg _ _ _ n h0 h1 w,.el _ _ _ _ hn rfl fun ty' w' xs' ae=>?_⟩;rw[hp]at ae;cases ae;refine⟨by omega,k,az,?_⟩;rw[dk,ai8,Nat.add_zero,Nat.add_zero,ajn]
 .trivial
theorem Uc(l:List UInt8)(n:Nat)(h:n<l.length):(⟨l.toArray⟩:ByteArray)[n]?=some (l.getD n 0):=by
 have h2:n<(⟨l.toArray⟩:ByteArray).size:=by simpa[ByteArray.size]using h
 rw[ByteArray.getElem?_lt' _ _ h2];simp[ByteArray.getElem_eq_getElem_data,ahX,h]
theorem Ud{xv jv:Value}{x j:AV}(hx:VR w.heap (s.own B.A β) s.used s.hp β xv x)(hj:VR w.heap (s.own B.A β) s.used s.hp β jv j) :
  RV (zl (P.ti t) x j) fun y=>∃v,(Instr.index t xv jv).run P w=.ok v w∧VR w.heap (s.own B.A β) s.used s.hp β v y:=by
 unfold zl;split
 .rename_i l kd n hk;rintro⟨h0,h1⟩;obtain rfl:=hj.int;obtain rfl:=hx.str;have eS:=Uc l n.toNat (by omega);exact⟨_,by simp[Instr.index,asIntOf,run_underlying (p5 hk),h0,eS],.d _ _ (.int _ _)⟩
 .trivial
theorem au.KN{H:Array Obj}{own:Nat->Prop}{v:Value}{wf:W}{xs:List D}(h:au H own v (.sl wf xs)):∃a cap,v=.slice a xs.length cap∧xs.length<=cap ∧
  (xs≠[]->∃b o c e fz,a=some ⟨b,o,none⟩∧H[b]?=some (.cells c e fz)∧¬own b∧o+xs.length*wd wf<=c.size∧(∀x∈xs,okW wf x) ∧
   ∀i x j d,xs[i]?=some x->x.cells[j]?=some d->au H own (c.getD (o+i*wd wf+j) undef) d):=by
 cases h with
 |lL a cap _=>exact⟨a,cap,rfl,aie _,fun h=>absurd rfl h⟩
 |sl b o cap c e fz _ _ hb hn fL hz aF hc=>exact⟨_,cap,rfl,fL,fun _=>⟨b,o,c,e,fz,rfl,hb,hn,hz,aF,hc⟩⟩
theorem uf{n m:Int}{xo:Option AV}{vo:Option Value}(hx:∀x,xo=some x->∃v,vo=some v∧VR w.heap (s.own B.A β) s.used s.hp β v x)(hn:xo=none->vo=none)(h:p3 n xo=some m) :
  (vo=none∧m=n)∨∃k,vo=some (.int k m):=by
 unfold p3 at h;split at h
 .cases h;exact .inl ⟨hn rfl,rfl⟩
 .cases h;obtain⟨v,rfl,hv⟩:=hx _ rfl;obtain rfl:=hv.int;exact .inr ⟨_,rfl⟩
 .cases h
theorem KO(k:IntKind)(i:Int)(y:Nat)(code:BoundsCode)(h0:0<=i)(h1:i<=y)(w:World):(Instr.sliceBound (.int k i) y code).run P w=.ok i.toNat w:=by
 simp[Instr.sliceBound,asIntOf,h0,h1]
theorem xG(isSlice:Bool)(len cap:Nat)(lo hi:Option Value)(a b:Int)(xH:(lo=none∧a=0)∨∃k,lo=some (.int k a))(xI:(hi=none∧b=len)∨∃k,hi=some (.int k b))
  (h0:0<=a) (h1:a<=b) (h2:b<=cap) (w:World):(Instr.sliceBounds isSlice len cap lo hi none).run P w=.ok (a.toNat,b.toNat,cap) w:=by
 have hb:∀k code,(Instr.sliceBound (.int k b) cap code).run P w=.ok b.toNat w:=fun k code=>KO k b cap code (by omega) h2 w;have ha:∀k code,(Instr.sliceBound (.int k a) b.toNat code).run P w=.ok a.toNat w:=fun k code=>KO k a _ code h0 (by omega) w;rcases xH with⟨rfl,rfl⟩|⟨k1,rfl⟩<;>rcases xI with⟨rfl,rfl⟩|⟨k2,rfl⟩<;>simp only[Instr.sliceBounds]
 .simp
 .simp[hb]
 .have:=ha k1;simp at this;simp[this]
 .simp[hb,ha]
theorem Ue(h:aj B β s tm w){xv:Value}{x:AV}{lo hi:Option AV}{vG vH:Option Value}(hx:VR w.heap (s.own B.A β) s.used s.hp β xv x)
  (xH:∀x,lo=some x->∃v,vG=some v∧VR w.heap (s.own B.A β) s.used s.hp β v x) (zE:lo=none->vG=none)
  (xI:∀x,hi=some x->∃v,vH=some v∧VR w.heap (s.own B.A β) s.used s.hp β v x) (zF:hi=none->vH=none) :
  RV (tW (P.ti t) P.ti s.hp x lo hi) fun y=>∃v,(Instr.sliceAt t xv vG vH none).run P w=.ok v w∧VR w.heap (s.own B.A β) s.used s.hp β v y:=by
 unfold tW;split
 .rename_i l hk;split<;>try trivial
  rename_i a b ha hb;rintro⟨h0,h1,h2⟩;obtain rfl:=hx.str;have hu:=p5 hk;have hr:=xG (P:=P) false l.length l.length vG vH a b (uf xH zE ha) (uf xI zF hb) h0 h1 h2 w;refine⟨.string ⟨((l.drop a.toNat).take (b.toNat-a.toNat)).toArray⟩,?_,.d _ _ (.str _)⟩;have bh:(⟨l.toArray⟩:ByteArray).size=l.length:=by simp[ByteArray.size]
  simp only[Instr.sliceAt,Instr.slice,Sem.run_bind,run_underlying hu,Result.andThen_ok,Option.isSome_none,aip,if_false,bh,hr,Sem.run_pure,ByteArray.extract_mk]
 .rename_i e wf xs hk;split<;>try trivial
  rename_i hw;obtain⟨hg,dk,_⟩:=mq hw;split<;>try trivial
  rename_i a b ha hb;rintro⟨h0,h1,h2⟩;have hu:=kW hk;obtain⟨a0,cap,rfl,fL,hd⟩:=hx.cU.KN;have hr:=xG (P:=P) true xs.length cap vG vH a b (uf xH zE ha) (uf xI zF hb) h0 h1 (by omega) w;refine⟨.slice (if cap=a.toNat then a0 else a0.map (·.add (a.toNat*(P.ti e).sz))) (b.toNat-a.toNat) (cap-a.toNat),?_,.d _ _ ?_⟩
  .simp[Instr.sliceAt,run_underlying hu,Instr.slice,hr,run_sizeOf hg]
  .have hlen:((xs.drop a.toNat).take (b.toNat-a.toNat)).length=b.toNat-a.toNat:=by simp;omega
   by_cases KP:b.toNat-a.toNat=0
   .have:(xs.drop a.toNat).take (b.toNat-a.toNat)=[]:=by rw[KP];simp
    rw[this,KP];exact .lL _ _ _
   .have aJ:cap≠a.toNat:=by omega
    rw[if_neg aJ];obtain⟨b',o,c,e',fz,rfl,fg,hn,hz,aF,hc⟩:=hd (by rintro rfl;simp at h2;omega)
    have hle:a.toNat*wd wf+(b.toNat-a.toNat)*wd wf<=xs.length*wd wf:=by
     rw[<-ai8];exact aiu _ (by omega)
    have e1:(some (⟨b',o,none⟩:Addr)).map (·.add (a.toNat*(P.ti e).sz))=some ⟨b',o+a.toNat*wd wf,none⟩:=by simp[lQ,dk]
    rw[e1]
    have:=au.sl (H:=w.heap) (own:=s.own B.A β) b' (o+a.toNat*wd wf) (cap-a.toNat) c e' fz wf ((xs.drop a.toNat).take (b.toNat-a.toNat)) fg hn (by rw[hlen];omega)
     (by rw[hlen];omega) (fun x aV=>aF x (aiX (aiJ aV))) (fun i x j d hi hj=>by
      rw[ai4]at hi;split at hi
      .rw[aiU]at hi;have:=hc _ x j d hi hj
       rwa [show o+a.toNat*wd wf+i*wd wf+j=o+(a.toNat+i)*wd wf+j by rw[ai8];omega]
      .cases hi)
    rwa [hlen]at this
 .rename_i e p off n hk;split<;>try trivial
  rename_i wf xs hp;split<;>try trivial
  rename_i hw;obtain⟨hg,dk,_⟩:=mq hw;split<;>try trivial
  rename_i a b ha hb;rintro⟨h0,h1,h2⟩;have hu:=kW hk
  cases hx with
  |vw _ _ _ _ hn cw hx =>
    obtain⟨hle,a0,cap,rfl,aV⟩:=hx _ _ _ hp
    have fL:n<=cap:=by
     obtain⟨rfl,rfl⟩|⟨k,_,_,h,_⟩:=aV
     .exact ain _
     .exact h
    have hr:=xG (P:=P) true n cap vG vH a b (uf xH zE ha) (uf xI zF hb) h0 h1 (by omega) w;refine⟨.slice (if cap=a.toNat then a0 else a0.map (·.add (a.toNat*(P.ti e).sz))) (b.toNat-a.toNat) (cap-a.toNat),?_,.vw _ _ _ _ hn rfl fun ty' w' xs' ae=>?_⟩
    .simp[Instr.sliceAt,run_underlying hu,Instr.slice,hr,run_sizeOf hg]
    .rw[hp]at ae;cases ae;refine⟨by omega,_,_,rfl,?_⟩;by_cases mV:cap=a.toNat
     .exact .inl ⟨by omega,by omega⟩
     .rw[if_neg mV];obtain⟨rfl,rfl⟩|⟨k,az,rfl,h3,h4⟩:=aV
      .exact absurd (by omega) mV
      .refine .inr ⟨k,az,?_,by omega,?_⟩
       .simp[lQ,dk,ai8];omega
       .rw[show off+a.toNat+(cap-a.toNat)=off+cap by omega];exact h4
 .rename_i e hk;split<;>try trivial
  rename_i hg;have hg:(P.ti e).k.dA=false:=by simpa using hg
  split<;>try trivial
  rename_i a b ha hb;rintro⟨rfl,rfl⟩;obtain rfl:=hx.ai;have hr:=xG (P:=P) true 0 0 vG vH 0 0 (uf xH zE ha) (uf xI zF hb) (by omega) (by omega) (by omega) w;exact⟨.slice none 0 0,by simp[Instr.sliceAt,run_underlying (kW hk),Instr.slice,hr,run_sizeOf hg],.d _ _ .ai⟩
 .rename_i l e p i c hk;split<;>try trivial
  rename_i wf xs hp;split<;>try trivial
  rename_i hw;obtain⟨hw,rfl,hle⟩:=hw;obtain⟨hg,dk,_⟩:=mq hw;obtain rfl:=zE rfl;obtain rfl:=zF rfl
  cases hx with
  |el _ _ _ _ hn cw hx =>
    obtain⟨hlt,k,az,rfl⟩:=hx _ _ _ hp;have hu:=FU hk;have hr:=xG (P:=P) false l l none none 0 l (.inl ⟨rfl,rfl⟩) (.inl ⟨rfl,rfl⟩) (by omega) (by omega) (by omega) w;refine⟨.slice (some (if l=0 then(⟨k.b,k.o+i*wd wf+0,none⟩:Addr)else Addr.add ⟨k.b,k.o+i*wd wf+0,none⟩ (0*(P.ti e).sz))) (l-0) (l-0),?_,.vw _ _ _ _ hn rfl fun ty' w' xs' ae=>?_⟩
    .simp[Instr.sliceAt,Instr.sureAddr,run_underlying hu,hr,run_sizeOf hg]
    .rw[hp]at ae;cases ae;refine⟨hle,_,l,rfl,.inr ⟨k,az,?_,ain _,?_⟩⟩
     .split<;>simp[lQ]
     .rcases(h.aO p _ hp).2 with⟨h1,_⟩|⟨k',c',e',h1,_,_,h4,_⟩
      .rw[az]at h1;cases h1
      .rw[az]at h1;cases h1;have:=aiu (wd wf) hle;omega
 .trivial
end
end Go.Ab
namespace Go.Ab
section
variable {P:Program}{B:Base}{β:Name->Option aU}{s:St}{tm:Array Value}{w:World}{t:Nat}
theorem Uf(op:BinOp)(t:TypeId)(x y:Operand)(a b:Value)(h:(∃k n,a=.int k n)∨(∃l,a=.string l)∨(∃l,a=.bool l)):eqGuard op t x y a b=pure ():=by
 obtain⟨k,n,rfl⟩|⟨l,rfl⟩|⟨l,rfl⟩:=h
 .exact eqGuard_at_int ..
 .exact eqGuard_at_string ..
 .exact eqGuard_at_bool ..
theorem FW(h:(P.ti t).k.isBool=true):P.underlying t=some .bool:=by
 unfold Program.ti at h;split at h
 .rename_i d _ hd;cases d<;>simp[tk,TK.isBool]at h;exact hd
 .simp[TK.isBool]at h
theorem Ug(i j:IntKind)(a b:Int)(h:0<=b):(binOp .shl t (.int i a) (.int j b)).run P w=.ok (.int i (i.wrap (a*2 ^ min b.toNat i.bits))) w:=by
 show(Op.shift .shl i a j b).run P w=_;unfold Op.shift;rw[if_neg (by omega)];rfl
theorem Uh(i j:IntKind)(a b:Int)(h:0<=b):(binOp .shr t (.int i a) (.int j b)).run P w=.ok (.int i (a.fdiv (2 ^ min b.toNat i.bits))) w:=by
 show(Op.shift .shr i a j b).run P w=_;unfold Op.shift;rw[if_neg (by omega)];rfl
theorem Ui{op:BinOp}{x y:D}{xv yv:Value}(H:Array Obj)(own:Nat->Prop)(hx:au H own xv x)(hy:au H own yv y)(t:TypeId)(xo yo:Operand) :
  RV (Ch (P.ti t).k op x y) fun d=>∃v,(do eqGuard op t xo yo xv yv;binOp op t xv yv:Sem Value).run P w=.ok v w∧au H own v d:=by
 have go:∀(d:D) (v:Value),((∃k n,xv=.int k n)∨(∃l,xv=.string l)∨(∃l,xv=.bool l))->(binOp op t xv yv).run P w=.ok v w->au H own v d ->
   ∃v,(do eqGuard op t xo yo xv yv;binOp op t xv yv:Sem Value).run P w=.ok v w∧au H own v d:=fun d v hg hr hv=>by
  refine⟨v,?_,hv⟩;rw[Uf op t xo yo xv yv hg];simpa using hr
 unfold Ch;split<;>try trivial
 all_goals first
  |(split<;>try trivial
    rename_i hk;subst hk;cases hx;cases hy
    refine go _ _ (.inl ⟨_,_,rfl⟩) (by simp[binOp,Op.intArith,Op.intCmp];rfl) (by constructor))
  |(split<;>try trivial
    rename_i hk;subst hk;cases hx;cases hy
    refine go _ _ (.inl ⟨_,_,rfl⟩) (by simp[binOp,Op.intBits,qW];rfl) (by constructor))
  |(split<;>try trivial
    rename_i hk;have hu:=FW hk;cases hx;cases hy
    refine go _ _ (.inr (.inr ⟨_,rfl⟩)) (by simp[binOp,run_equal_bool _ _ _ _ hu];rfl) (by constructor))
  |(split<;>try trivial
    rename_i hk;subst hk;intro h0;cases hx;cases hy
    refine go _ _ (.inl ⟨_,_,rfl⟩) (by simp[binOp,Op.intDiv,h0];rfl) (by constructor))
  |(cases hx;cases hy
    refine go _ _ (.inr (.inl ⟨_,rfl⟩)) (by simp only[binOp,Op.stringOp,ByteArray.toList_mk,Sem.run_pure];rfl) (by constructor))
  |skip
 .intro h0;cases hx;cases hy;exact go _ _ (.inl ⟨_,_,rfl⟩) (Ug _ _ _ _ h0) (by constructor)
 .intro h0;cases hx;cases hy;exact go _ _ (.inl ⟨_,_,rfl⟩) (Uh _ _ _ _ h0) (by constructor)
 .intro h0;cases hx;cases hy;rename_i a b;refine go _ (.string ⟨(a++b).toArray⟩) (.inr (.inl ⟨_,rfl⟩)) ?_ (by constructor)
  have bh:¬((((⟨a.toArray⟩:ByteArray).size+(⟨b.toArray⟩:ByteArray).size:Nat):Int) > IntKind.i64.max):=by
   simp[ByteArray.size,IntKind.max_i64];omega
  simp only[binOp,Op.stringOp,if_neg bh,Sem.run_pure,ByteArray.mk_append_mk]
theorem Uj{op:BinOp}{x y:AV}{xv yv:Value}(hx:VR w.heap (s.own B.A β) s.used s.hp β xv x)(hy:VR w.heap (s.own B.A β) s.used s.hp β yv y)(xo yo:Operand) :
  RV (zm (P.ti t).k op x y) fun z=>∃v,(do eqGuard op t xo yo xv yv;binOp op t xv yv:Sem Value).run P w=.ok v w∧VR w.heap (s.own B.A β) s.used s.hp β v z:=by
 unfold zm;split<;>try trivial
 exact RV.bind (fun d ⟨v,hr,hv⟩=>⟨v,hr,.d _ _ hv⟩) (Ui w.heap (s.own B.A β) hx.cU hy.cU t xo yo)
theorem Uk{op:UnOp}{x:AV}{xv:Value}(hx:VR w.heap (s.own B.A β) s.used s.hp β xv x) :
  RV (zn op x) fun z=>∃v,(Op.unary op xv).run P w=.ok v w∧VR w.heap (s.own B.A β) s.used s.hp β v z:=by
 unfold zn;split<;>try trivial
 .obtain rfl:=hx.bool;exact⟨_,by simp[Op.unary],.d _ _ (.bool _)⟩
 .obtain rfl:=hx.int;exact⟨_,by simp[Op.unary,Op.intArith],.d _ _ (.int _ _)⟩
theorem Ul{c x y:AV}{cv xv yv:Value}(hc:VR w.heap (s.own B.A β) s.used s.hp β cv c)(hx:VR w.heap (s.own B.A β) s.used s.hp β xv x)(hy:VR w.heap (s.own B.A β) s.used s.hp β yv y) :
  RV (sj c x y) fun z=>∃v,(do pure (.value (if<-asBool cv then xv else yv)):Sem Next).run P w=.ok (.value v) w∧VR w.heap (s.own B.A β) s.used s.hp β v z:=by
 unfold sj;split<;>try trivial
 .obtain rfl:=hc.bool;exact⟨_,by simp[asBool],hx⟩
 .obtain rfl:=hc.bool;exact⟨_,by simp[asBool],hy⟩
theorem Um(h:aj B β s tm w){x:AV}{xv:Value}(hx:VR w.heap (s.own B.A β) s.used s.hp β xv x){i:TI}(hi:i=P.ti t)(ty:TypeId) :
  RV (tX i s.hp x) fun z=>∃v,(Builtin.len_ #[t] ty #[xv]).run P w=.ok v w∧VR w.heap (s.own B.A β) s.used s.hp β v z:=by
 subst hi;unfold tX;split
 .rename_i l hk;obtain rfl:=hx.str;have bh:(⟨l.toArray⟩:ByteArray).size=l.length:=by simp[ByteArray.size]
  exact⟨.int .i64 l.length,by simp[Builtin.len_,run_underlying (p5 hk),goInt,bh],.d _ _ (.int _ _)⟩
 .rename_i e wf xs hk;obtain⟨a,cap,rfl,_⟩:=hx.cU.KN;exact⟨_,by simp[Builtin.len_,run_underlying (kW hk),goInt],.d _ _ (.int _ _)⟩
 .rename_i e hk;obtain rfl:=hx.ai;exact⟨_,by simp[Builtin.len_,run_underlying (kW hk),goInt],.d _ _ (.int _ _)⟩
 .rename_i e p o l hk;split<;>try trivial
  rename_i wf xs hp
  cases hx with
  |vw _ _ _ _ hn cw hx =>
    obtain⟨hle,a0,cap,rfl,aV⟩:=hx _ _ _ hp;exact⟨_,by simp[Builtin.len_,run_underlying (kW hk),goInt],.d _ _ (.int _ _)⟩
 .rename_i a b p hk;split<;>try trivial
  rename_i es hp
  cases hx with
  |mp _ _ hn h1 hx =>
    obtain⟨k,az,rfl⟩:=hx _ hp;obtain⟨k',aS,clock,ug,hb,hz,_⟩:=(h.aO p _ hp).2;rw[az]at ug;cases ug;refine⟨_,?_,.d _ _ (.int .i64 es.length)⟩;simp[Builtin.len_,run_underlying (p6 hk),goInt,getObj,Sem.run,hb,hz]
 .trivial
theorem Un{x y:AV}{xv yv:Value}(hx:VR w.heap (s.own B.A β) s.used s.hp β xv x)(hy:VR w.heap (s.own B.A β) s.used s.hp β yv y)(ts:Array TypeId)(ty:TypeId) :
  RV (zp x y) fun z=>∃v,(Builtin.max_ ts ty #[xv,yv]).run P w=.ok v w∧VR w.heap (s.own B.A β) s.used s.hp β v z:=by
 unfold zp;split<;>try trivial
 split<;>try trivial
 obtain rfl:=hx.int;obtain rfl:=hy.int;exact⟨_,by simp[Builtin.max_,Builtin.max2],.d _ _ (.int _ _)⟩
theorem Uo{x y:AV}{xv yv:Value}(hx:VR w.heap (s.own B.A β) s.used s.hp β xv x)(hy:VR w.heap (s.own B.A β) s.used s.hp β yv y)(ts:Array TypeId)(ty:TypeId) :
  RV (zq x y) fun z=>∃v,(Builtin.min_ ts ty #[xv,yv]).run P w=.ok v w∧VR w.heap (s.own B.A β) s.used s.hp β v z:=by
 unfold zq;split<;>try trivial
 split<;>try trivial
 obtain rfl:=hx.int;obtain rfl:=hy.int;exact⟨_,by simp[Builtin.min_,Builtin.min2],.d _ _ (.int _ _)⟩
theorem Uq{t':Nat}{x:AV}{xv:Value}(hx:VR w.heap (s.own B.A β) s.used s.hp β xv x) :
  RV (zr (P.ti t) (P.ti t') x) fun z=>∃v,(convert t t' xv).run P w=.ok v w∧VR w.heap (s.own B.A β) s.used s.hp β v z:=by
 unfold zr;split<;>try trivial
 .rename_i k1 k2 j n kX gp;obtain rfl:=hx.int;exact⟨_,by simp[convert,run_underlying (ub kX),run_underlying (ub gp),Conv.intToInt],.d _ _ (.int _ _)⟩
 .rename_i l kX gp;obtain rfl:=hx.str;exact⟨_,by simp[convert,run_underlying (p5 kX),run_underlying (p5 gp)],.d _ _ (.str _)⟩
theorem Ur{x:AV}{xv:Value}(hx:VR w.heap (s.own B.A β) s.used s.hp β xv x)(i:Nat) :
  RV (zt x i) fun z=>∃v,(Instr.extract xv i).run P w=.ok v w∧VR w.heap (s.own B.A β) s.used s.hp β v z:=by
 unfold zt;split<;>try trivial
 rename_i vs;refine RV.jU fun y hy=>?_
 cases hx with
 |aA xs _ hs h =>
   have hlt:i<xs.size:=by rw[hs];exact(ah3.1 hy).1
   have:=h i y hy;refine⟨_,?_,this⟩;simp[Instr.extract,aiH hlt,ahY]
theorem Us{B:Base}{x:AV}{xv:Value}(hx:VR w.heap (s.own B.A β) s.used s.hp β xv x) :
  RV (zo s.hp x) fun z=>(∃a,xv=.pointer (some a))∧VR w.heap (s.own B.A β) s.used s.hp β xv z:=by
 unfold zo;split<;>try trivial
 split<;>try trivial
 rename_i p c ty cs hp
 cases hx with
 |bx _ _ _ hu h1 h =>
   obtain⟨k,_,_,rfl⟩:=h ty cs hp;exact⟨⟨_,rfl⟩,.bx _ _ _ hu h1 h⟩
theorem Ut{fn:Fn}{first:Array Operand}{aR:List AV}{cvs:Array Value}{ρ:Operand->Value}(hs:cvs.size=aR.length)
  (h:∀(i:Nat) x,aR[i]?=some x->VR w.heap (s.own B.A β) s.used s.hp β (cvs.getD i undef) x) :
  RV (zx fn first.toList aR) fun z=>∃v,(Instr.makeFunc fn (first.map ρ) cvs).run P w=.ok v w∧VR w.heap (s.own B.A β) s.used s.hp β v z:=by
 unfold zx;split<;>try trivial
 rename_i f hf;have:first=#[]:=by simpa using hf
 subst this;exact⟨_,by simp[Instr.makeFunc],.aW f cvs aR hs h⟩
theorem KQ(hg:(P.ti t).k.dA=false)(ha:(P.ti t).k.agg=true)(cs:Array Value)(o:Nat):(part t cs o).run P w=.ok (.agg (cs.extract o (o+(P.ti t).sz))) w:=by
 simp[part,Cl hg,ha,run_sizeOf hg]
theorem xJ(hg:(P.ti t).k.dA=false)(ha:(P.ti t).k.agg=false)(cs:Array Value)(o:Nat)(v:Value)(h:cs[o]?=some v):(part t cs o).run P w=.ok v w:=by
 simp[part,Cl hg,ha,h]
theorem extract_toArray(c:Array Value)(o z:Nat):c.extract o (o+z)=((c.toList.drop o).take z).toArray:=by
 apply akj;simp[List.extract_eq_take_drop]
theorem Uu{H:Array Obj}{own:Nat->Prop}{v:Value}{d y:D}{c0:Nat}(hd:∃cs,d=.agg cs)(h:au H own v d)(hp:pY (P.ti t) d c0=some y) :
  ∃c u,v=.agg c∧(part t c c0).run P w=.ok u w∧au H own u y:=by
 obtain⟨cs,rfl⟩:=hd
 cases h with
 |agg vs _ hs ez h =>
   unfold pY at hp;by_cases hg:(P.ti t).k.dA=true
   .simp[hg]at hp
   .have hg:(P.ti t).k.dA=false:=by simpa using hg
    simp only[hg,aip,if_false]at hp;by_cases ha:(P.ti t).k.agg=true
    .simp only[ha,if_true]at hp;split at hp
     .rename_i hle;cases hp;refine⟨vs,_,rfl,KQ hg ha vs c0,?_⟩;rw[extract_toArray];refine .agg _ _ (by simp;omega) (fun x hx=>ez x (aiX (aiJ hx))) (fun i x hi=>?_);rw[ai4]at hi;split at hi
      .rename_i hlt;rw[aiU]at hi;have:=h (c0+i) x hi
       have e1:((vs.toList.drop c0).take (P.ti t).sz).toArray.getD i undef=vs.getD (c0+i) undef:=by
        simp[ahY,hlt]
       rw[e1];exact this
      .cases hi
     .cases hp
    .have ha:(P.ti t).k.agg=false:=by simpa using ha
     simp only[ha,aip,if_false]at hp;have hlt:c0<vs.size:=by rw[hs];exact(ah3.1 hp).1
     exact⟨vs,_,rfl,xJ hg ha vs c0 _ (qX (z:=undef) hlt),h c0 y hp⟩
theorem Uv{xv:Value}{x:AV}{f:Nat}(hx:VR w.heap (s.own B.A β) s.used s.hp β xv x) :
  RV (zk (P.ti t) P.ti x f) fun y=>∃v,(Instr.field t xv f).run P w=.ok v w∧VR w.heap (s.own B.A β) s.used s.hp β v y:=by
 unfold zk;split<;>try trivial
 rename_i fs hk;split<;>try trivial
 rename_i o tt hf;obtain⟨fl,hu,rfl⟩:=zC hk;simp only[aii,ah4,ajM]at hf;obtain⟨fd,zD,rfl,rfl⟩:=hf;have FR:fl[f]?=some fd:=by simpa using zD
 have aK:∀(c:Array Value) (u:Value),(part fd.type c fd.offset).run P w=.ok u w->(Instr.field t (.agg c) f).run P w=.ok u w:=fun c u hr=>by
  simp[Instr.field,run_underlying hu,FR,asAgg,hr]
 split
 .rename_i cs;refine RV.jU fun y hy=>?_;simp only[ah4]at hy;obtain⟨d,hd,rfl⟩:=hy;obtain⟨c,u,rfl,hr,hv⟩:=Uu (P:=P) (w:=w) ⟨cs,rfl⟩ hx.cU hd;exact⟨u,aK c u hr,.d _ _ hv⟩
 .rename_i cs
  cases hx with
  |agg vs _ hs h1 h =>
    unfold vE;by_cases hg:(P.ti fd.type).k.dA=true
    .simp[hg,RV]
    .have hg:(P.ti fd.type).k.dA=false:=by simpa using hg
     simp only[hg,aip,if_false];by_cases ha:(P.ti fd.type).k.agg=true
     .simp only[ha,if_true];split
      .rename_i hle;refine⟨_,aK _ _ (KQ hg ha vs fd.offset),?_⟩;rw[extract_toArray];refine xF (by simp;omega) (fun v hv=>h1 v ?_) (fun i v x hv hx=>?_)
       .have:=aiX (aiJ hv);simpa using this
       .rw[ai4]at hv hx;split at hv
        .rename_i hlt;rw[if_pos hlt]at hx;rw[aiU]at hv hx;have:=h _ x hx
         have e1:vs.getD (fd.offset+i) undef=v:=by
          simp only[aiI]at hv;simp[ahY,hv]
         rwa [e1]at this
        .cases hv
      .trivial
     .have ha:(P.ti fd.type).k.agg=false:=by simpa using ha
      simp only[ha,aip,if_false];refine RV.jU fun x hx=>?_;have hlt:fd.offset<vs.size:=by rw[hs];exact(ah3.1 hx).1
      exact⟨_,aK _ _ (xJ hg ha vs fd.offset _ (qX (z:=undef) hlt)),h _ x hx⟩
 .trivial
end
end Go.Ab
namespace Go.Ab
section
variable {P:Program}{B:Base}{β:Name->Option aU}{s:St}{tm:Array Value}{w:World}{t:Nat}
theorem ku{used:List Nat}{p:Name}(h:nm used p)(ht:t∉used):p≠[t]:=by
 obtain⟨a,l,rfl,ha⟩:=h;intro e;simp at e;exact ht (e.1▸ha)
theorem aj.renew(h:aj B β s tm w)(ht:t∉s.used){p:Name}{ob:Ob}{k:aU}(hp:s.hp p=some ob)(hk:β p=some k)(ty:Option Nat)(wf:W)(xs:List D)(o':Nat){w':World}(ic:dy w'=dy w)(bh:w'.heap.size=w.heap.size)
  (hw:∀b,b≠k.b->w'.heap[b]?=w.heap[b]?)
  (hO:(∀v d,au w.heap (s.own B.A β) v d->au w'.heap (s.own B.A β) v d) ->
   ∃c e,w'.heap[k.b]?=some (.cells c (ty.getD e) (0,0))∧c.size=k.z∧o'+xs.length*wd wf<=k.z∧(∀x∈xs,okW wf x) ∧
    ∀i x j d,xs[i]?=some x->x.cells[j]?=some d->au w'.heap (s.own B.A β) (c.getD (o'+i*wd wf+j) undef) d) :
  aj B (aP β [t] (some ⟨k.b,o',k.z⟩)) ((s.set p none).add t (.bu ty wf xs)) tm w':=by
 obtain⟨β',hβ'⟩:∃β',aP β [t] (some ⟨k.b,o',k.z⟩)=β':=⟨_,rfl⟩
 obtain⟨s',bc⟩:∃s',(s.set p none).add t (.bu ty wf xs)=s':=⟨_,rfl⟩
 have fR:β' [t]=some ⟨k.b,o',k.z⟩:=by rw[<-hβ'];simp[aP]
 have hold:∀q,q≠[t]->β' q=β q:=fun q hq=>by rw[<-hβ'];simp[aP,hq]
 have kx:=ku (h.aO p ob hp).1 ht;have zG:s'.hp [t]=some (.bu ty wf xs):=by rw[<-bc];simp[St.add,aP]
 have dz:s'.hp p=none:=by rw[<-bc];simp[St.add,St.set,aP,kx]
 have fy:∀q,q≠[t]->q≠p->s'.hp q=s.hp q:=fun q h1 h2=>by rw[<-bc];simp[St.add,St.set,aP,h1,h2]
 have nQ:s'.used=t::s.used:=by rw[<-bc];rfl
 have lS:s'.fr=s.fr:=by rw[<-bc];rfl
 have nR:s.hp p≠none:=by rw[hp];simp
 have dS:s'.own B.A β'=s.own B.A β:=by
  funext b;refine propext (or_congr_right ⟨?_,?_⟩)
  .rintro⟨q,l,hq,hl,rfl⟩;by_cases e1:q=[t]
   .subst e1;rw[fR]at hl;cases hl;exact⟨p,k,nR,hk,rfl⟩
   .by_cases e2:q=p
    .subst e2;exact absurd dz hq
    .rw[hold q e1]at hl;rw[fy q e1 e2]at hq;exact⟨q,l,hq,hl,rfl⟩
  .rintro⟨q,l,hq,hl,rfl⟩;by_cases e2:q=p
   .subst e2;rw[hk]at hl;cases hl;exact⟨[t],_,by rw[zG];simp,fR,rfl⟩
   .cases ho:s.hp q with
    |none=>exact absurd ho hq
    |some o =>
      have e1:=ku (h.aO q o ho).1 ht;exact⟨q,l,by rw[fy q e1 e2];exact hq,by rw[hold q e1];exact hl,rfl⟩
 have hr:∀v d,au w.heap (s.own B.A β) v d->au w'.heap (s.own B.A β) v d:=fun v d hd=>hd.mono (fun b hb _=>hw b fun e=>hb (.inr ⟨p,k,nR,hk,e.symm⟩)) (fun _ _ h=>h)
 have ah:∀q,nm s.used q->iG s.hp s'.hp β β' q:=by
  intro q hq o ho;have e1:=ku hq ht;have e2:q≠p:=by rintro rfl;rw[dz]at ho;cases ho
  exact⟨o,by rwa [fy q e1 e2]at ho,Ob.mS _,hold q e1⟩
 have hu:∀x∈s.used,x∈s'.used:=fun x hx=>by rw[nQ];exact ah8 _ hx
 rw[hβ',bc];refine { bE:=h.bE,io:=ic.trans h.io,size:=by rw[bh];exact h.size,frame:=?_,slots:=fun i=>?_,aO:=?_,blocks:=?_,inj:=?_,us:=fun x hx=>hu x (h.us x hx), stay:=fun p hp=>(hold p (ku (hp.mono h.us) ht)).trans (h.stay p hp) }
 .intro b hb hn;rw[hw b ?_]
  .exact h.frame b hb hn
  .rintro rfl;rcases(h.blocks p k nR hk).2.2 with h3|h3
   .omega
   .exact hn h3
 .rw[dS,lS];exact(h.slots i).mono hr hu ah
 .intro q o ho;rw[dS];by_cases e1:q=[t]
  .subst e1;rw[zG]at ho;cases ho;obtain⟨c,e,h1,h2,h3,h4,h5⟩:=hO hr;exact⟨⟨t,[],rfl,by rw[nQ];exact ah0⟩,.inr ⟨_,c,e,fR,h1,h2,h3,h4,h5⟩⟩
  .have e2:q≠p:=by rintro rfl;rw[dz]at ho;cases ho
   rw[fy q e1 e2]at ho;obtain⟨h1,h2⟩:=h.aO q o ho;refine⟨h1.mono hu,h2.mono hr hu ah (hold q e1) fun l hl=>hw l.b fun e=>?_⟩;exact e2 (h.inj q p l k (by rw[ho];simp) nR hl hk e)
 .intro q l hq hl;rw[bh];by_cases e1:q=[t]
  .subst e1;rw[fR]at hl;cases hl;exact h.blocks p k nR hk
  .have e2:q≠p:=by rintro rfl;exact hq dz
   rw[hold q e1]at hl;rw[fy q e1 e2]at hq;exact h.blocks q l hq hl
 .intro q q' l l' hq cg hl gM e
  have key:∀q l,s'.hp q≠none->β' q=some l->∃r,(q=[t]∧r=p∨q≠[t]∧r=q∧q≠p)∧s.hp r≠none∧∃m,β r=some m∧m.b=l.b:=by
   intro q l hq hl;by_cases e1:q=[t]
   .subst e1;rw[fR]at hl;cases hl;exact⟨p,.inl ⟨rfl,rfl⟩,nR,k,hk,rfl⟩
   .have e2:q≠p:=by rintro rfl;exact hq dz
    rw[hold q e1]at hl;rw[fy q e1 e2]at hq;exact⟨q,.inr ⟨e1,rfl,e2⟩,hq,l,hl,rfl⟩
  obtain⟨r,h1,h2,m,h3,h4⟩:=key q l hq hl;obtain⟨r',g1,g2,m',g3,g4⟩:=key q' l' cg gM;have:r=r':=h.inj r r' m m' h2 g2 h3 g3 (by rw[h4,g4,e]);rcases h1 with⟨rfl,rfl⟩|⟨h1,rfl,h5⟩<;>obtain⟨rfl,rfl⟩|⟨g1,rfl,g5⟩:=g1
  .rfl
  .exact absurd this.symm g5
  .exact absurd this h5
  .exact this
theorem aj.qY(h:aj B β s tm w)(ht:t∉s.used)(ty:Option Nat)(wf:W):aj B (aP β [t] none) (s.add t (.bu ty wf [])) tm w:=by
 have hold:∀q,q≠[t]->aP β [t] none q=β q:=fun q hq=>by simp[aP,hq]
 have fR:aP β [t] none [t]=none:=by simp[aP]
 have fy:∀q,q≠[t]->(s.add t (.bu ty wf [])).hp q=s.hp q:=fun q h1=>by simp[St.add,aP,h1]
 have dS:(s.add t (.bu ty wf [])).own B.A (aP β [t] none)=s.own B.A β:=by
  funext b;refine propext (or_congr_right ⟨?_,?_⟩)
  .rintro⟨q,l,hq,hl,rfl⟩;by_cases e1:q=[t]
   .subst e1;rw[fR]at hl;cases hl
   .rw[hold q e1]at hl;rw[fy q e1]at hq;exact⟨q,l,hq,hl,rfl⟩
  .rintro⟨q,l,hq,hl,rfl⟩
   cases ho:s.hp q with
   |none=>exact absurd ho hq
   |some o =>
     have e1:=ku (h.aO q o ho).1 ht;exact⟨q,l,by rw[fy q e1];exact hq,by rw[hold q e1];exact hl,rfl⟩
 have ah:∀q,nm s.used q->iG s.hp (s.add t (.bu ty wf [])).hp β (aP β [t] none) q:=by
  intro q hq o ho;have e1:=ku hq ht;exact⟨o,by rwa [fy q e1]at ho,Ob.mS _,hold q e1⟩
 have hu:∀x∈s.used,x∈(s.add t (.bu ty wf [])).used:=fun x hx=>ah8 _ hx;refine { bE:=h.bE,io:=h.io,size:=h.size,frame:=h.frame,slots:=fun i=>?_,aO:=?_,blocks:=?_,inj:=?_,us:=fun x hx=>hu x (h.us x hx), stay:=fun p hp=>(hold p (ku (hp.mono h.us) ht)).trans (h.stay p hp) }
 .rw[dS];exact(h.slots i).mono (fun _ _ h=>h) hu ah
 .intro q o ho;rw[dS];by_cases e1:q=[t]
  .subst e1;have:o=.bu ty wf []:=by simpa[St.add,aP]using ho.symm
   subst this;exact⟨⟨t,[],rfl,ah0⟩,.inl ⟨fR,rfl⟩⟩
  .rw[fy q e1]at ho;obtain⟨h1,h2⟩:=h.aO q o ho;exact⟨h1.mono hu,h2.mono (fun _ _ h=>h) hu ah (hold q e1) fun _ _=>rfl⟩
 .intro q l hq hl;by_cases e1:q=[t]
  .subst e1;rw[fR]at hl;cases hl
  .rw[hold q e1]at hl;rw[fy q e1]at hq;exact h.blocks q l hq hl
 .intro q q' l l' hq cg hl gM e;by_cases e1:q=[t]
  .subst e1;rw[fR]at hl;cases hl
  .by_cases e2:q'=[t]
   .subst e2;rw[fR]at gM;cases gM
   .rw[hold q e1]at hl;rw[fy q e1]at hq;rw[hold q' e2]at gM;rw[fy q' e2]at cg;exact h.inj q q' l l' hq cg hl gM e
theorem VR.Uw{H own}(p:Name)(b z:Nat){used:List Nat}{hp:Name->Option Ob}{β:Name->Option aU}(hu:nm used p)(hβ:β p=some ⟨b,0,z⟩):VR H own used hp β (.pointer (some ⟨b,0,none⟩)) (.bx p 0) :=
 .bx _ _ _ hu rfl fun _ _ _=>⟨_,hβ,rfl,rfl⟩
theorem KR(h:aj B β s tm w)(ht:t<B.n)(hu:t∉s.used){c:Array Value}{cs:List AV}(hs:c.size=cs.length)(h1:∀u∈c,u.oneCell'=true)
  (hv:∀i x,cs[i]?=some x->VR w.heap (s.own B.A β) s.used s.hp β (c.getD i undef) x) (e:TypeId) (ty:Option Nat) (hty:ty.getD e=e) :
  ∃β',aj B β' ((s.add t (.bz ty cs)).put t (.bx [t] 0)) (tm.setIfInBounds t (.pointer (some ⟨w.heap.size,0,none⟩))) (w.alloc (.cells c e)):=by
 obtain⟨bm,_⟩:=h.alloc hu (.cells c e) (.bz ty cs) c.size (fun β' hβ hmono =>
  ⟨_,c,e,hβ,rfl,by rw[hty];exact heap_alloc_new w _,rfl,hs,h1,fun j x hj=>hmono _ _ (hv j x hj)⟩)
 refine⟨_,bm.put ht (.Uw [t] w.heap.size c.size ⟨t,[],rfl,ah0⟩ ?_)⟩;simp[aP]
theorem zH(h:aj B β s tm w)(ht:t<B.n)(hu:t∉s.used){c:Array Value}{wf:W}{xs:List D}{cap:Nat}(hl:xs.length<=cap)(hz:cap*wd wf<=c.size)(aF:∀x∈xs,okW wf x)
  (hv:∀i x j d,xs[i]?=some x->x.cells[j]?=some d->au w.heap (s.own B.A β) (c.getD (i*wd wf+j) undef) d) (e:TypeId) (ty:Option Nat) (hty:ty.getD e=e) :
  ∃β',aj B β' ((s.add t (.bu ty wf xs)).put t (.vw [t] 0 xs.length)) (tm.setIfInBounds t (.slice (some ⟨w.heap.size,0,none⟩) xs.length cap)) (w.alloc (.cells c e)):=by
 have hle:xs.length*wd wf<=cap*wd wf:=aiu _ hl
 obtain⟨bm,_⟩:=h.alloc hu (.cells c e) (.bu ty wf xs) c.size (fun β' hβ hmono =>
  .inr ⟨_,c,e,hβ,by rw[hty];exact heap_alloc_new w _,rfl,by simp;omega,aF,fun i x j d hi hj=>by
   have:=hmono _ _ (.d _ _ (hv i x j d hi hj))
   simpa using this.cU⟩)
 refine⟨_,bm.put ht (.vw _ _ _ _ ⟨t,[],rfl,ah0⟩ rfl fun ty' w' xs' ae=>?_)⟩
 have:w'=wf∧xs'=xs:=by
  have h3:ty'=ty∧wf=w'∧xs=xs':=by simpa[St.add,aP,eq_comm]using ae
  exact⟨h3.2.1.symm,h3.2.2.symm⟩
 obtain⟨rfl,rfl⟩:=this;exact⟨by simp,_,cap,rfl,.inr ⟨⟨w.heap.size,0,c.size⟩,by simp[aP],by simp,hl,by simpa using hz⟩⟩
end
end Go.Ab

