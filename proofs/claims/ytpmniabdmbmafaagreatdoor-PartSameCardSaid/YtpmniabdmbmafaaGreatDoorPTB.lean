/-
  The generic layer, part 6: each step is sound: the values. (with the parts that follow it) (with the parts that follow it)
-/
import Derived.Test.YtpmniabdmbmafaaGreatDoorPTA
import Derived.Laws.Strings2
import Derived.Laws.Concat
import Derived.Laws.Small
import Derived.Laws.MakeOwn
import Derived.Laws.NewBlocks
set_option linter.all false
set_option maxHeartbeats 16000000
namespace Go.Ab
section
variable {P:Program}{t:Nat}
theorem rI(h:(P.ti t).k.dM=false):∃i d,P.info? t=some i∧P.underlying t=some d∧(P.ti t).k=tk d∧(P.ti t).sz=i.size∧(P.ti t).by'=i.bytes ∧
  (P.ti t).z=i.zero.bind fun v=>v.cells.toList.mapM zd:=by
 unfold Program.ti at h ⊢;split
 .rename_i i d hi hd;exact⟨i,d,hi,hd,rfl,rfl,rfl,rfl⟩
 .rename_i aB;split at h
  .rename_i i d hi hd;exact absurd hd (aB i d hi)
  .simp[TK.dM]at h
theorem k5{e:Nat}(h:(P.ti t).k=.slice e):P.underlying t=some (.slice e):=by
 obtain⟨i,d,_,hd,hk,_⟩:=rI (P:=P) (t:=t) (by rw[h];rfl);rw[h]at hk;rw[hd];cases d<;>simp[tk]at hk;rw[hk]
theorem rJ(h:(P.ti t).k=.str):P.underlying t=some .string:=by
 obtain⟨i,d,_,hd,hk,_⟩:=rI (P:=P) (t:=t) (by rw[h];rfl);rw[h]at hk;rw[hd];cases d<;>simp[tk]at hk;rfl
theorem rK{k:IntKind}(h:(P.ti t).k=.int k):P.underlying t=some (.int k):=by
 obtain⟨i,d,_,hd,hk,_⟩:=rI (P:=P) (t:=t) (by rw[h];rfl);rw[h]at hk;rw[hd];cases d<;>simp[tk]at hk;rw[hk]
theorem mg{a b:Nat}(h:(P.ti t).k=.map a b):P.underlying t=some (.map a b):=by
 obtain⟨i,d,_,hd,hk,_⟩:=rI (P:=P) (t:=t) (by rw[h];rfl);rw[h]at hk;rw[hd];cases d<;>simp[tk]at hk;rw[hk.1,hk.2]
theorem Ba{fs:List (Nat×Nat)}(h:(P.ti t).k=.struct fs):∃fl:Array Field,P.underlying t=some (.struct fl)∧fs=fl.toList.map fun f=>(f.offset,f.type):=by
 obtain⟨i,d,_,hd,hk,_⟩:=rI (P:=P) (t:=t) (by rw[h];rfl);rw[h]at hk;rw[hd];cases d<;>simp[tk]at hk;exact⟨_,rfl,hk⟩
theorem Es(h:(P.ti t).k.dM=false)(w:World):(isAgg t).run P w=.ok (P.ti t).k.agg w:=by
 obtain⟨i,d,_,hd,hk,_⟩:=rI h;rw[hk];cases d<;>simp[isAgg,run_underlying hd,tk,TK.agg]
theorem run_sizeOf(h:(P.ti t).k.dM=false)(w:World):(sizeOf t).run P w=.ok (P.ti t).sz w:=by
 obtain⟨i,d,hi,hd,_,hs,_⟩:=rI h;simp[sizeOf,typeInfo,hi,hs]
theorem Xb{z:List D}(h:(P.ti t).z=some z):(P.ti t).k.dM=false:=by
 unfold Program.ti at h ⊢;split
 .rename_i i d _ _;cases d<;>rfl
 .split at h<;>simp_all
end
theorem Nl{H:Array Obj}{own:Nat->Prop}{v:Value}{d:D}(h:zd v=some d):au H own v d∧d.bR=true∧v.oneCell'=true:=by
 cases v with
 |bool b=>cases h;exact⟨.bool b,rfl,rfl⟩
 |int k n=>cases h;exact⟨.int k n,rfl,rfl⟩
 |string s=>cases h;exact⟨.str s.data.toList,rfl,rfl⟩
 |pointer a=>cases a<;>cases h;exact⟨.aY,rfl,rfl⟩
 |slice a l c=>cases a<;>cases l<;>cases c<;>cases h;exact⟨.ao,rfl,rfl⟩
 |map r=>cases r<;>cases h;exact⟨.j8,rfl,rfl⟩
 |nilFunc=>cases h;exact⟨.nj,rfl,rfl⟩
 |nilIface=>cases h;exact⟨.lF,rfl,rfl⟩
 |_=>cases h
theorem sL{H:Array Obj}{own:Nat->Prop}:∀{vs:List Value} {ds:List D},vs.mapM zd=some ds->ds.length=vs.length∧(∀d∈ds,d.bR=true)∧(∀v∈vs,v.oneCell'=true) ∧
  ∀(j:Nat) (d:D),ds[j]?=some d->∃v,vs[j]?=some v∧au H own v d
 |[],ds,h=>by simp at h;subst h;simp
 |v::r,ds,h=>by
   simp only[anM,Option.bind_eq_bind,amu]at h;obtain⟨d,hd,gF,hr,h⟩:=h;cases h;obtain⟨h1,h2,h3⟩:=Nl (H:=H) (own:=own) hd;obtain⟨g1,g2,g3,g4⟩:=sL (H:=H) (own:=own) hr;refine⟨by simp[g1],by simpa using⟨h2,g2⟩,by simpa using⟨h3,g3⟩,fun j d' hj=>?_⟩
   cases j with
   |zero=>simp at hj;subst hj;exact⟨v,rfl,h1⟩
   |succ j=>exact g4 j d' (by simpa using hj)
section
variable {B:Base}{β:Name->Option a8}{s:St}{a:Act}{w:World}
theorem Xc{H own used hp}{β:Name->Option a8}(v:Value):VR H own used hp β v (cv v):=by
 cases v with
 |bool b=>exact .d _ _ (.bool b)
 |int k n=>exact .d _ _ (.int k n)
 |string s=>exact .d _ _ (.str s.data.toList)
 |pointer a=>cases a<;>first|exact .d _ _ .aY|exact .un _
 |slice a l c=>cases a<;>cases l<;>cases c<;>first|exact .d _ _ .ao|exact .un _
 |map r=>cases r<;>first|exact .d _ _ .j8|exact .un _
 |nilFunc=>exact .d _ _ .nj
 |nilIface=>exact .d _ _ .lF
 |_=>exact .un _
theorem aj.ev(h:aj B β s a.tmps w)(x:Operand):VR w.heap (s.own B.A β) s.used s.hp β (a.eval x) (ev s x):=by
 cases x with
 |tmp t=>exact h.slots t
 |const v=>exact Xc v
 |global g=>exact .un _
 |func f=>exact .aH f #[] [] rfl (fun i x hi=>by simp at hi)
end
section
variable {H:Array Obj}{own:Nat->Prop}{used:List Nat}{hp:Name->Option Ob}{β:Name->Option a8}{v:Value}
theorem VR.cA{x:D}(h:VR H own used hp β v (.d x)):au H own v x:=by cases h;assumption
theorem VR.int{k n}(h:VR H own used hp β v (.d (.int k n))):v=.int k n:=by cases h.cA;rfl
theorem VR.bool{b}(h:VR H own used hp β v (.d (.bool b))):v=.bool b:=by cases h.cA;rfl
theorem VR.str{l}(h:VR H own used hp β v (.d (.str l))):v=.string ⟨l.toArray⟩:=by cases h.cA;rfl
theorem VR.ao(h:VR H own used hp β v (.d .ao)):v=.slice none 0 0:=by cases h.cA;rfl
end
theorem Et:∀{cs:List AV} {ds:List D},j9 cs=some ds->cs=ds.map .d
 |[],ds,h=>by simp[j9]at h;subst h;rfl
 |.d x::r,ds,h=>by
   simp only[j9,ak8]at h;obtain⟨gF,hr,rfl⟩:=h;simp[Et hr]
 |.un::r,ds,h=>by simp[j9]at h
 |.vw _ _ _::r,ds,h=>by simp[j9]at h
 |.bx _ _::r,ds,h=>by simp[j9]at h
 |.el _ _ _::r,ds,h=>by simp[j9]at h
 |.mp _::r,ds,h=>by simp[j9]at h
 |.it _::r,ds,h=>by simp[j9]at h
 |.agg _::r,ds,h=>by simp[j9]at h
 |.az _::r,ds,h=>by simp[j9]at h
 |.aH _ _::r,ds,h=>by simp[j9]at h
section
variable {H:Array Obj}{own:Nat->Prop}{used:List Nat}{hp:Name->Option Ob}{β:Name->Option a8}
theorem VR.bR{v:Value}{d:D}(h1:v.oneCell'=true)(h:VR H own used hp β v (.d d)):d.bR=true:=by
 have:=h.cA;cases this<;>first|rfl|simp[Value.oneCell']at h1
theorem yX{vs:List Value}{cs:List AV}(hs:vs.length=cs.length)(h1:∀v∈vs,v.oneCell'=true)(h:∀(i:Nat) v x,vs[i]?=some v->cs[i]?=some x->VR H own used hp β v x) :
  VR H own used hp β (.agg vs.toArray) (oA cs):=by
 unfold oA;split
 .rename_i ds hd;have e:=Et hd;subst e;refine .d _ _ (.agg _ ds (by simpa using hs) (fun d dP=>?_) (fun i d hi=>?_))
  .obtain⟨i,hi⟩:=amB.1 dP;have hlt:i<vs.length:=by rw[hs];simp;exact(akY.1 hi).1
   exact VR.bR (h1 _ (ak2 hlt)) (h i _ (.d d) (ak0 hlt) (by simp[hi]))
  .have hlt:i<vs.length:=by rw[hs];simp;exact(akY.1 hi).1
   have:=(h i _ (.d d) (ak0 hlt) (by simp[hi])).cA;simpa[akZ,hlt]using this
 .refine .agg _ cs (by simpa using hs) (by simpa using h1) (fun i x hi=>?_);have hlt:i<vs.length:=by rw[hs];exact(akY.1 hi).1
  have:=h i _ x (ak0 hlt) hi;simpa[akZ,hlt]using this
theorem Nn{v:Value}{d:D}{cs:List AV}(hc:cellsD d=some cs)(h:au H own v d):v.cells.size=cs.length∧(∀u∈v.cells,u.oneCell'=true) ∧
  ∀i x,cs[i]?=some x->VR H own used hp β (v.cells.getD i undef) x:=by
 cases d with
 |agg ds =>
   simp only[cellsD,alE]at hc;subst hc
   cases h with
   |agg vs ds hs dv h =>
     refine⟨by simpa[Value.cells]using hs,fun u hu=>?_,fun i x hi=>?_⟩
     .obtain⟨i,hi⟩:=Array.mem_iff_getElem?.1 hu;have hlt:i<ds.length:=by rw[<-hs];exact(amw.1 hi).1
      have:=(h i _ (ak0 hlt)).yR (dv _ (ak2 hlt))
      have e:vs.getD i undef=u:=by
       simp only[Value.cells]at hi;simp[akZ,hi]
      rwa [e]at this
     .simp only[ala,ak8]at hi;obtain⟨d,hd,rfl⟩:=hi;exact .d _ _ (h i d hd)
 |_ =>
   simp only[cellsD,alE]at hc;subst hc;have h1:=h.yR rfl;have e:v.cells=#[v]:=by cases v<;>first|rfl|simp[Value.oneCell']at h1
   rw[e];refine⟨rfl,by simpa using h1,fun i x hi=>?_⟩
   cases i with
   |zero=>simp at hi;subst hi;exact .d _ _ (by simpa using h)
   |succ i=>simp at hi
theorem HY{v:Value}{x:AV}{cs:List AV}(hc:jE x=some cs)(h:VR H own used hp β v x) :
  v.cells.size=cs.length∧(∀u∈v.cells,u.oneCell'=true)∧∀i x,cs[i]?=some x->VR H own used hp β (v.cells.getD i undef) x:=by
 have one:∀y:AV,cs=[y]->VR H own used hp β v y->v.oneCell'=true->v.cells.size=cs.length∧(∀u∈v.cells,u.oneCell'=true)∧∀i x,cs[i]?=some x->VR H own used hp β (v.cells.getD i undef) x:=by
  intro y hy hh h1;subst hy;have e:v.cells=#[v]:=by cases v<;>first|rfl|simp[Value.oneCell']at h1
  rw[e];refine⟨rfl,by simpa using h1,fun i x hi=>?_⟩
  cases i with
  |zero=>simp at hi;subst hi;simpa using hh
  |succ i=>simp at hi
 cases x with
 |d y=>exact Nn hc h.cA
 |agg ds =>
   simp only[jE,alE]at hc;subst hc
   cases h with
   |agg vs ds hs h1 h=>exact⟨by simpa[Value.cells]using hs,by simpa[Value.cells]using h1,fun i x hi=>by simpa[Value.cells]using h i x hi⟩
 |vw p o l=>simp only[jE,alE]at hc;exact one _ hc.symm h (by cases h;assumption)
 |bx p c=>simp only[jE,alE]at hc;exact one _ hc.symm h (by cases h;assumption)
 |el p i c=>simp only[jE,alE]at hc;exact one _ hc.symm h (by cases h;assumption)
 |mp p=>simp only[jE,alE]at hc;exact one _ hc.symm h (by cases h;assumption)
 |it p=>simp only[jE,alE]at hc;exact one _ hc.symm h (by cases h;assumption)
 |aH f c=>simp only[jE,alE]at hc;exact one _ hc.symm h (by cases h;rfl)
 |va p o l=>simp only[jE,alE]at hc;exact one _ hc.symm h (by cases h;assumption)
 |ea p i=>simp only[jE,alE]at hc;exact one _ hc.symm h (by cases h;assumption)
 |ma p=>simp only[jE,alE]at hc;exact one _ hc.symm h (by cases h;assumption)
 |un=>cases hc
 |az _=>cases hc
end
end Go.Ab
namespace Go.Ab
def RV{α:Type}:R α->(α->Prop)->Prop
 |.ok x,φ=>φ x
 |.need p r,φ=>p->RV r φ
 |.no,_=>True
theorem RV.mono{α:Type}{φ ψ:α->Prop}(h:∀x,φ x->ψ x):∀{r:R α},RV r φ->RV r ψ
 |.ok _,hr=>h _ hr
 |.need _ _,hr=>fun hp=>RV.mono h (hr hp)
 |.no,_=>trivial
theorem RV.bind{α β:Type}{φ:α->Prop}{ψ:β->Prop}{f:α->R β}(hf:∀x,φ x->RV (f x) ψ):∀{r:R α},RV r φ->RV (r.bind f) ψ
 |.ok _,hr=>hf _ hr
 |.need _ _,hr=>fun hp=>RV.bind hf (hr hp)
 |.no,_=>trivial
theorem RV.kA{α:Type}{φ:α->Prop}{o:Option α}(h:∀x,o=some x->φ x):RV (R.kA o) φ:=by
 cases o with
 |none=>trivial
 |some x=>exact h x rfl
theorem RV.run{φ:St->Prop}{f:St->Prop}{z:Prop}:∀{r:R St},RV r φ->r.run f z->z∨∃s,φ s∧f s
 |.ok _,hr,h=>.inr ⟨_,hr,h⟩
 |.need _ _,hr,h=>RV.run (hr h.1) h.2
 |.no,_,h=>.inl h
section
variable {P:Program}{t:Nat}
theorem nr(b o n:Nat):(⟨b,o,none⟩:Addr).add n=⟨b,o+n,none⟩:=by unfold Addr.add;split<;>simp_all
theorem Np(hg:(P.ti t).k.dM=false)(ha:(P.ti t).k.agg=true){w:World}{b o:Nat}{c:Array Value}{e:TypeId}{fz:Nat×Nat}
  (hb:w.heap[b]?=some (.cells c e fz)) (hz:o+(P.ti t).sz<=c.size) :
  (loadVar t ⟨b,o,none⟩).run P w=.ok (.agg ((c.toList.drop o).take (P.ti t).sz).toArray) w:=by
 have hl:((c.toList.drop o).take (P.ti t).sz).length=(P.ti t).sz:=by simp;omega
 have:=run_loadCells_list (P:=P) w ⟨b,o,none⟩ ((c.toList.drop o).take (P.ti t).sz) (fun j v hv=>by
  rw[nr,cell_of_row w b (o+j) c e fz hb];rw[amb]at hv;split at hv
  .simpa using hv
  .cases hv)
 rw[hl]at this;simp[loadVar,Es hg,ha,run_sizeOf hg,this]
theorem HZ(hg:(P.ti t).k.dM=false)(ha:(P.ti t).k.agg=false){w:World}{b o:Nat}{c:Array Value}{e:TypeId}{fz:Nat×Nat}
  (hb:w.heap[b]?=some (.cells c e fz)) {v:Value} (hv:c[o]?=some v):(loadVar t ⟨b,o,none⟩).run P w=.ok v w:=by
 have hc:w.cell? ⟨b,o,none⟩=some v:=by rw[cell_of_row w b o c e fz hb,hv]
 simp[loadVar,Es hg,ha,hc]
theorem vv{α:Type}{c:Array α}{i:Nat}{z:α}(h:i<c.size):c[i]?=some (c.getD i z):=by simp[akZ,h]
theorem Nq{H:Array Obj}{own:Nat->Prop}{w:World}(hw:w.heap=H){b o c0:Nat}{c:Array Value}{e:TypeId}{fz:Nat×Nat}(hb:H[b]?=some (.cells c e fz)){d y:D}
  (hz:o+d.cells.length<=c.size) (dv:∀x∈d.cells,x.bR=true) (h:∀j x,d.cells[j]?=some x->au H own (c.getD (o+j) undef) x) (hp:rE (P.ti t) d c0=some y) :
  ∃v,(loadVar t ⟨b,o+c0,none⟩).run P w=.ok v w∧au H own v y:=by
 subst hw;unfold rE at hp;by_cases hg:(P.ti t).k.dM=true
 .simp[hg]at hp
 .have hg:(P.ti t).k.dM=false:=by simpa using hg
  simp only[hg,als,if_false]at hp
  have one:∀y',d.cells[c0]?=some y'->(P.ti t).k.agg=false->∃v,(loadVar t ⟨b,o+c0,none⟩).run P w=.ok v w∧au w.heap own v y':=by
   intro y' hy ha;have hlt:c0<d.cells.length:=(akY.1 hy).1;exact⟨_,HZ hg ha hb (vv (z:=undef) (show o+c0<c.size by omega)),h c0 y' hy⟩
  cases d with
  |agg cs =>
    simp only at hp;by_cases ha:(P.ti t).k.agg=true
    .simp only[ha,if_true]at hp;split at hp
     .rename_i hle;cases hp;simp only[D.cells]at hz dv h;refine⟨_,Np hg ha hb (by omega),.agg _ _ (by simp;omega) (fun x hx=>dv x (al5 (alL hx))) (fun i x hi=>?_)⟩;rw[amb]at hi;split at hi
      .rename_i hlt;rw[alY]at hi;have:=h (c0+i) x hi;have Eu:c0+i<cs.length:=(akY.1 hi).1
       have e1:((c.toList.drop (o+c0)).take (P.ti t).sz).toArray.getD i undef=c.getD (o+(c0+i)) undef:=by
        simp[akZ,hlt,amF]
       rw[e1];exact this
      .cases hi
     .cases hp
    .have ha:(P.ti t).k.agg=false:=by simpa using ha
     simp only[ha,als,if_false]at hp;exact one y hp ha
  |_ =>
    simp only at hp;by_cases ha:(P.ti t).k.agg=true
    .simp[ha]at hp
    .have ha:(P.ti t).k.agg=false:=by simpa using ha
     simp only[ha,als,if_false]at hp;split at hp
     .rename_i h0;cases hp;subst h0;exact one _ rfl ha
     .cases hp
end
section
variable {P:Program}{B:Base}{β:Name->Option a8}{s:St}{tm:Array Value}{w:World}{t:Nat}
theorem Xd(_h:aj B β s tm w){b c0:Nat}{c:Array Value}{e:TypeId}{fz:Nat×Nat}(hb:w.heap[b]?=some (.cells c e fz)){cs:List AV}(hl:c.size=cs.length)(h1:∀v∈c,v.oneCell'=true)
  (hc:∀(j:Nat) x,cs[j]?=some x->VR w.heap (s.own B.A β) s.used s.hp β (c.getD j undef) x) :
  RV (xf (P.ti t) cs c0) fun y=>∃v,(loadVar t ⟨b,c0,none⟩).run P w=.ok v w∧VR w.heap (s.own B.A β) s.used s.hp β v y:=by
 unfold xf;by_cases hg:(P.ti t).k.dM=true
 .simp[hg,RV]
 .have hg:(P.ti t).k.dM=false:=by simpa using hg
  simp only[hg,als,if_false];by_cases ha:(P.ti t).k.agg=true
  .simp only[ha,if_true];split
   .rename_i hle;refine⟨_,Np hg ha hb (by omega),yX (by simp;omega) (fun v hv=>h1 v ?_) (fun i v x hv hx=>?_)⟩
    .have:=al5 (alL hv);simpa using this
    .rw[amb]at hv hx;split at hv
     .rename_i hlt;rw[if_pos hlt]at hx;rw[alY]at hv hx;have:=hc _ x hx
      have e1:c.getD (c0+i) undef=v:=by
       simp only[alM]at hv;simp[akZ,hv]
      rwa [e1]at this
     .cases hv
   .trivial
  .have ha:(P.ti t).k.agg=false:=by simpa using ha
   simp only[ha,als,if_false];refine RV.kA fun x hx=>?_;have hlt:c0<cs.length:=(akY.1 hx).1;exact⟨_,HZ hg ha hb (vv (z:=undef) (by omega)),hc c0 x hx⟩
theorem iE{w:W}{x:D}(h:okW w x):x.cells.length=wd w:=by
 cases w with
 |none=>cases x<;>first|rfl|simp[okW,D.bR]at h
 |some n=>cases x<;>first|exact h.1|exact h.elim
theorem Ev{w:W}{x:D}(h:okW w x):∀y∈x.cells,y.bR=true:=by
 cases w with
 |none=>cases x<;>first|simp[okW,D.bR]at h;done|(intro y hy;simp[D.cells]at hy;subst hy;rfl)
 |some n=>cases x<;>first|exact h.2|exact h.elim
theorem Nr(h:aj B β s tm w){xv:Value}{x:AV}(hx:VR w.heap (s.own B.A β) s.used s.hp β xv x) :
  RV (sK (P.ti t) s.hp x) fun y=>∃v,(Instr.loadAt t xv).run P w=.ok v w∧VR w.heap (s.own B.A β) s.used s.hp β v y:=by
 unfold sK;split
 .rename_i p c;split
  .rename_i ty cs hp
   cases hx with
   |bx _ _ _ _ _ hx =>
     obtain⟨k,hk,k6,rfl⟩:=hx ty cs hp;obtain⟨k',c',e,aC,_,hc,hz,hl,h1,hcs⟩:=(h.aJ p _ hp).2;rw[hk]at aC;cases aC;exact(Xd (P:=P) (t:=t) h hc hl h1 hcs (c0:=c)).mono fun y ⟨v,hr,hv⟩=>⟨v,by simpa[Instr.loadAt,Instr.sureAddr]using hr,hv⟩
  .trivial
 .rename_i p j c;split
  .rename_i wf xs hp
   cases hx with
   |el _ _ _ _ _ _ hx =>
     obtain⟨hj,k,hk,rfl⟩:=hx none wf xs hp;refine RV.kA fun y hy=>?_;simp only[ak8]at hy;obtain⟨d,hd,rfl⟩:=hy;rcases(h.aJ p _ hp).2 with⟨h0,rL⟩|⟨k',c',e,aC,hc,hz,hl,hw,hcs⟩
     .rw[rL]at hj;simp at hj
     .rw[hk]at aC;cases aC;have dj:xs[j]?=some (xs.getD j .aY):=by simp[akX,hj]
      have gj:xs.getD j .aY∈xs:=alp dj;have aW:=hw _ gj
      have hle:j*wd wf+wd wf<=xs.length*wd wf:=by
       have:=alz (wd wf) (anR hj);rwa [al8]at this
      obtain⟨v,hr,hv⟩:=Nq (P:=P) (t:=t) (own:=s.own B.A β) (w:=w) rfl hc (o:=k.o+j*wd wf) (c0:=c) (d:=xs.getD j .aY) (y:=d)
       (by rw[iE aW];omega) (Ev aW) (fun i x hi=>hcs j _ i x dj hi) hd
      exact⟨v,by simpa[Instr.loadAt,Instr.sureAddr]using hr,.d _ _ hv⟩
  .trivial
 .rename_i d;refine RV.kA fun y hy=>?_;simp only[ak8]at hy;obtain⟨d',hd,rfl⟩:=hy
  cases hx.cA with
  |ptr b o c e fz d hb hn hz dv hc =>
    obtain⟨v,hr,hv⟩:=Nq (P:=P) (t:=t) (own:=s.own B.A β) (w:=w) rfl hb (o:=o) (c0:=0) hz dv hc hd;exact⟨v,by simpa[Instr.loadAt,Instr.sureAddr]using hr,.d _ _ hv⟩
 .trivial
theorem Nt{t:Nat}(h:¬(P.ti t).sz=0):(P.ti t).k.dM=false:=by
 unfold Program.ti at h ⊢;split
 .rename_i i d _ _;cases d<;>rfl
 .rename_i aB;split at h
  .rename_i i d hi hd;exact absurd hd (aB i d hi)
  .simp at h
theorem H2{fs:List (Nat×Nat)}(hk:(P.ti t).k=.struct fs){f o tt:Nat}(hf:fs[f]?=some (o,tt))(hs:¬(P.ti tt).sz=0)(b c:Nat)(w:World) :
  (Instr.fieldAt t (.pointer (some ⟨b,c,none⟩)) f).run P w=.ok (.pointer (some ⟨b,c+o,none⟩)) w:=by
 obtain⟨fl,hu,rfl⟩:=Ba hk;simp only[ala,ak8,amd]at hf;obtain⟨fd,Bb,rfl,rfl⟩:=hf;have H3:fl[f]?=some fd:=by simpa using Bb
 simp[Instr.fieldAt,run_underlying hu,H3,Instr.sureAddr,fieldPlace,run_sizeOf (Nt hs),hs,nr]
theorem Xe{xv:Value}{x:AV}{f:Nat}(hx:VR w.heap (s.own B.A β) s.used s.hp β xv x) :
  RV (vm (P.ti t) P.ti s.hp x f) fun y=>∃v,(Instr.fieldAt t xv f).run P w=.ok v w∧VR w.heap (s.own B.A β) s.used s.hp β v y:=by
 unfold vm;split<;>try trivial
 rename_i fs hk;split<;>try trivial
 rename_i o tt hf;split<;>try trivial
 rename_i hs;split
 .rename_i p c;split<;>try trivial
  rename_i ty cs hp
  cases hx with
  |bx _ _ _ hn h1 hx =>
    obtain⟨k,aC,k6,rfl⟩:=hx _ _ hp;exact⟨_,H2 hk hf hs _ _ w,.bx _ _ _ hn rfl fun ty' cs' ae=>⟨k,aC,k6,rfl⟩⟩
 .rename_i p j c;split<;>try trivial
  rename_i wf xs hp
  cases hx with
  |el _ _ _ _ hn h1 hx =>
    obtain⟨hj,k,aC,rfl⟩:=hx _ _ _ hp;refine⟨_,H2 hk hf hs _ _ w,.el _ _ _ _ hn rfl fun ty' w' xs' ae=>?_⟩;rw[hp]at ae;cases ae;exact⟨hj,k,aC,by rw[amF]⟩
 .rename_i cs;refine RV.kA fun y hy=>?_;simp only[ak8]at hy;obtain⟨d,hd,rfl⟩:=hy
  cases hx.cA with
  |ptr b o' c e fz d' hb hn hz dv hc =>
    refine⟨_,H2 hk hf hs _ _ w,.d _ _ ?_⟩;simp only[D.cells]at hz dv hc;unfold rE at hd;split at hd
    .cases hd
    .simp only at hd;split at hd
     .split at hd
      .rename_i hle;cases hd;refine .ptr b (o'+o) c e fz _ hb hn (by simp[D.cells];omega) (fun x aR=>dv x (al5 (alL aR))) (fun i x hi=>?_);simp only[D.cells]at hi;rw[amb]at hi;split at hi
       .rw[alY]at hi;have:=hc _ x hi
        rwa [<-amF]at this
       .cases hi
      .cases hd
     .have hlt:o<cs.length:=(akY.1 hd).1;have rM:=dv d (alp hd);have e1:d.cells=[d]:=by cases d<;>first|rfl|simp[D.bR]at rM
      refine .ptr b (o'+o) c e fz d hb hn (by rw[e1];simp;omega) (by rw[e1];simpa using rM) (fun i x hi=>?_);rw[e1]at hi
      cases i with
      |zero=>simp at hi;subst hi;exact hc _ _ hd
      |succ i=>simp at hi
 .trivial
theorem H4{l e:Nat}(h:(P.ti t).k=.arr l e):P.underlying t=some (.array l e):=by
 obtain⟨i,d,_,hd,hk,_⟩:=rI (P:=P) (t:=t) (by rw[h];rfl);rw[h]at hk;rw[hd];cases d<;>simp[tk]at hk;rw[hk.1,hk.2]
theorem Xf{l e:Nat}(hk:(P.ti t).k=.arr l e)(hg:(P.ti e).k.dM=false)(b o:Nat)(kd:IntKind)(n:Int)(h0:0<=n)(h1:n<l)(w:World) :
  (Instr.indexAt t (.pointer (some ⟨b,o,none⟩)) (.int kd n)).run P w=.ok (.pointer (some ⟨b,o+n.toNat*(P.ti e).sz,none⟩)) w:=by
 have hu:=H4 hk;simp[Instr.indexAt,Instr.sureAddr,asIntOf,run_underlying hu,h0,h1,run_sizeOf hg,nr]
theorem H5{e:Nat}(hk:(P.ti t).k=.slice e)(hg:(P.ti e).k.dM=false)(b o:Nat)(len cap:Nat)(kd:IntKind)(n:Int)(h0:0<=n)(h1:n<len)(w:World) :
  (Instr.indexAt t (.slice (some ⟨b,o,none⟩) len cap) (.int kd n)).run P w=.ok (.pointer (some ⟨b,o+n.toNat*(P.ti e).sz,none⟩)) w:=by
 have hu:=k5 hk;simp[Instr.indexAt,asIntOf,run_underlying hu,h0,h1,run_sizeOf hg,nr]
theorem oC{i:TI}{w:W}(h:i.gD w=true):i.k.dM=false∧wd w=i.sz∧w=i.w:=by
 unfold TI.gD at h;simp only[ak7,alH]at h
 cases w with
 |none=>simp at h;exact⟨h.1,by simp[wd,h.2.2],by simp[TI.w,h.2.1]⟩
 |some n=>simp at h;exact⟨h.1,by simp[wd,h.2.2],by simp[TI.w,h.2.1,h.2.2]⟩
theorem Xg{xv jv:Value}{x j:AV}(hx:VR w.heap (s.own B.A β) s.used s.hp β xv x)(hj:VR w.heap (s.own B.A β) s.used s.hp β jv j) :
  RV (vn (P.ti t) P.ti s.hp x j) fun y=>∃v,(Instr.indexAt t xv jv).run P w=.ok v w∧VR w.heap (s.own B.A β) s.used s.hp β v y:=by
 unfold vn;split
 .rename_i e p o l kd n hk;split<;>try trivial
  rename_i wf xs hp;split<;>try trivial
  rename_i hw;obtain⟨hg,cW,_⟩:=oC hw;rintro⟨h0,h1⟩;obtain rfl:=hj.int
  cases hx with
  |vw _ _ _ _ hn bf hx =>
    obtain⟨hle,a,cap,rfl,aR⟩:=hx _ _ _ hp;obtain⟨rN,_⟩|⟨k,aC,rfl,eY,hz⟩:=aR
    .omega
    .refine⟨_,H5 hk hg _ _ _ _ _ n h0 h1 w,.el _ _ _ _ hn rfl fun ty' w' xs' ae=>?_⟩;rw[hp]at ae;cases ae;refine⟨by omega,k,aC,?_⟩;rw[cW,amf,amF];rfl
 .rename_i e wf xs kd n hk;split<;>try trivial
  rename_i hw;obtain⟨hg,cW,_⟩:=oC hw;rintro⟨h0,h1⟩;obtain rfl:=hj.int
  cases hx.cA with
  |kZ a cap _=>simp at h1;omega
  |sl b o cap c e' fz _ _ hb hn eY hz aW hc =>
    have hlt:n.toNat<xs.length:=by omega
    have dj:xs[n.toNat]?=some (xs.getD n.toNat .aY):=by simp[akX,hlt]
    have gj:xs.getD n.toNat .aY∈xs:=alp dj;have ho:=aW _ gj
    have hle:n.toNat*wd wf+wd wf<=xs.length*wd wf:=by
     have:=alz (wd wf) (anR hlt);rwa [al8]at this
    refine⟨_,H5 hk hg _ _ _ _ _ n h0 h1 w,.d _ _ (.ptr b _ c e' fz _ hb hn ?_ (Ev ho) fun i x hi=>?_)⟩
    .rw[iE ho,<-cW];omega
    .rw[<-cW];exact hc _ _ i x dj hi
 .rename_i l e p i c kd n hk;split<;>try trivial
  rename_i wf xs hp;split<;>try trivial
  rename_i hw;obtain⟨hw,rfl,hle,_⟩:=hw;obtain⟨hg,cW,_⟩:=oC hw;rintro⟨h0,h1⟩;obtain rfl:=hj.int
  cases hx with
  |el _ _ _ _ hn bf hx =>
    obtain⟨hlt,k,aC,rfl⟩:=hx _ _ _ hp;refine⟨_,Xf hk hg _ _ _ n h0 h1 w,.el _ _ _ _ hn rfl fun ty' w' xs' ae=>?_⟩;rw[hp]at ae;cases ae;refine⟨by omega,k,aC,?_⟩;rw[cW,amf,Nat.add_zero,Nat.add_zero,amF]
 .trivial
theorem Xh(l:List UInt8)(n:Nat)(h:n<l.length):(⟨l.toArray⟩:ByteArray)[n]?=some (l.getD n 0):=by
 have h2:n<(⟨l.toArray⟩:ByteArray).size:=by simpa[ByteArray.size]using h
 rw[ByteArray.getElem?_lt' _ _ h2];simp[ByteArray.getElem_eq_getElem_data,akX,h]
theorem Xi{xv jv:Value}{x j:AV}(hx:VR w.heap (s.own B.A β) s.used s.hp β xv x)(hj:VR w.heap (s.own B.A β) s.used s.hp β jv j) :
  RV (AP (P.ti t) x j) fun y=>∃v,(Instr.index t xv jv).run P w=.ok v w∧VR w.heap (s.own B.A β) s.used s.hp β v y:=by
 unfold AP;split
 .rename_i l kd n hk;rintro⟨h0,h1⟩;obtain rfl:=hj.int;obtain rfl:=hx.str;have dj:=Xh l n.toNat (by omega);exact⟨_,by simp[Instr.index,asIntOf,run_underlying (rJ hk),h0,dj],.d _ _ (.int _ _)⟩
 .trivial
theorem au.Nu{H:Array Obj}{own:Nat->Prop}{v:Value}{wf:W}{xs:List D}(h:au H own v (.sl wf xs)):∃a cap,v=.slice a xs.length cap∧xs.length<=cap ∧
  (xs≠[]->∃b o c e fz,a=some ⟨b,o,none⟩∧H[b]?=some (.cells c e fz)∧¬own b∧o+xs.length*wd wf<=c.size∧(∀x∈xs,okW wf x) ∧
   ∀i x j d,xs[i]?=some x->x.cells[j]?=some d->au H own (c.getD (o+i*wd wf+j) undef) d):=by
 cases h with
 |kZ a cap _=>exact⟨a,cap,rfl,ale _,fun h=>absurd rfl h⟩
 |sl b o cap c e fz _ _ hb hn eY hz aW hc=>exact⟨_,cap,rfl,eY,fun _=>⟨b,o,c,e,fz,rfl,hb,hn,hz,aW,hc⟩⟩
theorem vy{n m:Int}{xo:Option AV}{vo:Option Value}(hx:∀x,xo=some x->∃v,vo=some v∧VR w.heap (s.own B.A β) s.used s.hp β v x)(hn:xo=none->vo=none)(h:rG n xo=some m) :
  (vo=none∧m=n)∨∃k,vo=some (.int k m):=by
 unfold rG at h;split at h
 .cases h;exact .inl ⟨hn rfl,rfl⟩
 .cases h;obtain⟨v,rfl,hv⟩:=hx _ rfl;obtain rfl:=hv.int;exact .inr ⟨_,rfl⟩
 .cases h
theorem Nv(k:IntKind)(i:Int)(y:Nat)(code:BoundsCode)(h0:0<=i)(h1:i<=y)(w:World):(Instr.sliceBound (.int k i) y code).run P w=.ok i.toNat w:=by
 simp[Instr.sliceBound,asIntOf,h0,h1]
theorem Bc(isSlice:Bool)(len cap:Nat)(lo hi:Option Value)(a b:Int)(qA:(lo=none∧a=0)∨∃k,lo=some (.int k a))(yY:(hi=none∧b=len)∨∃k,hi=some (.int k b))
  (h0:0<=a) (h1:a<=b) (h2:b<=cap) (w:World):(Instr.sliceBounds isSlice len cap lo hi none).run P w=.ok (a.toNat,b.toNat,cap) w:=by
 have hb:∀k code,(Instr.sliceBound (.int k b) cap code).run P w=.ok b.toNat w:=fun k code=>Nv k b cap code (by omega) h2 w;have ha:∀k code,(Instr.sliceBound (.int k a) b.toNat code).run P w=.ok a.toNat w:=fun k code=>Nv k a _ code h0 (by omega) w;rcases qA with⟨rfl,rfl⟩|⟨k1,rfl⟩<;>rcases yY with⟨rfl,rfl⟩|⟨k2,rfl⟩<;>simp only[Instr.sliceBounds]
 .simp
 .simp[hb]
 .have:=ha k1;simp at this;simp[this]
 .simp[hb,ha]
theorem Xj(h:aj B β s tm w){xv:Value}{x:AV}{lo hi:Option AV}{xj xm:Option Value}(hx:VR w.heap (s.own B.A β) s.used s.hp β xv x)
  (qA:∀x,lo=some x->∃v,xj=some v∧VR w.heap (s.own B.A β) s.used s.hp β v x) (Bd:lo=none->xj=none)
  (yY:∀x,hi=some x->∃v,xm=some v∧VR w.heap (s.own B.A β) s.used s.hp β v x) (Be:hi=none->xm=none) :
  RV (vp (P.ti t) P.ti s.hp x lo hi) fun y=>∃v,(Instr.sliceAt t xv xj xm none).run P w=.ok v w∧VR w.heap (s.own B.A β) s.used s.hp β v y:=by
 unfold vp;split
 .rename_i l hk;split<;>try trivial
  rename_i a b ha hb;rintro⟨h0,h1,h2⟩;obtain rfl:=hx.str;have hu:=rJ hk;have hr:=Bc (P:=P) false l.length l.length xj xm a b (vy qA Bd ha) (vy yY Be hb) h0 h1 h2 w;refine⟨.string ⟨((l.drop a.toNat).take (b.toNat-a.toNat)).toArray⟩,?_,.d _ _ (.str _)⟩;have bj:(⟨l.toArray⟩:ByteArray).size=l.length:=by simp[ByteArray.size]
  simp only[Instr.sliceAt,Instr.slice,Sem.run_bind,run_underlying hu,Result.andThen_ok,Option.isSome_none,als,if_false,bj,hr,Sem.run_pure,ByteArray.extract_mk]
 .rename_i e wf xs hk;split<;>try trivial
  rename_i hw;obtain⟨hg,cW,_⟩:=oC hw;split<;>try trivial
  rename_i a b ha hb;rintro⟨h0,h1,h2⟩;have hu:=k5 hk;obtain⟨a0,cap,rfl,eY,hd⟩:=hx.cA.Nu;have hr:=Bc (P:=P) true xs.length cap xj xm a b (vy qA Bd ha) (vy yY Be hb) h0 h1 (by omega) w;refine⟨.slice (if cap=a.toNat then a0 else a0.map (·.add (a.toNat*(P.ti e).sz))) (b.toNat-a.toNat) (cap-a.toNat),?_,.d _ _ ?_⟩
  .simp[Instr.sliceAt,run_underlying hu,Instr.slice,hr,run_sizeOf hg]
  .have hlen:((xs.drop a.toNat).take (b.toNat-a.toNat)).length=b.toNat-a.toNat:=by simp;omega
   by_cases xn:b.toNat-a.toNat=0
   .have:(xs.drop a.toNat).take (b.toNat-a.toNat)=[]:=by rw[xn];simp
    rw[this,xn];exact .kZ _ _ _
   .have aB:cap≠a.toNat:=by omega
    rw[if_neg aB];obtain⟨b',o,c,e',fz,rfl,eI,hn,hz,aW,hc⟩:=hd (by rintro rfl;simp at h2;omega)
    have hle:a.toNat*wd wf+(b.toNat-a.toNat)*wd wf<=xs.length*wd wf:=by
     rw[<-amf];exact alz _ (by omega)
    have e1:(some (⟨b',o,none⟩:Addr)).map (·.add (a.toNat*(P.ti e).sz))=some ⟨b',o+a.toNat*wd wf,none⟩:=by simp[nr,cW]
    rw[e1]
    have:=au.sl (H:=w.heap) (own:=s.own B.A β) b' (o+a.toNat*wd wf) (cap-a.toNat) c e' fz wf ((xs.drop a.toNat).take (b.toNat-a.toNat)) eI hn (by rw[hlen];omega)
     (by rw[hlen];omega) (fun x aR=>aW x (al5 (alL aR))) (fun i x j d hi hj=>by
      rw[amb]at hi;split at hi
      .rw[alY]at hi;have:=hc _ x j d hi hj
       rwa [show o+a.toNat*wd wf+i*wd wf+j=o+(a.toNat+i)*wd wf+j by rw[amf];omega]
      .cases hi)
    rwa [hlen]at this
 .rename_i e p off n hk;split<;>try trivial
  rename_i wf xs hp;split<;>try trivial
  rename_i hw;obtain⟨hg,cW,_⟩:=oC hw;split<;>try trivial
  rename_i a b ha hb;rintro⟨h0,h1,h2⟩;have hu:=k5 hk
  cases hx with
  |vw _ _ _ _ hn bf hx =>
    obtain⟨hle,a0,cap,rfl,aR⟩:=hx _ _ _ hp
    have eY:n<=cap:=by
     obtain⟨rfl,rfl⟩|⟨k,_,_,h,_⟩:=aR
     .exact ali _
     .exact h
    have hr:=Bc (P:=P) true n cap xj xm a b (vy qA Bd ha) (vy yY Be hb) h0 h1 (by omega) w;refine⟨.slice (if cap=a.toNat then a0 else a0.map (·.add (a.toNat*(P.ti e).sz))) (b.toNat-a.toNat) (cap-a.toNat),?_,.vw _ _ _ _ hn rfl fun ty' w' xs' ae=>?_⟩
    .simp[Instr.sliceAt,run_underlying hu,Instr.slice,hr,run_sizeOf hg]
    .rw[hp]at ae;cases ae;refine⟨by omega,_,_,rfl,?_⟩;by_cases vz:cap=a.toNat
     .exact .inl ⟨by omega,by omega⟩
     .rw[if_neg vz];obtain⟨rfl,rfl⟩|⟨k,aC,rfl,h3,h4⟩:=aR
      .exact absurd (by omega) vz
      .refine .inr ⟨k,aC,?_,by omega,?_⟩
       .simp[nr,cW,amf];omega
       .rw[show off+a.toNat+(cap-a.toNat)=off+cap by omega];exact h4
 .rename_i e hk;split<;>try trivial
  rename_i hg;have hg:(P.ti e).k.dM=false:=by simpa using hg
  split<;>try trivial
  rename_i a b ha hb;rintro⟨rfl,rfl⟩;obtain rfl:=hx.ao;have hr:=Bc (P:=P) true 0 0 xj xm 0 0 (vy qA Bd ha) (vy yY Be hb) (by omega) (by omega) (by omega) w;exact⟨.slice none 0 0,by simp[Instr.sliceAt,run_underlying (k5 hk),Instr.slice,hr,run_sizeOf hg],.d _ _ .ao⟩
 .rename_i l e p i c hk;split<;>try trivial
  rename_i wf xs hp;split<;>try trivial
  rename_i hw;obtain⟨hw,rfl,hle⟩:=hw;obtain⟨hg,cW,_⟩:=oC hw;obtain rfl:=Bd rfl;obtain rfl:=Be rfl
  cases hx with
  |el _ _ _ _ hn bf hx =>
    obtain⟨hlt,k,aC,rfl⟩:=hx _ _ _ hp;have hu:=H4 hk;have hr:=Bc (P:=P) false l l none none 0 l (.inl ⟨rfl,rfl⟩) (.inl ⟨rfl,rfl⟩) (by omega) (by omega) (by omega) w;refine⟨.slice (some (if l=0 then(⟨k.b,k.o+i*wd wf+0,none⟩:Addr)else Addr.add ⟨k.b,k.o+i*wd wf+0,none⟩ (0*(P.ti e).sz))) (l-0) (l-0),?_,.vw _ _ _ _ hn rfl fun ty' w' xs' ae=>?_⟩
    .simp[Instr.sliceAt,Instr.sureAddr,run_underlying hu,hr,run_sizeOf hg]
    .rw[hp]at ae;cases ae;refine⟨hle,_,l,rfl,.inr ⟨k,aC,?_,ali _,?_⟩⟩
     .split<;>simp[nr]
     .rcases(h.aJ p _ hp).2 with⟨h1,_⟩|⟨k',c',e',h1,_,_,h4,_⟩
      .rw[aC]at h1;cases h1
      .rw[aC]at h1;cases h1;have:=alz (wd wf) hle;omega
 .trivial
end
end Go.Ab
namespace Go.Ab
section
variable {P:Program}{B:Base}{β:Name->Option a8}{s:St}{tm:Array Value}{w:World}{t:Nat}
theorem Xk(op:BinOp)(t:TypeId)(x y:Operand)(a b:Value)(h:(∃k n,a=.int k n)∨(∃l,a=.string l)∨(∃l,a=.bool l)):eqGuard op t x y a b=pure ():=by
 obtain⟨k,n,rfl⟩|⟨l,rfl⟩|⟨l,rfl⟩:=h
 .exact eqGuard_at_int ..
 .exact eqGuard_at_string ..
 .exact eqGuard_at_bool ..
theorem H6(h:(P.ti t).k.isBool=true):P.underlying t=some .bool:=by
 unfold Program.ti at h;split at h
 .rename_i d _ hd;cases d<;>simp[tk,TK.isBool]at h;exact hd
 .simp[TK.isBool]at h
theorem Xl(i j:IntKind)(a b:Int)(h:0<=b):(binOp .shl t (.int i a) (.int j b)).run P w=.ok (.int i (i.wrap (a*2 ^ min b.toNat i.bits))) w:=by
 show(Op.shift .shl i a j b).run P w=_;unfold Op.shift;rw[if_neg (by omega)];rfl
theorem Xm(i j:IntKind)(a b:Int)(h:0<=b):(binOp .shr t (.int i a) (.int j b)).run P w=.ok (.int i (a.fdiv (2 ^ min b.toNat i.bits))) w:=by
 show(Op.shift .shr i a j b).run P w=_;unfold Op.shift;rw[if_neg (by omega)];rfl
theorem Xn{op:BinOp}{x y:D}{xv yv:Value}(H:Array Obj)(own:Nat->Prop)(hx:au H own xv x)(hy:au H own yv y)(t:TypeId)(xo yo:Operand) :
  RV (En (P.ti t).k op x y) fun d=>∃v,(do eqGuard op t xo yo xv yv;binOp op t xv yv:Sem Value).run P w=.ok v w∧au H own v d:=by
 have go:∀(d:D) (v:Value),((∃k n,xv=.int k n)∨(∃l,xv=.string l)∨(∃l,xv=.bool l))->(binOp op t xv yv).run P w=.ok v w->au H own v d ->
   ∃v,(do eqGuard op t xo yo xv yv;binOp op t xv yv:Sem Value).run P w=.ok v w∧au H own v d:=fun d v hg hr hv=>by
  refine⟨v,?_,hv⟩;rw[Xk op t xo yo xv yv hg];simpa using hr
 unfold En;split<;>try trivial
 all_goals first
  |(split<;>try trivial
    rename_i hk;subst hk;cases hx;cases hy
    refine go _ _ (.inl ⟨_,_,rfl⟩) (by simp[binOp,Op.intArith,Op.intCmp];rfl) (by constructor))
  |(split<;>try trivial
    rename_i hk;subst hk;cases hx;cases hy
    refine go _ _ (.inl ⟨_,_,rfl⟩) (by simp[binOp,Op.intBits,AQ];rfl) (by constructor))
  |(split<;>try trivial
    rename_i hk;have hu:=H6 hk;cases hx;cases hy
    refine go _ _ (.inr (.inr ⟨_,rfl⟩)) (by simp[binOp,run_equal_bool _ _ _ _ hu];rfl) (by constructor))
  |(split<;>try trivial
    rename_i hk;subst hk;intro h0;cases hx;cases hy
    refine go _ _ (.inl ⟨_,_,rfl⟩) (by simp[binOp,Op.intDiv,h0];rfl) (by constructor))
  |(cases hx;cases hy
    refine go _ _ (.inr (.inl ⟨_,rfl⟩)) (by simp only[binOp,Op.stringOp,ByteArray.toList_mk,Sem.run_pure];rfl) (by constructor))
  |skip
 .intro h0;cases hx;cases hy;exact go _ _ (.inl ⟨_,_,rfl⟩) (Xl _ _ _ _ h0) (by constructor)
 .intro h0;cases hx;cases hy;exact go _ _ (.inl ⟨_,_,rfl⟩) (Xm _ _ _ _ h0) (by constructor)
 .intro h0;cases hx;cases hy;rename_i a b;refine go _ (.string ⟨(a++b).toArray⟩) (.inr (.inl ⟨_,rfl⟩)) ?_ (by constructor)
  have bj:¬((((⟨a.toArray⟩:ByteArray).size+(⟨b.toArray⟩:ByteArray).size:Nat):Int) > IntKind.i64.max):=by
   simp[ByteArray.size,IntKind.max_i64];omega
  simp only[binOp,Op.stringOp,if_neg bj,Sem.run_pure,ByteArray.mk_append_mk]
theorem Xo{op:BinOp}{x y:AV}{xv yv:Value}(hx:VR w.heap (s.own B.A β) s.used s.hp β xv x)(hy:VR w.heap (s.own B.A β) s.used s.hp β yv y)(xo yo:Operand) :
  RV (AR (P.ti t).k op x y) fun z=>∃v,(do eqGuard op t xo yo xv yv;binOp op t xv yv:Sem Value).run P w=.ok v w∧VR w.heap (s.own B.A β) s.used s.hp β v z:=by
 unfold AR;split<;>try trivial
 exact RV.bind (fun d ⟨v,hr,hv⟩=>⟨v,hr,.d _ _ hv⟩) (Xn w.heap (s.own B.A β) hx.cA hy.cA t xo yo)
theorem Xp{op:UnOp}{x:AV}{xv:Value}(hx:VR w.heap (s.own B.A β) s.used s.hp β xv x) :
  RV (AU op x) fun z=>∃v,(Op.unary op xv).run P w=.ok v w∧VR w.heap (s.own B.A β) s.used s.hp β v z:=by
 unfold AU;split<;>try trivial
 .obtain rfl:=hx.bool;exact⟨_,by simp[Op.unary],.d _ _ (.bool _)⟩
 .obtain rfl:=hx.int;exact⟨_,by simp[Op.unary,Op.intArith],.d _ _ (.int _ _)⟩
theorem Xq{c x y:AV}{cv xv yv:Value}(hc:VR w.heap (s.own B.A β) s.used s.hp β cv c)(hx:VR w.heap (s.own B.A β) s.used s.hp β xv x)(hy:VR w.heap (s.own B.A β) s.used s.hp β yv y) :
  RV (ui c x y) fun z=>∃v,(do pure (.value (if<-asBool cv then xv else yv)):Sem Next).run P w=.ok (.value v) w∧VR w.heap (s.own B.A β) s.used s.hp β v z:=by
 unfold ui;split<;>try trivial
 .obtain rfl:=hc.bool;exact⟨_,by simp[asBool],hx⟩
 .obtain rfl:=hc.bool;exact⟨_,by simp[asBool],hy⟩
theorem Xr(h:aj B β s tm w){x:AV}{xv:Value}(hx:VR w.heap (s.own B.A β) s.used s.hp β xv x){i:TI}(hi:i=P.ti t)(ty:TypeId) :
  RV (vq i s.hp x) fun z=>∃v,(Builtin.len_ #[t] ty #[xv]).run P w=.ok v w∧VR w.heap (s.own B.A β) s.used s.hp β v z:=by
 subst hi;unfold vq;split
 .rename_i l hk;obtain rfl:=hx.str;have bj:(⟨l.toArray⟩:ByteArray).size=l.length:=by simp[ByteArray.size]
  exact⟨.int .i64 l.length,by simp[Builtin.len_,run_underlying (rJ hk),goInt,bj],.d _ _ (.int _ _)⟩
 .rename_i e wf xs hk;obtain⟨a,cap,rfl,_⟩:=hx.cA.Nu;exact⟨_,by simp[Builtin.len_,run_underlying (k5 hk),goInt],.d _ _ (.int _ _)⟩
 .rename_i e hk;obtain rfl:=hx.ao;exact⟨_,by simp[Builtin.len_,run_underlying (k5 hk),goInt],.d _ _ (.int _ _)⟩
 .rename_i e p o l hk;split<;>try trivial
  rename_i wf xs hp
  cases hx with
  |vw _ _ _ _ hn bf hx =>
    obtain⟨hle,a0,cap,rfl,aR⟩:=hx _ _ _ hp;exact⟨_,by simp[Builtin.len_,run_underlying (k5 hk),goInt],.d _ _ (.int _ _)⟩
 .rename_i a b p hk;split<;>try trivial
  rename_i es hp
  cases hx with
  |mp _ _ hn h1 hx =>
    obtain⟨k,aC,rfl⟩:=hx _ hp;obtain⟨k',aE,clock,qC,hb,hz,_⟩:=(h.aJ p _ hp).2;rw[aC]at qC;cases qC;refine⟨_,?_,.d _ _ (.int .i64 es.length)⟩;simp[Builtin.len_,run_underlying (mg hk),goInt,getObj,Sem.run,hb,hz]
 .trivial
theorem Xt{x y:AV}{xv yv:Value}(hx:VR w.heap (s.own B.A β) s.used s.hp β xv x)(hy:VR w.heap (s.own B.A β) s.used s.hp β yv y)(ts:Array TypeId)(ty:TypeId) :
  RV (AX x y) fun z=>∃v,(Builtin.max_ ts ty #[xv,yv]).run P w=.ok v w∧VR w.heap (s.own B.A β) s.used s.hp β v z:=by
 unfold AX;split<;>try trivial
 split<;>try trivial
 obtain rfl:=hx.int;obtain rfl:=hy.int;exact⟨_,by simp[Builtin.max_,Builtin.max2],.d _ _ (.int _ _)⟩
theorem Xu{x y:AV}{xv yv:Value}(hx:VR w.heap (s.own B.A β) s.used s.hp β xv x)(hy:VR w.heap (s.own B.A β) s.used s.hp β yv y)(ts:Array TypeId)(ty:TypeId) :
  RV (AY x y) fun z=>∃v,(Builtin.min_ ts ty #[xv,yv]).run P w=.ok v w∧VR w.heap (s.own B.A β) s.used s.hp β v z:=by
 unfold AY;split<;>try trivial
 split<;>try trivial
 obtain rfl:=hx.int;obtain rfl:=hy.int;exact⟨_,by simp[Builtin.min_,Builtin.min2],.d _ _ (.int _ _)⟩
theorem Xv{t':Nat}{x:AV}{xv:Value}(hx:VR w.heap (s.own B.A β) s.used s.hp β xv x) :
  RV (AZ (P.ti t) (P.ti t') x) fun z=>∃v,(convert t t' xv).run P w=.ok v w∧VR w.heap (s.own B.A β) s.used s.hp β v z:=by
 unfold AZ;split<;>try trivial
 .rename_i k1 k2 j n nw eZ;obtain rfl:=hx.int;exact⟨_,by simp[convert,run_underlying (rK nw),run_underlying (rK eZ),Conv.intToInt],.d _ _ (.int _ _)⟩
 .rename_i l nw eZ;obtain rfl:=hx.str;exact⟨_,by simp[convert,run_underlying (rJ nw),run_underlying (rJ eZ)],.d _ _ (.str _)⟩
theorem Xw{x:AV}{xv:Value}(hx:VR w.heap (s.own B.A β) s.used s.hp β xv x)(i:Nat) :
  RV (A1 x i) fun z=>∃v,(Instr.extract xv i).run P w=.ok v w∧VR w.heap (s.own B.A β) s.used s.hp β v z:=by
 unfold A1;split<;>try trivial
 rename_i vs;refine RV.kA fun y hy=>?_
 cases hx with
 |az xs _ hs h =>
   have hlt:i<xs.size:=by rw[hs];exact(akY.1 hy).1
   have:=h i y hy;refine⟨_,?_,this⟩;simp[Instr.extract,al6 hlt,akZ]
theorem Xx{B:Base}{x:AV}{xv:Value}(hx:VR w.heap (s.own B.A β) s.used s.hp β xv x) :
  RV (AW s.hp x) fun z=>(∃a,xv=.pointer (some a))∧VR w.heap (s.own B.A β) s.used s.hp β xv z:=by
 unfold AW;split<;>try trivial
 split<;>try trivial
 rename_i p c ty cs hp
 cases hx with
 |bx _ _ _ hu h1 h =>
   obtain⟨k,_,_,rfl⟩:=h ty cs hp;exact⟨⟨_,rfl⟩,.bx _ _ _ hu h1 h⟩
theorem Xy{fn:Fn}{first:Array Operand}{aG:List AV}{cvs:Array Value}{ρ:Operand->Value}(hs:cvs.size=aG.length)
  (h:∀(i:Nat) x,aG[i]?=some x->VR w.heap (s.own B.A β) s.used s.hp β (cvs.getD i undef) x) :
  RV (A5 fn first.toList aG) fun z=>∃v,(Instr.makeFunc fn (first.map ρ) cvs).run P w=.ok v w∧VR w.heap (s.own B.A β) s.used s.hp β v z:=by
 unfold A5;split<;>try trivial
 rename_i f hf;have:first=#[]:=by simpa using hf
 subst this;exact⟨_,by simp[Instr.makeFunc],.aH f cvs aG hs h⟩
theorem Bg(hg:(P.ti t).k.dM=false)(ha:(P.ti t).k.agg=true)(cs:Array Value)(o:Nat):(part t cs o).run P w=.ok (.agg (cs.extract o (o+(P.ti t).sz))) w:=by
 simp[part,Es hg,ha,run_sizeOf hg]
theorem uk(hg:(P.ti t).k.dM=false)(ha:(P.ti t).k.agg=false)(cs:Array Value)(o:Nat)(v:Value)(h:cs[o]?=some v):(part t cs o).run P w=.ok v w:=by
 simp[part,Es hg,ha,h]
theorem extract_toArray(c:Array Value)(o z:Nat):c.extract o (o+z)=((c.toList.drop o).take z).toArray:=by
 apply ani;simp[List.extract_eq_take_drop]
theorem Xz{H:Array Obj}{own:Nat->Prop}{v:Value}{d y:D}{c0:Nat}(hd:∃cs,d=.agg cs)(h:au H own v d)(hp:rE (P.ti t) d c0=some y) :
  ∃c u,v=.agg c∧(part t c c0).run P w=.ok u w∧au H own u y:=by
 obtain⟨cs,rfl⟩:=hd
 cases h with
 |agg vs _ hs dv h =>
   unfold rE at hp;by_cases hg:(P.ti t).k.dM=true
   .simp[hg]at hp
   .have hg:(P.ti t).k.dM=false:=by simpa using hg
    simp only[hg,als,if_false]at hp;by_cases ha:(P.ti t).k.agg=true
    .simp only[ha,if_true]at hp;split at hp
     .rename_i hle;cases hp;refine⟨vs,_,rfl,Bg hg ha vs c0,?_⟩;rw[extract_toArray];refine .agg _ _ (by simp;omega) (fun x hx=>dv x (al5 (alL hx))) (fun i x hi=>?_);rw[amb]at hi;split at hi
      .rename_i hlt;rw[alY]at hi;have:=h (c0+i) x hi
       have e1:((vs.toList.drop c0).take (P.ti t).sz).toArray.getD i undef=vs.getD (c0+i) undef:=by
        simp[akZ,hlt]
       rw[e1];exact this
      .cases hi
     .cases hp
    .have ha:(P.ti t).k.agg=false:=by simpa using ha
     simp only[ha,als,if_false]at hp;have hlt:c0<vs.size:=by rw[hs];exact(akY.1 hp).1
     exact⟨vs,_,rfl,uk hg ha vs c0 _ (vv (z:=undef) hlt),h c0 y hp⟩
theorem XA{xv:Value}{x:AV}{f:Nat}(hx:VR w.heap (s.own B.A β) s.used s.hp β xv x) :
  RV (AO (P.ti t) P.ti x f) fun y=>∃v,(Instr.field t xv f).run P w=.ok v w∧VR w.heap (s.own B.A β) s.used s.hp β v y:=by
 unfold AO;split<;>try trivial
 rename_i fs hk;split<;>try trivial
 rename_i o tt hf;obtain⟨fl,hu,rfl⟩:=Ba hk;simp only[ala,ak8,amd]at hf;obtain⟨fd,Bb,rfl,rfl⟩:=hf;have H3:fl[f]?=some fd:=by simpa using Bb
 have aF:∀(c:Array Value) (u:Value),(part fd.type c fd.offset).run P w=.ok u w->(Instr.field t (.agg c) f).run P w=.ok u w:=fun c u hr=>by
  simp[Instr.field,run_underlying hu,H3,asAgg,hr]
 split
 .rename_i cs;refine RV.kA fun y hy=>?_;simp only[ak8]at hy;obtain⟨d,hd,rfl⟩:=hy;obtain⟨c,u,rfl,hr,hv⟩:=Xz (P:=P) (w:=w) ⟨cs,rfl⟩ hx.cA hd;exact⟨u,aF c u hr,.d _ _ hv⟩
 .rename_i cs
  cases hx with
  |agg vs _ hs h1 h =>
    unfold xf;by_cases hg:(P.ti fd.type).k.dM=true
    .simp[hg,RV]
    .have hg:(P.ti fd.type).k.dM=false:=by simpa using hg
     simp only[hg,als,if_false];by_cases ha:(P.ti fd.type).k.agg=true
     .simp only[ha,if_true];split
      .rename_i hle;refine⟨_,aF _ _ (Bg hg ha vs fd.offset),?_⟩;rw[extract_toArray];refine yX (by simp;omega) (fun v hv=>h1 v ?_) (fun i v x hv hx=>?_)
       .have:=al5 (alL hv);simpa using this
       .rw[amb]at hv hx;split at hv
        .rename_i hlt;rw[if_pos hlt]at hx;rw[alY]at hv hx;have:=h _ x hx
         have e1:vs.getD (fd.offset+i) undef=v:=by
          simp only[alM]at hv;simp[akZ,hv]
         rwa [e1]at this
        .cases hv
      .trivial
     .have ha:(P.ti fd.type).k.agg=false:=by simpa using ha
      simp only[ha,als,if_false];refine RV.kA fun x hx=>?_;have hlt:fd.offset<vs.size:=by rw[hs];exact(akY.1 hx).1
      exact⟨_,aF _ _ (uk hg ha vs fd.offset _ (vv (z:=undef) hlt)),h _ x hx⟩
 .trivial
end
end Go.Ab
namespace Go.Ab
section
variable {P:Program}{B:Base}{β:Name->Option a8}{s:St}{tm:Array Value}{w:World}{t:Nat}
theorem iU{used:List Nat}{p:Name}(h:nm used p)(ht:t∉used):p≠[t]:=by
 obtain⟨a,l,rfl,ha⟩:=h;intro e;simp at e;exact ht (e.1▸ha)
theorem aj.renew(h:aj B β s tm w)(ht:t∉s.used){p:Name}{ob:Ob}{k:a8}(hp:s.hp p=some ob)(hk:β p=some k)(ty:Option Nat)(wf:W)(xs:List D)(o':Nat){w':World}(eP:dH w'=dH w)(bj:w'.heap.size=w.heap.size)
  (hw:∀b,b≠k.b->w'.heap[b]?=w.heap[b]?)
  (hO:(∀v d,au w.heap (s.own B.A β) v d->au w'.heap (s.own B.A β) v d) ->
   ∃c e,w'.heap[k.b]?=some (.cells c (ty.getD e) (0,0))∧c.size=k.z∧o'+xs.length*wd wf<=k.z∧(∀x∈xs,okW wf x) ∧
    ∀i x j d,xs[i]?=some x->x.cells[j]?=some d->au w'.heap (s.own B.A β) (c.getD (o'+i*wd wf+j) undef) d) :
  aj B (aA β [t] (some ⟨k.b,o',k.z⟩)) ((s.set p none).add t (.bB ty wf xs)) tm w':=by
 obtain⟨β',hβ'⟩:∃β',aA β [t] (some ⟨k.b,o',k.z⟩)=β':=⟨_,rfl⟩
 obtain⟨s',bm⟩:∃s',(s.set p none).add t (.bB ty wf xs)=s':=⟨_,rfl⟩
 have fC:β' [t]=some ⟨k.b,o',k.z⟩:=by rw[<-hβ'];simp[aA]
 have hold:∀q,q≠[t]->β' q=β q:=fun q hq=>by rw[<-hβ'];simp[aA,hq]
 have ib:=iU (h.aJ p ob hp).1 ht;have Bh:s'.hp [t]=some (.bB ty wf xs):=by rw[<-bm];simp[St.add,aA]
 have dJ:s'.hp p=none:=by rw[<-bm];simp[St.add,St.set,aA,ib]
 have gl:∀q,q≠[t]->q≠p->s'.hp q=s.hp q:=fun q h1 h2=>by rw[<-bm];simp[St.add,St.set,aA,h1,h2]
 have rO:s'.used=t::s.used:=by rw[<-bm];rfl
 have oD:s'.fr=s.fr:=by rw[<-bm];rfl
 have pN:s.hp p≠none:=by rw[hp];simp
 have eH:s'.own B.A β'=s.own B.A β:=by
  funext b;refine propext (or_congr_right ⟨?_,?_⟩)
  .rintro⟨q,l,hq,hl,rfl⟩;by_cases e1:q=[t]
   .subst e1;rw[fC]at hl;cases hl;exact⟨p,k,pN,hk,rfl⟩
   .by_cases e2:q=p
    .subst e2;exact absurd dJ hq
    .rw[hold q e1]at hl;rw[gl q e1 e2]at hq;exact⟨q,l,hq,hl,rfl⟩
  .rintro⟨q,l,hq,hl,rfl⟩;by_cases e2:q=p
   .subst e2;rw[hk]at hl;cases hl;exact⟨[t],_,by rw[Bh];simp,fC,rfl⟩
   .cases ho:s.hp q with
    |none=>exact absurd ho hq
    |some o =>
      have e1:=iU (h.aJ q o ho).1 ht;exact⟨q,l,by rw[gl q e1 e2];exact hq,by rw[hold q e1];exact hl,rfl⟩
 have hr:∀v d,au w.heap (s.own B.A β) v d->au w'.heap (s.own B.A β) v d:=fun v d hd=>hd.mono (fun b hb _=>hw b fun e=>hb (.inr ⟨p,k,pN,hk,e.symm⟩)) (fun _ _ h=>h)
 have ag:∀q,nm s.used q->iQ s.hp s'.hp β β' q:=by
  intro q hq o ho;have e1:=iU hq ht;have e2:q≠p:=by rintro rfl;rw[dJ]at ho;cases ho
  exact⟨o,by rwa [gl q e1 e2]at ho,Ob.k4 _,hold q e1⟩
 have hu:∀x∈s.used,x∈s'.used:=fun x hx=>by rw[rO];exact ald _ hx
 rw[hβ',bm];refine { bG:=h.bG,io:=eP.trans h.io,size:=by rw[bj];exact h.size,frame:=?_,slots:=fun i=>?_,aJ:=?_,blocks:=?_,inj:=?_,us:=fun x hx=>hu x (h.us x hx), stay:=fun p hp=>(hold p (iU (hp.mono h.us) ht)).trans (h.stay p hp) }
 .intro b hb hn;rw[hw b ?_]
  .exact h.frame b hb hn
  .rintro rfl;rcases(h.blocks p k pN hk).2.2 with h3|h3
   .omega
   .exact hn h3
 .rw[eH,oD];exact(h.slots i).mono hr hu ag
 .intro q o ho;rw[eH];by_cases e1:q=[t]
  .subst e1;rw[Bh]at ho;cases ho;obtain⟨c,e,h1,h2,h3,h4,h5⟩:=hO hr;exact⟨⟨t,[],rfl,by rw[rO];exact alb⟩,.inr ⟨_,c,e,fC,h1,h2,h3,h4,h5⟩⟩
  .have e2:q≠p:=by rintro rfl;rw[dJ]at ho;cases ho
   rw[gl q e1 e2]at ho;obtain⟨h1,h2⟩:=h.aJ q o ho;refine⟨h1.mono hu,h2.mono hr hu ag (hold q e1) fun l hl=>hw l.b fun e=>?_⟩;exact e2 (h.inj q p l k (by rw[ho];simp) pN hl hk e)
 .intro q l hq hl;rw[bj];by_cases e1:q=[t]
  .subst e1;rw[fC]at hl;cases hl;exact h.blocks p k pN hk
  .have e2:q≠p:=by rintro rfl;exact hq dJ
   rw[hold q e1]at hl;rw[gl q e1 e2]at hq;exact h.blocks q l hq hl
 .intro q q' l l' hq bX hl jO e
  have key:∀q l,s'.hp q≠none->β' q=some l->∃r,(q=[t]∧r=p∨q≠[t]∧r=q∧q≠p)∧s.hp r≠none∧∃m,β r=some m∧m.b=l.b:=by
   intro q l hq hl;by_cases e1:q=[t]
   .subst e1;rw[fC]at hl;cases hl;exact⟨p,.inl ⟨rfl,rfl⟩,pN,k,hk,rfl⟩
   .have e2:q≠p:=by rintro rfl;exact hq dJ
    rw[hold q e1]at hl;rw[gl q e1 e2]at hq;exact⟨q,.inr ⟨e1,rfl,e2⟩,hq,l,hl,rfl⟩
  obtain⟨r,h1,h2,m,h3,h4⟩:=key q l hq hl;obtain⟨r',g1,g2,m',g3,g4⟩:=key q' l' bX jO;have:r=r':=h.inj r r' m m' h2 g2 h3 g3 (by rw[h4,g4,e]);rcases h1 with⟨rfl,rfl⟩|⟨h1,rfl,h5⟩<;>obtain⟨rfl,rfl⟩|⟨g1,rfl,g5⟩:=g1
  .rfl
  .exact absurd this.symm g5
  .exact absurd this h5
  .exact this
theorem aj.sM(h:aj B β s tm w)(ht:t∉s.used)(ty:Option Nat)(wf:W):aj B (aA β [t] none) (s.add t (.bB ty wf [])) tm w:=by
 have hold:∀q,q≠[t]->aA β [t] none q=β q:=fun q hq=>by simp[aA,hq]
 have fC:aA β [t] none [t]=none:=by simp[aA]
 have gl:∀q,q≠[t]->(s.add t (.bB ty wf [])).hp q=s.hp q:=fun q h1=>by simp[St.add,aA,h1]
 have eH:(s.add t (.bB ty wf [])).own B.A (aA β [t] none)=s.own B.A β:=by
  funext b;refine propext (or_congr_right ⟨?_,?_⟩)
  .rintro⟨q,l,hq,hl,rfl⟩;by_cases e1:q=[t]
   .subst e1;rw[fC]at hl;cases hl
   .rw[hold q e1]at hl;rw[gl q e1]at hq;exact⟨q,l,hq,hl,rfl⟩
  .rintro⟨q,l,hq,hl,rfl⟩
   cases ho:s.hp q with
   |none=>exact absurd ho hq
   |some o =>
     have e1:=iU (h.aJ q o ho).1 ht;exact⟨q,l,by rw[gl q e1];exact hq,by rw[hold q e1];exact hl,rfl⟩
 have ag:∀q,nm s.used q->iQ s.hp (s.add t (.bB ty wf [])).hp β (aA β [t] none) q:=by
  intro q hq o ho;have e1:=iU hq ht;exact⟨o,by rwa [gl q e1]at ho,Ob.k4 _,hold q e1⟩
 have hu:∀x∈s.used,x∈(s.add t (.bB ty wf [])).used:=fun x hx=>ald _ hx;refine { bG:=h.bG,io:=h.io,size:=h.size,frame:=h.frame,slots:=fun i=>?_,aJ:=?_,blocks:=?_,inj:=?_,us:=fun x hx=>hu x (h.us x hx), stay:=fun p hp=>(hold p (iU (hp.mono h.us) ht)).trans (h.stay p hp) }
 .rw[eH];exact(h.slots i).mono (fun _ _ h=>h) hu ag
 .intro q o ho;rw[eH];by_cases e1:q=[t]
  .subst e1;have:o=.bB ty wf []:=by simpa[St.add,aA]using ho.symm
   subst this;exact⟨⟨t,[],rfl,alb⟩,.inl ⟨fC,rfl⟩⟩
  .rw[gl q e1]at ho;obtain⟨h1,h2⟩:=h.aJ q o ho;exact⟨h1.mono hu,h2.mono (fun _ _ h=>h) hu ag (hold q e1) fun _ _=>rfl⟩
 .intro q l hq hl;by_cases e1:q=[t]
  .subst e1;rw[fC]at hl;cases hl
  .rw[hold q e1]at hl;rw[gl q e1]at hq;exact h.blocks q l hq hl
 .intro q q' l l' hq bX hl jO e;by_cases e1:q=[t]
  .subst e1;rw[fC]at hl;cases hl
  .by_cases e2:q'=[t]
   .subst e2;rw[fC]at jO;cases jO
   .rw[hold q e1]at hl;rw[gl q e1]at hq;rw[hold q' e2]at jO;rw[gl q' e2]at bX;exact h.inj q q' l l' hq bX hl jO e
theorem VR.XB{H own}(p:Name)(b z:Nat){used:List Nat}{hp:Name->Option Ob}{β:Name->Option a8}(hu:nm used p)(hβ:β p=some ⟨b,0,z⟩):VR H own used hp β (.pointer (some ⟨b,0,none⟩)) (.bx p 0) :=
 .bx _ _ _ hu rfl fun _ _ _=>⟨_,hβ,rfl,rfl⟩
theorem Nw(h:aj B β s tm w)(ht:t<B.n)(hu:t∉s.used){c:Array Value}{cs:List AV}(hs:c.size=cs.length)(h1:∀u∈c,u.oneCell'=true)
  (hv:∀i x,cs[i]?=some x->VR w.heap (s.own B.A β) s.used s.hp β (c.getD i undef) x) (e:TypeId) (ty:Option Nat) (hty:ty.getD e=e) :
  ∃β',aj B β' ((s.add t (.bt ty cs)).put t (.bx [t] 0)) (tm.setIfInBounds t (.pointer (some ⟨w.heap.size,0,none⟩))) (w.alloc (.cells c e)):=by
 obtain⟨bh,_⟩:=h.alloc hu (.cells c e) (.bt ty cs) c.size (fun β' hβ hmono =>
  ⟨_,c,e,hβ,rfl,by rw[hty];exact heap_alloc_new w _,rfl,hs,h1,fun j x hj=>hmono _ _ (hv j x hj)⟩)
 refine⟨_,bh.put ht (.XB [t] w.heap.size c.size ⟨t,[],rfl,alb⟩ ?_)⟩;simp[aA]
theorem Bi(h:aj B β s tm w)(ht:t<B.n)(hu:t∉s.used){c:Array Value}{wf:W}{xs:List D}{cap:Nat}(hl:xs.length<=cap)(hz:cap*wd wf<=c.size)(aW:∀x∈xs,okW wf x)
  (hv:∀i x j d,xs[i]?=some x->x.cells[j]?=some d->au w.heap (s.own B.A β) (c.getD (i*wd wf+j) undef) d) (e:TypeId) (ty:Option Nat) (hty:ty.getD e=e) :
  ∃β',aj B β' ((s.add t (.bB ty wf xs)).put t (.vw [t] 0 xs.length)) (tm.setIfInBounds t (.slice (some ⟨w.heap.size,0,none⟩) xs.length cap)) (w.alloc (.cells c e)):=by
 have hle:xs.length*wd wf<=cap*wd wf:=alz _ hl
 obtain⟨bh,_⟩:=h.alloc hu (.cells c e) (.bB ty wf xs) c.size (fun β' hβ hmono =>
  .inr ⟨_,c,e,hβ,by rw[hty];exact heap_alloc_new w _,rfl,by simp;omega,aW,fun i x j d hi hj=>by
   have:=hmono _ _ (.d _ _ (hv i x j d hi hj))
   simpa using this.cA⟩)
 refine⟨_,bh.put ht (.vw _ _ _ _ ⟨t,[],rfl,alb⟩ rfl fun ty' w' xs' ae=>?_)⟩
 have:w'=wf∧xs'=xs:=by
  have h3:ty'=ty∧wf=w'∧xs=xs':=by simpa[St.add,aA,eq_comm]using ae
  exact⟨h3.2.1.symm,h3.2.2.symm⟩
 obtain⟨rfl,rfl⟩:=this;exact⟨by simp,_,cap,rfl,.inr ⟨⟨w.heap.size,0,c.size⟩,by simp[aA],by simp,hl,by simpa using hz⟩⟩
end
end Go.Ab

