/-
  What is evaluated by rule: the program's types and functions, and numbers that stand there. (with the parts that follow it)
-/
import Derived.Test.YthfodompfpdmgaaGreatDoorSOC
import Derived.Shelf.LaysM
import Derived.Shelf.Strconv.Itoa4
import Derived.Ground.NamesProg
import Derived.Laws.StructEq
set_option linter.all false
namespace Go.Proofs.YthfodompfpdmgaaGreatDoor
open Go.Ab
attribute [go_sem] ti3 ti4 ti5 ti9 Iu Ik Ie HQ HS H9 tZ HG H5 Iv Gc H3 Im HU HH IC HO H6 Ia IA Ih H2 He Iq GN Ha y5 Hj Ea Hi Hx lg Hm yy k5 mP G2
attribute [go_sem] Tryz.ntmps3 Tryz.results3 Tryz.ntmps6 Tryz.results6 Tryz.ntmps7 Tryz.results7 Tryz.ntmps8 Tryz.results8 Tryz.ntmps9 Tryz.results9 Tryz.ntmps10 Tryz.results10 Tryz.ntmps11 Tryz.results11 Tryz.ntmps12 Tryz.results12 Tryz.ntmps13 Tryz.results13 Tryz.ntmps14 Tryz.results14 Tryz.ntmps20 Tryz.results20 Tryz.ntmps23 Tryz.results23 Tryz.ntmps24 Tryz.results24 Tryz.ntmps25 Tryz.results25 Tryz.ntmps26 Tryz.results26 Tryz.ntmps27 Tryz.results27 Tryz.ntmps28 Tryz.results28 Tryz.ntmps29 Tryz.results29 Tryz.ntmps30 Tryz.results30 Tryz.ntmps31 Tryz.results31 Tryz.ntmps32 Tryz.results32 Tryz.ntmps33 Tryz.results33 Tryz.ntmps34 Tryz.results34 Tryz.ntmps35 Tryz.results35 Tryz.ntmps36 Tryz.results36 Tryz.ntmps37 Tryz.results37 Tryz.ntmps46 Tryz.results46 Tryz.ntmps47 Tryz.results47 Tryz.ntmps48 Tryz.results48 Tryz.ntmps49 Tryz.results49 Tryz.ntmps50 Tryz.results50 Tryz.ntmps51 Tryz.results51 Tryz.ntmps52 Tryz.results52 Tryz.ntmps53 Tryz.results53 Tryz.ntmps54 Tryz.results54 Tryz.ntmps55 Tryz.results55 Tryz.ntmps56 Tryz.results56 Tryz.ntmps57 Tryz.results57 Tryz.ntmps58 Tryz.results58 Tryz.ntmps59 Tryz.results59 Tryz.ntmps60 Tryz.results60 Tryz.ntmps61 Tryz.results61 Tryz.ntmps62 Tryz.results62 Tryz.ntmps63 Tryz.results63 Tryz.ntmps64 Tryz.results64 Tryz.ntmps65 Tryz.results65 Tryz.ntmps66 Tryz.results66 Tryz.ntmps67 Tryz.results67 Tryz.ntmps68 Tryz.results68 Tryz.ntmps69 Tryz.results69 Tryz.ntmps70 Tryz.results70 Tryz.ntmps78 Tryz.results78 Tryz.ntmps79 Tryz.results79 Tryz.ntmps80 Tryz.results80 Tryz.ntmps81 Tryz.results81 Tryz.ntmps82 Tryz.results82 Tryz.ntmps83 Tryz.results83 Tryz.ntmps84 Tryz.results84 Tryz.ntmps85 Tryz.results85 Tryz.ntmps86 Tryz.results86 Tryz.ntmps87 Tryz.results87 Tryz.ntmps88 Tryz.results88 Tryz.ntmps89 Tryz.results89 Tryz.ntmps90 Tryz.results90 Tryz.ntmps91 Tryz.results91 Tryz.ntmps92 Tryz.results92 Tryz.ntmps93 Tryz.results93 Tryz.ntmps94 Tryz.results94 Tryz.ntmps95 Tryz.results95 Tryz.ntmps96 Tryz.results96 Tryz.ntmps97 Tryz.results97 Tryz.ntmps98 Tryz.results98 Tryz.ntmps99 Tryz.results99 Tryz.ntmps100 Tryz.results100 Tryz.ntmps101 Tryz.results101 Tryz.ntmps102 Tryz.results102 Tryz.ntmps103 Tryz.results103 Tryz.ntmps111 Tryz.results111 Tryz.ntmps112 Tryz.results112 Tryz.ntmps113 Tryz.results113 Tryz.ntmps114 Tryz.results114 Tryz.ntmps115 Tryz.results115 Tryz.ntmps116 Tryz.results116 Tryz.ntmps117 Tryz.results117 Tryz.ntmps118 Tryz.results118 Tryz.ntmps119 Tryz.results119 Tryz.ntmps120 Tryz.results120 Tryz.ntmps121 Tryz.results121 Tryz.ntmps122 Tryz.results122 Tryz.ntmps123 Tryz.results123 Tryz.ntmps124 Tryz.results124 Tryz.ntmps125 Tryz.results125 Tryz.ntmps126 Tryz.results126 Tryz.ntmps127 Tryz.results127 Tryz.ntmps128 Tryz.results128 Tryz.ntmps129 Tryz.results129 Tryz.ntmps130 Tryz.results130 Tryz.ntmps131 Tryz.results131 Tryz.ntmps132 Tryz.results132 Tryz.ntmps133 Tryz.results133 Tryz.ntmps134 Tryz.results134 Tryz.ntmps135 Tryz.results135 Tryz.ntmps136 Tryz.results136 Tryz.ntmps137 Tryz.results137 Tryz.ntmps145 Tryz.results145 Tryz.ntmps146 Tryz.results146 Tryz.ntmps147 Tryz.results147 Tryz.ntmps148 Tryz.results148 Tryz.ntmps149 Tryz.results149 Tryz.ntmps150 Tryz.results150 Tryz.ntmps151 Tryz.results151 Tryz.ntmps152 Tryz.results152 Tryz.ntmps153 Tryz.results153 Tryz.ntmps154 Tryz.results154 Tryz.ntmps155 Tryz.results155 Tryz.ntmps156 Tryz.results156 Tryz.ntmps157 Tryz.results157 Tryz.ntmps158 Tryz.results158 Tryz.ntmps159 Tryz.results159 Tryz.ntmps160 Tryz.results160 Tryz.ntmps161 Tryz.results161 Tryz.ntmps162 Tryz.results162 Tryz.ntmps163 Tryz.results163 Tryz.ntmps164 Tryz.results164 Tryz.ntmps165 Tryz.results165 Tryz.ntmps168 Tryz.results168 Tryz.ntmps169 Tryz.results169 Tryz.ntmps170 Tryz.results170 Tryz.ntmps171 Tryz.results171 Tryz.ntmps174 Tryz.results174 Tryz.ntmps175 Tryz.results175 Tryz.ntmps176 Tryz.results176 Tryz.ntmps177 Tryz.results177 Tryz.ntmps178 Tryz.results178 Tryz.ntmps179 Tryz.results179 Tryz.ntmps180 Tryz.results180 Tryz.ntmps181 Tryz.results181 Tryz.ntmps182 Tryz.results182 Tryz.ntmps183 Tryz.results183 Tryz.ntmps184 Tryz.results184 Tryz.ntmps185 Tryz.results185 Tryz.ntmps186 Tryz.results186 Tryz.ntmps187 Tryz.results187 Tryz.ntmps188 Tryz.results188 Tryz.ntmps198 Tryz.results198 Tryz.ntmps199 Tryz.results199 Tryz.ntmps200 Tryz.results200 Tryz.ntmps201 Tryz.results201 Tryz.ntmps202 Tryz.results202 Tryz.ntmps203 Tryz.results203 Tryz.ntmps204 Tryz.results204 Tryz.ntmps205 Tryz.results205 Tryz.ntmps206 Tryz.results206 Tryz.ntmps210 Tryz.results210 Tryz.ntmps211 Tryz.results211 Tryz.ntmps212 Tryz.results212
attribute [go_sem] Nat.reduceEqDiff Nat.reduceLT Nat.reduceAdd Nat.reduceMul Nat.reduceLeDiff Nat.reduceSub Nat.reduceBEq Int.reduceEq Int.reduceLT Int.reduceLE Int.reduceToNat Int.reduceAdd Int.reduceSub Int.reduceNeg UInt8.reduceToNat
attribute [go_sem ↓] reduceIte
end Go.Proofs.YthfodompfpdmgaaGreatDoor

namespace Go.Proofs
open Go.Shelf
def Tryz.sH:Go.Shelf.Ren:=⟨fun | 246=>146 | 283=>168 | 284=>169 | 285=>170 | 286=>171 | 129=>159 | 317=>198 | 318=>199 | 319=>200 | 320=>201 | 337=>210 | 338=>211 | n=>n,fun | 2=>2 | 3=>3 | 9=>9 | 4=>4 | 171=>216 | 0=>0 | 53=>210 | 37=>175 | 5=>5 | 173=>218 | 212=>241 | 51=>208 | 20=>20 | 213=>242 | 46=>184 | 232=>251 | 233=>252 | n=>n,fun | 17=>1 | 18=>2 | 19=>3 | n=>n⟩
theorem Tryz.DT:Go.Proofs.LaysM.n246 Tryz.prog Tryz.sH:={
 mixed:=by kernel_rfl
 f129:=Tryz.func159.trans (congrArg some (by kernel_rfl))
 f246:=Tryz.func146.trans (congrArg some (by kernel_rfl))
 f283:=Tryz.func168.trans (congrArg some (by kernel_rfl))
 f284:=Tryz.func169.trans (congrArg some (by kernel_rfl))
 f285:=Tryz.func170.trans (congrArg some (by kernel_rfl))
 f286:=Tryz.func171.trans (congrArg some (by kernel_rfl))
 f317:=Tryz.func198.trans (congrArg some (by kernel_rfl))
 f318:=Tryz.func199.trans (congrArg some (by kernel_rfl))
 f319:=Tryz.func200.trans (congrArg some (by kernel_rfl))
 f320:=Tryz.func201.trans (congrArg some (by kernel_rfl))
 f337:=Tryz.func210.trans (congrArg some (by kernel_rfl))
 f338:=Tryz.func211.trans (congrArg some (by kernel_rfl))
 t0:=Tryz.underlying0
 a0:=Tryz.isAgg0
 z0:=Tryz.sizeOf0
 v0:=Tryz.zeroValue0
 t2:=Tryz.underlying2
 a2:=Tryz.isAgg2
 z2:=Tryz.sizeOf2
 v2:=Tryz.zeroValue2
 t3:=Tryz.underlying3
 a3:=Tryz.isAgg3
 z3:=Tryz.sizeOf3
 v3:=Tryz.zeroValue3
 t4:=Tryz.underlying4
 a4:=Tryz.isAgg4
 z4:=Tryz.sizeOf4
 v4:=Tryz.zeroValue4
 t5:=Tryz.underlying5
 a5:=Tryz.isAgg5
 z5:=Tryz.sizeOf5
 v5:=Tryz.zeroValue5
 t9:=Tryz.underlying9
 a9:=Tryz.isAgg9
 z9:=Tryz.sizeOf9
 v9:=Tryz.zeroValue9
 t20:=Tryz.underlying20
 a20:=Tryz.isAgg20
 z20:=Tryz.sizeOf20
 v20:=Tryz.zeroValue20
 t37:=Tryz.underlying175
 a37:=Tryz.isAgg175
 z37:=Tryz.sizeOf175
 v37:=Tryz.zeroValue175
 t46:=Tryz.underlying184
 a46:=Tryz.isAgg184
 z46:=Tryz.sizeOf184
 v46:=Tryz.zeroValue184
 t51:=Tryz.underlying208
 a51:=Tryz.isAgg208
 z51:=Tryz.sizeOf208
 v51:=Tryz.zeroValue208
 t53:=Tryz.underlying210
 a53:=Tryz.isAgg210
 z53:=Tryz.sizeOf210
 v53:=Tryz.zeroValue210
 t171:=Tryz.underlying216
 a171:=Tryz.isAgg216
 z171:=Tryz.sizeOf216
 v171:=Tryz.zeroValue216
 t173:=Tryz.underlying218
 a173:=Tryz.isAgg218
 z173:=Tryz.sizeOf218
 v173:=Tryz.zeroValue218
 t212:=Tryz.underlying241
 a212:=Tryz.isAgg241
 z212:=Tryz.sizeOf241
 v212:=Tryz.zeroValue241
 t213:=Tryz.underlying242
 a213:=Tryz.isAgg242
 z213:=Tryz.sizeOf242
 t232:=Tryz.underlying251
 a232:=Tryz.isAgg251
 z232:=Tryz.sizeOf251
 v232:=Tryz.zeroValue251
 t233:=Tryz.underlying252
 a233:=Tryz.isAgg252
 z233:=Tryz.sizeOf252
 v233:=Tryz.zeroValue252
 g17:=by kernel_rfl
 g18:=by kernel_rfl
 g19:=by kernel_rfl
 i0:=by kernel_rfl
 i2:=by kernel_rfl
 i3:=by kernel_rfl
 i4:=by kernel_rfl
 i5:=by kernel_rfl
 i9:=by kernel_rfl
 i20:=by kernel_rfl
 i37:=by kernel_rfl
 i46:=by kernel_rfl
 i51:=by kernel_rfl
 i53:=by kernel_rfl
 i171:=by kernel_rfl
 i173:=by kernel_rfl
 i212:=by kernel_rfl
 i232:=by kernel_rfl
 i233:=by kernel_rfl
 m17:=by kernel_rfl
 m18:=by kernel_rfl
 m19:=by kernel_rfl }
end Go.Proofs
namespace Go.Proofs.YthfodompfpdmgaaGreatDoor
open Go.Ab
def inR (n:Int):Prop:=-9223372036854775808≤n∧n≤9223372036854775807
def GT (t:TypeId) (fz:Nat × Nat):List (Nat × Obj):=[(1,.cells (Lib.pow10Tab.map fun z=>Value.int .u64 z).toArray t fz)]
theorem Gs {t:TypeId} {fz:Nat × Nat} {w:World} (h:∀ q∈GT t fz,w.heap[q.1]?=some q.2):Lib.TabIs Tryz.prog w "internal/strconv.uint64pow10" .u64 Lib.pow10Tab:=by
 have:=h _ List.mem_cons_self
 unfold Lib.TabIs World.var?
 rw [show Tryz.prog.globalNamed "internal/strconv.uint64pow10" = some 1 by kernel_rfl]
 simp [this]
theorem B5 {t fz} (n:Int) (hn:inR n):HP Tryz.prog (GT t fz) 146 [i64 n,i64 10] (fun r=>r=.d (.str (Lib.itoa n))) :=
 q6 (cP Tryz.func146 rfl (by decide +kernel)) rfl fun w hw =>
  (Any.internal_strconv_FormatInt_10 Tryz.DT n hn.1 hn.2 w (Gs hw)).mono fun _ _ ⟨he,k,os,hw'⟩=>⟨_,.str (Lib.itoa n),he,rfl,rfl,hw' ▸ Ext.grow w k os⟩
end Go.Proofs.YthfodompfpdmgaaGreatDoor

namespace Go.Ab
structure Ef where
 wr:List (Name × Option Ob):=[]
 nu:List Nat:=[]
def ef0:Ef:=⟨[],[]⟩
def wl:List (Name × Option Ob)→Name→Option (Option Ob)
 | [],_=>none
 | q::r,p=>match wl r p with
   | some v=>some v
   | none=>if p=q.1 then some q.2 else none
def St.eff (s:St) (e:Ef):St:={ fr:=s.fr,hp:=fun p=>(wl e.wr p).getD (s.hp p),used:=e.nu++s.used }
def St.go (s:St) (d:Option Nat) (x:AV) (e:Ef):St:=(s.eff e).putd d x
theorem jJ {s s':St} (h1:∀ p,s.hp p=s'.hp p) (h2:s.used=s'.used) (h3:∀ t,s.fr t=s'.fr t):s=s':=uL (funext h1) h2 h3
theorem AK (s:St):s.eff ⟨[],[]⟩=s:=jJ (fun _=>rfl) rfl fun _=>rfl
theorem qu (s:St):s.eff ef0=s:=AK s
theorem jS (s:St) (p:Name) (v:Option Ob):s.eff ⟨[(p,v)],[]⟩=s.set p v:=jJ (fun q=>by
 show (wl [(p,v)] q).getD (s.hp q)=ax s.hp p v q
 simp only [wl,ax]
 split<;>rfl) rfl fun _=>rfl
theorem j5 (s:St) (t:Nat) (o:Ob):s.eff ⟨[([t],some o)],[t]⟩=s.add t o:=jJ (fun q=>by
 show (wl [([t],some o)] q).getD (s.hp q)=ax s.hp [t] (some o) q
 simp only [wl,ax]
 split<;>rfl) rfl fun _=>rfl
theorem vH (s:St) (p:Name) (t:Nat) (o:Ob):s.eff ⟨[(p,none),([t],some o)],[t]⟩=(s.set p none).add t o:=jJ (fun q=>by
 show (wl [(p,none),([t],some o)] q).getD (s.hp q)=ax (ax s.hp p none) [t] (some o) q
 simp only [wl,ax]
 by_cases h:q=[t]
 ·simp [h]
 ·simp only [if_neg h]
  split<;>rfl) rfl fun _=>rfl
def rdA:AV→List Name
 | .vw p _ _=>[p]
 | .bx p _=>[p]
 | .el p _ _=>[p]
 | .mp p=>[p]
 | _=>[]
def rdO (s:St):Op→List Name
 | .load _ x=>rdA (ev s x)
 | .fieldAddr _ x _=>rdA (ev s x)
 | .indexAddr _ x _=>rdA (ev s x)
 | .slice _ x _ _ _=>rdA (ev s x)
 | .store _ x _=>rdA (ev s x)
 | .call c=>c.args.toList.flatMap fun x=>rdA (ev s x)
 | _=>[]
def dM (i:TI) (s:St) (x v:AV):R (Name × Ob) :=
 match x with
 | .bx p c =>
   match s.hp p with
   | some (.boxT ty cs)=>match bR v with
     | some vs=>if i.k.aQ=false∧vs.length=i.sz∧c+i.sz≤cs.length then .ok (p,.boxT ty (splice cs c vs)) else .no
     | none=>.no
   | _=>.no
 | .el p j c =>
   match s.hp p,v with
   | some (.arrT none w xs),.d y=>match iS i w xs j c y with
     | some ys=>.ok (p,.arr w ys)
     | none=>.no
   | _,_=>.no
 | _=>.no
theorem xW (i:TI) (s:St) (x v:AV):gK i s x v=(dM i s x v).bind fun q=>.ok (s.set q.1 (some q.2)):=by
 cases x with
 | bx p c =>
   simp only [gK,dM]
   cases s.hp p with
   | none=>rfl
   | some o =>
     cases o with
     | boxT ty cs =>
       simp only
       cases bR v with
       | none=>rfl
       | some vs=>simp only;split<;>rfl
     | _=>rfl
 | el p j c =>
   simp only [gK,dM]
   cases s.hp p with
   | none=>rfl
   | some o =>
     cases o with
     | arrT ty w xs =>
       rcases ty with _ | ty
       rotate_left
       ·cases v<;>rfl
       cases v with
       | d y =>
         simp only
         cases iS i w xs j c y with
         | none=>rfl
         | some ys=>rfl
       | _=>rfl
     | _=>rfl
 | _=>rfl
def iZ (d:Option Nat) (s:St) (wr:List (Name × Option Ob)) (ob:Ob) (x:Name→AV):R (AV × Ef) :=
 match d with
 | some t=>if t ∉ s.used then .ok (x [t],⟨wr++[([t],some ob)],[t]⟩) else .no
 | none=>.no
def dv (e:TI) (d:Option Nat) (s:St) (x y:AV):R (AV × Ef) :=
 match bW e.w s.hp y,x with
 | some ys,.d .nils=>.need (ys.length*e.by1≤140737488355328) (iZ d s [] (.arr e.w ys) (.vw · 0 ys.length))
 | some ys,.vw p o l =>
   match s.hp p with
   | some (.arrT none w xs)=>if w=e.w then .need ((l+ys.length)*e.by1≤140737488355328) (iZ d s [(p,none)] (.arr w ((xs.drop o).take l++ys)) (.vw · 0 (l+ys.length))) else .no
   | _=>.no
 | _,_=>.no
def opE (tf:Nat→TI) (o:Op) (d:Option Nat) (s:St):R (AV × Ef) :=
 match o with
 | .store t x v=>(dM (tf t) s (ev s x) (ev s v)).bind fun q=>.ok (.un,⟨[(q.1,some q.2)],[]⟩)
 | .alloc e=>match (tf e).z with
   | some cs=>iZ d s [] (.boxT (x2 tf e) (cs.map .d)) (.bx · 0)
   | none=>.no
 | .buildSlice t l parts =>
   match nQ (tf t).k,fM 0 (parts.toList.map fun q=>(q.1,ev s q.2)) with
   | some e,some xs=>if xs.length=l∧(tf e).z.isSome∧(tf e).isW (tf e).w∧xs.all (ou (tf e).w)∧l*(tf e).sz≤16777216 then iZ d s [] (.arr (tf e).w xs) (.vw · 0 l) else .no
   | _,_=>.no
 | .call c=>match c.callee,c.args.toList,c.argTypes.toList with
   | .builtin .append,[x,y],[t,t']=>if t≠t' then .no else match (tf t).k with
     | .slice e=>if (tf e).zOk∧(tf e).isW (tf e).w then dv (tf e) d s (ev s x) (ev s y) else .no
     | _=>.no
   | _,_,_=>(opV tf (.call c) s).bind fun x=>.ok (x,ef0)
 | o=>(opV tf o s).bind fun x=>.ok (x,ef0)
theorem yW (i:TI) (hp hp':Name→Option Ob) (x:AV) (h:∀ p∈rdA x,hp' p=hp p):jd i hp' x=jd i hp x:=by
 cases x with
 | bx p c=>simp only [jd,h p (by simp [rdA])]
 | el p j c=>simp only [jd,h p (by simp [rdA])]
 | d y=>cases y<;>rfl
 | _=>rfl
theorem oq (i:TI) (tf:Nat→TI) (hp hp':Name→Option Ob) (x:AV) (f:Nat) (h:∀ p∈rdA x,hp' p=hp p):b9 i tf hp' x f=b9 i tf hp x f:=by
 unfold b9
 cases i.k with
 | struct fs =>
   simp only
   cases fs[f]? with
   | none=>rfl
   | some q =>
     simp only
     split
     ·rfl
     ·cases x with
      | bx p c=>simp only [h p (by simp [rdA])]
      | el p j c=>simp only [h p (by simp [rdA])]
      | d y =>
        cases y with
        | ptr z=>cases z<;>rfl
        | _=>rfl
      | _=>rfl
 | _=>rfl
theorem n4 (i:TI) (tf:Nat→TI) (hp hp':Name→Option Ob) (x j:AV) (h:∀ p∈rdA x,hp' p=hp p):cp i tf hp' x j=cp i tf hp x j:=by
 unfold cp
 cases i.k with
 | slice e =>
   cases x with
   | vw p o l =>
     cases j with
     | d y =>
       cases y with
       | int k n=>simp only [h p (by simp [rdA])]
       | _=>rfl
     | _=>rfl
   | d y =>
     cases y<;>first
      | rfl
      | (cases j<;>first
       | rfl
       | (rename_i z;cases z<;>rfl))
   | _=>rfl
 | arr l e =>
   cases x with
   | el p i c =>
     cases j with
     | d y =>
       cases y with
       | int k n=>simp only [h p (by simp [rdA])]
       | _=>rfl
     | _=>rfl
   | _=>rfl
 | _=>rfl
theorem xZ (i:TI) (tf:Nat→TI) (hp hp':Name→Option Ob) (x:AV) (lo hi:Option AV) (h:∀ p∈rdA x,hp' p=hp p):iu i tf hp' x lo hi=iu i tf hp x lo hi:=by
 unfold iu
 cases i.k with
 | slice e =>
   cases x with
   | vw p o l=>simp only [h p (by simp [rdA])]
   | d y=>cases y<;>rfl
   | _=>rfl
 | str =>
   cases x with
   | d y=>cases y<;>rfl
   | _=>rfl
 | arr l e =>
   cases x with
   | el p i c=>simp only [h p (by simp [rdA])]
   | _=>rfl
 | _=>rfl
theorem Ch (i:TI) (hp hp':Name→Option Ob) (x:AV) (h:∀ p∈rdA x,hp' p=hp p):rT i hp' x=rT i hp x:=by
 unfold rT
 cases i.k with
 | slice e =>
   cases x with
   | vw p o l=>simp only [h p (by simp [rdA])]
   | d y=>cases y<;>rfl
   | _=>rfl
 | map a b =>
   cases x with
   | mp p=>simp only [h p (by simp [rdA])]
   | _=>rfl
 | str =>
   cases x with
   | d y=>cases y<;>rfl
   | _=>rfl
 | _=>rfl
theorem xB (i:TI) (s s':St) (x v:AV) (h:∀ p∈rdA x,s'.hp p=s.hp p):dM i s' x v=dM i s x v:=by
 cases x with
 | vw p o l=>simp only [dM]
 | bx p c=>simp only [dM,h p (by simp [rdA])]
 | el p j c=>simp only [dM,h p (by simp [rdA])]
 | mp p=>simp only [dM]
 | _=>rfl
theorem wm (tf:Nat→TI) (o:Op) (s s':St) (hh:∀ p∈rdO s o,s'.hp p=s.hp p) (h:∀ x∈o.operands,ev s' x=ev s x):opV tf o s'=opV tf o s:=by
 have e:opV tf o { s' with hp:=s.hp }=opV tf o s:=uy tf o s { s' with hp:=s.hp } rfl fun x hx=>by
  have:=h x hx
  cases x<;>exact this
 have hev:∀ x,ev { s' with hp:=s.hp } x=ev s' x:=fun x=>by cases x<;>rfl
 have hev':ev { s' with hp:=s.hp }=ev s':=funext hev
 rw [← e]
 cases o with
 | load t x =>
   simp only [opV,hev]
   exact yW _ _ _ _ (by rw [h x (by simp [Op.operands])];exact hh)
 | fieldAddr t x f =>
   simp only [opV,hev]
   exact oq _ _ _ _ _ _ (by rw [h x (by simp [Op.operands])];exact hh)
 | indexAddr t x j =>
   simp only [opV,hev]
   exact n4 _ _ _ _ _ _ (by rw [h x (by simp [Op.operands])];exact hh)
 | slice t x lo hi mx =>
   cases mx with
   | some _=>rfl
   | none =>
     simp only [opV,hev']
     exact xZ _ _ _ _ _ _ _ (by rw [h x (by simp [Op.operands])];exact hh)
 | call c =>
   obtain ⟨callee,args,ats⟩:=c
   cases callee with
   | value _=>rfl
   | invoke _ _=>rfl
   | builtin b =>
     obtain ⟨args⟩:=args
     obtain ⟨ats⟩:=ats
     simp only [opV,hev]
     split
     ·rename_i x t
      exact Ch _ _ _ _ (by rw [h x (by simp [Op.operands,Call.operands])];exact fun p hp=>hh p (by simp [rdO,hp]))
     ·rfl
     ·rfl
     ·rfl
 | _=>simp only [opV,hev,hev']
def ylE:R (AV × Ef)→AV × Ef→Prop
 | .ok y,x=>y=x
 | .need p r,x=>p∧ylE r x
 | .no,_=>False
theorem lY {d:Option Nat} {s s':St} {wr:List (Name × Option Ob)} {ob:Ob} {x:Name→AV} {r:AV × Ef} (h:ylE (iZ d s wr ob x) r) (hu:∀ y∈r.2.nu,y ∉ s'.used):ylE (iZ d s' wr ob x) r:=by
 unfold iZ at h ⊢
 cases d with
 | none=>exact h
 | some t =>
   simp only at h ⊢
   split at h
   ·have h:(x [t],(⟨wr++[([t],some ob)],[t]⟩:Ef))=r:=h
    subst h
    rw [if_pos (hu t (by simp))]
    exact rfl
   ·exact h.elim
theorem gf {d:Option Nat} {s:St} {wr:List (Name × Option Ob)} {ob:Ob} {x:Name→AV} {r:AV × Ef} (h:ylE (iZ d s wr ob x) r):∀ y∈r.2.nu,y ∉ s.used:=by
 unfold iZ at h
 cases d with
 | none=>exact h.elim
 | some t =>
   simp only at h
   split at h
   ·rename_i ht
    have h:(x [t],(⟨wr++[([t],some ob)],[t]⟩:Ef))=r:=h
    subst h
    simpa using ht
   ·exact h.elim
theorem mL {n:Nat} {d:Option Nat} {s:St} {ob:Ob} {x:Name→AV} {r:AV × Ef} (hd:dOk n d) (h:ylE (iZ d s [] ob x) r):(gx n d s ob x).run (fun s2=>s2=s.go d r.1 r.2) False:=by
 unfold iZ at h
 cases d with
 | none=>exact h.elim
 | some t =>
   simp only at h
   split at h
   ·rename_i ht
    have h:(x [t],(⟨[]++[([t],some ob)],[t]⟩:Ef))=r:=h
    subst h
    have hd:t<n:=hd
    simp only [gx,hd,ht,not_false_eq_true,and_self,if_true,R.run]
    show _=(s.eff _).putd _ _
    rw [List.nil_append,j5]
    rfl
   ·exact h.elim
theorem xC {n:Nat} {d:Option Nat} {s:St} {p:Name} {ob:Ob} {x:Name→AV} {r:AV × Ef} (hd:dOk n d) (h:ylE (iZ d s [(p,none)] ob x) r):(gx n d (s.set p none) ob x).run (fun s2=>s2=s.go d r.1 r.2) False:=by
 unfold iZ at h
 cases d with
 | none=>exact h.elim
 | some t =>
   simp only at h
   split at h
   ·rename_i ht
    have h:(x [t],(⟨[(p,none)]++[([t],some ob)],[t]⟩:Ef))=r:=h
    subst h
    have hd:t<n:=hd
    have ht':t ∉ (s.set p none).used:=ht
    simp only [gx,hd,ht',not_false_eq_true,and_self,if_true,R.run]
    show _=(s.eff _).putd _ _
    rw [List.cons_append,List.nil_append,vH]
    rfl
   ·exact h.elim
theorem w9 (w:W) (hp hp':Name→Option Ob) (x:AV) (h:∀ p∈rdA x,hp' p=hp p):bW w hp' x=bW w hp x:=by
 cases x with
 | vw p o l=>simp only [bW,h p (by simp [rdA])]
 | d y=>cases y<;>rfl
 | _=>rfl
theorem tc {e:TI} {d:Option Nat} {s s':St} {x y:AV} {r:AV × Ef} (hx:∀ p∈rdA x,s'.hp p=s.hp p) (hy:∀ p∈rdA y,s'.hp p=s.hp p) (h:ylE (dv e d s x y) r) (hu:∀ z∈r.2.nu,z ∉ s'.used):ylE (dv e d s' x y) r:=by
 unfold dv at h ⊢
 rw [w9 e.w s.hp s'.hp y hy]
 cases hl:bW e.w s.hp y with
 | none=>rw [hl] at h;exact h.elim
 | some ys =>
   rw [hl] at h
   cases x with
   | vw p o l =>
     simp only at h ⊢
     rw [hx p (by simp [rdA])]
     cases hp:s.hp p with
     | none=>rw [hp] at h;exact h.elim
     | some ob =>
       rw [hp] at h
       cases ob with
       | arrT ty w xs =>
         rcases ty with _ | ty
         rotate_left
         ·exact h.elim
         simp only at h ⊢
         split at h
         ·rename_i hw
          rw [if_pos hw]
          exact ⟨h.1,lY h.2 hu⟩
         ·exact h.elim
       | _=>exact h.elim
   | d z =>
     cases z with
     | nils=>exact ⟨h.1,lY h.2 hu⟩
     | _=>exact h.elim
   | _=>exact h.elim
theorem n3 {e:TI} {d:Option Nat} {s:St} {x y:AV} {r:AV × Ef} (h:ylE (dv e d s x y) r):∀ z∈r.2.nu,z ∉ s.used:=by
 unfold dv at h
 cases hl:bW e.w s.hp y with
 | none=>rw [hl] at h;exact h.elim
 | some ys =>
   rw [hl] at h
   cases x with
   | vw p o l =>
     simp only at h
     cases hp:s.hp p with
     | none=>rw [hp] at h;exact h.elim
     | some ob =>
       rw [hp] at h
       cases ob with
       | arrT ty w xs =>
         rcases ty with _ | ty
         rotate_left
         ·exact h.elim
         simp only at h
         split at h
         ·exact gf h.2
         ·exact h.elim
       | _=>exact h.elim
   | d z =>
     cases z with
     | nils=>exact gf h.2
     | _=>exact h.elim
   | _=>exact h.elim
theorem sA {n:Nat} {e:TI} {d:Option Nat} {s:St} {x y:AV} {r:AV × Ef} (hd:dOk n d) (h:ylE (dv e d s x y) r):(fX n e d s x y).run (fun s2=>s2=s.go d r.1 r.2) False:=by
 unfold dv at h
 unfold fX
 cases hl:bW e.w s.hp y with
 | none=>rw [hl] at h;exact h.elim
 | some ys =>
   rw [hl] at h
   cases x with
   | vw p o l =>
     simp only at h ⊢
     cases hp:s.hp p with
     | none=>rw [hp] at h;exact h.elim
     | some ob =>
       rw [hp] at h
       cases ob with
       | arrT ty w xs =>
         rcases ty with _ | ty
         rotate_left
         ·exact h.elim
         simp only at h ⊢
         split at h
         ·rename_i hw
          rw [if_pos hw]
          exact ⟨h.1,xC hd h.2⟩
         ·exact h.elim
       | _=>exact h.elim
   | d z =>
     cases z with
     | nils=>exact ⟨h.1,mL hd h.2⟩
     | _=>exact h.elim
   | _=>exact h.elim
theorem q0 {α:Type} {x:AV × Ef} {g:α→AV × Ef} {f:α→R St} {k:St→Prop} {z:Prop} (hf:∀ a,g a=x→(f a).run k z):∀ {r:R α},ylE (r.bind fun a=>.ok (g a)) x→(r.bind f).run k z
 | .ok a,h=>hf a h
 | .need _ _,h=>⟨h.1,q0 hf h.2⟩
 | .no,h=>h.elim
theorem eM {α:Type} {x:AV × Ef} {g:α→AV × Ef} (hg:∀ a,(g a).2.nu=[]):∀ {r:R α},ylE (r.bind fun a=>.ok (g a)) x→x.2.nu=[]
 | .ok a,h=>by have h:g a=x:=h;subst h;exact hg a
 | .need p r,h=>eM hg h.2
 | .no,h=>h.elim
def Call.isApp (c:Call):Bool:=match c.callee,c.args.toList,c.argTypes.toList with
 | .builtin .append,[_,_],[_,_]=>true
 | _,_,_=>false
theorem iW {tf:Nat→TI} {c:Call} {d:Option Nat} {s:St} (h:Call.isApp c=false):opE tf (.call c) d s=(opV tf (.call c) s).bind fun x=>.ok (x,ef0):=by
 obtain ⟨callee,args,ats⟩:=c
 obtain ⟨args⟩:=args
 obtain ⟨ats⟩:=ats
 unfold opE
 simp only
 split
 ·simp [Call.isApp] at h
 ·rfl
theorem p9 {c:Call} (h:Call.isApp c=true):∃ x y t t',c={ callee:=.builtin .append,args:=[x,y].toArray,argTypes:=[t,t'].toArray }:=by
 obtain ⟨callee,args,ats⟩:=c
 obtain ⟨args⟩:=args
 obtain ⟨ats⟩:=ats
 unfold Call.isApp at h
 simp only at h
 split at h
 ·exact ⟨_,_,_,_,rfl⟩
 ·cases h
theorem Gw {tf:Nat→TI} {o:Op} {d:Option Nat} {s s':St} {r:AV × Ef} (hh:∀ p∈rdO s o,s'.hp p=s.hp p) (h:∀ x∈o.operands,ev s' x=ev s x) (hy:ylE (opE tf o d s) r) (hu:∀ y∈r.2.nu,y ∉ s'.used):ylE (opE tf o d s') r:=by
 cases o with
 | store t x v =>
   simp only [opE] at hy ⊢
   rw [h x (by simp [Op.operands]),h v (by simp [Op.operands]),xB _ s s' _ _ hh]
   exact hy
 | alloc e =>
   simp only [opE] at hy ⊢
   split at hy
   ·exact lY hy hu
   ·exact hy.elim
 | buildSlice t l parts =>
   have:(parts.toList.map fun q=>(q.1,ev s' q.2))=parts.toList.map fun q=>(q.1,ev s q.2) :=
    List.map_congr_left fun q hq=>by rw [h q.2 (by simp only [Op.operands,List.mem_toArray,List.mem_map];exact ⟨q,hq,rfl⟩)]
   simp only [opE,this] at hy ⊢
   split at hy
   ·split at hy
    ·rename_i hc
     rw [if_pos hc]
     exact lY hy hu
    ·exact hy.elim
   ·exact hy.elim
 | call c =>
   cases hc:Call.isApp c with
   | false =>
     rw [iW hc] at hy ⊢
     rw [wm tf _ s s' hh h]
     exact hy
   | true =>
     obtain ⟨x,y,t,t',rfl⟩:=p9 hc
     have ex:ev s' x=ev s x:=h x (by simp [Op.operands,Call.operands])
     have ey:ev s' y=ev s y:=h y (by simp [Op.operands,Call.operands])
     simp only [opE] at hy ⊢
     split at hy
     ·exact hy.elim
     ·rename_i ht
      rw [if_neg ht]
      split at hy
      ·split at hy
       ·rename_i e hk hz
        rw [if_pos hz,ex,ey]
        exact tc (fun p hp=>hh p (by simp [rdO,hp])) (fun p hp=>hh p (by simp [rdO,hp])) hy hu
       ·exact hy.elim
      ·exact hy.elim
 | _ =>
   simp only [opE] at hy ⊢
   rw [wm tf _ s s' hh h]
   exact hy
theorem wL {tf:Nat→TI} {o:Op} {d:Option Nat} {s:St} {r:AV × Ef} (hy:ylE (opE tf o d s) r):∀ y∈r.2.nu,y ∉ s.used:=by
 have none:r.2.nu=[]→∀ y∈r.2.nu,y ∉ s.used:=fun h y hy=>by rw [h] at hy;cases hy
 cases o with
 | store t x v=>exact none (eM (g:=fun q:Name × Ob=>(AV.un,(⟨[(q.1,some q.2)],[]⟩:Ef))) (fun _=>rfl) hy)
 | alloc e =>
   simp only [opE] at hy
   split at hy
   ·exact gf hy
   ·exact hy.elim
 | buildSlice t l parts =>
   simp only [opE] at hy
   split at hy
   ·split at hy
    ·exact gf hy
    ·exact hy.elim
   ·exact hy.elim
 | call c =>
   cases hc:Call.isApp c with
   | false =>
     rw [iW hc] at hy
     exact none (eM (g:=fun a:AV=>(a,ef0)) (fun _=>rfl) hy)
   | true =>
     obtain ⟨x,y,t,t',rfl⟩:=p9 hc
     simp only [opE] at hy
     split at hy
     ·exact hy.elim
     ·split at hy
      ·split at hy
       ·exact n3 hy
       ·exact hy.elim
      ·exact hy.elim
 | _=>exact none (eM (g:=fun a:AV=>(a,ef0)) (fun _=>rfl) hy)
def qvE (r:R (AV × Ef)) (f:AV × Ef→Prop) (z:Prop):Prop :=
 match r with
 | .ok x=>f x
 | .need p r=>p∧qvE r f z
 | .no=>z
theorem zS {f:AV × Ef→Prop} {z:Prop}:∀ {r:R (AV × Ef)},qvE r f z→(∃ x,ylE r x∧f x)∨z
 | .ok x,h=>.inl ⟨x,rfl,h⟩
 | .no,h=>.inr h
 | .need p r,h=>by
   rcases zS (r:=r) h.2 with ⟨x,h1,h2⟩ | hz
   ·exact .inl ⟨x,⟨h.1,h1⟩,h2⟩
   ·exact .inr hz
theorem yX {tf:Nat→TI} {n:Nat} {o:Op} {d:Option Nat} {s:St} {x:AV × Ef} (h:ylE ((opV tf o s).bind fun x=>.ok (x,ef0)) x):opR tf n o d s=(opV tf o s).bind (bp n d s):=by
 rcases vO tf n o d s with e | e
 ·rw [e] at h;exact h.elim
 ·exact e
theorem D5 {tf:Nat→TI} {n:Nat} {o:Op} {d:Option Nat} {s:St} {x:AV × Ef} (hd:dOk n d) (h:ylE (opE tf o d s) x):(opR tf n o d s).run (fun s2=>s2=s.go d x.1 x.2) False:=by
 have hput:∀ (s1:St) (v:AV),(bp n d s1 v).run (fun s2=>s2=s1.putd d v) False:=fun s1 v=>by
  cases d with
  | none=>exact rfl
  | some t=>simp [bp,show t<n from hd,R.run,St.putd]
 have quiet:ylE ((opV tf o s).bind fun x=>.ok (x,ef0)) x→(opR tf n o d s).run (fun s2=>s2=s.go d x.1 x.2) False:=fun h=>by
  rw [yX h]
  exact q0 (g:=fun a=>(a,ef0)) (fun a ha=>by
   subst ha
   show (bp n d s a).run (fun s2=>s2=(s.eff ef0).putd d a) False
   rw [qu]
   exact hput _ _) h
 cases o with
 | store t a b =>
   simp only [opR,xW]
   simp only [opE] at h
   have key:∀ r:R (Name × Ob),ylE (r.bind fun q=>.ok (.un,⟨[(q.1,some q.2)],[]⟩)) x→((r.bind fun q=>.ok (s.set q.1 (some q.2))).bind fun s'=>bp n d s' .un).run (fun s2=>s2=s.go d x.1 x.2) False:=by
    intro r
    induction r with
    | ok q =>
      intro h
      have h:(AV.un,(⟨[(q.1,some q.2)],[]⟩:Ef))=x:=h
      subst h
      show (bp n d (s.set q.1 (some q.2)) .un).run (fun s2=>s2=(s.eff ⟨[(q.1,some q.2)],[]⟩).putd d .un) False
      rw [jS]
      exact hput _ _
    | need p r ih=>exact fun h=>⟨h.1,ih h.2⟩
    | no=>exact fun h=>h.elim
   exact key _ h
 | alloc e =>
   simp only [opE] at h
   simp only [opR]
   split at h
   ·rename_i cs hz
    rw [hz]
    exact mL hd h
   ·exact h.elim
 | buildSlice t l parts =>
   simp only [opE] at h
   simp only [opR]
   split at h
   ·rename_i e xs h1 h2
    rw [h1,h2]
    split at h
    ·rename_i hc
     simp only [if_pos hc]
     exact mL hd h
    ·exact h.elim
   ·exact h.elim
 | call c =>
   cases hc:Call.isApp c with
   | false =>
     rw [iW hc] at h
     exact quiet h
   | true =>
     obtain ⟨a,b,t,t',rfl⟩:=p9 hc
     simp only [opE] at h
     simp only [opR,jH,List.map_cons,List.map_nil]
     split at h
     ·exact h.elim
     ·rename_i ht
      rw [if_neg ht]
      split at h
      ·rename_i e hk
       rw [hk]
       split at h
       ·rename_i hz
        simp only [if_pos hz]
        exact sA hd h
       ·exact h.elim
      ·exact h.elim
 | _=>exact quiet h
section
variable (P:Program) (cf:Cf) (ops:Array Oper)
abbrev Fp:=List Name × Ef
abbrev Ns:=List (List Name × List Name × List Nat)
def QE (o:Oper) (s:St) (x:AV) (f:Fp):Prop:=∀ s',(∀ y∈f.2.nu,y ∉ s'.used)→(∀ p∈f.1,s'.hp p=s.hp p)→(∀ y∈o.op.operands,ev s' y=ev s y) →
 ∀ B,cf.fits B→∀ ds β a w,a.defers=ds→Sim B β s' a.tmps w→∀ Q',o.wpIn (Fw cf.ro) 0 P a w (fun a' w'=>a'.defers=ds∧∃ β',Sim B β' (s'.go o.dst x f.2) a'.tmps w') Q'
def fpN (f:Fp):List Name × List Name × List Nat:=(f.1,f.2.wr.map (·.1),f.2.nu)
def xrun (K:St→Ns→Prop):List Oper→St→Ns→Prop
 | [],s,ns=>K s ns
 | o::r,s,ns =>
   match o.guard with
   | none=>qvE (opE P.ti o.op o.dst s) (fun x=>dOk cf.n o.dst∧xrun K r (s.go o.dst x.1 x.2) (ns++[fpN (rdO s o.op,x.2)])) (∃ x f,QE P cf o s x f∧(∀ y∈f.2.nu,y ∉ s.used)∧dOk cf.n o.dst∧xrun K r (s.go o.dst x f.2) (ns++[fpN f]))
   | some (j,want) =>
     match de ops j s with
     | some (t,.d (.bool b)) =>
       (b=want→qvE (opE P.ti o.op o.dst (s.put t (.d (.bool want)))) (fun x=>dOk cf.n o.dst∧xrun K r ((s.put t (.d (.bool want))).go o.dst x.1 x.2) (ns++[fpN (rdO (s.put t (.d (.bool want))) o.op,x.2)])) (∃ x f,QE P cf o (s.put t (.d (.bool want))) x f∧(∀ y∈f.2.nu,y ∉ (s.put t (.d (.bool want))).used)∧dOk cf.n o.dst∧xrun K r ((s.put t (.d (.bool want))).go o.dst x f.2) (ns++[fpN f]))) ∧
       (b=!want→dOk cf.n o.dst∧xrun K r ((s.put t (.d (.bool (!want)))).go o.dst (.tup []) ef0) (ns++[([],[],[])]))
     | some (_,.tup [])=>dOk cf.n o.dst∧xrun K r (s.go o.dst (.tup []) ef0) (ns++[([],[],[])])
     | _=>False
def agE (l:List Nat) (f:Fp) (s s':St):Prop:=(∀ y∈f.2.nu,y ∉ s'.used)∧(∀ p∈f.1,s'.hp p=s.hp p)∧∀ t∈l,s'.fr t=s.fr t
def mm (i:Nat) (o:Oper) (s:St) (x:AV) (f:Fp):Prop:=(∀ y∈f.2.nu,y ∉ s.used)∧∀ s',agE (o.looksAt ops) f s s'→∀ B,cf.fits B→∀ ds β a w,a.defers=ds→Sim B β s' a.tmps w→∀ Q',
 wpOpIn (Fw cf.ro) 0 P ops Q' i (fun a' w'=>a'.defers=ds∧∃ β',Sim B β' (s'.go o.dst x f.2) a'.tmps w') a w
variable {P cf ops}
theorem xN {o:Oper} {f:Fp} {s s':St} (h:agE (o.looksAt ops) f s s'):∀ y∈o.op.operands,ev s' y=ev s y:=fun y hy =>
 Ec fun t ht=>h.2.2 t (by subst ht;exact List.mem_append_left _ (List.mem_filterMap.2 ⟨.tmp t,by simpa using hy,rfl⟩))
theorem Bz {o:Oper} {s:St} {x:AV × Ef} (h:ylE (opE P.ti o.op o.dst s) x) (hd:dOk cf.n o.dst):QE P cf o s x.1 (rdO s o.op,x.2):=by
 intro s' hu hh he B hB ds β a w hds hs Q'
 have e:=Gw hh he h hu
 have hr:=D5 (n:=B.n) (d:=o.dst) (s:=s') (by rw [hB.1];exact hd) e
 rcases fj hs hr with hz | ⟨nx,v,w',s2,β',hrun,hnx,rfl,hsim⟩
 ·exact hz.elim
 ·have hnd:∀ c,o.op≠.defer c:=by
   intro c hc
   rw [hc] at h
   exact h.elim
  exact az hnd hrun hnx ⟨by cases o.dst<;>exact hds,β',hsim⟩
theorem tK (s:St) (d:Option Nat) (x:AV):s.go d x ef0=s.putd d x:=by unfold St.go;rw [qu]
theorem nf {i:Nat} {o:Oper} {s:St} (hi:ops[i]?=some o) (hd:dOk cf.n o.dst) (hw:∀ (B:Base) (β:Name→Option Blk) s' tm w,agE (o.looksAt ops) ([],ef0) s s'→Sim B β s' tm w→Region.wanted o (yielded ops tm)=false):mm P cf ops i o s (.tup []) ([],ef0):=by
 refine ⟨fun y hy=>(by cases hy),fun s' hag B hB ds β a w hds hs Q'=>?_⟩
 unfold wpOpIn
 simp only [hi,hw B β s' a.tmps w hag hs,Bool.false_eq_true,if_false]
 refine ⟨fun _ _=>trivial,by cases o.dst<;>exact hds,β,?_⟩
 rw [tK]
 refine hs.putd (fun t ht=>?_) (.tup #[] [] rfl (by simp))
 rw [ht] at hd
 rw [hB.1];exact hd
theorem sw {i:Nat} {o:Oper} {s:St} {x:AV} {f:Fp} (hi:ops[i]?=some o) (hf:∀ y∈f.2.nu,y ∉ s.used) (hw:∀ (B:Base) (β:Name→Option Blk) s' tm w,agE (o.looksAt ops) f s s'→Sim B β s' tm w→Region.wanted o (yielded ops tm)=true) (h:QE P cf o s x f):mm P cf ops i o s x f:=by
 refine ⟨hf,fun s' hag B hB ds β a w hds hs Q'=>?_⟩
 unfold wpOpIn
 simp only [hi,hw B β s' a.tmps w hag hs,if_true]
 exact h s' hag.1 hag.2.1 (xN hag) B hB ds β a w hds hs Q'
theorem A0 {K:St→Ns→Prop} {i:Nat} {o:Oper} {r:List Oper} {s:St} {ns:Ns} (hi:ops[i]?=some o) (h:xrun P cf ops K (o::r) s ns):∃ x f,mm P cf ops i o s x f∧xrun P cf ops K r (s.go o.dst x f.2) (ns++[fpN f]):=by
 unfold xrun at h
 have go:∀ s1,s1=s→(∀ (f:Fp) (B:Base) (β:Name→Option Blk) s' tm w,agE (o.looksAt ops) f s s'→Sim B β s' tm w→Region.wanted o (yielded ops tm)=true) →
   qvE (opE P.ti o.op o.dst s1) (fun x=>dOk cf.n o.dst∧xrun P cf ops K r (s1.go o.dst x.1 x.2) (ns++[fpN (rdO s1 o.op,x.2)])) (∃ x f,QE P cf o s1 x f∧(∀ y∈f.2.nu,y ∉ s1.used)∧dOk cf.n o.dst∧xrun P cf ops K r (s1.go o.dst x f.2) (ns++[fpN f])) →
   ∃ x f,mm P cf ops i o s x f∧xrun P cf ops K r (s.go o.dst x f.2) (ns++[fpN f]):=by
  rintro s1 rfl hw h
  rcases zS h with ⟨x,h1,hd,h2⟩ | ⟨x,f,h1,hn,_,h2⟩
  ·exact ⟨x.1,_,sw hi (wL h1) (hw _) (Bz h1 hd),h2⟩
  ·exact ⟨x,f,sw hi hn (hw _) h1,h2⟩
 cases hg:o.guard with
 | none =>
   rw [hg] at h
   exact go s rfl (fun _ _ _ _ _ _ _ _=>by simp [Region.wanted,hg]) h
 | some q =>
   obtain ⟨j,want⟩:=q
   rw [hg] at h
   simp only at h
   split at h
   ·rename_i t b hgv
    obtain ⟨oj,hj,hjd,hjt⟩:=eS hgv
    have hl:=eO hg hj hjd
    by_cases hb:b=want
    ·have e:s.put t (.d (.bool want))=s:=iq (by rw [hjt,hb])
     have h1:=h.1 hb
     rw [e] at h1
     refine go s rfl (fun f B β s' tm w hag hs=>?_) h1
     have:=dX hs hj hjd ((hag.2.2 t hl).trans hjt)
     simp [Region.wanted,hg,this,hb]
    ·have hbn:b=!want:=by cases b<;>cases want<;>simp_all
     have e:s.put t (.d (.bool (!want)))=s:=iq (by rw [hjt,hbn])
     obtain ⟨hd,h2⟩:=h.2 hbn
     rw [e] at h2
     refine ⟨_,_,nf hi hd (fun B β s' tm w hag hs=>?_),h2⟩
     have:=dX hs hj hjd ((hag.2.2 t hl).trans hjt)
     simp [Region.wanted,hg,this,hb]
   ·rename_i t hgv
    obtain ⟨oj,hj,hjd,hjt⟩:=eS hgv
    have hl:=eO hg hj hjd
    refine ⟨_,_,nf hi h.1 (fun B β s' tm w hag hs=>?_),h.2⟩
    have:=j2 hs hj hjd ((hag.2.2 t hl).trans hjt)
    simp [Region.wanted,hg,this]
   ·exact h.elim
end
end Go.Ab
namespace Go.Ab
theorem Sim.reuse {B:Base} {β:Name→Option Blk} {s s2:St} {tm:Array Value} {w:World} (h:Sim B β s tm w) (h1:s2.hp=s.hp) (h2:s2.fr=s.fr) (h3:∀ y,y∈s.used↔y∈s2.used):Sim B β s2 tm w:=by
 obtain ⟨fr,hp,us⟩:=s
 obtain ⟨fr2,hp2,us2⟩:=s2
 simp only at h1 h2 h3
 subst h1;subst h2
 have hst:∀ p,nm us p→Stays hp2 hp2 β β p:=fun p _ o ho=>⟨o,ho,Ob.br _,rfl⟩
 have hu:∀ x∈us,x∈us2:=fun x hx=>(h3 x).1 hx
 exact { tms:=h.tms,io:=h.io,size:=h.size,frame:=h.frame,slots:=fun t=>(h.slots t).mono (fun _ _ h=>h) hu hst,objs:=fun p o ho=>⟨(h.objs p o ho).1.mono hu,(h.objs p o ho).2.mono (fun _ _ h=>h) hu hst rfl fun _ _=>rfl⟩,blocks:=h.blocks,inj:=h.inj,us:=fun x hx=>hu x (h.us x hx),stay:=h.stay }
section
variable {P:Program} {cf:Cf} {ops:Array Oper}
def dZ (ops:Array Oper) (xs:Nat→AV) (fs:Nat→Fp):List Nat→St→St
 | [],s=>s
 | i::l,s=>dZ ops xs fs l (s.go (aZ ops i) (xs i) (fs i).2)
theorem oI (xs:Nat→AV) (fs:Nat→Fp) (i:Nat):∀ (l:List Nat) (s:St),dZ ops xs fs (l++[i]) s=(dZ ops xs fs l s).go (aZ ops i) (xs i) (fs i).2
 | [],_=>rfl
 | j::l,s=>by rw [List.cons_append,dZ,oI xs fs i l,dZ]
theorem Co (s:St) (d:Option Nat) (x:AV) (e:Ef):(s.go d x e).used=e.nu++s.used:=by
 unfold St.go
 rw [oy]
 rfl
theorem Hg (s:St) (d:Option Nat) (x:AV) (e:Ef) (t:Nat):(s.go d x e).fr t=if d=some t then x else s.fr t:=by
 unfold St.go
 cases d with
 | none=>simp [St.putd,St.eff]
 | some u =>
   show bS _ _ _ _=_
   simp only [bS,Option.some.injEq]
   by_cases h:t=u
   ·rw [if_pos h,if_pos h.symm]
   ·rw [if_neg h,if_neg (fun e=>h e.symm)]
    rfl
theorem G3 (s:St) (d:Option Nat) (x:AV) (e:Ef) (p:Name):(s.go d x e).hp p=(wl e.wr p).getD (s.hp p):=by
 unfold St.go
 rw [uV]
 rfl
theorem uh:∀ {wr:List (Name × Option Ob)} {p:Name} {v:Option Ob},wl wr p=some v→p∈wr.map (·.1)
 | [],_,_,h=>by cases h
 | q::r,p,v,h=>by
   unfold wl at h
   cases hr:wl r p with
   | some u=>exact List.mem_cons_of_mem _ (uh hr)
   | none =>
     rw [hr] at h
     simp only at h
     split at h
     ·rename_i e;rw [e];exact List.mem_cons_self
     ·cases h
structure OKE (ops:Array Oper) (xs:Nat→AV) (fs:Nat→Fp) (s:St) (L:List Nat) (s':St):Prop where
 used:∀ y,y∈s'.used↔y∈s.used∨∃ k∈L,y∈(fs k).2.nu
 slot:∀ t,(∃ k∈L,aZ ops k=some t∧s'.fr t=xs k)∨((∀ k∈L,aZ ops k≠some t)∧s'.fr t=s.fr t)
 heap:∀ p,(∃ k∈L,∃ v,wl (fs k).2.wr p=some v∧(∀ k'∈L,(∃ v',wl (fs k').2.wr p=some v')→k'≤k)∧s'.hp p=v)∨((∀ k∈L,wl (fs k).2.wr p=none)∧s'.hp p=s.hp p)
theorem OKE.nil (xs:Nat→AV) (fs:Nat→Fp) (s:St):OKE ops xs fs s [] s:=⟨fun _=>by simp,fun _=>.inr ⟨by simp,rfl⟩,fun _=>.inr ⟨by simp,rfl⟩⟩
theorem OKE.snoc {xs:Nat→AV} {fs:Nat→Fp} {s s':St} {L:List Nat} {i:Nat} (h:OKE ops xs fs s L s') (hw:∀ k∈L,∀ p v v',wl (fs k).2.wr p=some v→wl (fs i).2.wr p=some v'→k≤i) :
  OKE ops xs fs s (L++[i]) (s'.go (aZ ops i) (xs i) (fs i).2):=by
 refine ⟨fun y=>?_,fun t=>?_,fun p=>?_⟩
 ·rw [Co,List.mem_append,h.used y]
  constructor
  ·rintro (h1 | h1 | ⟨k,hk,h1⟩)
   ·exact .inr ⟨i,by simp,h1⟩
   ·exact .inl h1
   ·exact .inr ⟨k,List.mem_append_left _ hk,h1⟩
  ·rintro (h1 | ⟨k,hk,h1⟩)
   ·exact .inr (.inl h1)
   ·rcases List.mem_append.1 hk with hk | hk
    ·exact .inr (.inr ⟨k,hk,h1⟩)
    ·rw [List.mem_singleton.1 hk] at h1;exact .inl h1
 ·rw [Hg]
  by_cases hd:aZ ops i=some t
  ·exact .inl ⟨i,by simp,hd,by rw [if_pos hd]⟩
  ·rw [if_neg hd]
   rcases h.slot t with ⟨k,hk,h1,h2⟩ | ⟨h1,h2⟩
   ·exact .inl ⟨k,List.mem_append_left _ hk,h1,h2⟩
   ·refine .inr ⟨fun k hk=>?_,h2⟩
    rcases List.mem_append.1 hk with hk | hk
    ·exact h1 k hk
    ·rw [List.mem_singleton.1 hk];exact hd
 ·rw [G3]
  cases he:wl (fs i).2.wr p with
  | some o =>
    refine .inl ⟨i,by simp,o,he,fun k' hk' ⟨o',ho'⟩=>?_,rfl⟩
    rcases List.mem_append.1 hk' with hk' | hk'
    ·exact hw k' hk' p o' o ho' he
    ·rw [List.mem_singleton.1 hk'];exact Nat.le_refl _
  | none =>
    show _∨(_∧s'.hp p=_)
    rcases h.heap p with ⟨k,hk,o,h1,h2,h3⟩ | ⟨h1,h2⟩
    ·refine .inl ⟨k,List.mem_append_left _ hk,o,h1,fun k' hk' ho'=>?_,h3⟩
     rcases List.mem_append.1 hk' with hk' | hk'
     ·exact h2 k' hk' ho'
     ·rw [List.mem_singleton.1 hk',he] at ho'
      obtain ⟨_,ho'⟩:=ho'
      cases ho'
    ·refine .inr ⟨fun k hk=>?_,h2⟩
     rcases List.mem_append.1 hk with hk | hk
     ·exact h1 k hk
     ·rw [List.mem_singleton.1 hk];exact he
inductive Anc (ops:Array Oper):Nat→Nat→Prop
 | one {i:Nat} {o:Oper} {e:Edge} (ho:ops[i]?=some o) (he:e∈o.after) (hb:Region.binds .any e=true):Anc ops i e.on
 | tr {i:Nat} {o:Oper} {e:Edge} {k:Nat} (ho:ops[i]?=some o) (he:e∈o.after) (hb:Region.binds .any e=true) (h:Anc ops e.on k):Anc ops i k
def kC (acc:List (List Nat)) (o:Oper):List Nat:=((o.after.toList.filter (Region.binds .any)).flatMap fun e=>e.on::acc.getD e.on []).eraseDups
def ancs:List (List Nat)→List Oper→List (List Nat)
 | acc,[]=>acc
 | acc,o::r=>ancs (acc++[kC acc o]) r
theorem jr:∀ (r:List Oper) (acc:List (List Nat)),(∀ j,r[j]?=ops[acc.length+j]?)→(∀ i k,k∈acc.getD i []→Anc ops i k)→∀ i k,k∈(ancs acc r).getD i []→Anc ops i k
 | [],_,_,h=>h
 | o::r,acc,hr,h=>by
   refine jr r (acc++[kC acc o]) (fun j=>?_) (fun i k hk=>?_)
   ·have:=hr (j+1)
    rw [List.getElem?_cons_succ] at this
    rw [this,List.length_append,List.length_singleton,show acc.length+(j+1)=acc.length+1+j by omega]
   ·have ho:ops[acc.length]?=some o:=by simpa using (hr 0).symm
    by_cases hi:i<acc.length
    ·refine h i k ?_
     rw [List.getD_eq_getElem?_getD,List.getElem?_append_left hi] at hk
     rw [List.getD_eq_getElem?_getD];exact hk
    ·by_cases hi2:i=acc.length
     ·subst hi2
      have:(acc++[kC acc o]).getD acc.length []=kC acc o:=by simp
      rw [this] at hk
      unfold kC at hk
      rw [List.mem_eraseDups,List.mem_flatMap] at hk
      obtain ⟨e,he,hk⟩:=hk
      rw [List.mem_filter] at he
      have he1:e∈o.after:=Array.mem_toList_iff.1 he.1
      rcases List.mem_cons.1 hk with rfl | hk
      ·exact .one ho he1 he.2
      ·exact .tr ho he1 he.2 (h _ _ hk)
     ·have:(acc++[kC acc o]).getD i []=[]:=by
       rw [List.getD_eq_getElem?_getD,List.getElem?_eq_none (by simp;omega)];rfl
      rw [this] at hk;cases hk
theorem fO {listed:Array Bool} {L:List Nat} (hu:Up ops listed L) {i k:Nat} (h:Anc ops i k):i∈L→k∈L:=by
 induction h with
 | one ho he hb=>exact fun hi=>hu.closed _ hi _ ho _ he hb
 | tr ho he hb _ ih=>exact fun hi=>ih (hu.closed _ hi _ ho _ he hb)
theorem kK {listed:Array Bool} {L:List Nat} (hu:Up ops listed L) {i k:Nat} {o:Oper} (ho:ops[i]?=some o) (hw:∀ e∈o.after,Region.binds .any e=true→e.on∈L) (h:Anc ops i k):k∈L:=by
 cases h with
 | one ho' he hb =>
   rw [ho] at ho';cases ho'
   exact hw _ he hb
 | tr ho' he hb h2 =>
   rw [ho] at ho';cases ho'
   exact fO hu h2 (hw _ he hb)
def Dk (A:List (List Nat)) (i k:Nat):Bool:=(decide (k<i) && (A.getD i []).contains k) || (decide (i<k) && (A.getD k []).contains i)
def chk (ops:Array Oper) (ns:Ns):Bool :=
 let A:=ancs [] ops.toList
 (List.range ops.size).all fun i =>
  (match ops[i]? with
   | some o=>o.after.toList.all fun e=>!Region.binds .any e || decide (e.on<i)
   | none=>true) &&
  (List.range ops.size).all fun k =>
   (match aZ ops k with
    | none=>true
    | some t=>(decide (i=k) || aZ ops i != some t) && (!(gF ops i).contains t || Dk A i k)) &&
   ((ns.getD k ([],[],[])).2.1.all fun p=>decide (i=k) || (!(ns.getD i ([],[],[])).1.contains p && !(ns.getD i ([],[],[])).2.1.contains p) || Dk A i k) &&
   ((ns.getD k ([],[],[])).2.2.all fun y=>decide (i=k) || !(ns.getD i ([],[],[])).2.2.contains y)
def bef (ops:Array Oper) (i k:Nat):Prop:=(k<i∧Anc ops i k)∨(i<k∧Anc ops k i)
theorem r7 {i k:Nat} (h:Dk (ancs [] ops.toList) i k=true):bef ops i k:=by
 have hs:=jr (ops:=ops) ops.toList [] (fun j=>by simp) (fun i k hk=>by simp at hk)
 simp only [Dk,Bool.or_eq_true,Bool.and_eq_true,decide_eq_true_eq,List.contains_eq_mem] at h
 rcases h with ⟨h1,h2⟩ | ⟨h1,h2⟩
 ·exact .inl ⟨h1,hs _ _ h2⟩
 ·exact .inr ⟨h1,hs _ _ h2⟩
section
variable {ns:Ns} (h:chk ops ns=true)
include h
theorem oB {i:Nat} {o:Oper} (ho:ops[i]?=some o):∀ e∈o.after,Region.binds .any e=true→e.on<i:=by
 intro e he hb
 have hi:i<ops.size:=by
  rcases Nat.lt_or_ge i ops.size with hlt | hge
  ·exact hlt
  ·rw [Array.getElem?_eq_none hge] at ho;cases ho
 have h2:=List.all_eq_true.1 h i (List.mem_range.2 hi)
 simp only [ho,Bool.and_eq_true] at h2
 have h3:=List.all_eq_true.1 h2.1 e (Array.mem_toList_iff.2 he)
 simpa [hb] using h3
theorem fh {i k:Nat} (hi:i<ops.size) (hk:k<ops.size):(∀ t,aZ ops k=some t→(i=k∨aZ ops i≠some t)∧(t∈gF ops i→bef ops i k)) ∧
  (∀ p,p∈(ns.getD k ([],[],[])).2.1→i=k∨(p ∉ (ns.getD i ([],[],[])).1∧p ∉ (ns.getD i ([],[],[])).2.1)∨bef ops i k) ∧
  ∀ y,y∈(ns.getD k ([],[],[])).2.2→i=k∨y ∉ (ns.getD i ([],[],[])).2.2:=by
 have h2:=List.all_eq_true.1 h i (List.mem_range.2 hi)
 simp only [Bool.and_eq_true] at h2
 have h3:=List.all_eq_true.1 h2.2 k (List.mem_range.2 hk)
 simp only [Bool.and_eq_true] at h3
 refine ⟨fun t ht=>?_,fun p hp=>?_,fun y hy=>?_⟩
 ·have h4:=h3.1.1
  rw [ht] at h4
  simp only [Bool.and_eq_true,Bool.or_eq_true,decide_eq_true_eq,bne_iff_ne,ne_eq,Bool.not_eq_true',List.contains_eq_mem,decide_eq_false_iff_not] at h4
  exact ⟨h4.1,fun hl=>h4.2.elim (fun h5=>absurd hl h5) r7⟩
 ·have h4:=List.all_eq_true.1 h3.1.2 p hp
  simp only [Bool.or_eq_true,Bool.and_eq_true,decide_eq_true_eq,Bool.not_eq_true',List.contains_eq_mem,decide_eq_false_iff_not] at h4
  rcases h4 with (h4 | h4) | h4
  ·exact .inl h4
  ·exact .inr (.inl h4)
  ·exact .inr (.inr (r7 h4))
 ·have h4:=List.all_eq_true.1 h3.2 y hy
  simp only [Bool.or_eq_true,decide_eq_true_eq,Bool.not_eq_true',List.contains_eq_mem,decide_eq_false_iff_not] at h4
  exact h4
end
theorem ji {K:St→Ns→Prop}:∀ (r:List Oper) (i:Nat) (s:St) (ns:Ns),(∀ j,(r[j]?=ops[i+j]?))→xrun P cf ops K r s ns →
  ∃ (xs:Nat→AV) (fs:Nat→Fp),K (dZ ops xs fs (List.range' i r.length) s) (ns++(List.range' i r.length).map fun j=>fpN (fs j))∧∀ j o,i≤j→ops[j]?=some o→mm P cf ops j o (dZ ops xs fs (List.range' i (j-i)) s) (xs j) (fs j)
 | [],i,s,ns,hr,h=>⟨fun _=>.un,fun _=>([],ef0),by simpa [xrun,dZ] using h,fun j o hij ho=>by
  have:=hr (j-i)
  rw [show i+(j-i)=j by omega,ho] at this
  simp at this⟩
 | o::r,i,s,ns,hr,h=>by
   have hi:ops[i]?=some o:=by simpa using (hr 0).symm
   obtain ⟨x,f,hf,h2⟩:=A0 hi h
   obtain ⟨xs,fs,hK,hall⟩:=ji r (i+1) _ _ (fun j=>by have:=hr (j+1);rw [List.getElem?_cons_succ] at this;rw [this,show i+(j+1)=i+1+j by omega]) h2
   obtain ⟨ys,hys⟩:∃ ys:Nat→AV,ys=fun j=>if j=i then x else xs j:=⟨_,rfl⟩
   obtain ⟨gs,hgs⟩:∃ gs:Nat→Fp,gs=fun j=>if j=i then f else fs j:=⟨_,rfl⟩
   have hd:aZ ops i=o.dst:=by simp [aZ,hi]
   have e1:∀ (n k:Nat) (s:St),i<k→dZ ops ys gs (List.range' k n) s=dZ ops xs fs (List.range' k n) s:=by
    intro n
    induction n with
    | zero=>intros;rfl
    | succ n ih =>
      intro k s hk
      rw [List.range'_succ,dZ,dZ,ih (k+1) _ (by omega),hys,hgs]
      simp only [if_neg (show ¬ k=i by omega)]
   have e2:∀ (n k:Nat),i<k→((List.range' k n).map fun j=>fpN (gs j))=(List.range' k n).map fun j=>fpN (fs j):=by
    intro n k hk
    refine List.map_congr_left fun j hj=>?_
    rw [List.mem_range'_1] at hj
    rw [hgs]
    simp only [if_neg (show ¬ j=i by omega)]
   have hyi:ys i=x:=by rw [hys];simp
   have hgi:gs i=f:=by rw [hgs];simp
   refine ⟨ys,gs,?_,fun j o' hij ho'=>?_⟩
   ·rw [List.length_cons,List.range'_succ,dZ,hd,hyi,hgi,e1 _ _ _ (by omega),List.map_cons,hgi,e2 _ _ (by omega)]
    simpa using hK
   ·rcases Nat.lt_or_ge i j with hlt | hge
    ·have:=hall j o' (by omega) ho'
     rw [show j-i=(j-(i+1))+1 by omega,List.range'_succ,dZ,hd,hyi,hgi,e1 _ _ _ (by omega)]
     rw [show ys j=xs j by rw [hys];simp only [if_neg (show ¬ j=i by omega)],show gs j=fs j by rw [hgs];simp only [if_neg (show ¬ j=i by omega)]]
     exact this
    ·have:j=i:=by omega
     subst this
     rw [hi] at ho'
     cases ho'
     rw [Nat.sub_self,hyi,hgi]
     exact hf
section
variable {xs:Nat→AV} {fs:Nat→Fp} {s:St} {ns:Ns} (hq:chk ops ns=true) (hns:∀ i,i<ops.size→ns.getD i ([],[],[])=fpN (fs i))
include hq hns
theorem tq {i k:Nat} (hi:i<ops.size) (hk:k<ops.size) (hne:i≠k) {p:Name} {v:Option Ob} (hw:wl (fs k).2.wr p=some v) (hl:p∈(fs i).1∨∃ v',wl (fs i).2.wr p=some v'):bef ops i k:=by
 have h1:=(fh hq hi hk).2.1 p (by rw [hns k hk];exact uh hw)
 rcases h1 with h1 | ⟨h1,h2⟩ | h1
 ·exact absurd h1 hne
 ·rw [hns i hi] at h1 h2
  rcases hl with hl | ⟨v',hl⟩
  ·exact absurd hl h1
  ·exact absurd (uh hl) h2
 ·exact h1
omit hq hns in
theorem wy:∀ n,n≤ops.size→OKE ops xs fs s (List.range' 0 n) (dZ ops xs fs (List.range' 0 n) s):=by
 intro n
 induction n with
 | zero=>exact fun _=>.nil _ _ _
 | succ n ih =>
   intro hn
   have:=(ih (by omega)).snoc (i:=n) (fun k hk _ _ _ _ _=>by rw [List.mem_range'_1] at hk;omega)
   rw [List.range'_concat,Nat.one_mul,Nat.zero_add,oI]
   exact this
theorem oX {listed:Array Bool} {L:List Nat} (hu:Up ops listed L) {s':St} (hL:OKE ops xs fs s L s') {i:Nat} {o:Oper} (ho:ops[i]?=some o) (hi:i ∉ L)
  (hw:∀ e∈o.after,Region.binds .any e=true→e.on∈L) (hfr:∀ y∈(fs i).2.nu,y ∉ (dZ ops xs fs (List.range' 0 (i-0)) s).used):agE (o.looksAt ops) (fs i) (dZ ops xs fs (List.range' 0 (i-0)) s) s':=by
 have hlt:i<ops.size:=by
  rcases Nat.lt_or_ge i ops.size with hlt | hge
  ·exact hlt
  ·rw [Array.getElem?_eq_none hge] at ho;cases ho
 rw [Nat.sub_zero] at hfr ⊢
 have hT:=wy (ops:=ops) (fs:=fs) (s:=s) (xs:=xs) i (by omega)
 have go:∀ k,bef ops i k→(k<i↔k∈L):=fun k hb=>by
  rcases hb with ⟨h1,h2⟩ | ⟨h1,h2⟩
  ·exact ⟨fun _=>kK hu ho hw h2,fun _=>h1⟩
  ·exact ⟨fun h=>by omega,fun h=>absurd (fO hu h2 h) hi⟩
 have hdst:∀ a b t,aZ ops a=some t→aZ ops b=some t→a=b:=fun a b t ha hb =>
  ((fh hq (cD ha) (cD hb)).1 t hb).1.elim id (fun h=>absurd ha h)
 refine ⟨fun y hy hu'=>?_,fun p hp=>?_,fun t ht=>?_⟩
 ·rcases (hL.used y).1 hu' with h1 | ⟨k,hk,h1⟩
  ·exact hfr y hy ((hT.used y).2 (.inl h1))
  ·rcases (fh hq hlt (hu.lt k hk)).2.2 y (by rw [hns k (hu.lt k hk)];exact h1) with h2 | h2
   ·exact hi (h2 ▸ hk)
   ·rw [hns i hlt] at h2;exact h2 hy
 ·have key:∀ k,k<ops.size→∀ ob,wl (fs k).2.wr p=some ob→i≠k→(k<i↔k∈L):=fun k hk ob hob hne=>go k (tq hq hns hlt hk hne hob (.inl hp))
  rcases hT.heap p with ⟨k,hk,ob,h1,h2,h3⟩ | ⟨h1,h2⟩
  ·rw [List.mem_range'_1] at hk
   have hkL:k∈L:=(key k (by omega) ob h1 (by omega)).1 (by omega)
   rcases hL.heap p with ⟨k2,hk2,ob2,g1,g2,g3⟩ | ⟨g1,_⟩
   ·have hk2i:k2<i:=(key k2 (hu.lt k2 hk2) ob2 g1 (fun e=>hi (e ▸ hk2))).2 hk2
    have a1:=h2 k2 (by rw [List.mem_range'_1];omega) ⟨ob2,g1⟩
    have a2:=g2 k hkL ⟨ob,h1⟩
    have:k=k2:=by omega
    subst this
    rw [h1] at g1
    cases g1
    rw [g3,h3]
   ·rw [g1 k hkL] at h1;cases h1
  ·rcases hL.heap p with ⟨k2,hk2,ob2,g1,_,_⟩ | ⟨_,g2⟩
   ·have hk2i:k2<i:=(key k2 (hu.lt k2 hk2) ob2 g1 (fun e=>hi (e ▸ hk2))).2 hk2
    rw [h1 k2 (by rw [List.mem_range'_1];omega)] at g1;cases g1
   ·rw [g2,h2]
 ·have ht':t∈gF ops i:=by unfold gF;rw [ho];exact ht
  rcases hT.slot t with ⟨k,hk,h1,h2⟩ | ⟨h1,h2⟩
  ·rw [List.mem_range'_1] at hk
   have hkL:k∈L:=(go k (((fh hq hlt (cD h1)).1 t h1).2 ht')).1 (by omega)
   rcases hL.slot t with ⟨k2,_,g1,g2⟩ | ⟨g1,_⟩
   ·rw [h2,g2,hdst k k2 t h1 g1]
   ·exact absurd h1 (g1 k hkL)
  ·rcases hL.slot t with ⟨k2,hk2,g1,_⟩ | ⟨_,g2⟩
   ·have:=(go k2 (((fh hq hlt (cD g1)).1 t g1).2 ht')).2 hk2
    exact absurd g1 (h1 k2 (by rw [List.mem_range'_1];omega))
   ·rw [g2,h2]
omit hns in
theorem oO {L:List Nat} {s':St} (hL:OKE ops xs fs s L s') (hlt:∀ j∈L,j<ops.size) (hall:∀ j,j<ops.size→j∈L):(s'.hp=(dZ ops xs fs (List.range' 0 ops.size) s).hp∧s'.fr=(dZ ops xs fs (List.range' 0 ops.size) s).fr)∧∀ y,y∈s'.used↔y∈(dZ ops xs fs (List.range' 0 ops.size) s).used:=by
 have hT:=wy (ops:=ops) (fs:=fs) (s:=s) (xs:=xs) ops.size (Nat.le_refl _)
 have hdst:∀ a b t,aZ ops a=some t→aZ ops b=some t→a=b:=fun a b t ha hb =>
  ((fh hq (cD ha) (cD hb)).1 t hb).1.elim id (fun h=>absurd ha h)
 have hm:∀ k,k∈L↔k∈List.range' 0 ops.size:=fun k=>by
  rw [List.mem_range'_1]
  exact ⟨fun h=>by have:=hlt k h;omega,fun h=>hall k (by omega)⟩
 refine ⟨⟨funext fun p=>?_,funext fun t=>?_⟩,fun y=>?_⟩
 ·rcases hT.heap p with ⟨k,hk,ob,h1,h2,h3⟩ | ⟨h1,h2⟩
  ·rcases hL.heap p with ⟨k2,hk2,ob2,g1,g2,g3⟩ | ⟨g1,_⟩
   ·have a1:=h2 k2 ((hm k2).1 hk2) ⟨ob2,g1⟩
    have a2:=g2 k ((hm k).2 hk) ⟨ob,h1⟩
    have:k=k2:=by omega
    subst this
    rw [h1] at g1
    cases g1
    rw [g3,h3]
   ·rw [g1 k ((hm k).2 hk)] at h1;cases h1
  ·rcases hL.heap p with ⟨k2,hk2,ob2,g1,_,_⟩ | ⟨_,g2⟩
   ·rw [h1 k2 ((hm k2).1 hk2)] at g1;cases g1
   ·rw [g2,h2]
 ·rcases hT.slot t with ⟨k,hk,h1,h2⟩ | ⟨h1,h2⟩
  ·rcases hL.slot t with ⟨k2,_,g1,g2⟩ | ⟨g1,_⟩
   ·rw [h2,g2,hdst k k2 t h1 g1]
   ·exact absurd h1 (g1 k ((hm k).2 hk))
  ·rcases hL.slot t with ⟨k2,hk2,g1,_⟩ | ⟨_,g2⟩
   ·exact absurd g1 (h1 k2 ((hm k2).1 hk2))
   ·rw [g2,h2]
 ·rw [hL.used y,hT.used y]
  refine or_congr_right ⟨?_,?_⟩
  ·rintro ⟨k,hk,h1⟩;exact ⟨k,(hm k).1 hk,h1⟩
  ·rintro ⟨k,hk,h1⟩;exact ⟨k,(hm k).2 hk,h1⟩
omit hns in
theorem Dn {listed:Array Bool} {L:List Nat} (hu:Up ops listed L) (hr:Region.ready .any ops listed=[]):∀ j,j<ops.size→j∈L:=by
 intro j
 induction j using Nat.strongRecOn with
 | ind j ih =>
   intro hlt
   apply Decidable.byContradiction
   intro hn
   obtain ⟨o,ho⟩:∃ o,ops[j]?=some o:=⟨ops[j],by simp⟩
   have:j∈Region.ready .any ops listed:=by
    rw [mem_ready]
    refine ⟨?_,o,ho,fun e he hb=>?_⟩
    ·have:=hu.mem j hlt
     have hl:j<listed.size:=by rw [hu.size];exact hlt
     cases hv:listed[j] with
     | true=>exact absurd (this.1 (by simp [hl,hv])) hn
     | false=>simp [hl,hv]
    ·have h2:=oB hq ho e he hb
     have h3:=(hu.mem e.on (by omega)).2 (ih e.on h2 (by omega))
     simp [h3]
   rw [hr] at this;cases this
theorem ID {B:Base} (hB:cf.fits B) {ds:List Deferred} {Q:Exit→Act→World→Prop}
  (hall:∀ j o,ops[j]?=some o→mm P cf ops j o (dZ ops xs fs (List.range' 0 (j-0)) s) (xs j) (fs j))
  (hK:∀ β a w,a.defers=ds→Sim B β (dZ ops xs fs (List.range' 0 ops.size) s) a.tmps w→Q .normal a w) :
  ∀ (fuel:Nat) (listed:Array Bool) (L:List Nat) (s':St) (β:Name→Option Blk) (a:Act) (w:World),Up ops listed L→L.Nodup→ops.size≤fuel+L.length→a.defers=ds→OKE ops xs fs s L s'→Sim B β s' a.tmps w →
   wpAnyIn (Fw cf.ro) 0 P .any ops Q fuel listed a w:=by
 have fin:∀ (listed:Array Bool) (L:List Nat) (s':St) (β:Name→Option Blk) (a:Act) (w:World),Up ops listed L→a.defers=ds→OKE ops xs fs s L s'→Sim B β s' a.tmps w→Region.ready .any ops listed=[]→Q .normal a w:=by
  intro listed L s' β a w hu hds hL hs hr
  obtain ⟨⟨e1,e2⟩,e3⟩:=oO hq hL hu.lt (Dn hq hu hr)
  exact hK β a w hds (hs.reuse e1.symm e2.symm e3)
 intro fuel
 induction fuel with
 | zero =>
   intro listed L s' β a w hu hnd hn hds hL hs
   have hr:Region.ready .any ops listed=[]:=by
    apply List.eq_nil_iff_forall_not_mem.2
    intro j hj
    obtain ⟨h0,o,ho,_⟩:=mem_ready.1 hj
    have hlt:j<ops.size:=by
     rcases Nat.lt_or_ge j ops.size with hlt | hge
     ·exact hlt
     ·rw [Array.getElem?_eq_none hge] at ho;cases ho
    have hjL:j∈L:=by
     apply Decidable.byContradiction
     intro hn'
     have hsub:(j::L).length≤ops.size:=by
      refine fD ops.size (j::L) (List.nodup_cons.2 ⟨hn',hnd⟩) fun x hx=>?_
      rcases List.mem_cons.1 hx with rfl | hx
      ·exact hlt
      ·exact hu.lt x hx
     simp only [List.length_cons] at hsub
     omega
    have h3:=(hu.mem j hlt).2 hjL
    simp [h3] at h0
   exact ⟨hr,fin listed L s' β a w hu hds hL hs hr⟩
 | succ fuel ih =>
   intro listed L s' β a w hu hnd hn hds hL hs
   refine ⟨fun hr=>fin listed L s' β a w hu hds hL hs hr,fun i hi=>?_⟩
   obtain ⟨h0,o,ho,hw⟩:=mem_ready.1 hi
   have hlt:i<ops.size:=by
    rcases Nat.lt_or_ge i ops.size with hlt | hge
    ·exact hlt
    ·rw [Array.getElem?_eq_none hge] at ho;cases ho
   have hiL:i ∉ L:=fun h=>by
    have h3:=(hu.mem i hlt).2 h
    simp [h3] at h0
   have hwL:∀ e∈o.after,Region.binds .any e=true→e.on∈L:=fun e he hb=>by
    have h1:=hw e he hb
    have h2:=oB hq ho e he hb
    refine (hu.mem e.on (by omega)).1 ?_
    have hl:e.on<listed.size:=by rw [hu.size];omega
    simp [hl] at h1
    simp [hl,h1]
   have hd:aZ ops i=o.dst:=by simp [aZ,ho]
   refine wpOpIn_mono (fun a' w' ⟨hd',β',hs'⟩=>ih (listed.setIfInBounds i true) (L++[i]) _ β' a' w' ?_ ?_ ?_ hd' (hd ▸ hL.snoc ?_) hs') ((hall i o ho).2 _ (oX hq hns hu hL ho hiL hwL (hall i o ho).1) B hB ds β a w hds hs Q)
   ·refine ⟨by simpa using hu.size,fun j hj=>?_,fun j hj=>?_,fun j hj o' ho' e he hb=>?_⟩
    ·have hl:j<listed.size:=by rw [hu.size];exact hj
     by_cases hij:i=j
     ·subst hij;simp [hl]
     ·rw [Array.getElem?_setIfInBounds_ne hij,hu.mem j hj]
      simp [Ne.symm hij]
    ·rcases List.mem_append.1 hj with hj | hj
     ·exact hu.lt j hj
     ·rw [List.mem_singleton.1 hj];exact hlt
    ·rcases List.mem_append.1 hj with hj | hj
     ·exact List.mem_append_left _ (hu.closed j hj o' ho' e he hb)
     ·rw [List.mem_singleton.1 hj,ho] at ho'
      cases ho'
      exact List.mem_append_left _ (hwL e he hb)
   ·rw [List.nodup_append]
    exact ⟨hnd,by simp,fun x hx y hy=>by rw [List.mem_singleton.1 hy];rintro rfl;exact hiL hx⟩
   ·simp only [List.length_append,List.length_singleton];omega
   ·intro k hk p o1 o2 h1 h2
    have hne:i≠k:=fun e=>hiL (e ▸ hk)
    rcases tq hq hns hlt (hu.lt k hk) hne h1 (.inr ⟨o2,h2⟩) with ⟨h3,_⟩ | ⟨_,h4⟩
    ·omega
    ·exact absurd (fO hu h4 hk) hiL
end
theorem A8 {id:Nat} {l:List Oper} {s:St} {k:List It} {Q:Exit→St→Prop} (hm:P.follows .mixedOrders=true) (h:xrun P cf l.toArray (fun s' ns=>chk l.toArray ns=true∧run P cf k Q s') l s []) :
  ACk P cf (.region id l.toArray true) s k Q:=by
 obtain ⟨xs,fs,⟨hq,hK⟩,hall⟩:=ji (ops:=l.toArray) l 0 s [] (fun j=>by simp) h
 intro B hB ds β a w hds hs
 refine wpIn_region_any hm ?_
 have hns:∀ i,i<l.toArray.size→(([]:Ns)++(List.range' 0 l.length).map fun j=>fpN (fs j)).getD i ([],[],[])=fpN (fs i):=by
  intro i hi
  have hi:i<l.length:=by simpa using hi
  simp [hi]
 refine ID (ops:=l.toArray) hq hns hB (ds:=ds) (fun j o ho=>hall j o (Nat.zero_le _) ho) (fun β a w hds hs=>aV hK B hB ds β a w hds (by simpa using hs)) _ _ [] s β a _ ?_ List.nodup_nil (by simp) hds (.nil _ _ _) (hs.gb rfl rfl)
 refine ⟨by simp,fun j hj=>?_,by simp,by simp⟩
 have hj:j<l.length:=by simpa using hj
 simp [hj]
end
end Go.Ab
namespace Go.Ab
section
variable (P:Program) (cf:Cf) (ops:Array Oper) (K:St→Ns→Prop)
def xst (x:R (AV × Ef)) (o:Oper) (r:List Oper) (s:St) (ns:Ns):Prop :=
 qvE x (fun x=>dOk cf.n o.dst∧xrun P cf ops K r (s.go o.dst x.1 x.2) (ns++[fpN (rdO s o.op,x.2)])) (∃ x f,QE P cf o s x f∧(∀ y∈f.2.nu,y ∉ s.used)∧dOk cf.n o.dst∧xrun P cf ops K r (s.go o.dst x f.2) (ns++[fpN f]))
def xgd (v:Option (Nat × AV)) (want:Bool) (o:Oper) (r:List Oper) (s:St) (ns:Ns):Prop :=
 match v with
 | some (t,.d (.bool b)) =>
   (b=want→xst P cf ops K (opE P.ti o.op o.dst (s.put t (.d (.bool want)))) o r (s.put t (.d (.bool want))) ns) ∧
   (b=!want→dOk cf.n o.dst∧xrun P cf ops K r ((s.put t (.d (.bool (!want)))).go o.dst (.tup []) ef0) (ns++[([],[],[])]))
 | some (_,.tup [])=>dOk cf.n o.dst∧xrun P cf ops K r (s.go o.dst (.tup []) ef0) (ns++[([],[],[])])
 | _=>False
abbrev Ix (_:Oper) (_:List Oper) (_:St) (_:Ns):Type 1:=R (AV × Ef)
abbrev Io (_:Bool) (_:Oper) (_:List Oper) (_:St) (_:Ns):Type:=Option (Nat × AV)
abbrev HN (_:Option Nat) (_:AV) (_:List Oper):Type:=Ef
structure XEng where
 run:(r:List Oper)→ToQ r→Ns→Prop
 stp:(o:Oper)→(r:List Oper)→(s:St)→(ns:Ns)→Ix o r s ns→Prop
 gd:(w:Bool)→(o:Oper)→(r:List Oper)→(s:St)→(ns:Ns)→Io w o r s ns→Prop
 pt:(d:Option Nat)→(x:AV)→(r:List Oper)→HN d x r→St→Ns→Prop
 run_eq:∀ r (s:St) ns,run r s ns=xrun P cf ops K r s ns
 stp_eq:∀ (x:R (AV × Ef)) o r s ns,stp o r s ns x=xst P cf ops K x o r s ns
 gd_eq:∀ (v:Option (Nat × AV)) w o r s ns,gd w o r s ns v=xgd P cf ops K v w o r s ns
 pt_eq:∀ d x (e:Ef) r s ns,pt d x r e s ns=(dOk cf.n d∧xrun P cf ops K r (s.go d x e) ns)
theorem uS:Nonempty (XEng P cf ops K) :=
 ⟨⟨xrun P cf ops K,fun o r s ns x=>xst P cf ops K x o r s ns,fun w o r s ns v=>xgd P cf ops K v w o r s ns,fun d x r e s ns=>dOk cf.n d∧xrun P cf ops K r (s.go d x e) ns,fun _ _ _=>rfl,fun _ _ _ _ _=>rfl,fun _ _ _ _ _ _=>rfl,fun _ _ _ _ _ _=>rfl⟩⟩
end
section
variable {P:Program} {cf:Cf} {ops:Array Oper} {K:St→Ns→Prop} (E:XEng P cf ops K) (s:St) (o:Oper) (r:List Oper) (ns:Ns)
theorem GY:E.run [] s ns=K s ns:=by rw [E.run_eq];rfl
theorem G7 (d:Option Nat) (op:Op) (ty:Nat) (p:String) (e:Array Edge) :
 E.run ({ dst:=d,op:=op,type:=ty,pos:=p,after:=e,guard:=none }::r) s ns=E.stp { dst:=d,op:=op,type:=ty,pos:=p,after:=e,guard:=none } r s ns (opE P.ti op d s):=by rw [E.run_eq,E.stp_eq];rfl
theorem CG (d:Option Nat) (op:Op) (ty:Nat) (p:String) (e:Array Edge) (j:Nat) (want:Bool) :
 E.run ({ dst:=d,op:=op,type:=ty,pos:=p,after:=e,guard:=some (j,want) }::r) s ns=E.gd want { dst:=d,op:=op,type:=ty,pos:=p,after:=e,guard:=some (j,want) } r s ns (de ops j s):=by rw [E.run_eq,E.gd_eq];rfl
theorem zF (x:AV) (e:Ef):E.stp o r s ns (.ok (x,e))=E.pt o.dst x r e s (ns++[fpN (rdO s o.op,e)]):=by rw [E.stp_eq,E.pt_eq];rfl
theorem tL (p:Prop) (x:R (AV × Ef)):E.stp o r s ns (.need p x)=(p∧E.stp o r s ns x):=by rw [E.stp_eq,E.stp_eq];rfl
theorem x9 (t:Nat) (x:AV) (h:t<cf.n):E.pt (some t) x r ef0 s ns=E.run r (s.put t x) ns:=by rw [E.pt_eq,E.run_eq];simp [dOk,h,St.go,qu,St.putd]
theorem kZ (x:AV) (p:Name) (q:Option Ob):E.pt none x r ⟨[(p,q)],[]⟩ s ns=E.run r (s.set p q) ns:=by rw [E.pt_eq,E.run_eq];simp [dOk,St.go,jS,St.putd]
theorem ry (t:Nat) (x:AV) (u:Nat) (ob:Ob) (h:t<cf.n):E.pt (some t) x r ⟨[([u],some ob)],[u]⟩ s ns=E.run r ((s.add u ob).put t x) ns:=by rw [E.pt_eq,E.run_eq];simp [dOk,h,St.go,j5,St.putd]
theorem sO (t:Nat) (x:AV) (p:Name) (u:Nat) (ob:Ob) (h:t<cf.n):E.pt (some t) x r ⟨[(p,none),([u],some ob)],[u]⟩ s ns=E.run r (((s.set p none).add u ob).put t x) ns:=by rw [E.pt_eq,E.run_eq];simp [dOk,h,St.go,vH,St.putd]
theorem pS (t:Nat):E.gd true o r s ns (some (t,.d (.bool true)))=E.stp o r (s.put t (.d (.bool true))) ns (opE P.ti o.op o.dst (s.put t (.d (.bool true)))):=by rw [E.gd_eq,E.stp_eq];simp [xgd]
theorem qU (t:Nat):E.gd false o r s ns (some (t,.d (.bool false)))=E.stp o r (s.put t (.d (.bool false))) ns (opE P.ti o.op o.dst (s.put t (.d (.bool false)))):=by rw [E.gd_eq,E.stp_eq];simp [xgd]
theorem qL (t:Nat):E.gd false o r s ns (some (t,.d (.bool true)))=E.pt o.dst (.tup []) r ef0 (s.put t (.d (.bool true))) (ns++[([],[],[])]):=by rw [E.gd_eq,E.pt_eq];simp [xgd]
theorem qx (t:Nat):E.gd true o r s ns (some (t,.d (.bool false)))=E.pt o.dst (.tup []) r ef0 (s.put t (.d (.bool false))) (ns++[([],[],[])]):=by rw [E.gd_eq,E.pt_eq];simp [xgd]
theorem DZ (t:Nat) (want:Bool):E.gd want o r s ns (some (t,.tup []))=E.pt o.dst (.tup []) r ef0 s (ns++[([],[],[])]):=by rw [E.gd_eq,E.pt_eq];rfl
variable {s o r ns}
theorem Hv (l:List Name):fpN (l,ef0)=(l,[],[]):=rfl
theorem GP (l:List Name) (wr:List (Name × Option Ob)) (nu:List Nat):fpN (l,⟨wr,nu⟩)=(l,wr.map (·.1),nu):=rfl
attribute [go_sem] GY G7 CG zF tL x9 kZ ry sO pS qU qL qx DZ Hv GP rdO rdA dM iZ dv bW List.cons_append List.nil_append
section
variable (tf:Nat→TI)
theorem zG (dd:Option Nat) (s:St) (x):opE tf (.move x) dd s=(opV tf (.move x) s).bind fun x=>.ok (x,ef0):=rfl
theorem tw (dd:Option Nat) (s:St) (x):opE tf (.assign x) dd s=(opV tf (.assign x) s).bind fun x=>.ok (x,ef0):=rfl
theorem Bo (dd:Option Nat) (s:St) (a b c):opE tf (.pick a b c) dd s=(opV tf (.pick a b c) s).bind fun x=>.ok (x,ef0):=rfl
theorem xc (dd:Option Nat) (s:St) (a b):opE tf (.build a b) dd s=(opV tf (.build a b) s).bind fun x=>.ok (x,ef0):=rfl
theorem Ai (dd:Option Nat) (s:St) (a b):opE tf (.load a b) dd s=(opV tf (.load a b) s).bind fun x=>.ok (x,ef0):=rfl
theorem nY (dd:Option Nat) (s:St) (a b c):opE tf (.fieldAddr a b c) dd s=(opV tf (.fieldAddr a b c) s).bind fun x=>.ok (x,ef0):=rfl
theorem xj (dd:Option Nat) (s:St) (a b c):opE tf (.field a b c) dd s=(opV tf (.field a b c) s).bind fun x=>.ok (x,ef0):=rfl
theorem od (dd:Option Nat) (s:St) (a b c):opE tf (.indexAddr a b c) dd s=(opV tf (.indexAddr a b c) s).bind fun x=>.ok (x,ef0):=rfl
theorem xb (dd:Option Nat) (s:St) (a b c):opE tf (.index a b c) dd s=(opV tf (.index a b c) s).bind fun x=>.ok (x,ef0):=rfl
theorem xi (dd:Option Nat) (s:St) (a b c d e):opE tf (.slice a b c d e) dd s=(opV tf (.slice a b c d e) s).bind fun x=>.ok (x,ef0):=rfl
theorem xg (dd:Option Nat) (s:St) (a b c d e):opE tf (.binOp a b c d e) dd s=(opV tf (.binOp a b c d e) s).bind fun x=>.ok (x,ef0):=rfl
theorem BN (dd:Option Nat) (s:St) (a b c):opE tf (.unOp a b c) dd s=(opV tf (.unOp a b c) s).bind fun x=>.ok (x,ef0):=rfl
theorem s8 (dd:Option Nat) (s:St) (a b c):opE tf (.convert a b c) dd s=(opV tf (.convert a b c) s).bind fun x=>.ok (x,ef0):=rfl
theorem sx (dd:Option Nat) (s:St) (a b):opE tf (.extract a b) dd s=(opV tf (.extract a b) s).bind fun x=>.ok (x,ef0):=rfl
theorem qP (dd:Option Nat) (s:St) (a b c):opE tf (.makeFunc a b c) dd s=(opV tf (.makeFunc a b c) s).bind fun x=>.ok (x,ef0):=rfl
theorem uG (dd:Option Nat) (s:St) (x a t):opE tf (.call { callee:=.value x,args:=a,argTypes:=t }) dd s=.no:=rfl
theorem uE (dd:Option Nat) (s:St) (f) (x t):opE tf (.call { callee:=.builtin f,args:=#[x],argTypes:=#[t] }) dd s=(opV tf (.call { callee:=.builtin f,args:=#[x],argTypes:=#[t] }) s).bind fun x=>.ok (x,ef0):=by
 refine iW ?_
 cases f<;>rfl
theorem uC (dd:Option Nat) (s:St) (x y t t'):opE tf (.call { callee:=.builtin .append,args:=#[x,y],argTypes:=#[t,t'] }) dd s=if t≠t' then .no else match (tf t).k with
 | .slice e=>if (tf e).zOk∧(tf e).isW (tf e).w then dv (tf e) dd s (ev s x) (ev s y) else .no
 | _=>.no:=rfl
theorem tz (dd:Option Nat) (s:St) (a b c d):opE tf (.lookup a b c d) dd s=.no:=rfl
theorem x7 (dd:Option Nat) (s:St) (t x v):opE tf (.store t x v) dd s=(dM (tf t) s (ev s x) (ev s v)).bind fun q=>.ok (.un,⟨[(q.1,some q.2)],[]⟩):=rfl
theorem w7 (dd:Option Nat) (s:St) (e):opE tf (.alloc e) dd s=match (tf e).z with
 | some cs=>iZ dd s [] (.boxT (x2 tf e) (cs.map .d)) (.bx · 0)
 | none=>.no:=rfl
theorem mO (dd:Option Nat) (s:St) (t l parts):opE tf (.buildSlice t l parts) dd s=match nQ (tf t).k,fM 0 (parts.toList.map fun q=>(q.1,ev s q.2)) with
 | some e,some xs=>if xs.length=l∧(tf e).z.isSome∧(tf e).isW (tf e).w∧xs.all (ou (tf e).w)∧l*(tf e).sz≤16777216 then iZ dd s [] (.arr (tf e).w xs) (.vw · 0 l) else .no
 | _,_=>.no:=rfl
attribute [go_sem] zG tw Bo xc Ai nY xj od xb xi xg BN s8 sx qP uG uE uC w7 mO tz x7
end
theorem Eb {c:Bool} {t:Nat} {want:Bool} (h1:c=true→E.gd want o r (s.put t (.d (.bool true))) ns (some (t,.d (.bool true)))) (h2:c=false→E.gd want o r (s.put t (.d (.bool false))) ns (some (t,.d (.bool false)))):E.gd want o r s ns (some (t,.d (.bool c))):=by
 cases c
 ·have:=h2 rfl
  cases want
  ·rw [qU,eH] at this;rw [qU];exact this
  ·rw [qx,eH] at this;rw [qx];exact this
 ·have:=h1 rfl
  cases want
  ·rw [qL,eH] at this;rw [qL];exact this
  ·rw [pS,eH] at this;rw [pS];exact this
theorem cQ {p:Prop} [Decidable p] {t:Nat} {want:Bool} (h1:p→E.gd want o r (s.put t (.d (.bool true))) ns (some (t,.d (.bool true)))) (h2:¬ p→E.gd want o r (s.put t (.d (.bool false))) ns (some (t,.d (.bool false)))):E.gd want o r s ns (some (t,.d (.bool (decide p)))) :=
 Eb E (fun h=>h1 (of_decide_eq_true h)) (fun h=>h2 (of_decide_eq_false h))
theorem qM (s:St) (d:Option Nat) (x:AV):s.go d x ef0=s.dA d x:=by rw [tK];cases d<;>rfl
theorem eW {d:Option Nat} {op:Op} {ty:TypeId} {pos:String} {af:Array Edge} {g:Option (Nat × Bool)} {x:AV} (rd:List Name) (hdst:∀ t∈d,t<cf.n)
  (hok:∀ s',(∀ p∈rd,s'.hp p=s.hp p)→(∀ y∈op.operands,ev s' y=ev s y)→AOk P cf { dst:=d,op:=op,type:=ty,pos:=pos,after:=af,guard:=g } s' [] (fun _ s2=>s2=s'.dA d x)) (hk:E.run r (s.dA d x) (ns++[(rd,[],[])])) :
  E.stp { dst:=d,op:=op,type:=ty,pos:=pos,after:=af,guard:=g } r s ns .no:=by
 rw [E.stp_eq]
 refine ⟨x,(rd,ef0),fun s' _ hh he B hB ds' β a w hds hs Q'=>?_,fun y hy=>(by cases hy),?_,?_⟩
 ·refine Oper.wpIn_mono ?_ (hok s' hh he B hB ds' β a w hds hs Q')
  rintro a' w' ⟨hd',s2,β',hrun,hs2⟩
  obtain ⟨_,s3,β3,rfl,hs3⟩:=hrun B hB ds' β' a' w' hd' hs2
  exact ⟨hd',β3,by rw [qM];exact hs3⟩
 ·cases d with
  | none=>trivial
  | some t=>exact hdst t rfl
 ·rw [← E.run_eq,qM];exact hk
theorem bo {dst:Option Nat} {fv:Operand} {args:Array Operand} {at':Array TypeId} {ty:TypeId} {pos:String} {af:Array Edge} {g:Option (Nat × Bool)}
  {f:FuncId} {caps:List AV} {ds:List D} {x:AV} (hc:HP P cf.G f ds (fun r=>r=x))
  (hev:ev s fv=.clo f caps) (hargs:args.toList.map (ev s)++caps=ds.map .d) (hdst:∀ t∈dst,t<cf.n) (hk:E.run r (s.dA dst x) (ns++[([],[],[])])) :
  E.stp { dst:=dst,op:=.call { callee:=.value fv,args:=args,argTypes:=at' },type:=ty,pos:=pos,after:=af,guard:=g } r s ns .no:=by
 refine eW E [] hdst (fun s' _ he=>?_) hk
 have hm:∀ y,y=fv∨y∈args→ev s' y=ev s y:=fun y hy=>he y (by
  simp only [Op.operands,Call.operands]
  rcases hy with rfl | hy<;>simp_all)
 exact fb (k:=[]) (Q:=fun _ s2=>s2=s'.dA dst x) hc ((hm fv (.inl rfl)).trans hev)
  (by rw [ni (s:=s) (s':=s') fun y hy=>hm y (.inr (by simpa using hy))];exact hargs) hdst (fun r hr=>by subst hr;rw [bG])
theorem ag {id:Nat} {l:List Oper} {s:St} {k:List It} {Q:Exit→St→Prop} (hm:P.follows .mixedOrders=true) (E0:Eng P cf Q) (h:∀ E:XEng P cf l.toArray (fun s' ns=>chk l.toArray ns=true∧E0.run k s'),E.run l s []) :
  cV E0 (.region id l.toArray true) s k:=by
 refine A8 hm ?_
 have e:(fun s' ns=>chk l.toArray ns=true∧E0.run k s')=fun s' ns=>chk l.toArray ns=true∧run P cf k Q s':=by funext s' ns;rw [E0.run_eq]
 obtain ⟨E⟩:=uS P cf l.toArray (fun s' ns=>chk l.toArray ns=true∧E0.run k s')
 have:=h E
 rw [E.run_eq,e] at this
 exact this
end
section
variable {P:Program} {cf:Cf} {Q:Exit→St→Prop} {s:St} {k:List It} {c:Code}
theorem au (E:Eng P cf Q) {X:Type} (I:X→List (Nat × AV)) (O:X→List (Name × Ob)) (u:List Nat) (μ:X→Nat) (x0:X) (τ0:Name→Name) (h0:LeL cf.U τ0 s (I x0) (O x0) u)
  (hr:∀ x,∀ E':Eng P cf (lqE E (fun s'=>∃ y,μ y<μ x∧∃ τ,LeL cf.U τ s' (I y) (O y) u) k),E'.run [.code c] (mk (I x) (O x) u)):cV E (.loop c) s k:=by
 have:=nH (P:=P) (cf:=cf) (c:=c) (s:=s) (k:=k) (Q:=Q) (fun x=>mk (I x) (O x) u) μ (fun x s'=>∃ y,μ y<μ x∧∃ τ,LeL cf.U τ s' (I y) (O y) u) ⟨x0,τ0,h0.le⟩ (fun _ _ ⟨y,hy,τ,h⟩=>⟨y,hy,τ,h.le⟩) (fun x=>by rw [← uu E];exact veil (hr x))
 exact this
theorem BB (q:Name × Name) (l:List (Name × Name)) (p:Name):tau (q::l) p=if p=q.1 then q.2 else tau l p:=by
 unfold tau
 rw [lkA]
theorem Df (p:Name):tau [] p=p:=rfl
attribute [go_sem] BB Df forall_eq forall_eq_or_imp
end
end Go.Ab

namespace Go.Ab
def rK (f:Nat) (cs:List AV):AV :=
 match fo cs with
 | some ds=>.d (.clo f ds)
 | none=>.clo f cs
mutual
def AV.frB (p:Name) (d:D):AV→AV
 | .un=>.un
 | .d x=>.d x
 | .vw q o l=>.vw q o l
 | .bx q c=>if q=p∧c=0 then .d (.ptr d) else .bx q c
 | .el q i c=>.el q i c
 | .mp q=>.mp q
 | .it q=>.it q
 | .agg cs=>eI (kN p d cs)
 | .tup cs=>.tup (kN p d cs)
 | .clo f cs=>rK f (kN p d cs)
 | .va q o l=>.va q o l
 | .ea q i=>.ea q i
 | .ma q=>.ma q
def kN (p:Name) (d:D):List AV→List AV
 | []=>[]
 | x::r=>x.frB p d::kN p d r
end
theorem dz (p:Name) (d:D):∀ l:List AV,(kN p d l).length=l.length
 | []=>rfl
 | _::r=>by simp [kN,dz p d r]
theorem gW (p:Name) (d:D):∀ (l:List AV) (i:Nat),(kN p d l)[i]?=(l[i]?).map (AV.frB p d)
 | [],i=>by simp [kN]
 | x::r,0=>by simp [kN]
 | x::r,i+1=>by simp [kN,gW p d r i]
section
variable {H:Array Obj} {own own':Nat→Prop} {used:List Nat} {hp hp':Name→Option Ob} {β:Name→Option Blk}
theorem oY {f:Nat} {vs:Array Value} {cs:List AV} (hs:vs.size=cs.length) (h:∀ i x,cs[i]?=some x→VR H own used hp β (vs.getD i undef) x):VR H own used hp β (.func (.func f) #[] vs) (rK f cs):=by
 unfold rK
 split
 ·rename_i ds hd
  have e:=iT hd
  subst e
  exact .d _ _ (.clo f vs ds (by simpa using hs) fun i d hi=>(h i (.d d) (by simp [hi])).toD)
 ·exact .clo f vs cs hs h
theorem VR.frB {p:Name} {d:D} (hr:∀ v d,Rep H own v d→Rep H own' v d) (hst:∀ q,nm used q→Stays hp hp' β β q) (hp0:hp p=some (.box (d.cells.map .d))) (hsc:∀ x∈d.cells,x.scal=true) (ho:OR H own used hp β p (.box (d.cells.map .d)))
  (hno:∀ k,β p=some k→¬ own' k.b) {v:Value} {x:AV} (h:VR H own used hp β v x):VR H own' used hp' β v (x.frB p d):=by
 induction h with
 | un v=>exact .un v
 | d v x h=>exact .d v x (hr v x h)
 | vw v q off len hn h1 h=>exact VR.mono hr (fun _ h=>h) hst (.vw v q off len hn h1 h)
 | bx v q c hn h1 h =>
   unfold AV.frB
   split
   ·rename_i e
    obtain ⟨rfl,rfl⟩:=e
    obtain ⟨k,hk,hk0,rfl⟩:=h _ _ hp0
    obtain ⟨k',cc,e,hk',_,hc,_,hl,_,hrep⟩:=ho
    rw [hk] at hk'
    cases hk'
    refine .d _ _ (.ptr k.b 0 cc e (0,0) d hc (hno k hk) (by simp at hl;omega) hsc fun j x hj=>?_)
    have:=(hrep j (.d x) (by simp [hj])).toD
    rw [Nat.zero_add]
    exact hr _ _ this
   ·exact VR.mono hr (fun _ h=>h) hst (.bx v q c hn h1 h)
 | el v q i c hn h1 h=>exact VR.mono hr (fun _ h=>h) hst (.el v q i c hn h1 h)
 | mp v q hn h1 h=>exact VR.mono hr (fun _ h=>h) hst (.mp v q hn h1 h)
 | its v q hn h1 h h'=>exact VR.mono hr (fun _ h=>h) hst (.its v q hn h1 h h')
 | va v q off len hn h1 h=>exact VR.mono hr (fun _ h=>h) hst (.va v q off len hn h1 h)
 | ea v q i hn h1 h=>exact VR.mono hr (fun _ h=>h) hst (.ea v q i hn h1 h)
 | ma v q hn h1 h=>exact VR.mono hr (fun _ h=>h) hst (.ma v q hn h1 h)
 | agg vs cs hs hc _ ih =>
   have:=ed (H:=H) (own:=own') (used:=used) (hp:=hp') (β:=β) (vs:=vs.toList) (cs:=kN p d cs) (by rw [dz];simpa using hs) (by simpa using hc) (fun i v x hv hx=>by
    rw [gW,Option.map_eq_some_iff] at hx
    obtain ⟨y,hy,rfl⟩:=hx
    have:=ih i y hy
    have e:vs.getD i undef=v:=by
     simp only [Array.getElem?_toList] at hv
     simp [Array.getD_eq_getD_getElem?,hv]
    rw [e] at this
    exact this)
   simpa [AV.frB] using this
 | tup vs cs hs _ ih =>
   refine .tup vs _ (by rw [dz];exact hs) (fun i x hi=>?_)
   rw [gW,Option.map_eq_some_iff] at hi
   obtain ⟨y,hy,rfl⟩:=hi
   exact ih i y hy
 | clo f vs cs hs _ ih =>
   refine oY (by rw [dz];exact hs) (fun i x hi=>?_)
   rw [gW,Option.map_eq_some_iff] at hi
   obtain ⟨y,hy,rfl⟩:=hi
   exact ih i y hy
end
def Ob.frB (p:Name) (d:D):Ob→Ob
 | .boxT ty cs=>.boxT ty (kN p d cs)
 | o=>o
theorem Ob.zh (p:Name) (d:D) (o:Ob):o.like (o.frB p d):=by
 cases o<;>simp [Ob.frB,Ob.like]
def St.frB (s:St) (p:Name) (d:D):St:={ fr:=fun t=>(s.fr t).frB p d,hp:=fun q=>(ax s.hp p none q).map (Ob.frB p d),used:=s.used }
theorem Sim.frB {B:Base} {β:Name→Option Blk} {s:St} {tm:Array Value} {w:World} (h:Sim B β s tm w) {p:Name} {d:D} (hp:s.hp p=some (.box (d.cells.map .d))) (hsc:∀ x∈d.cells,x.scal=true):Sim B β (s.frB p d) tm w:=by
 have hsub:∀ q o',(s.frB p d).hp q=some o'→q≠p∧∃ o,s.hp q=some o∧o'=o.frB p d:=by
  intro q o' ho
  by_cases e:q=p
  ·subst e;simp [St.frB,ax] at ho
  ·simp only [St.frB,ax,if_neg e,Option.map_eq_some_iff] at ho
   obtain ⟨o,h1,h2⟩:=ho
   exact ⟨e,o,h1,h2.symm⟩
 have hne:∀ q,(s.frB p d).hp q≠none→s.hp q≠none∧q≠p:=by
  intro q hq
  cases ho:(s.frB p d).hp q with
  | none=>exact absurd ho hq
  | some o' =>
    obtain ⟨e,o,h1,_⟩:=hsub q o' ho
    exact ⟨by rw [h1];simp,e⟩
 have hr:∀ v d',Rep w.heap (s.own B.A β) v d'→Rep w.heap ((s.frB p d).own B.A β) v d':=fun v d' hd=>hd.mono (fun _ _ _=>rfl) (by
  rintro b _ (hA | ⟨q,k,hq,hk,e⟩)
  ·exact .inl hA
  ·exact .inr ⟨q,k,(hne q hq).1,hk,e⟩)
 have hst:∀ q,nm s.used q→Stays s.hp (s.frB p d).hp β β q:=fun q _ o' ho'=>by
  obtain ⟨_,o,h1,rfl⟩:=hsub q o' ho'
  exact ⟨o,h1,Ob.zh p d o,rfl⟩
 have hno:∀ k,β p=some k→¬ (s.frB p d).own B.A β k.b:=by
  rintro k hk (hA | ⟨q,k',hq,hk',e⟩)
  ·exact (h.blocks p k (by rw [hp];simp) hk).2.1 hA
  ·exact (hne q hq).2 (h.inj q p k' k (hne q hq).1 (by rw [hp];simp) hk' hk e)
 have hvr:∀ {v:Value} {x:AV},VR w.heap (s.own B.A β) s.used s.hp β v x→VR w.heap ((s.frB p d).own B.A β) s.used (s.frB p d).hp β v (x.frB p d):=fun hv=>hv.frB hr hst hp hsc (h.objs p _ hp).2 hno
 refine { tms:=h.tms,io:=h.io,size:=h.size,frame:=h.frame,slots:=fun i=>hvr (h.slots i),objs:=fun q o' ho'=>?_,blocks:=fun q k hq hk=>h.blocks q k (hne q hq).1 hk,inj:=fun q q' k k' hq hq'=>h.inj q q' k k' (hne q hq).1 (hne q' hq').1,us:=h.us,stay:=h.stay }
 obtain ⟨_,o,h1,rfl⟩:=hsub q o' ho'
 obtain ⟨g1,g2⟩:=h.objs q o h1
 refine ⟨g1,?_⟩
 cases o with
 | boxT ty cs =>
   obtain ⟨k,c,e,a1,a2,a3,a4,a5,a6,a7⟩:=g2
   refine ⟨k,c,e,a1,a2,a3,a4,by rw [a5,dz],a6,fun j x hj=>?_⟩
   rw [gW,Option.map_eq_some_iff] at hj
   obtain ⟨y,hy,rfl⟩:=hj
   exact hvr (a7 j y hy)
 | _=>exact g2.mono hr (fun _ h=>h) hst rfl fun _ _=>rfl
section
variable {P:Program} {cf:Cf} {Q:Exit→St→Prop} {s:St} {k:List It}
theorem nh (E:Eng P cf Q) {d:Option Nat} {op:Op} {ty:TypeId} {ps:String} {af:Array Edge} (p:Name) (x:D) (hp:s.hp p=some (.box (x.cells.map .d))) (hsc:(x.cells.all D.scal)=true) (h:E.stp { dst:=d,op:=op,type:=ty,pos:=ps,after:=af,guard:=none } (s.frB p x) k (opR P.ti cf.n op d (s.frB p x))) :
  E.stp { dst:=d,op:=op,type:=ty,pos:=ps,after:=af,guard:=none } s k .no:=by
 rw [aK]
 rw [E.stp_eq] at h
 have h1:=cg (o:={ dst:=d,op:=op,type:=ty,pos:=ps,after:=af,guard:=none }) rfl h
 intro B hB ds β a w' hds hs Q'
 exact h1 B hB ds β a w' hds (hs.frB hp (List.all_eq_true.1 hsc)) Q'
theorem bL (E:Eng P cf Q) {c:Code} (p:Name) (x:D) (hp:s.hp p=some (.box (x.cells.map .d))) (hsc:(x.cells.all D.scal)=true) (h:cV E c (s.frB p x) k):cV E c s k:=by
 intro B hB ds β a w' hds hs
 exact h B hB ds β a w' hds (hs.frB hp (List.all_eq_true.1 hsc))
theorem wv (p:Name) (d:D) (t:Nat):∀ l:List (Nat × AV),(lkA .un l t).frB p d=lkA .un (l.map fun q=>(q.1,q.2.frB p d)) t
 | []=>rfl
 | q::r=>by
   simp only [lkA,List.map_cons]
   split
   ·rfl
   ·exact wv p d t r
theorem r5 (p:Name) (d:D) (q:Name):∀ l:List (Name × Ob),(lkA none (l.map fun x=>(x.1,some x.2)) q).map (Ob.frB p d)=lkA none ((l.map fun x=>(x.1,x.2.frB p d)).map fun x=>(x.1,some x.2)) q
 | []=>rfl
 | x::r=>by
   simp only [lkA,List.map_cons]
   split
   ·rfl
   ·exact r5 p d q r
theorem EW (fr:List (Nat × AV)) (hp:List (Name × Ob)) (u:List Nat) (p:Name) (d:D):(mk fr hp u).frB p d=mk (fr.map fun q=>(q.1,q.2.frB p d)) ((eX hp p).map fun q=>(q.1,q.2.frB p d)) u:=by
 unfold St.frB mk
 congr 1
 ·funext t
  exact wv p d t fr
 ·funext q
  rw [← r5,eP,eK]
  rfl
theorem qj {α β:Type} (f:α→β) (l:List α):(l.map f).take l.length=l.map f:=List.take_of_length_le (by simp)
attribute [go_sem] EW AV.frB kN Ob.frB rK D.cells qj List.take_succ_cons List.take_zero List.take_nil
theorem jZ (E:Eng P cf Q) {dst:Option Nat} {u:Nat} {args:Array Operand} {at':Array TypeId} {ty:TypeId} {pos:String} {af:Array Edge}
  {f:FuncId} {caps ds:List D} {Q0:AV→Prop} (hc:HP P cf.G f ds Q0)
  (hev:s.fr u=.d (.clo f caps)) (hargs:args.toList.map (ev (s.put u (.clo f (caps.map .d))))++caps.map .d=ds.map .d) (hdst:∀ t∈dst,t<cf.n) (hk:∀ r,Q0 r→E.run k ((s.put u (.clo f (caps.map .d))).dA dst r)) :
  E.stp { dst:=dst,op:=.call { callee:=.value (.tmp u),args:=args,argTypes:=at' },type:=ty,pos:=pos,after:=af,guard:=none } s k .no:=by
 rw [aK]
 have h1:AOk P cf { dst:=dst,op:=.call { callee:=.value (.tmp u),args:=args,argTypes:=at' },type:=ty,pos:=pos,after:=af,guard:=none } (s.put u (.clo f (caps.map .d))) k Q :=
  fb hc (show bS _ _ _ _=_ by simp [bS]) hargs hdst fun r hr=>by rw [← E.run_eq];exact hk r hr
 intro B hB ds' β a w' hds hs Q'
 refine h1 B hB ds' β a w' hds (hs.setv ?_) Q'
 have hv:=hs.slots u
 rw [hev] at hv
 have hv:=hv.toD
 generalize a.tmps.getD u undef=v at hv
 cases hv with
 | clo _ vs _ hsz hrep =>
   refine .clo f vs _ (by simpa using hsz) fun i x hi=>?_
   rw [List.getElem?_map,Option.map_eq_some_iff] at hi
   obtain ⟨y,hy,rfl⟩:=hi
   exact .d _ _ (hrep i y hy)
theorem gU {op:BinOp} {t:TypeId} {x y:Operand} {yt:TypeId} {a:Act} {w:World} {d:Option Nat} {ty:TypeId} {ps:String} {af:Array Edge} {v:Value} (hg:(eqGuard op t x y (a.eval x) (a.eval y)).run P w=.ok () w) (hb:(binOp op t (a.eval x) (a.eval y)).run P w=.ok v w) :
  (execOp a.eval { dst:=d,op:=.binOp op t x y yt,type:=ty,pos:=ps,after:=af,guard:=none }).run P w=.ok (.value v) w:=by
 simp only [execOp,Sem.run_bind,hg,Result.andThen_ok,hb]
 rfl
theorem gn {t e:TypeId} (w:World) (hu:P.underlying t=some (.slice e)) (d:Nat) (ad:Option Addr) (n cap:Nat):(Op.equalIn (d+1) t (.slice ad n cap) (.slice none 0 0)).run P w=.ok ad.isNone w:=by
 cases ad<;>simp [Op.equalIn,run_underlying hu]
theorem ra {t e:TypeId} (w:World) (hu:P.underlying t=some (.slice e)) (ad:Option Addr) (n cap:Nat):(binOp .eql t (.slice ad n cap) (.slice none 0 0)).run P w=.ok (.bool ad.isNone) w:=by
 have h:(binOp .eql t (.slice ad n cap) (.slice none 0 0)).run P w=((Op.equalIn (9999+1) t (.slice ad n cap) (.slice none 0 0)).run P w).andThen fun b w'=>.ok (.bool b) w':=by
  simp only [binOp]
  simp [Op.equal,Op.maxDepth]
 rw [h,gn w hu];rfl
theorem r8 {t e:TypeId} (w:World) (hu:P.underlying t=some (.slice e)) (ad:Option Addr) (n cap:Nat):(binOp .neq t (.slice ad n cap) (.slice none 0 0)).run P w=.ok (.bool (!ad.isNone)) w:=by
 have h:(binOp .neq t (.slice ad n cap) (.slice none 0 0)).run P w=((Op.equalIn (9999+1) t (.slice ad n cap) (.slice none 0 0)).run P w).andThen fun b w'=>.ok (.bool (!b)) w':=by
  simp only [binOp]
  simp [Op.equal,Op.maxDepth]
 rw [h,gn w hu];rfl
theorem A1 (E:Eng P cf Q) {t e:TypeId} {x:Operand} {yt:TypeId} {dst:Nat} {ty:TypeId} {ps:String} {af:Array Edge} (neg:Bool) (hk:(P.ti t).k=.slice e) (hd:dst<cf.n) {w0:W} {xs:List D} (hx:ev s x=.d (.sl w0 xs))
  (h:∀ b:Bool,(b=true→xs=[])→E.run k (s.put dst (.d (.bool (if neg then !b else b))))) :
  E.stp { dst:=some dst,op:=.binOp (if neg then .neq else .eql) t x (.const (.slice none 0 0)) yt,type:=ty,pos:=ps,after:=af,guard:=none } s k .no:=by
 rw [aK]
 intro B hB ds β a w hds hs Q'
 have hv:=hs.ev x
 rw [hx] at hv
 have hv:=hv.toD
 have hu:=aW hk
 have hrun:∃ b:Bool,(b=true→xs=[])∧(execOp a.eval { dst:=some dst,op:=.binOp (if neg then .neq else .eql) t x (.const (.slice none 0 0)) yt,type:=ty,pos:=ps,after:=af,guard:=none }).run P w=.ok (.value (.bool (if neg then !b else b))) w:=by
  have key:∀ ad n cap,a.eval x=.slice ad n cap→(execOp a.eval { dst:=some dst,op:=.binOp (if neg then .neq else .eql) t x (.const (.slice none 0 0)) yt,type:=ty,pos:=ps,after:=af,guard:=none }).run P w=.ok (.value (.bool (if neg then !ad.isNone else ad.isNone))) w:=by
   intro ad n cap hv
   refine gU ?_ ?_
   ·rw [hv];cases neg<;>rfl
   ·rw [hv]
    show (binOp _ t (.slice ad n cap) (.slice none 0 0)).run P w=_
    cases neg
    ·exact ra w hu ad n cap
    ·exact r8 w hu ad n cap
  generalize hval:a.eval x=v at hv
  cases hv with
  | sl0 ad cap w=>exact ⟨ad.isNone,fun _=>rfl,key _ _ _ hval⟩
  | sl b o cap c e fz w xs=>exact ⟨false,fun h=>(by cases h),key _ _ _ hval⟩
 obtain ⟨b,hb,hrun⟩:=hrun
 have h1:=h b hb
 rw [E.run_eq] at h1
 exact az (by simp) hrun (.inl rfl) ⟨hds,_,β,aV h1,hs.put (by rw [hB.1];exact hd) (.d _ _ (.bool _))⟩
end
end Go.Ab
namespace Go.Ab
def eqP:D→D→Option Bool
 | .int i a,.int j b=>if i=j then some (decide (a=b)) else none
 | .bool a,.bool b=>some (a == b)
 | .str a,.str b=>some (decide (a=b))
 | _,_=>none
def kOk:TK→D→Bool
 | .int _,.int _ _=>true
 | .bool,.bool _=>true
 | .str,.str _=>true
 | _,_=>false
def eqS (tf:Nat→TI):List (Nat × Nat)→List D→List D→Option Bool
 | [],_,_=>some true
 | f::r,a0s,bs=>match a0s[f.1]?,bs[f.1]? with
   | some a,some b=>if kOk (tf f.2).k a && kOk (tf f.2).k b then (eqP a b).bind fun x=>(eqS tf r a0s bs).map fun y=>x && y else none
   | _,_=>none
end Go.Ab
open Go.Ab in
def Go.Program.dF (P:Program) (t:Nat):Bool:=match P.underlying t with
 | some (.struct fs)=>(fs.toList.all fun f=>f.name != "_") && !P.stoodInHeld t && !P.eqGuardType P.depth t
 | _=>false
namespace Go.Ab
section
variable {P:Program} {w:World} {H:Array Obj} {own:Nat→Prop}
theorem C3 {t:TypeId} {u v:Value} {a b:D} {r:Bool} (ha:Rep H own u a) (hb:Rep H own v b) (ka:kOk (P.ti t).k a=true) (he:eqP a b=some r) (d:Nat):(Op.equalIn (d+1) t u v).run P w=.ok r w:=by
 cases a<;>cases b<;>simp [eqP] at he<;>cases ha<;>cases hb
 ·rename_i i x j y
  obtain ⟨hij,rfl⟩:=he
  subst hij
  cases hk:(P.ti t).k<;>rw [hk] at ka<;>simp [kOk] at ka
  rw [run_equalIn_int w d t _ _ _ _ (e8 hk)]
  rfl
 ·subst he
  cases hk:(P.ti t).k<;>rw [hk] at ka<;>simp [kOk] at ka
  exact run_equalIn_bool' w d t _ _ (jf (by rw [hk];rfl))
 ·subst he
  cases hk:(P.ti t).k<;>rw [hk] at ka<;>simp [kOk] at ka
  rw [run_equalIn_string w d t _ _ (eB hk)]
  congr 1
  rw [Bool.eq_iff_iff]
  simp
theorem yK {i:TI} {a:D} (h:kOk i.k a=true):i.k.aQ=false∧i.k.agg=false:=by
 cases hk:i.k<;>cases a<;>simp_all [kOk,TK.aQ,TK.agg]
theorem k8 (d:Nat) {xs ys:Array Value} {a0s bs:List D} (hxs:∀ (i:Nat) a,a0s[i]?=some a→i<xs.size∧Rep H own (xs.getD i undef) a) (hys:∀ (i:Nat) a,bs[i]?=some a→i<ys.size∧Rep H own (ys.getD i undef) a) :
  ∀ (fs:List Field) (r:Bool),(fs.all fun f=>f.name != "_")=true→eqS P.ti (fs.map fun f=>(f.offset,f.type)) a0s bs=some r→(Op.eqFields (d+1) xs ys fs).run P w=.ok r w
 | [],r,_,h=>by
   simp [eqS] at h
   subst h
   rfl
 | f::fs,r,hn,h=>by
   simp only [List.all_cons,Bool.and_eq_true,bne_iff_ne,ne_eq] at hn
   simp only [List.map_cons,eqS] at h
   split at h
   ·rename_i a b ha hb
    split at h
    ·rename_i hk
     simp only [Bool.and_eq_true] at hk
     obtain ⟨x,hx,h⟩:=Option.bind_eq_some_iff.1 h
     obtain ⟨y,hy,rfl⟩:=Option.map_eq_some_iff.1 h
     obtain ⟨h1,h2⟩:=hxs _ _ ha
     obtain ⟨h3,h4⟩:=hys _ _ hb
     obtain ⟨g1,g2⟩:=yK hk.1
     have ih:=k8 d hxs hys fs y hn.2 hy
     have e1:=cy (P:=P) (w:=w) g1 g2 xs f.offset _ (dS (z:=undef) h1)
     have e2:=cy (P:=P) (w:=w) g1 g2 ys f.offset _ (dS (z:=undef) h3)
     have e3:=C3 (P:=P) (w:=w) h2 h4 hk.1 hx d
     simp only [Op.eqFields,Sem.run_ite,hn.1,ne_eq,not_false_eq_true,if_true,Sem.run_bind,e1,e2,e3,Result.andThen_ok]
     cases x
     ·rfl
     ·simp only [Bool.not_true,Bool.false_eq_true,if_false,Bool.true_and]
      exact ih
    ·cases h
   ·cases h
theorem ki {t:TypeId} (h:P.dF t=true):∃ fl:Array Field,P.underlying t=some (.struct fl)∧P.fieldsOf t=fl∧(fl.toList.all fun f=>f.name != "_")=true∧P.stoodInHeld t=false∧P.eqGuardType P.depth t=false:=by
 unfold Program.dF at h
 split at h
 ·rename_i fl hf
  simp only [Bool.and_eq_true,Bool.not_eq_true'] at h
  exact ⟨fl,hf,by simp [Program.fieldsOf,hf],h.1.1,h.1.2,h.2⟩
 ·cases h
theorem iN {v:Value} {a0s:List D} (h:Rep H own v (.agg a0s)):∃ xs,v=.agg xs∧∀ (i:Nat) a,a0s[i]?=some a→i<xs.size∧Rep H own (xs.getD i undef) a:=by
 cases h with
 | agg xs _ hs _ hr=>exact ⟨xs,rfl,fun i a hi=>⟨by rw [hs];exact (List.getElem?_eq_some_iff.1 hi).1,hr i a hi⟩⟩
theorem gQ {t:TypeId} {u v:Value} {a0s bs:List D} {r:Bool} {fs:List (Nat × Nat)} (hst:P.dF t=true) (hk:(P.ti t).k=.struct fs) (hu:Rep H own u (.agg a0s)) (hv:Rep H own v (.agg bs)) (h:eqS P.ti fs a0s bs=some r) (d:Nat) :
  (Op.equalIn (d+2) t u v).run P w=.ok r w:=by
 obtain ⟨fl,h1,h2,h3,h4,_⟩:=ki hst
 obtain ⟨fl',h1',rfl⟩:=fu hk
 rw [h1] at h1'
 cases h1'
 obtain ⟨xs,rfl,hx⟩:=iN hu
 obtain ⟨ys,rfl,hy⟩:=iN hv
 rw [run_equalIn_agg w (d+1) t xs ys (by rw [h2];exact h1) h4,h2]
 exact k8 d hx hy _ r h3 h
end
section
variable {P:Program} {cf:Cf} {Q:Exit→St→Prop} {s:St} {k:List It}
theorem D2 {t:TypeId} {x y:Operand} {yt:TypeId} {dst:Nat} {ty:TypeId} {ps:String} {af:Array Edge} {g:Option (Nat × Bool)} (neg:Bool) {a0s bs:List D} {r:Bool} {fs:List (Nat × Nat)} (hst:P.dF t=true) (hk:(P.ti t).k=.struct fs) (hd:dst<cf.n)
  (hx:ev s x=.d (.agg a0s)) (hy:ev s y=.d (.agg bs)) (h:eqS P.ti fs a0s bs=some r) (hr:run P cf k Q (s.put dst (.d (.bool (if neg then !r else r))))) :
  AOk P cf { dst:=some dst,op:=.binOp (if neg then .neq else .eql) t x y yt,type:=ty,pos:=ps,after:=af,guard:=g } s k Q:=by
 intro B hB ds β a w hds hs Q'
 have hu:=hs.ev x
 rw [hx] at hu
 have hv:=hs.ev y
 rw [hy] at hv
 have he:=gQ (w:=w) hst hk hu.toD hv.toD h 9998
 obtain ⟨xs,hxs,_⟩:=iN hu.toD
 obtain ⟨ys,hys,_⟩:=iN hv.toD
 obtain ⟨_,_,_,_,_,hgt⟩:=ki hst
 rw [hxs,hys] at he
 have hrun:(execOp a.eval { dst:=some dst,op:=.binOp (if neg then .neq else .eql) t x y yt,type:=ty,pos:=ps,after:=af,guard:=g }).run P w=.ok (.value (.bool (if neg then !r else r))) w:=by
  have h1:(eqGuard (if neg then BinOp.neq else BinOp.eql) t x y (a.eval x) (a.eval y)).run P w=.ok () w:=by
   rw [hxs,hys];exact run_eqGuard_agg w _ t x y xs ys hgt
  have h2:(binOp (if neg then BinOp.neq else BinOp.eql) t (a.eval x) (a.eval y)).run P w=.ok (.bool (if neg then !r else r)) w:=by
   rw [hxs,hys]
   have he':(Op.equalIn 10000 t (.agg xs) (.agg ys)).run P w=.ok r w:=he
   cases neg
   ·rw [if_neg (by simp),run_eql_struct w t xs ys,he'];rfl
   ·rw [if_pos rfl,run_neq_struct w t xs ys,he'];rfl
  simp only [execOp,Sem.run_bind,h1,Result.andThen_ok,h2]
  rfl
 exact az (by simp) hrun (.inl rfl) ⟨hds,_,β,aV hr,hs.put (by rw [hB.1];exact hd) (.d _ _ (.bool _))⟩
def keP (i j:IntKind) (q:Int × Int):D:=.agg [.int i q.1,.int j q.2]
def kvP (i j:IntKind) (q:Int × Int):Value:=.agg #[.int i q.1,.int j q.2]
theorem qn (H:Array Obj) (own:Nat→Prop) (i j:IntKind) (q:Int × Int):Rep H own (kvP i j q) (keP i j q):=by
 refine .agg _ _ rfl (by simp [D.scal]) fun n d hd=>?_
 match n,hd with
 | 0,hd=>obtain rfl:=Option.some.inj hd;exact .int _ _
 | 1,hd=>obtain rfl:=Option.some.inj hd;exact .int _ _
theorem Dx {H:Array Obj} {own:Nat→Prop} {i j:IntKind} {v:Value} {q:Int × Int} (h:Rep H own v (keP i j q)):v=kvP i j q:=by
 cases h with
 | agg xs _ hs _ hr =>
   have h0:=hr 0 (.int i q.1) rfl
   have h1:=hr 1 (.int j q.2) rfl
   have hs:xs.size=2:=hs
   obtain ⟨l⟩:=xs
   match l,hs with
   | [u,v],_ =>
     simp at h0 h1
     cases h0;cases h1
     rfl
theorem CA {kt:TypeId} {i j:IntKind} {f0 f1:Field} (hu:P.underlying kt=some (.struct #[f0,f1])) (h0:f0.offset=0) (h1:f1.offset=1) (k0:(P.ti f0.type).k=.int i) (k1:(P.ti f1.type).k=.int j) (hst:P.dF kt=true) (hk:(P.ti kt).k=.struct [(0,f0.type),(1,f1.type)]) :
  fJ P kt (keP i j) (kvP i j) where
 val:=Dx
 rep:=fun H own q=>qn H own i j q
 chk:=fun b a w=>by
  have e1:=cy (P:=P) (t:=f0.type) (w:=w) (by rw [k0];rfl) (by rw [k0];rfl) #[.int i a.1,.int j a.2] 0 (.int i a.1) rfl
  have e2:=cy (P:=P) (t:=f1.type) (w:=w) (by rw [k1];rfl) (by rw [k1];rfl) #[.int i a.1,.int j a.2] 1 (.int j a.2) rfl
  have e3:=MapKept.run_checkKey (P:=P) (w:=w) (kt:=f0.type) (k:=.int i a.1) (e8 k0) (show i=i from rfl) b 9998
  have e4:=MapKept.run_checkKey (P:=P) (w:=w) (kt:=f1.type) (k:=.int j a.2) (e8 k1) (show j=j from rfl) b 9998
  have:(Instr.checkKey b (9999+1) kt (kvP i j a)).run P w=.ok () w:=by
   unfold Instr.checkKey kvP
   simp only [Sem.run_bind,run_underlying hu,Result.andThen_ok]
   rw [← Array.forIn_toList]
   simp only [List.forIn_cons,List.forIn_nil,h0,h1]
   by_cases n0:f0.name = "_" <;> by_cases n1:f1.name = "_" <;> simp [n0,n1,e1,e2,e3,e4]
  exact this
 same:=fun a=>by
  have:Instr.sameBits (9998+2) (kvP i j a) (kvP i j a)=true:=by simp [Instr.sameBits,kvP]
  exact this
 find:=fun a es ks w hks=>by
  have heq:∀ x:Int × Int,(Op.equal kt (kvP i j a) (kvP i j x)).run P w=.ok (decide (x=a)) w:=fun x=>by
   have:=gQ (w:=w) (H:=#[]) (own:=fun _=>False) (d:=9998) hst hk (qn _ _ i j a) (qn _ _ i j x) (r:=decide (a.1=x.1) && (decide (a.2=x.2) && true)) (by simp [eqS,k0,k1,kOk,eqP])
   have e:decide (x=a)=(decide (a.1=x.1) && (decide (a.2=x.2) && true)):=by
    rw [Bool.eq_iff_iff]
    simp only [Bool.and_eq_true,decide_eq_true_eq,and_true]
    exact ⟨fun h=>by rw [h];exact ⟨rfl,rfl⟩,fun h=>Prod.ext h.1.symm h.2.symm⟩
   rw [e]
   exact this
  have ask:∀ (es:List MapEntry) (ks:List (Int × Int)) (n:Nat),es.map (·.key)=ks.map (kvP i j)→(Instr.findAsking kt (kvP i j a) es n).run P w=.ok ((midx ks a).bind fun m=>(es[m]?).map fun e=>(n+m,e.val)) w:=by
   intro es
   induction es with
   | nil =>
     intro ks n h
     cases ks with
     | nil=>rfl
     | cons k r=>simp at h
   | cons e es ih =>
     intro ks n h
     cases ks with
     | nil=>simp at h
     | cons k r =>
       simp only [List.map_cons,List.cons.injEq] at h
       simp only [Instr.findAsking,h.1,Sem.run_bind,heq,Result.andThen_ok,midx]
       by_cases hka:k=a
       ·simp [hka]
       ·simp only [hka,decide_false,Bool.false_eq_true,if_false,ih r (n+1) h.2]
        cases midx r a with
        | none=>rfl
        | some m=>simp [Nat.add_assoc,Nat.add_comm 1 m]
  cases es with
  | nil =>
    cases ks with
    | nil=>simp [Instr.findKey,run_underlying hu,Instr.findNow,midx]
    | cons k r=>simp at hks
  | cons e es =>
    have:=ask (e::es) ks 0 hks
    simp only [Nat.zero_add] at this
    have hnow:Instr.findNow (.struct #[f0,f1]) (kvP i j a) (e::es) 0=none:=by simp [Instr.findNow,Instr.sameNow]
    simp only [Instr.findKey,Sem.run_bind,run_underlying hu,Result.andThen_ok,hnow]
    exact this
end
end Go.Ab
namespace Go.Ab
section
variable {P:Program}
theorem aL {G:List (Nat × Obj)} {f:FuncId} {fn:Func} {c:Code} {args:List AV} {hp:List (Name × Ob)} {u:List Nat} {Q:AV→List (Name × Ob)→Prop} (hf:P.funcs[f]?=some fn) (hb:fn.body=some c)
  (hnm:(fn.name == "runtime.NumGoroutine")=false) (hn:args.length≤fn.ntmps) (h:run P ⟨fn.ntmps,none,G,u⟩ [.code c] (fq P fn.results.toList u Q) (mk (aO 0 args) hp u)):HCall P G f args hp u Q :=
 zZ hf hb (cP hf hb hnm) hn (fun _ _ h=>h) h
theorem Gr (rs:List ResultVar) (u:List Nat) (Q:AV→List (Name × Ob)→Prop) (s:St):fq P rs u Q .ret s=RX (fU P s rs) fun l=>∃ r hp' u' τ,Q r hp'∧LeL u τ (oc s (cI l)) [(0,r)] hp' u':=rfl
theorem wH (rs:List ResultVar) (u:List Nat) (Q:AV→List (Name × Ob)→Prop) (s:St):fq P rs u Q .normal s=RX (fU P s rs) fun l=>∃ r hp' u' τ,Q r hp'∧LeL u τ (oc s (cI l)) [(0,r)] hp' u':=rfl
theorem BR (fr hp u) (x:AV):oc (mk fr hp u) x=mk [(0,x)] hp u:=by
 unfold oc mk
 congr 1
attribute [go_sem] Gr wH BR
def zJ:List (Name × Ob)→List (Name × Ob)→List (Name × Ob)
 | [],hp=>hp
 | q::r,hp=>fY (zJ r hp) q.1 q.2
def AB:List Name→List (Name × Ob)→List (Name × Ob)
 | [],hp=>hp
 | p::r,hp=>eX (AB r hp) p
theorem ru (q:Name) (hp:List (Name × Ob)):∀ l:List (Name × Ob),lkA none ((zJ l hp).map fun x=>(x.1,some x.2)) q=lkA (lkA none (hp.map fun x=>(x.1,some x.2)) q) (l.map fun x=>(x.1,some x.2)) q
 | []=>rfl
 | x::r=>by
   rw [zJ,lK,iX,ru q hp r,List.map_cons,bB]
theorem sE (q:Name) (hp:List (Name × Ob)):∀ l:List Name,lkA none ((AB l hp).map fun x=>(x.1,some x.2)) q=lkA (lkA none (hp.map fun x=>(x.1,some x.2)) q) (l.map fun x=>(x,(none:Option Ob))) q
 | []=>rfl
 | x::r=>by
   rw [AB,eP,eK,sE q hp r,List.map_cons,bB]
theorem FH (fr hp u) (σ:Name→Name) (d:Nat) (chp hp':List (Name × Ob)) (r:AV):aft (mk fr hp u) σ d chp hp' r=mk (fY fr d (r.ren (dV σ d chp))) (zJ (hp'.map fun x=>(dV σ d chp x.1,x.2.ren (dV σ d chp))) (AB (chp.map fun x=>σ x.1) hp)) (d::u):=by
 unfold aft mk
 congr 1
 ·funext j
  rw [iX];rfl
 ·funext q
  simp only
  rw [ru,sE]
  simp only [List.map_map]
  rfl
attribute [go_sem] FH zJ AB dV eT iy Ob.like List.any_cons List.any_nil
end
section
variable {P:Program} {cf:Cf} {Q:Exit→St→Prop} {s:St} {k:List It}
theorem bn (E:Eng P cf Q) {d:Nat} {fv:Operand} {args:Array Operand} {at':Array TypeId} {ty:TypeId} {pos:String} {af:Array Edge}
  {f:FuncId} {caps:List AV} (cargs:List AV) (chp:List (Name × Ob)) (cu:List Nat) {Q0:AV→List (Name × Ob)→Prop} (hc:HCall P cf.G f cargs chp cu Q0)
  (hev:ev s fv=.clo f caps) (hargs:args.toList.map (ev s)++caps=cargs) (hd:d<cf.n∧d ∉ s.used) (hcu:bZ cu cargs=true) (hpass:eT id cu s chp) (hinj:lC id chp)
  (hk:∀ r hp',Q0 r hp'→iy chp hp'∧E.run k (aft s id d chp hp' r)) :
  E.stp { dst:=some d,op:=.call { callee:=.value fv,args:=args,argTypes:=at' },type:=ty,pos:=pos,after:=af,guard:=none } s k .no:=by
 rw [aK]
 refine qb d id cargs chp cu Q0 hev ?_ hcu hd.2 (fun t ht=>?_) hpass hinj hc fun r hp' hr=>?_
 ·rw [hargs]
  have:∀ l:List AV,bM id l=l:=fun l=>by
   induction l with
   | nil=>rfl
   | cons x r ih=>rw [bM,ih,AV.cZ id (fun _=>rfl)]
  exact (this _).symm
 ·obtain rfl:=Option.some.inj ht
  exact ⟨hd.1,rfl⟩
 ·obtain ⟨h1,h2⟩:=hk r hp' hr
  exact ⟨h1,by rw [← E.run_eq];exact h2⟩
section
variable {κ:Type} [DecidableEq κ] {ke:κ→D} {kv:κ→Value} {ops:Array Oper} {K:St→Ns→Prop} {r:List Oper} {ns:Ns}
end
end
end Go.Ab

namespace Go.Proofs.YthfodompfpdmgaaGreatDoor
open Go.Ab
variable {t:TypeId} {fz:Nat × Nat}
def smZ (n:Int):Bool:=(decide (97≤n) && decide (n≤122)) || decide (n=95)
def grZ (n:Int):Bool:=decide (65≤n) && decide (n≤90)
def diZ (n:Int):Bool:=decide (48≤n) && decide (n≤57)
def sm (c:UInt8):Bool:=smZ c.toNat
def gr (c:UInt8):Bool:=grZ c.toNat
def mo (c:UInt8):Bool:=sm c || gr c || diZ c.toNat
def u8 (c:UInt8):D:=.int .u8 (c.toNat:Nat)
theorem tR {G} (c:UInt8):HP Tryz.prog G 99 [u8 c] (fun r=>r=.d (.bool (sm c))):=by
 refine ao Tryz.func99 rfl (by decide +kernel) (by simp [Tryz.ntmps99]) (veil fun E=>?_)
 unfold u8
 simp only [go_sem]
 refine aC E (fun h1=>?_) (fun h1=>?_)<;>simp only [go_sem]
 ·refine aC E (fun h2=>?_) (fun h2=>?_)<;>simp only [go_sem]
  ·simp [sm,smZ,h1,h2]
  ·simp [sm,smZ,h1,h2]
 ·simp [sm,smZ,h1]
theorem lT {G} (c:UInt8):HP Tryz.prog G 132 [u8 c] (fun r=>r=.d (.bool (sm c))):=by
 refine ao Tryz.func132 rfl (by decide +kernel) (by simp [Tryz.ntmps132]) (veil fun E=>?_)
 unfold u8
 simp only [go_sem]
 refine aC E (fun h1=>?_) (fun h1=>?_)<;>simp only [go_sem]
 ·refine aC E (fun h2=>?_) (fun h2=>?_)<;>simp only [go_sem]
  ·simp [sm,smZ,h1,h2]
  ·simp [sm,smZ,h1,h2]
 ·simp [sm,smZ,h1]
theorem pj {G} (c:UInt8):HP Tryz.prog G 101 [u8 c] (fun r=>r=.d (.bool (gr c))):=by
 refine ao Tryz.func101 rfl (by decide +kernel) (by simp [Tryz.ntmps101]) (veil fun E=>?_)
 unfold u8
 simp only [go_sem]
 refine aC E (fun h1=>?_) (fun h1=>?_)<;>simp only [go_sem]
 ·simp [gr,grZ,h1]
 ·simp [gr,grZ,h1]
theorem lU {G} (c:UInt8):HP Tryz.prog G 134 [u8 c] (fun r=>r=.d (.bool (gr c))):=by
 refine ao Tryz.func134 rfl (by decide +kernel) (by simp [Tryz.ntmps134]) (veil fun E=>?_)
 unfold u8
 simp only [go_sem]
 refine aC E (fun h1=>?_) (fun h1=>?_)<;>simp only [go_sem]
 ·simp [gr,grZ,h1]
 ·simp [gr,grZ,h1]
theorem vR {G} (c:UInt8):HP Tryz.prog G 164 [u8 c] (fun r=>r=.d (.bool (mo c))):=by
 refine ao Tryz.func164 rfl (by decide +kernel) (by simp [Tryz.ntmps164]) (veil fun E=>?_)
 unfold u8
 simp only [go_sem]
 refine ae E (tR c) rfl rfl (by simp) ?_
 rintro _ rfl
 simp only [go_sem]
 refine cX E (fun h1=>?_) (fun h1=>?_)<;>simp only [go_sem]
 ·simp [mo,h1]
 refine ae E (pj c) rfl rfl (by simp) ?_
 rintro _ rfl
 simp only [go_sem]
 refine cX E (fun h2=>?_) (fun h2=>?_)<;>simp only [go_sem]
 ·simp [mo,h2]
 refine aC E (fun h3=>?_) (fun h3=>?_)<;>simp only [go_sem]
 ·simp [mo,h1,h2,diZ,h3]
 ·simp [mo,h1,h2,diZ,h3]
def wlen:List UInt8→Nat
 | []=>0
 | c::r=>if mo c then wlen r+1 else 0
def eL (l:List UInt8):Nat:=match l with
 | []=>0
 | c::r=>if sm c || gr c then wlen r+1 else 0
theorem iG {l:List UInt8} {i:Nat} (h:i<l.length):wlen (l.drop i)=if mo (l.getD i 0) then wlen (l.drop (i+1))+1 else 0:=by
 have e:l.getD i 0=l[i]:=by simp [h]
 rw [List.drop_eq_getElem_cons h,wlen,e]
theorem j1 {l:List UInt8}:wlen (l.drop l.length)=0:=by rw [List.drop_length];rfl
theorem dq {l:List UInt8} (h:1≤l.length):eL l=if sm (l.getD 0 0) || gr (l.getD 0 0) then wlen (l.drop 1)+1 else 0:=by
 cases l with
 | nil=>simp at h
 | cons c r=>rfl
theorem Dy {G} (l:List UInt8) (hl:l.length≤9223372036854775807):HP Tryz.prog G 135 [.str l] (fun r=>r=.d (i64 (eL l))):=by
 refine ao Tryz.func135 rfl (by decide +kernel) (by simp [Tryz.ntmps135]) (veil fun E=>?_)
 simp only [go_sem]
 refine cX E (fun h0=>?_) (fun h0=>?_)<;>simp only [go_sem]
 ·have:l=[]:=by simpa using h0
  subst this;rfl
 have h0:1≤l.length:=by
  cases l with
  | nil=>simp at h0
  | cons c r=>simp
 refine ⟨by omega,?_⟩
 refine ae E (tR (l.getD 0 0)) rfl rfl (by simp) ?_
 rintro _ rfl
 simp only [go_sem]
 refine cX E (fun h1=>?_) (fun h1=>?_)<;>simp only [go_sem]
 ·have h1:sm (l.getD 0 0)=false:=by simpa using h1
  refine ⟨by omega,?_⟩
  refine ae E (pj (l.getD 0 0)) rfl rfl (by simp) ?_
  rintro _ rfl
  simp only [go_sem]
  refine aX E (fun h2=>?_) (fun h2=>?_)<;>simp only [go_sem]
  ·have h2:gr (l.getD 0 0)=false:=by simpa using h2
   rw [dq h0,h1,h2];rfl
  ·have h2:gr (l.getD 0 0)=true:=by simpa using h2
   have hsg:(sm (l.getD 0 0) || gr (l.getD 0 0))=true:=by rw [h2,Bool.or_true]
   refine bc E (X:={ i:Nat // i≤l.length∧i+wlen (l.drop i)=wlen (l.drop 1)+1 }) (fun x=>[(0,.d (.str l)),(3,.d (i64 x.1))]) (fun x=>l.length-x.1) rfl ⟨1,h0,by omega⟩ ?_ ?_
   ·simp only [go_sem]
    all_goals rfl
   rintro ⟨i,hi,hw⟩ E'
   simp only [go_sem]
   have hn:eL l=wlen (l.drop 1)+1:=by rw [dq h0,hsg,if_pos rfl]
   refine aC E' (fun h3=>?_) (fun h3=>?_)<;>simp only [go_sem]
   ·have hi':i<l.length:=by omega
    have hwd:=iG hi'
    refine ⟨by omega,?_⟩
    refine ae E' (vR (l.getD i 0)) rfl rfl (by simp) ?_
    rintro _ rfl
    simp only [go_sem]
    refine aX E' (fun h4=>?_) (fun h4=>?_)<;>simp only [go_sem]
    ·rw [h4,if_pos rfl] at hwd
     refine ⟨⟨i+1,by omega,by omega⟩,by show l.length-(i+1)<_;omega,?_⟩
     rw [ab ⟨by omega,by omega⟩];rfl
    ·rw [h4,if_neg (by simp)] at hwd
     rw [hn]
     exact congrArg (fun n:Nat=>AV.d (i64 (n:Int))) (by omega)
   ·have hil:i=l.length:=by omega
    subst hil
    rw [j1] at hw
    rw [hn]
    exact congrArg (fun n:Nat=>AV.d (i64 (n:Int))) (by omega)
 ·have h1:sm (l.getD 0 0)=true:=by simpa using h1
  have hsg:(sm (l.getD 0 0) || gr (l.getD 0 0))=true:=by rw [h1,Bool.true_or]
  refine bc E (X:={ i:Nat // i≤l.length∧i+wlen (l.drop i)=wlen (l.drop 1)+1 }) (fun x=>[(0,.d (.str l)),(3,.d (i64 x.1))]) (fun x=>l.length-x.1) rfl ⟨1,h0,by omega⟩ ?_ ?_
  ·simp only [go_sem]
   all_goals rfl
  rintro ⟨i,hi,hw⟩ E'
  simp only [go_sem]
  have hn:eL l=wlen (l.drop 1)+1:=by rw [dq h0,hsg,if_pos rfl]
  refine aC E' (fun h3=>?_) (fun h3=>?_)<;>simp only [go_sem]
  ·have hi':i<l.length:=by omega
   have hwd:=iG hi'
   refine ⟨by omega,?_⟩
   refine ae E' (vR (l.getD i 0)) rfl rfl (by simp) ?_
   rintro _ rfl
   simp only [go_sem]
   refine aX E' (fun h4=>?_) (fun h4=>?_)<;>simp only [go_sem]
   ·rw [h4,if_pos rfl] at hwd
    refine ⟨⟨i+1,by omega,by omega⟩,by show l.length-(i+1)<_;omega,?_⟩
    rw [ab ⟨by omega,by omega⟩];rfl
   ·rw [h4,if_neg (by simp)] at hwd
    rw [hn]
    exact congrArg (fun n:Nat=>AV.d (i64 (n:Int))) (by omega)
  ·have hil:i=l.length:=by omega
   subst hil
   rw [j1] at hw
   rw [hn]
   exact congrArg (fun n:Nat=>AV.d (i64 (n:Int))) (by omega)
theorem vC {G} (l:List UInt8) (hl:l.length≤9223372036854775807):HP Tryz.prog G 131 [.str l] (fun r=>r=.d (i64 (eL l))):=by
 refine ao Tryz.func131 rfl (by decide +kernel) (by simp [Tryz.ntmps131]) (veil fun E=>?_)
 simp only [go_sem]
 refine aC E (fun h0=>?_) (fun h0=>?_)<;>simp only [go_sem]
 ·have:l=[]:=List.length_eq_zero_iff.1 (by omega)
  subst this;rfl
 have h0:1≤l.length:=by omega
 refine ⟨by omega,?_⟩
 refine ae E (lT (l.getD 0 0)) rfl rfl (by simp) ?_
 rintro _ rfl
 simp only [go_sem]
 refine cX E (fun h1=>?_) (fun h1=>?_)<;>simp only [go_sem]
 ·have h1:sm (l.getD 0 0)=false:=by simpa using h1
  refine ⟨by omega,?_⟩
  refine ae E (lU (l.getD 0 0)) rfl rfl (by simp) ?_
  rintro _ rfl
  simp only [go_sem]
  refine aX E (fun h2=>?_) (fun h2=>?_)<;>simp only [go_sem]
  ·have h2:gr (l.getD 0 0)=false:=by simpa using h2
   rw [dq h0,h1,h2];rfl
  ·have h2:gr (l.getD 0 0)=true:=by simpa using h2
   have hsg:(sm (l.getD 0 0) || gr (l.getD 0 0))=true:=by rw [h2,Bool.or_true]
   refine bc E (X:={ i:Nat // i≤l.length∧i+wlen (l.drop i)=wlen (l.drop 1)+1 }) (fun x=>[(0,.d (.str l)),(3,.d (i64 x.1))]) (fun x=>l.length-x.1) rfl ⟨1,h0,by omega⟩ ?_ ?_
   ·simp only [go_sem]
    all_goals rfl
   rintro ⟨i,hi,hw⟩ E'
   simp only [go_sem]
   have hn:eL l=wlen (l.drop 1)+1:=by rw [dq h0,hsg,if_pos rfl]
   refine aC E' (fun h3=>?_) (fun h3=>?_)<;>simp only [go_sem]
   ·have hi':i<l.length:=by omega
    have hwd:=iG hi'
    have yes:mo (l.getD i 0)=true→∃ y:{ i:Nat // i≤l.length∧i+wlen (l.drop i)=wlen (l.drop 1)+1 },l.length-y.1<l.length-i∧AV.d (.int .i64 (w64 ((i:Int)+1)))=AV.d (i64 y.1):=fun h4=>by
     rw [h4,if_pos rfl] at hwd
     refine ⟨⟨i+1,by omega,by omega⟩,by show l.length-(i+1)<_;omega,?_⟩
     rw [ab ⟨by omega,by omega⟩];rfl
    have no:mo (l.getD i 0)=false→AV.d (i64 (i:Int))=AV.d (i64 (eL l:Nat)):=fun h4=>by
     rw [h4,if_neg (by simp)] at hwd
     rw [hn]
     exact congrArg (fun n:Nat=>AV.d (i64 (n:Int))) (by omega)
    refine ⟨by omega,?_⟩
    refine ae E' (lT (l.getD i 0)) rfl rfl (by simp) ?_
    rintro _ rfl
    simp only [go_sem]
    refine cX E' (fun h4=>?_) (fun h4=>?_)<;>simp only [go_sem]
    ·exact yes (by simp only [mo,h4,Bool.true_or])
    refine ⟨by omega,?_⟩
    refine ae E' (lU (l.getD i 0)) rfl rfl (by simp) ?_
    rintro _ rfl
    simp only [go_sem]
    refine cX E' (fun h5=>?_) (fun h5=>?_)<;>simp only [go_sem]
    ·exact yes (by simp only [mo,h5,Bool.or_true,Bool.true_or])
    refine ⟨by omega,?_⟩
    refine aC E' (fun h6=>?_) (fun h6=>?_)<;>simp only [go_sem]
    ·refine ⟨by omega,?_⟩
     refine ai E' (fun h7=>?_) (fun h7=>?_)<;>simp only [go_sem]
     ·exact yes (by simp only [mo,h4,h5,diZ];rw [decide_eq_true h6,decide_eq_true h7];rfl)
     ·exact no (by simp only [mo,h4,h5,diZ];rw [decide_eq_false h7];simp)
    ·exact no (by simp only [mo,h4,h5,diZ];rw [decide_eq_false h6];simp)
   ·have hil:i=l.length:=by omega
    subst hil
    rw [j1] at hw
    rw [hn]
    exact congrArg (fun n:Nat=>AV.d (i64 (n:Int))) (by omega)
 ·have h1:sm (l.getD 0 0)=true:=by simpa using h1
  have hsg:(sm (l.getD 0 0) || gr (l.getD 0 0))=true:=by rw [h1,Bool.true_or]
  refine bc E (X:={ i:Nat // i≤l.length∧i+wlen (l.drop i)=wlen (l.drop 1)+1 }) (fun x=>[(0,.d (.str l)),(3,.d (i64 x.1))]) (fun x=>l.length-x.1) rfl ⟨1,h0,by omega⟩ ?_ ?_
  ·simp only [go_sem]
   all_goals rfl
  rintro ⟨i,hi,hw⟩ E'
  simp only [go_sem]
  have hn:eL l=wlen (l.drop 1)+1:=by rw [dq h0,hsg,if_pos rfl]
  refine aC E' (fun h3=>?_) (fun h3=>?_)<;>simp only [go_sem]
  ·have hi':i<l.length:=by omega
   have hwd:=iG hi'
   have yes:mo (l.getD i 0)=true→∃ y:{ i:Nat // i≤l.length∧i+wlen (l.drop i)=wlen (l.drop 1)+1 },l.length-y.1<l.length-i∧AV.d (.int .i64 (w64 ((i:Int)+1)))=AV.d (i64 y.1):=fun h4=>by
    rw [h4,if_pos rfl] at hwd
    refine ⟨⟨i+1,by omega,by omega⟩,by show l.length-(i+1)<_;omega,?_⟩
    rw [ab ⟨by omega,by omega⟩];rfl
   have no:mo (l.getD i 0)=false→AV.d (i64 (i:Int))=AV.d (i64 (eL l:Nat)):=fun h4=>by
    rw [h4,if_neg (by simp)] at hwd
    rw [hn]
    exact congrArg (fun n:Nat=>AV.d (i64 (n:Int))) (by omega)
   refine ⟨by omega,?_⟩
   refine ae E' (lT (l.getD i 0)) rfl rfl (by simp) ?_
   rintro _ rfl
   simp only [go_sem]
   refine cX E' (fun h4=>?_) (fun h4=>?_)<;>simp only [go_sem]
   ·exact yes (by simp only [mo,h4,Bool.true_or])
   refine ⟨by omega,?_⟩
   refine ae E' (lU (l.getD i 0)) rfl rfl (by simp) ?_
   rintro _ rfl
   simp only [go_sem]
   refine cX E' (fun h5=>?_) (fun h5=>?_)<;>simp only [go_sem]
   ·exact yes (by simp only [mo,h5,Bool.or_true,Bool.true_or])
   refine ⟨by omega,?_⟩
   refine aC E' (fun h6=>?_) (fun h6=>?_)<;>simp only [go_sem]
   ·refine ⟨by omega,?_⟩
    refine ai E' (fun h7=>?_) (fun h7=>?_)<;>simp only [go_sem]
    ·exact yes (by simp only [mo,h4,h5,diZ];rw [decide_eq_true h6,decide_eq_true h7];rfl)
    ·exact no (by simp only [mo,h4,h5,diZ];rw [decide_eq_false h7];simp)
   ·exact no (by simp only [mo,h4,h5,diZ];rw [decide_eq_false h6];simp)
  ·have hil:i=l.length:=by omega
   subst hil
   rw [j1] at hw
   rw [hn]
   exact congrArg (fun n:Nat=>AV.d (i64 (n:Int))) (by omega)
end Go.Proofs.YthfodompfpdmgaaGreatDoor

namespace Go.Proofs.YthfodompfpdmgaaGreatDoor
open Go.Ab
variable {t:TypeId} {fz:Nat × Nat}
theorem mixed:Tryz.prog.follows .mixedOrders=true:=by kernel_rfl
def kwB:List (List UInt8):=[[102,117,110],[108,101,116],[114,101,99],[105,110],[105,102],[116,104,101,110],[101,108,115,101],[99,97,115,101],[111,102],[101,110,100],[116,114,117,101],[102,97,108,115,101],[99,104,101,99,107],[97,115,107],[116,111,112],[98,111,116],[105,110,116],[98,111,111,108],[115,116,114,105,110,103],[109,117]]
def strs (l:List (List UInt8)):D:=.sl none (l.map .str)
theorem Cb {G}:HP Tryz.prog G 137 [] (fun r=>r=.d (strs kwB)):=by
 refine aP Tryz.func137 rfl (by decide +kernel) (by simp [Tryz.ntmps137]) (veil fun E=>?_)
 simp only [go_sem]
 refine ⟨[([1],none,kwB.map .str)],?_⟩
 simp only [go_sem]
 refine ⟨rfl,?_⟩
 rfl
theorem Da {G}:HP Tryz.prog G 163 [] (fun r=>r=.d (strs kwB)):=by
 refine aP Tryz.func163 rfl (by decide +kernel) (by simp [Tryz.ntmps163]) (veil fun E=>?_)
 simp only [go_sem]
 refine ⟨[([1],none,kwB.map .str)],?_⟩
 simp only [go_sem]
 refine ⟨rfl,?_⟩
 rfl
theorem ir {l:List (List UInt8)} {i:Nat} (h:i<l.length):(l.map D.str).getD i .nilp=.str (l.getD i []):=by
 simp [h]
theorem s9 {l:List (List UInt8)} {i:Nat} {s:List UInt8} (hi:i<l.length) (h:s ∉ l.take i) (h2:l.getD i []≠s):s ∉ l.take (i+1):=by
 rw [List.take_succ_eq_append_getElem hi]
 simp only [List.mem_append,List.mem_singleton,not_or]
 refine ⟨h,fun e=>h2 ?_⟩
 simp [hi,e]
theorem CS {G} (s:List UInt8) (l:List (List UInt8)) (hl:l.length≤9223372036854775807):HP Tryz.prog G 162 [.str s,strs l] (fun r=>r=.d (.bool (decide (s∈l)))):=by
 refine ao Tryz.func162 rfl (by decide +kernel) (by simp [Tryz.ntmps162]) (veil fun E=>?_)
 unfold strs
 simp only [go_sem]
 refine bc E (X:={ i:Nat // i≤l.length∧s ∉ l.take i }) (fun x=>[(0,.d (.str s)),(1,.d (.sl none (l.map .str))),(5,.d (i64 x.1))]) (fun x=>l.length-x.1) rfl ⟨0,by simp,by simp⟩ ?_ ?_
 ·simp only [go_sem]
  all_goals rfl
 rintro ⟨i,hi,hm⟩ E'
 simp only [go_sem]
 refine ai E' (fun h6=>?_) (fun h6=>?_)<;>simp only [go_sem]
 ·have hi':i<l.length:=by omega
  refine ⟨by omega,?_⟩
  rw [ir hi']
  simp only [go_sem]
  refine aX E' (fun h7=>?_) (fun h7=>?_)<;>simp only [go_sem]
  ·have h7:l.getD i []=s:=by simpa using h7
   have:s∈l:=by
    rw [← h7]
    simp [hi']
   rw [decide_eq_true this]
  ·have h7:l.getD i []≠s:=by simpa using h7
   refine ⟨⟨i+1,by omega,s9 hi' hm h7⟩,by show l.length-(i+1)<_;omega,?_⟩
   rw [ab ⟨by omega,by omega⟩];rfl
 ·have hil:i=l.length:=by omega
  subst hil
  rw [List.take_length] at hm
  rw [decide_eq_false hm]
theorem BP {G} (l:List (List UInt8)) (s:List UInt8) (hl:l.length≤9223372036854775807):HP Tryz.prog G 165 [strs l,.str s] (fun r=>∃ n,r=.d (i64 n)∧(0≤n↔s∈l)):=by
 refine ao Tryz.func165 rfl (by decide +kernel) (by simp [Tryz.ntmps165]) (veil fun E=>?_)
 unfold strs
 simp only [go_sem]
 refine bc E (X:={ i:Nat // i≤l.length∧s ∉ l.take i }) (fun x=>[(0,.d (.sl none (l.map .str))),(1,.d (.str s)),(7,.d (i64 l.length)),(8,.d (i64 x.1))]) (fun x=>l.length-x.1) rfl ⟨0,by simp,by simp⟩ ?_ ?_
 ·simp only [go_sem]
  all_goals rfl
 rintro ⟨i,hi,hm⟩ E'
 simp only [go_sem]
 refine ai E' (fun h6=>?_) (fun h6=>?_)<;>simp only [go_sem]
 ·have hi':i<l.length:=by omega
  refine ⟨by omega,?_⟩
  rw [ir hi']
  simp only [go_sem]
  refine aX E' (fun h7=>?_) (fun h7=>?_)<;>simp only [go_sem]
  ·have h7:s=l.getD i []:=by simpa using h7
   have:s∈l:=by
    rw [h7]
    simp [hi']
   exact ⟨_,rfl,fun _=>this,fun _=>by omega⟩
  ·have h7:l.getD i []≠s:=by
    intro e
    rw [e] at h7
    simp at h7
   refine ⟨⟨i+1,by omega,s9 hi' hm h7⟩,by show l.length-(i+1)<_;omega,?_⟩
   rw [ab ⟨by omega,by omega⟩];rfl
 ·have hil:i=l.length:=by omega
  subst hil
  rw [List.take_length] at hm
  exact ⟨-1,rfl,fun h=>absurd h (by decide),fun h=>absurd h hm⟩
theorem Dv {G} (l:List (List UInt8)) (s:List UInt8) (hl:l.length≤9223372036854775807):HP Tryz.prog G 136 [strs l,.str s] (fun r=>r=.d (.bool (decide (s∈l)))):=by
 refine ao Tryz.func136 rfl (by decide +kernel) (by simp [Tryz.ntmps136]) (veil fun E=>?_)
 simp only [go_sem]
 refine ae E (BP l s hl) rfl rfl (by simp) ?_
 rintro _ ⟨n,rfl,hn⟩
 simp only [go_sem]
 have:decide (0≤n)=decide (s∈l):=by rw [Bool.eq_iff_iff];simpa using hn
 rw [this]
def GC (s:List UInt8):Bool:=decide (s∈kwB)
theorem Ek:kwB.length≤9223372036854775807:=by decide
theorem Di {G} (s:List UInt8):HP Tryz.prog G 100 [.str s] (fun r=>r=.d (.bool (GC s))):=by
 refine ao Tryz.func100 rfl (by decide +kernel) (by simp [Tryz.ntmps100]) (veil fun E=>?_)
 simp only [go_sem]
 refine ae E Cb rfl rfl (by simp) ?_
 rintro _ rfl
 simp only [go_sem]
 refine ae E (Dv kwB s Ek) rfl rfl (by simp) ?_
 rintro _ rfl
 simp only [go_sem]
 rfl
theorem Cq {G} (s:List UInt8):HP Tryz.prog G 133 [.str s] (fun r=>r=.d (.bool (GC s))):=by
 refine ao Tryz.func133 rfl (by decide +kernel) (by simp [Tryz.ntmps133]) (veil fun E=>?_)
 simp only [go_sem]
 refine ae E Da rfl rfl (by simp) ?_
 rintro _ rfl
 simp only [go_sem]
 refine ae E (CS s kwB Ek) rfl rfl (by simp) ?_
 rintro _ rfl
 simp only [go_sem]
 rfl
def bx (s:List UInt8):Bool:=!s.isEmpty && decide (s.length≤20) && decide (eL s=s.length)
def cE (s:List UInt8):Bool:=bx s && sm (s.getD 0 0) && !GC s
def fG (s:List UInt8):Bool:=bx s && gr (s.getD 0 0)
theorem BQ (a b:Nat):decide (((a:Nat):Int)=((b:Nat):Int))=decide (a=b):=by rw [Bool.eq_iff_iff];simp;omega
end Go.Proofs.YthfodompfpdmgaaGreatDoor

namespace Go.Proofs.YthfodompfpdmgaaGreatDoor
open Go.Ab
variable {t:TypeId} {fz:Nat × Nat}
theorem AG {G} (s:List UInt8) (hl:s.length≤9223372036854775807):HP Tryz.prog G 98 [.str s] (fun r=>r=.d (.bool (bx s))):=by
 refine ao Tryz.func98 rfl (by decide +kernel) (by simp [Tryz.ntmps98]) (veil fun E=>?_)
 simp only [go_sem]
 refine cX E (fun h0=>?_) (fun h0=>?_)<;>simp only [go_sem]
 ·refine aC E (fun h1=>?_) (fun h1=>?_)<;>simp only [go_sem]
  ·refine ae E (Dy s hl) rfl rfl (by simp) ?_
   rintro _ rfl
   simp only [go_sem]
   have h0:s.isEmpty=false:=by simpa using h0
   simp only [bx,h0,BQ]
   rw [decide_eq_true (p:=s.length≤20) (by omega)]
   rfl
  ·have:¬ s.length≤20:=by omega
   simp only [bx]
   rw [decide_eq_false this,Bool.and_false,Bool.false_and]
 ·have h0:s.isEmpty=true:=by simpa using h0
  simp only [bx,h0]
  rfl
theorem ko {s:List UInt8} (h:bx s=true):1≤s.length:=by
 cases s with
 | nil=>simp [bx] at h
 | cons c r=>simp
theorem uM {G} (s:List UInt8) (hl:s.length≤9223372036854775807):HP Tryz.prog G 64 [.str s] (fun r=>r=.d (.bool (cE s))):=by
 refine ao Tryz.func64 rfl (by decide +kernel) (by simp [Tryz.ntmps64]) (veil fun E=>?_)
 simp only [go_sem]
 refine ae E (AG s hl) rfl rfl (by simp) ?_
 rintro _ rfl
 simp only [go_sem]
 refine cX E (fun h1=>?_) (fun h1=>?_)<;>simp only [go_sem]
 ·have:=ko h1
  refine ⟨by omega,?_⟩
  refine ae E (tR (s.getD 0 0)) rfl rfl (by simp) ?_
  rintro _ rfl
  simp only [go_sem]
  refine cX E (fun h2=>?_) (fun h2=>?_)<;>simp only [go_sem]
  ·refine ae E (Di s) rfl rfl (by simp) ?_
   rintro _ rfl
   simp only [go_sem]
   simp only [cE,h1,h2,Bool.true_and]
  ·simp only [cE,h1,h2,Bool.true_and,Bool.false_and]
 ·simp only [cE,h1,Bool.false_and]
theorem uj {G} (s:List UInt8) (hl:s.length≤9223372036854775807):HP Tryz.prog G 65 [.str s] (fun r=>r=.d (.bool (fG s))):=by
 refine ao Tryz.func65 rfl (by decide +kernel) (by simp [Tryz.ntmps65]) (veil fun E=>?_)
 simp only [go_sem]
 refine ae E (AG s hl) rfl rfl (by simp) ?_
 rintro _ rfl
 simp only [go_sem]
 refine cX E (fun h1=>?_) (fun h1=>?_)<;>simp only [go_sem]
 ·have:=ko h1
  refine ⟨by omega,?_⟩
  refine ae E (pj (s.getD 0 0)) rfl rfl (by simp) ?_
  rintro _ rfl
  simp only [go_sem]
  simp only [fG,h1,Bool.true_and]
 ·simp only [fG,h1,Bool.false_and]
theorem Bm {G} (s:List UInt8) (hl:s.length≤9223372036854775807):HP Tryz.prog G 94 [.str s] (fun r=>r=.d (.bool (cE s))):=by
 have hw:¬ (0<s.length∧s.length≤20∧eL s=s.length)→bx s=false:=fun h=>by
  cases hw:bx s with
  | false=>rfl
  | true =>
    refine absurd ?_ h
    simp only [bx,Bool.and_eq_true,decide_eq_true_eq] at hw
    exact ⟨ko (by simp only [bx,Bool.and_eq_true,decide_eq_true_eq];exact hw),hw.1.2,hw.2⟩
 have hwy:0<s.length→s.length≤20→eL s=s.length→bx s=true:=fun h1 h2 h3=>by
  simp only [bx,Bool.and_eq_true,decide_eq_true_eq]
  refine ⟨⟨?_,h2⟩,h3⟩
  cases s with
  | nil=>simp at h1
  | cons c r=>rfl
 refine ao Tryz.func94 rfl (by decide +kernel) (by simp [Tryz.ntmps94]) (veil fun E=>?_)
 simp only [go_sem]
 refine aC E (fun h1=>?_) (fun h1=>?_)<;>simp only [go_sem]
 ·refine aC E (fun h2=>?_) (fun h2=>?_)<;>simp only [go_sem]
  ·refine ae E (vC s hl) rfl rfl (by simp) ?_
   rintro _ rfl
   simp only [go_sem]
   refine aC E (fun h3=>?_) (fun h3=>?_)<;>simp only [go_sem]
   ·have hwt:=hwy (by omega) (by omega) (by omega)
    refine ⟨by omega,?_⟩
    refine ae E (lT (s.getD 0 0)) rfl rfl (by simp) ?_
    rintro _ rfl
    simp only [go_sem]
    refine cX E (fun h4=>?_) (fun h4=>?_)<;>simp only [go_sem]
    ·refine ae E (Cq s) rfl rfl (by simp) ?_
     rintro _ rfl
     simp only [go_sem]
     simp only [cE,hwt,h4,Bool.true_and]
    ·simp only [cE,hwt,h4,Bool.true_and,Bool.false_and]
   ·simp only [cE,hw (by omega),Bool.false_and]
  ·simp only [cE,hw (by omega),Bool.false_and]
 ·simp only [cE,hw (by omega),Bool.false_and]
theorem zA {G} (s:List UInt8) (hl:s.length≤9223372036854775807):HP Tryz.prog G 95 [.str s] (fun r=>r=.d (.bool (fG s))):=by
 have hw:¬ (0<s.length∧s.length≤20∧eL s=s.length)→bx s=false:=fun h=>by
  cases hw:bx s with
  | false=>rfl
  | true =>
    refine absurd ?_ h
    simp only [bx,Bool.and_eq_true,decide_eq_true_eq] at hw
    exact ⟨ko (by simp only [bx,Bool.and_eq_true,decide_eq_true_eq];exact hw),hw.1.2,hw.2⟩
 have hwy:0<s.length→s.length≤20→eL s=s.length→bx s=true:=fun h1 h2 h3=>by
  simp only [bx,Bool.and_eq_true,decide_eq_true_eq]
  refine ⟨⟨?_,h2⟩,h3⟩
  cases s with
  | nil=>simp at h1
  | cons c r=>rfl
 refine ao Tryz.func95 rfl (by decide +kernel) (by simp [Tryz.ntmps95]) (veil fun E=>?_)
 simp only [go_sem]
 refine aC E (fun h1=>?_) (fun h1=>?_)<;>simp only [go_sem]
 ·refine aC E (fun h2=>?_) (fun h2=>?_)<;>simp only [go_sem]
  ·refine ae E (vC s hl) rfl rfl (by simp) ?_
   rintro _ rfl
   simp only [go_sem]
   refine aC E (fun h3=>?_) (fun h3=>?_)<;>simp only [go_sem]
   ·have hwt:=hwy (by omega) (by omega) (by omega)
    refine ⟨by omega,?_⟩
    refine ae E (lU (s.getD 0 0)) rfl rfl (by simp) ?_
    rintro _ rfl
    simp only [go_sem]
    simp only [fG,hwt,Bool.true_and]
   ·simp only [fG,hw (by omega),Bool.false_and]
  ·simp only [fG,hw (by omega),Bool.false_and]
 ·simp only [fG,hw (by omega),Bool.false_and]
theorem Gi {α:Type} (k:Int) (hk:0≤k) (l:List α) [Decidable (k<(l.length:Int))]:List.take ((if k<(l.length:Int) then k else (l.length:Int)).toNat-0) l=l.take k.toNat:=by
 rw [Nat.sub_zero]
 split
 ·rfl
 ·rw [Int.toNat_natCast,List.take_length,List.take_of_length_le (by omega)]
theorem lJ {α β:Type} (f:α→β) (k:Int) (hk:0≤k) (l:List α) [Decidable (k<(l.length:Int))]:List.take ((if k<(l.length:Int) then k else (l.length:Int)).toNat-0) (l.map f)=(l.take k.toNat).map f:=by
 rw [← List.map_take,Gi k hk]
theorem pU (k n:Int) [Decidable (k<n)] (hk:0≤k) (hn:0≤n):(0≤if k<n then k else n)∧(if k<n then k else n)≤n:=by
 split<;>omega
end Go.Proofs.YthfodompfpdmgaaGreatDoor

