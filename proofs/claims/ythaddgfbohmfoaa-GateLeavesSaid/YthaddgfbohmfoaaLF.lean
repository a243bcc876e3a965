/-
  A symbolic run of the model, proved sound, and the walk of the code: a text of its parts. Conditions: none.
-/
import Derived.Test.YthaddgfbohmfoaaLE
set_option linter.unusedSectionVars false
set_option maxRecDepth 100000
set_option linter.unusedVariables false
set_option linter.unusedSimpArgs false
namespace Go.Proofs.Ythaddgfbohmfoaa
open Go.Proofs.Ythaddgfbohmfoaa.SX Go.Conc
open Go.ConcN (upd upd_ne upd_same)
open Go.Proofs.Try renaming prog->aa
open _root_.List renaming mem_cons->ac,mem_singleton->ad,not_mem_nil->ae,map_cons->ah,nodup_nil->ai,map_nil->ak,find?_cons->aw,mem_append->ay,cons_append->az,nil_append->aA,length_append->aD,getElem?_append_right->aE,length_pos_iff->aG,getElem?_append_left->aP,mem_filter->aU,append_nil->aX,toList_toArray->bm
open _root_.Option renaming map_some->af
open _root_.Int renaming toNat_natCast->ap
open _root_.Nat renaming reduceEqDiff->br
open _root_.Option.some renaming inj->au
open _root_.Bool renaming and_eq_true->ax
open _root_.Array renaming getD_eq_getD_getElem?->be
def Dn(j:Nat)(lY oR:Int)(ok:Bool):List Value:=[iV j,qn 0,iV 0,iV 0,iV 0,iV lY,iV oR,.bool ok]
def SS.dE(s:SS)(d:List Value)(TO jI:Nat):SS:={s with tl:=s.tl++d,TO:=TO,jI:=jI}
theorem TF{a:Nat}{s:SS}{L:cg}{d:List Value}{TO jI:Nat}(r:cD)(h0:r≠(a,.app 0 0))(h1:r≠(a,.app 1 0)):eQ a (s.dE d TO jI) L r=eQ a s L r:=by
 obtain⟨z,k⟩:=r;unfold eQ;by_cases hz:z=a
 ·subst hz;simp only[if_true];cases k with
  |app i i'=>
   rcases i with _|_|i
   ·have hi:¬(RK.app 0 i'=RK.app 0 0):=fun e=>h0 (by rw[e]);simp only[hi,if_false]
   ·have hi:¬(RK.app 1 i'=RK.app 1 0):=fun e=>h1 (by rw[e]);simp only[hi,if_false]
   ·rfl
  |_=>rfl
 ·simp only[hz,if_false]
abbrev KY(kd:Bool)(fr:Frame):Prop:=FA d7 117 [] [] (fE kd) [] fr
noncomputable def abM(j T R S:Nat)(lY oR:Int)(TO nl jI:Nat)(vs:List (Nat×Value)):cn:=gY [(2,j),(7,lY),(8,oR),(41,1),(42,1),(46,nl),(47,jI)] [(10,R),(14,T),(40,S),(43,TO)] vs
noncomputable def kg(a:Nat):Bool->List (cD×Nat×bM)
 |true=>[((a,.app 1 0),43,.cH false 45 (v 46) [] [] [] dQ (v 47)),((a,.app 0 0),40,.cH false 44 (v 41) [(.lit 10,xa true)] [] [] fe (v 42))]
 |false=>[((a,.app 0 0),40,.cH false 44 (v 41) [(.lit 10,xa false)] [] [] fe (v 42))]
noncomputable def yg(x a:Nat)(lg ok:Bool):List (cD×Nat×bM):=[((a,.app 1 0),101,Yp lg ok),((x,.dN),100,.cells (Py ok) dQ),((a,.app 0 0),40,.cH false 44 (v 41) [(.lit 10,xa lg)] [(.lit 10,tG lg)] [] fe (v 42))]
theorem ui(a:Nat)(lg:Bool):(kg a lg).map (·.2)=Tz lg:=by cases lg<;>rfl
theorem KZ(x a:Nat)(lg ok:Bool):(yg x a lg ok).map (·.2)=TC lg ok:=rfl
section
variable {base:Nat}{W0:World}{bJ:Nat->Option Tok.Seat}{h N:Nat}{m:Machine}{T:Trace}{w:World}{x a:Nat}{Y:GS}{L:cg}{cs:List Frame}{fr f11 f80:Frame}{j:Nat}{s:SS}
theorem TG{kd ok:Bool}{lY oR:Int}(A:dD aa base W0 bJ h N m T (G fr cs) w)(H:bK aa base w (ci x Y (eQ a s L)))(hS:cw (ci x Y (eQ a s L)) bJ)(hj:j<Y.n)(he:(Y.ts j).e=false)(dI:(Y.ts j).a.length=8)(hq:s.q.length=4)(Q3:s.tl.length=8*(s.tl.length / 8))(jC:s.tl.length / 8+1≤1048576)
 (hf:FA d7 117 (.inRegion qd []::Dm) [] (fE kd) [(0,cb s.S),(1,cb (Y.th j).T),(10,iV lY),(11,iV oR),(12,.bool ok)] fr):
  cm aa m T fun m' T'=>∃w' bT TO jI,dD aa base W0 bJ h N m' T' (G bT cs) w'∧bK aa base w' (ci x Y (eQ a (s.dE (Dn j lY oR ok) TO jI) L))∧KY kd bT:=by
 obtain⟨a0,a1,a2,a3,a4,a5,a6,a7,ha⟩:=r_ dI;obtain⟨lg,jZ⟩:∃b,b=!(s.tl.isEmpty):=⟨_,rfl⟩;have BT:lg=true->s.tl≠[]:=fun e e2=>by rw[e2,e]at jZ;cases jZ
 have kG:lg=false->s.tl=[]:=fun e=>by
  cases hl:s.tl with
  |nil=>rfl
  |cons a b=>rw[hl,e]at jZ;cases jZ
 let ρ:=abM j (Y.th j).T Y.R s.S lY oR s.TO (s.tl.length / 8) s.jI [(44,.agg s.xs.toArray),(45,.agg s.tl.toArray)];have hb:∀p∈KW lg,p.1.ev ρ=p.2:=fun p hp=>by
  cases lg with
  |false=>cases hp
  |true=>obtain rfl:=ad.1 hp;show decide ((((s.tl.length / 8:Nat):Int).toNat:Int)+1≤1048576)=true;exact decide_eq_true (by omega)
 have iM:ci x Y (eQ a s L) (x,.lW j)=some ((Y.th j).T,.obj mU (fA Y.R j (Y.th j) (Y.ts j))):=by rw[bY rfl];exact if_pos hj
 have hm:∀p∈nE,lq (ci x Y (eQ a s L)) ((kg a lg).map (·.1)) w base ρ p:=fun p hp=>by
  have nd:(x,RK.lW j)∉(kg a lg).map (·.1):=by cases lg<;>simp[kg]
  simp only[nE,ac,ae,or_false]at hp;rcases hp with rfl|rfl|rfl
  ·exact .inl ⟨_,_,iM,nd,rfl⟩
  ·exact .inl ⟨_,_,iM,nd,rfl⟩
  ·refine .inl ⟨_,_,iM,nd,?_⟩;show(fA Y.R j (Y.th j) (Y.ts j))[13]?=some (.bool false);unfold fA;rw[ha,he];rfl
 have x10:s.xs[10]?=some (c_ (s.tl.length / 8) s.TO s.jI):=by unfold SS.xs;rw[aE (by omega),hq];rfl
 have hpre:mo (ci x Y (eQ a s L)) ρ (kg a lg):=by
  have p0:∀Yt,Yt=lg->∃k,ci x Y (eQ a s L) (a,.app 0 0)=some (ρ.b 40,k)∧uQ aa ρ (.cH false 44 (v 41) [(.lit 10,xa Yt)] [] [] fe (v 42)) k:=fun Yt e=>by
   subst e;refine⟨.fF fe 1 s.xs,by rw[ct rfl];exact i5,rfl,rfl,fun i hi=>?_,fun q km=>?_,rfl⟩
   ·rw[mX i hi,rJ hq];rfl
   ·obtain rfl:=ad.1 km;show s.xs[10]?=_;rw[x10];cases Yt with
    |true=>rw[cy (by have:=aG.2 (BT rfl);omega)];rfl
    |false=>rw[kG rfl];rfl
  intro p hp;cases lg with
  |true=>
   simp only[kg,ac,ae,or_false]at hp;rcases hp with rfl|rfl
   ·refine⟨.fF dQ s.jI s.tl,by rw[ct rfl];exact Nd (BT rfl),rfl,rfl,fun i hi=>?_,(nofun),rfl⟩;rw[oU i hi];show _=(((s.tl.length / 8:Nat):Int)).toNat*8;rw[ap];omega
   ·exact p0 _ rfl
  |false=>obtain rfl:=ad.1 hp;exact p0 _ rfl
 have hv:c7 (cO (KW lg) nE 2 [101,100,40] (cJ (Yo kd ok (bU fr)) [] ((kg a lg).map (·.2)))) [] (fun _=>[])=some (⟨d7,117,[],[],.run,fE kd,[],TC lg ok,[]⟩,[]):=by rw[ui];exact aqa kd ok lg _
 have od:bR 100 (cJ (Yo kd ok (bU fr)) [] ((kg a lg).map (·.2)))=true:=by rw[ui];exact Yq kd ok lg _
 refine(cQ (cC:=[]) (cs:=cs) A H hS (kg a lg) (yg x a lg ok) hv (KZ x a lg ok).symm (by cases kd<;>rfl) od (abL lg) (ρ:=ρ) (hf.rel (eO kd) (abK ok) rfl rfl) trivial hb hm hpre (by cases lg<;>simp[kg]) (by simp[yg]) (by cases lg<;>rfl)).mono fun m1 T1 hd=>?_;obtain⟨w',bL,bT,dk,C⟩:=hd;obtain rfl:=C.none;have z2:bL.i 2=j:=C.bE.ii 2;have z7:bL.i 7=lY:=C.bE.ii 7;have z8:bL.i 8=oR:=C.bE.ii 8;have CH:bL.i 42=1:=C.bE.ii 42;have z46:bL.i 46=(s.tl.length / 8:Nat):=C.bE.ii 46;have lx:bL.b 40=s.S:=C.bE.bb 40;have K2:bL.v 44=.agg s.xs.toArray:=congrFun C.bE.v 44;have z45:bL.v 45=.agg s.tl.toArray:=congrFun C.bE.v 45;have eD:AV.cf bL (Py ok)=Dn j lY oR ok:=by simp only[Py,AV.cf,i64,i8,tr,v,AV.ev,IE.ev,BE.ev,z2,z7,z8];rfl
 have hz:(s.tl++Dn j lY oR ok).length / 8=s.tl.length / 8+1:=by rw[aD,show(Dn j lY oR ok).length=8 from rfl];omega
 refine⟨w',bT,bL.b 101,(bL.i 101).toNat,C.eG,C.heap.sub (cX [(a,.app 1 0),(x,.dN),(a,.app 0 0)] (fz (fun k hk hr=>rfl) fun r hr _=>TF r (fun e=>hr (by simp[e])) fun e=>hr (by simp[e])) (fun r hr=>?_) (fun p hp=>?_) fun r hr y hy=>?_),C.fr⟩
 ·cases lg<;>simp only[kg,ah,ak,ac,ae,or_false]at hr
  ·subst hr;simp
  ·rcases hr with rfl|rfl<;>simp
 ·simp only[cr,yg,ah,ak,ac,ae,or_false]at hp;rcases hp with rfl|rfl|rfl<;>simp
 ·simp only[ac,ae,or_false]at hr;rcases hr with rfl|rfl|rfl
  ·rw[ct rfl,Nd (by simp[SS.dE,Dn])]at hy;rw[<-au hy];refine bX ?_;simp only[cr,yg,ah,ak,aw,decide_true];cases lg with
   |true=>simp only[Yp,cY,v,IE.ev,z45,eD,gy];rfl
   |false=>simp only[Yp,cY,v,IE.ev,eD,SS.dE,kG rfl];rfl
  ·rw[bY rfl]at hy;cases hy
  ·rw[ct rfl,i5]at hy;rw[<-au hy];refine bX ?_;simp only[cr,yg,ah,ak,aw,Prod.mk.injEq,reduceCtorEq,and_false,decide_false,decide_true,RK.app.injEq,br,false_and];have ew:s.xs.set 10 (c_ (s.tl.length / 8+1) (bL.b 101) (bL.i 101).toNat)=(s.dE (Dn j lY oR ok) (bL.b 101) (bL.i 101).toNat).xs:=by
    unfold SS.xs SS.dE;dsimp only;rw[hz,List.set_append_right _ _ (by omega),hq];rfl
   have et:(tG lg).ev bL=c_ (s.tl.length / 8+1) (bL.b 101) (bL.i 101).toNat:=by
    rw[cy (Nat.succ_pos _)];cases lg with
    |true=>simp only[tG,v,AV.ev,IE.ev,af,AA.ev,BR.ev,z46,ap];rfl
    |false=>rw[kG rfl];rfl
   simp only[cY,dF,List.foldr_cons,List.foldr_nil,K2,gy,bm,et,AV.cf,aX,v,IE.ev,CH,lx];rw[<-ew];rfl
theorem PC{x:Nat}{Y:GS}{L0:cg}{j:Nat}{d:List Value}{mp:List (Value×Value)}{LA cL:Nat}:gD (ci x Y L0) (ci x (Y.M9 j d mp LA cL) L0):=by
 rintro⟨z,k⟩ b bk e hk;by_cases ha:fm k=true
 ·rw[ct ha]at e;exact⟨bk,by rw[ct ha];exact e,id⟩
 have sJ:fm k=false:=by
  cases e:fm k
  ·rfl
  ·exact absurd e ha
 by_cases hz:z=x
 ·subst hz;rw[bY sJ]at e;refine⟨bk,?_,id⟩;rw[bY sJ];cases k with
  |db=>
   rcases hk with hk|hk|hk
   ·cases hk
   ·cases hk
   ·subst hk;simp only[eo]at e;split at e<;>cases e
  |map=>
   rcases hk with hk|hk|hk
   ·cases hk
   ·cases hk
   ·subst hk;cases e
  |run=>
   rcases hk with hk|hk|hk
   ·cases hk
   ·cases hk
   ·subst hk;cases e
  |gG i=>
   rcases hk with hk|hk|hk
   ·cases hk
   ·cases hk
   ·subst hk;simp only[eo]at e;cases h:Y.gG i<;>rw[h]at e<;>cases e
  |_=>exact e
 ·rw[lu hz]at e;exact⟨bk,by rw[lu hz];exact e,id⟩
theorem Yu{kd:Bool}{c AB BX:Nat}{arg nw i4:Int}{gP:Bool}{l:List Nat}(o:pg)(A:dD aa base W0 bJ h N m T (G fr (f11::f80::cs)) w)(H:bK aa base w (ci x Y (eQ a s L)))(hS:cw (ci x Y (eQ a s L)) bJ)(hj:j<Y.n)(di:Y.dJ=false)(he:(Y.ts j).e=false)(dI:(Y.ts j).a.length=8)(hq:s.q.length=4)(hc:c<6)(Q3:s.tl.length=8*(s.tl.length / 8))(jC:s.tl.length / 8+1≤1048576)
 (hf:ye (Y.th j).T fr)(Dj:FA pK 127 stepT [] .normal [(0,cb (Y.th j).T),(1,cv s.S (4+c)),(2,qn o.i4),(3,iV arg),(4,iV nw),(13,cb AB)] f11){B4 TI:Int}(tH:Iq kd l s.S (Y.th j).T BX c o.i4 B4 TI f80)(hl:KM qd 13 Dl 8191 l)(hbx:s.box j=some (BX,iu o.i4 c B4 TI))
 (ur:o.jg (s.cells c) arg)(w9:Y.gG j=some (AB,[iV j,qn o.i4,iV (-1),iV arg,iV nw,iV 0,iV 0,.bool false]))(En:∀q∈Y.mp,∃off,q.1=cv s.S off)(qI:uU Y gP (cv s.S (4+c)) i4)(pi:Y.db.length=8*(Y.db.length / 8))(hrl:Y.db.length / 8+1≤1048576):
  cm aa m T fun m' T'=>∃w' bT LA cL TO jI,dD aa base W0 bJ h N m' T' (G bT cs) w'∧bK aa base w' (ci x (Y.M9 j (nD j o i4 arg nw (s.cells c)) (wZ Y gP (cv s.S (4+c))) LA cL) (eQ a ((s.setCell c (o.eu (s.cells c) arg nw)).dE (Dn j (s.cells c) (o.eu (s.cells c) arg nw) o.ok) TO jI) L))∧KY kd bT:=by
 refine(Tl (rc:=(a,.app 0 0)) (ca:=s.S) (co:=4+c) (cap:=1) (nn:=1) (e:=fe) (xs:=s.xs) (lY:=s.cells c) o A H hS hj di hf Dj ur w9 rfl i5 (fun i hi=>by rw[mX i hi,rJ hq]) (F4 hq hc) En qI pi hrl).trans fun m1 T1 hd=>?_;obtain⟨w1,c9,LA,cL,A1,H1,h1⟩:=hd;rw[Ir hq hc]at H1;have ck:gD (ci x Y (eQ a s L)) (ci x (Y.M9 j (nD j o i4 arg nw (s.cells c)) (wZ Y gP (cv s.S (4+c))) LA cL) (eQ a (s.setCell c (o.eu (s.cells c) arg nw)) L)):=by rw[<-Ir hq hc];exact PC.trans (uh rfl fun b=>by rw[i5];simp)
 have lM:=ck.still hS;have e0:gz (gY [(3,o.i4),(4,B4),(5,TI),(6,c),(7,s.cells c),(8,o.eu (s.cells c) arg nw)] [(14,(Y.th j).T),(38,BX),(40,s.S)] []) zr=TD s.S (Y.th j).T BX c o.i4 B4 TI:=rI rfl rfl rfl rfl rfl rfl rfl;have iw:c8 aa (gY [(3,o.i4),(4,B4),(5,TI),(6,c),(7,s.cells c),(8,o.eu (s.cells c) arg nw)] [(14,(Y.th j).T),(38,BX),(40,s.S)] []) [onC kd l (bU f80)] [f80]:=⟨tH.rel (eO kd) zr e0 rfl,trivial⟩;refine(cQ (cC:=[f80]) (cs:=cs) A1 H1 lM [] [] (aj7 kd o.ok l (bU c9) (bU f80)) rfl (by cases kd<;>rfl) (Tx kd o.ok l _ _) nU (ρ:=gY [(3,o.i4),(4,B4),(5,TI),(6,c),(7,s.cells c),(8,o.eu (s.cells c) arg nw)] [(14,(Y.th j).T),(38,BX),(40,s.S)] []) (h1.rel (.inl rfl) [(10,i64 (v 7)),(11,i64 (v 8)),(12,tr o.ok)] rfl rfl) iw (nofun) (nofun) (nofun) ai ai rfl).trans fun m2 T2 hd=>?_;obtain⟨w2,rn,iE,ad',C⟩:=hd;obtain rfl:=C.none;have H2:=cU C.heap;have rB:ci x (Y.M9 j (nD j o i4 arg nw (s.cells c)) (wZ Y gP (cv s.S (4+c))) LA cL) (eQ a (s.setCell c (o.eu (s.cells c) arg nw)) L) (a,.app 9 j)=some (BX,.obj iA (iu o.i4 c B4 TI)):=by rw[ct rfl];exact TE (p:=(BX,iu o.i4 c B4 TI)) hbx
 have g2:dj aa rn ⟨d7,117,bZ 117 (bU iE) (Yl o.ok),.inRegion qd l::Dm,[],.run,fE kd⟩ iE:=tw.rel C.fr (eO kd) (Yl o.ok) rfl rfl;refine(Im (dH:=[0,1,10,11,12]) (dA:=[]) C.eG H2 hl (Ym o.ok (bU iE)) (aea kd o.ok l _) Ip g2 (fun p hp=>?_) (fun p hp=>?_) (by cases kd<;>rfl) (Yn o.ok _)).trans fun m3 T3 hd=>?_
 ·have z6:rn.i 6=c:=C.bE.ii 6;simp only[rH,ac,ae,or_false]at hp;rcases hp with rfl|rfl
  ·show decide (rn.i 6<6)=true;rw[z6];exact decide_eq_true (by omega)
  ·show decide ((0:Int)≤rn.i 6)=true;rw[z6];exact decide_eq_true (by omega)
 ·have z3:rn.i 3=o.i4:=C.bE.ii 3;have z4:rn.i 4=B4:=C.bE.ii 4;have z5:rn.i 5=TI:=C.bE.ii 5;have z6:rn.i 6=c:=C.bE.ii 6;have y38:rn.b 38=BX:=C.bE.bb 38;have Yv:ci x (Y.M9 j (nD j o i4 arg nw (s.cells c)) (wZ Y gP (cv s.S (4+c))) LA cL) (eQ a (s.setCell c (o.eu (s.cells c) arg nw)) L) (a,.app 9 j)=some (rn.b 38,.obj iA (iu o.i4 c B4 TI)):=by
   rw[y38];exact rB
  simp only[rG,ac,ae,or_false]at hp;rcases hp with rfl|rfl|rfl|rfl
  ·exact .inl ⟨_,_,Yv,by simp,by simp only[i8,v,AV.ev,IE.ev,z3];rfl⟩
  ·exact .inl ⟨_,_,Yv,by simp,by simp only[i64,v,AV.ev,IE.ev,z6];rfl⟩
  ·exact .inl ⟨_,_,Yv,by simp,by simp only[i64,v,AV.ev,IE.ev,z4];rfl⟩
  ·exact .inl ⟨_,_,Yv,by simp,by simp only[i64,v,AV.ev,IE.ev,z5];rfl⟩
 obtain⟨w3,qm,kH,A3,H3,Ag3,f3⟩:=hd;have f3':FA d7 117 (.inRegion qd []::Dm) [] (fE kd) [(0,cb s.S),(1,cb (Y.th j).T),(10,iV (s.cells c)),(11,iV (o.eu (s.cells c) arg nw)),(12,.bool o.ok)] kH:=by have z7:qm.i 7=s.cells c:=(Ag3.i 7 (by decide)).trans (C.bE.ii 7);have z8:qm.i 8=o.eu (s.cells c) arg nw:=(Ag3.i 8 (by decide)).trans (C.bE.ii 8);have jY:qm.b 14=(Y.th j).T:=(Ag3.b 14 (by decide)).trans (C.bE.bb 14);have lx:qm.b 40=s.S:=(Ag3.b 40 (by decide)).trans (C.bE.bb 40);simp only[AV.cf,bF,i64,tr,v,AV.ev,af,AA.ev,BR.ev,IE.ev,BE.ev,z7,z8,jY,lx]at f3;exact f3
 refine(TG (s:=s.setCell c (o.eu (s.cells c) arg nw)) A3 H3 lM hj he dI hq Q3 jC f3').mono fun m4 T4 hd=>?_;obtain⟨w4,zV,TO,jI,A4,H4,h4⟩:=hd;exact⟨w4,zV,LA,cL,TO,jI,A4,H4,h4⟩
end
noncomputable def klE(st:Nat->Value):bH:=⟨ed,14,bZ 14 st [],[],zo 16 17,.run,.deferred⟩
noncomputable def yh(e:AV):bM:=.fT ([bF 10,i64 (v 2),uS 26,uS 27]++Pi++[e]) mU [2,3]
noncomputable def klM:List (AA×AV):=[(⟨.cN 17,.lit 0⟩,bF 14)]
noncomputable def klC(st:Nat->Value):dw:=XK (cO [] klM 35 [14] (cJ (klE st) [] [(14,yh ff)]))
theorem aj'(st:Nat->Value):cO [] klM 35 [14] (cJ (klE st) [] [(14,yh ff)])=.ok (klC st):=by kernel_rfl
theorem aqf(st:Nat->Value):(klC st).h.hp=[(14,yh TB)]:=by kernel_rfl
theorem aka(st:Nat->Value):bR 100 (cJ (klE st) [] [(14,yh ff)])=true:=by kernel_rfl
theorem klO:(OO [] [] klM).low 100=true:=by kernel_rfl
theorem aeh(st:Nat->Value):sendAt? (klC st).da=some (.cN 27,UN,zm (klC st).da cx):=by kernel_rfl
theorem Yw(st:Nat->Value):leave? aa (Eh []) jF 400 ⟨zm (klC st).da cx,(klC st).callers,e0⟩=true:=by kernel_rfl
def GS.ended(Y:GS)(j:Nat):GS:={Y with ts:=upd Y.ts j {Y.ts j with e:=true}}
section
variable {base:Nat}{W0:World}{bJ:Nat->Option Tok.Seat}{h N:Nat}{m:Machine}{T:Trace}{w:World}{x:Nat}{Y:GS}{L0:cg}{tC:List Frame}{fr:Frame}{j p:Nat}
theorem yi{t:Tok.Seat}{z zC:Nat}{BJ:Frame->Prop}(A:dD aa base W0 bJ h N m T (G fr [fB aa]) w)(H:bK aa base w (ci x Y L0))(hS:cw (ci x Y L0) bJ)(hj:j<Y.n)(he:(Y.ts j).e=false)(dI:(Y.ts j).a.length=8)(kY:0<h)
 (hf:FA ed 14 [] (FY (Y.th j).c2 (Y.th j).c5) .deferred [] fr)(hp:bJ p=some t)(W:j4 t (Y.th j).sd z zC BJ tC):
  cm aa m T fun m' T'=>∃w' iJ,dD aa base W0 (Tok.e_ bJ h p none) p N m' T' (G iJ tC) w'∧bK aa base w' (ci x (Y.ended j) L0)∧BJ iJ:=by
 obtain⟨a0,a1,a2,a3,a4,a5,a6,a7,ha⟩:=r_ dI;have iM:eo Y (.lW j)=some ((Y.th j).T,.obj mU (fA Y.R j (Y.th j) (Y.ts j))):=if_pos hj;have h5:eo Y (.c5 j)=some ((Y.th j).c5,.obj g9 [cb (Y.th j).T]):=if_pos hj;let ρ:cn:=gY [(2,j)] [(10,Y.R),(14,(Y.th j).T),(16,(Y.th j).c2),(17,(Y.th j).c5),(26,(Y.th j).wk),(27,(Y.th j).sd)] [(50,(Y.ts j).v),(51,(Y.ts j).a.getD 0 undef),(52,(Y.ts j).a.getD 1 undef),(53,(Y.ts j).a.getD 2 undef),(54,(Y.ts j).a.getD 3 undef),(55,(Y.ts j).a.getD 4 undef),(56,(Y.ts j).a.getD 5 undef),(57,(Y.ts j).a.getD 6 undef),(58,(Y.ts j).a.getD 7 undef)];have hpre:mo (ci x Y L0) ρ [((x,.lW j),14,yh ff)]:=fun p hp=>by obtain rfl:=ad.1 hp;refine⟨_,jr (fun _ _ e=>by cases e) iM,rfl,?_⟩;show _=[cb Y.R,iV j,_,_,(Y.ts j).v]++(Y.ts j).a++[.bool (Y.ts j).e];rw[he,ha];simp only[ρ,ha];rfl
 refine(FT (cC:=[]) (cs:=[fB aa]) A H [((x,RK.lW j),14,yh ff)] [((x,RK.lW j),14,yh TB)] (aj' (bU fr)) (aqf _) (aka _) klO (ρ:=ρ) (hf.rel (.inr rfl) [] rfl rfl) trivial (nofun) (fun p hp=>?_) hpre (by simp) (by simp) (BK H hS hpre rfl)).trans fun m1 T1 hd=>?_
 ·obtain rfl:=ad.1 hp;exact .inl ⟨(x,.c5 j),_,jr (fun _ _ e=>by cases e) h5,by simp,rfl⟩
 obtain⟨a1',w1,bL,U',A1,Ag,kp,I,Γ,H1⟩:=hd;have Th:bL.b 27=(Y.th j).sd:=Ag.b 27 (by decide);have mr:bL.b 10=Y.R:=Ag.b 10 (by decide);have jY:bL.b 14=(Y.th j).T:=Ag.b 14 (by decide);have Pn:bL.b 26=(Y.th j).wk:=Ag.b 26 (by decide);have x2:bL.i 2=j:=Ag.i 2 (by decide);have hv:bL.v=ρ.v:=Ag.v;have H1':bK aa base w1 (ci x (Y.ended j) L0):=by
  refine H1.sub (cX [(x,.lW j)] (fz (fun k hk hr=>?_) fun r hr _=>rfl) (fun r hr=>by simpa using hr) (fun q hq=>?_) fun r hr y hy=>?_)
  ·cases k with
   |lW i=>have hi:i≠j:=fun e=>hr (by simp[e]);simp[eo,GS.ended,upd_ne _ _ hi]
   |_=>rfl
  ·simp only[cr,ah,ak,ad]at hq;subst hq;simp
  ·simp only[ac,ae,or_false]at hr;subst hr;rw[bY rfl]at hy;simp only[eo,GS.ended,hj,if_true,upd_same,Option.some.injEq]at hy;subst hy;refine bX ?_;simp only[cr,ah,ak,aw,decide_true];simp only[yh,cY,az,aA,fp,Pi,AV.cf,TB,tr,jY,mr,Pn,Th,bF,i64,uS,v,AV.ev,IE.ev,BE.ev,af,AA.ev,BR.ev,x2,hv];unfold fA;rw[ha];simp only[ρ,ha];rfl
 refine(dD.Bi (cs:=[fB aa]) A1 Γ I (aeh _) hp (W.c.trans Th.symm) (so:=none) (fun s' e=>by cases e) (fun g I' vj=>by obtain⟨mq,hq⟩:=tj (O:=Eh []) rfl rfl rfl (tv []) (If fun p hp=>by cases hp) (Yw _) I' vj;exact⟨mq,fun T' hD=>⟨kY,by rw[hD];exact hq⟩⟩)).mono fun m2 T2 hd=>?_
 obtain⟨g₂,d,kk,A2,hh,Ti⟩:=hd;obtain⟨iJ,e,hB'⟩:=W.ad8 _ hh;have e2:Conc.served g₂ (recvd t.ok (UN.ev bL) true)=G iJ tC:=e;rw[e2]at A2;exact⟨_,iJ,A2,H1'.set Ti,hB'⟩
end
noncomputable def kbE(st:Nat->Value):bH:=⟨ed,14,bZ 14 st [(0,bF 16),(1,bF 17),(2,bF 18)],adV,zo 16 17,.run,.deferred⟩
noncomputable def aqh(lg:Bool):AV:=match lg with
 |true=>.slice (some ⟨.cN 43,.lit 0⟩) (v 46) (v 47)
 |false=>eU
noncomputable def Nf(lg:Bool):AV:=match lg with
 |true=>.slice (some ⟨.cN 101,.lit 0⟩) (.plus (.tn (v 46)) (.lit 1)) (v 101)
 |false=>.slice (some ⟨.cN 101,.lit 0⟩) (.lit 1) (v 101)
noncomputable def kbF(lg:Bool):List (IE×AV):=[(.lit 11,aqh lg),(.lit 12,ff),(.lit 0,.slice (some ⟨.cN 49,.lit 0⟩) (v 48) (v 50))]
noncomputable def aei(lg:Bool):List (Nat×bM):=(match lg with
 |true=>[(43,.cH false 45 (v 46) [] [] [] g9 (v 47))]
 |false=>[])++[(40,.cH false 44 (v 41) (kbF lg) [] [] fe (v 42))]
noncomputable def Yx(lg:Bool):bM:=match lg with
 |true=>.cH false 45 (v 46) [] [] [bF 14] g9 (v 101)
 |false=>.row [bF 14] g9 (v 101)
noncomputable def TJ(lg:Bool):List (Nat×bM):=[(101,Yx lg),(100,.cells [bF 14] g9),(40,.cH false 44 (v 41) (kbF lg) [(.lit 12,.bool (.cmp .lss (v 2) (.lit 0))),(.lit 11,Nf lg)] [] fe (v 42))]
noncomputable def TK(lg:Bool):List (BE×Bool):=(match lg with
 |true=>[(.cmp .leq (.plus (.tn (v 46)) (.lit 1)) (.lit 1048576),true)]
 |false=>[])++[(.cmp .lss (v 51) (.tn (v 48)),true),(.cmp .leq (.lit 0) (v 51),true)]
noncomputable def kbM:List (AA×AV):=[(⟨.cN 18,.lit 0⟩,JC.pM.av),(⟨.cN 17,.lit 0⟩,bF 14),(⟨.cN 11,.lit 0⟩,bF 40),(⟨.cN 12,.lit 0⟩,i64 (v 51)),(⟨.cN 14,.lit 0⟩,bF 10),(⟨.cN 14,.lit 1⟩,i64 (v 2)),(⟨.cN 14,.lit 13⟩,ff),(⟨.cN 49,.tn (v 51)⟩,.ez 59)]
noncomputable def bdT:List Item:=[.inRegion (fP (pc (bQ Fn.body) [1,1,1])) [10]]
noncomputable def bdD(b:Nat):List AD:=[⟨.fn (.func rF) [bF b],[]⟩]
noncomputable def kcT:List Item:=[.inRegion (fP (pc (bQ Fn.child) [1,1,1,0])) [2]]
theorem kb(lg:Bool)(st:Nat->Value):c7 (cO (TK lg) kbM 22 [101,100,40] (cJ (kbE st) [] (aei lg))) [0,1,2,3] (fun _=>[])=some (⟨dh,61,[.code (bQ Fn.oT)],[],.run,.normal,[],TJ lg,[bF 40,bF 14,.ez 59,ff]⟩,[⟨BZ,43,bdT,bdD 11,.run,.normal,[],[],[]⟩,⟨ed,14,kcT,zo 16 17,.run,.deferred,[],[],[]⟩]):=by cases lg<;>kernel_rfl
theorem akg(lg:Bool)(st:Nat->Value):bR 100 (cJ (kbE st) [] (aei lg))=true:=by cases lg<;>kernel_rfl
theorem kbO(lg:Bool):(OO (TK lg) [] kbM).low 100=true:=by cases lg<;>kernel_rfl
abbrev F5(S T:Nat)(bv:Value)(held:Bool)(fr:Frame):Prop:=FA dh 61 [.code (bQ Fn.oT)] [] .normal [(0,cb S),(1,cb T),(2,bv),(3,.bool held)] fr
def bdV(b:Nat):List Deferred:=[{target:=.fn (.func rF) #[cb b],args:=#[]}]
abbrev Ng(b:Nat)(fr:Frame):Prop:=FA BZ 43 bdT (bdV b) .normal [] fr
abbrev Yy(t:FU)(fr:Frame):Prop:=FA ed 14 kcT (FY t.c2 t.c5) .deferred [] fr
def SS.yj(s:SS)(T TH kt:Nat):SS:={s with f0:=s.f0++[cb T],TH:=TH,kt:=kt}
theorem abN{a:Nat}{s:SS}{L:cg}(h:s.f0≠[]):eQ a s L (a,.app 2 0)=some (s.TH,.fF g9 s.kt s.f0):=by simp[eQ,h]
theorem Yz{a:Nat}{s:SS}{L:cg}{T TH kt:Nat}(r:cD)(h0:r≠(a,.app 0 0))(h1:r≠(a,.app 2 0)):eQ a (s.yj T TH kt) L r=eQ a s L r:=by
 obtain⟨z,k⟩:=r;unfold eQ;by_cases hz:z=a
 ·subst hz;simp only[if_true];cases k with
  |app i i'=>
   rcases i with _|_|_|i
   ·have hi:¬(RK.app 0 i'=RK.app 0 0):=fun e=>h0 (by rw[e]);simp only[hi,if_false]
   ·rfl
   ·have hi:¬(RK.app 2 i'=RK.app 2 0):=fun e=>h1 (by rw[e]);simp only[hi,if_false]
   ·rfl
  |_=>rfl
 ·simp only[hz,if_false]
noncomputable def sa(a:Nat)(lg:Bool):List (cD×Nat×bM):=(match lg with
 |true=>[((a,.app 2 0),43,.cH false 45 (v 46) [] [] [] g9 (v 47))]
 |false=>[])++[((a,.app 0 0),40,.cH false 44 (v 41) (kbF lg) [] [] fe (v 42))]
noncomputable def yk(x a:Nat)(lg:Bool):List (cD×Nat×bM):=[((a,.app 2 0),101,Yx lg),((x,.dN),100,.cells [bF 14] g9),((a,.app 0 0),40,.cH false 44 (v 41) (kbF lg) [(.lit 12,.bool (.cmp .lss (v 2) (.lit 0))),(.lit 11,Nf lg)] [] fe (v 42))]
theorem Eu(a:Nat)(lg:Bool):(sa a lg).map (·.2)=aei lg:=by cases lg<;>rfl
theorem K3(x a:Nat)(lg:Bool):(yk x a lg).map (·.2)=TJ lg:=rfl
section
variable {base:Nat}{W0:World}{bJ:Nat->Option Tok.Seat}{h N:Nat}{m:Machine}{T:Trace}{w:World}{x a:Nat}{Y:GS}{L:cg}{cs:List Frame}{fr:Frame}{j:Nat}{s:SS}
theorem TL{c:Nat->Nat}{YA r12 rB:cD}{k11 k12 kB:fK}{i nb PB fI:Nat}{bv:Value}(A:dD aa base W0 bJ h N m T (G fr cs) w)(H:bK aa base w (ci x Y (eQ a s L)))(hS:cw (ci x Y (eQ a s L)) bJ)(hj:j<Y.n)(he:(Y.ts j).e=false)(dI:(Y.ts j).a.length=8)(hq:s.q.length=4)(jC:s.f0.length+1≤1048576)
 (hf:Pt (Y.th j) fr)(hfj:Y.f j=w_ .pM c)(Nh:ci x Y (eQ a s L) YA=some (c 11,k11))(g11:k11.cell 0=some (cb s.S))(n11:YA≠(a,.app 0 0)∧YA≠(a,.app 2 0))(e12:ci x Y (eQ a s L) r12=some (c 12,k12))(g12:k12.cell 0=some (iV i))(n12:r12≠(a,.app 0 0)∧r12≠(a,.app 2 0))(eB:ci x Y (eQ a s L) rB=some (PB,kB))(gB:kB.cell i=some bv)(nB:rB≠(a,.app 0 0)∧rB≠(a,.app 2 0))(hi:i<nb)(vB:s.q[0]?=some (.slice (some ⟨PB,0,none⟩) nb fI)):
  cm aa m T fun m' T'=>∃w' bT f65 f76 TH kt,dD aa base W0 bJ h N m' T' (G bT (f65::f76::cs)) w'∧bK aa base w' (ci x Y (eQ a (s.yj (Y.th j).T TH kt) L))∧F5 s.S (Y.th j).T bv false bT∧Ng (c 11) f65∧Yy (Y.th j) f76:=by
 obtain⟨a0,a1,a2,a3,a4,a5,a6,a7,ha⟩:=r_ dI;obtain⟨lg,jZ⟩:∃b,b=!(s.f0.isEmpty):=⟨_,rfl⟩;have BT:lg=true->s.f0≠[]:=fun e e2=>by rw[e2,e]at jZ;cases jZ
 have kG:lg=false->s.f0=[]:=fun e=>by
  cases hl:s.f0 with
  |nil=>rfl
  |cons a b=>rw[hl,e]at jZ;cases jZ
 let ρ:cn:=gY [(2,j),(41,1),(42,1),(46,s.f0.length),(47,s.kt),(48,nb),(50,fI),(51,i)] [(10,Y.R),(11,c 11),(12,c 12),(14,(Y.th j).T),(16,(Y.th j).c2),(17,(Y.th j).c5),(18,(Y.th j).c3),(40,s.S),(43,s.TH),(49,PB)] [(44,.agg s.xs.toArray),(45,.agg s.f0.toArray),(59,bv)];have hb:∀p∈TK lg,p.1.ev ρ=p.2:=fun p hp=>by
  unfold TK at hp;rcases ay.1 hp with hp|hp
  ·cases lg with
   |false=>cases hp
   |true=>obtain rfl:=ad.1 hp;show decide ((((s.f0.length:Nat):Int).toNat:Int)+1≤1048576)=true;exact decide_eq_true (by omega)
  ·simp only[ac,ae,or_false]at hp;rcases hp with rfl|rfl
   ·show decide ((i:Int)<(((nb:Nat):Int).toNat:Int))=true;exact decide_eq_true (by omega)
   ·show decide ((0:Int)≤(i:Int))=true;exact decide_eq_true (by omega)
 have iM:ci x Y (eQ a s L) (x,.lW j)=some ((Y.th j).T,.obj mU (fA Y.R j (Y.th j) (Y.ts j))):=by rw[bY rfl];exact if_pos hj
 have h3:ci x Y (eQ a s L) (x,.c3 j)=some ((Y.th j).c3,.obj tFn [w_ .pM c]):=by rw[bY rfl,<-hfj];exact if_pos hj
 have h5:ci x Y (eQ a s L) (x,.c5 j)=some ((Y.th j).c5,.obj g9 [cb (Y.th j).T]):=by rw[bY rfl];exact if_pos hj
 have hm:∀p∈kbM,lq (ci x Y (eQ a s L)) ((sa a lg).map (·.1)) w base ρ p:=fun p hp=>by
  have nd:∀r:cD,r≠(a,.app 0 0)->r≠(a,.app 2 0)->r∉(sa a lg).map (·.1):=fun r h0 h2=>by cases lg<;>simp[sa,h0,h2]
  have nk:∀k:RK,fm k=false->(x,k)∉(sa a lg).map (·.1):=fun k hk=>nd _ (fun e=>by cases e;cases hk) fun e=>by cases e;cases hk
  simp only[kbM,ac,ae,or_false]at hp;rcases hp with rfl|rfl|rfl|rfl|rfl|rfl|rfl|rfl
  ·refine .inl ⟨_,_,h3,nk _ rfl,?_⟩;show some (w_ .pM c)=_;rfl
  ·exact .inl ⟨_,_,h5,nk _ rfl,rfl⟩
  ·exact .inl ⟨_,_,Nh,nd _ n11.1 n11.2,g11⟩
  ·exact .inl ⟨_,_,e12,nd _ n12.1 n12.2,g12⟩
  ·exact .inl ⟨_,_,iM,nk _ rfl,rfl⟩
  ·exact .inl ⟨_,_,iM,nk _ rfl,rfl⟩
  ·refine .inl ⟨_,_,iM,nk _ rfl,?_⟩;show(fA Y.R j (Y.th j) (Y.ts j))[13]?=some (.bool false);unfold fA;rw[ha,he];rfl
  ·refine .inl ⟨_,_,eB,nd _ nB.1 nB.2,?_⟩;show kB.cell (((i:Int).toNat:Int).toNat)=some bv;rw[ap,ap];exact gB
 have x11:s.xs[11]?=some (c_ s.f0.length s.TH s.kt):=by unfold SS.xs;rw[aE (by omega),hq];rfl
 have x12:s.xs[12]?=some (.bool false):=by unfold SS.xs;rw[aE (by omega),hq];rfl
 have x0:s.xs[0]?=some (.slice (some ⟨PB,0,none⟩) nb fI):=by unfold SS.xs;rw[aP (by omega)];exact vB
 have hpre:mo (ci x Y (eQ a s L)) ρ (sa a lg):=by
  intro p hp;unfold sa at hp;rcases ay.1 hp with hp|hp
  ·cases lg with
   |false=>cases hp
   |true=>obtain rfl:=ad.1 hp;refine⟨.fF g9 s.kt s.f0,by rw[ct rfl];exact abN (BT rfl),rfl,rfl,fun i hi=>?_,(nofun),rfl⟩;rw[BV i hi];show _=(((s.f0.length:Nat):Int)).toNat*1;omega
  ·obtain rfl:=ad.1 hp;refine⟨.fF fe 1 s.xs,by rw[ct rfl];exact i5,rfl,rfl,fun i hi=>?_,fun q km=>?_,rfl⟩
   ·rw[mX i hi,rJ hq];rfl
   ·simp only[kbF,ac,ae,or_false]at km;rcases km with rfl|rfl|rfl
    ·show s.xs[11]?=_;rw[x11];cases lg with
     |true=>rw[cy (aG.2 (BT rfl))];rfl
     |false=>rw[kG rfl];rfl
    ·exact x12
    ·exact x0
 have hv:c7 (cO (TK lg) kbM 22 [101,100,40] (cJ (kbE (bU fr)) [] ((sa a lg).map (·.2)))) [0,1,2,3] (fun _=>[])=some (⟨dh,61,[.code (bQ Fn.oT)],[],.run,.normal,[],TJ lg,[bF 40,bF 14,.ez 59,ff]⟩,[⟨BZ,43,bdT,bdD 11,.run,.normal,[],[],[]⟩,⟨ed,14,kcT,zo 16 17,.run,.deferred,[],[],[]⟩]):=by rw[Eu];exact kb lg _
 have od:bR 100 (cJ (kbE (bU fr)) [] ((sa a lg).map (·.2)))=true:=by rw[Eu];exact akg lg _
 refine(cQ (cC:=[]) (cs:=cs) A H hS (sa a lg) (yk x a lg) hv (K3 x a lg).symm rfl od (kbO lg) (ρ:=ρ) (hf.rel (.inr rfl) [(0,bF 16),(1,bF 17),(2,bF 18)] rfl rfl) trivial hb hm hpre (by cases lg<;>simp[sa]) (by simp[yk]) (by cases lg<;>rfl)).mono fun m1 T1 hd=>?_;obtain⟨w',bL,bT,dk,C⟩:=hd;obtain⟨f65,f76,rfl,q65,q76⟩:∃f65 f76,dk=[f65,f76]∧FA BZ 43 bdT ((bdD 11).map (AD.ev bL)) .normal [] f65∧FA ed 14 kcT ((zo 16 17).map (AD.ev bL)) .deferred [] f76:=by
  have:=C.cC
  match dk,this with
  |[],h=>exact h.elim
  |[_],h=>exact h.2.elim
  |[f,g],h=>exact⟨f,g,rfl,h.1,h.2.1⟩
  |_::_::_::_,h=>exact h.2.2.elim
 have z2:bL.i 2=j:=C.bE.ii 2;have CH:bL.i 42=1:=C.bE.ii 42;have z46:bL.i 46=(s.f0.length:Nat):=C.bE.ii 46;have y11:bL.b 11=c 11:=C.bE.bb 11;have jY:bL.b 14=(Y.th j).T:=C.bE.bb 14;have y16:bL.b 16=(Y.th j).c2:=C.bE.bb 16;have Yi:bL.b 17=(Y.th j).c5:=C.bE.bb 17;have lx:bL.b 40=s.S:=C.bE.bb 40;have K2:bL.v 44=.agg s.xs.toArray:=congrFun C.bE.v 44;have z45:bL.v 45=.agg s.f0.toArray:=congrFun C.bE.v 45;have WB:bL.v 59=bv:=congrFun C.bE.v 59;have eP:(bF 14).ev bL=cb (Y.th j).T:=by simp only[bF,AV.ev,af,AA.ev,BR.ev,IE.ev,jY];rfl
 refine⟨w',bT,f65,f76,bL.b 101,(bL.i 101).toNat,C.eG,C.heap.sub (cX [(a,.app 2 0),(x,.dN),(a,.app 0 0)] (fz (fun k hk hr=>rfl) fun r hr _=>Yz r (fun e=>hr (by simp[e])) fun e=>hr (by simp[e])) (fun r hr=>?_) (fun p hp=>?_) fun r hr y hy=>?_),?_,?_,?_⟩
 ·cases lg<;>simp only[sa,aA,az,ah,ak,ac,ae,or_false]at hr
  ·subst hr;simp
  ·rcases hr with rfl|rfl<;>simp
 ·simp only[cr,yk,ah,ak,ac,ae,or_false]at hp;rcases hp with rfl|rfl|rfl<;>simp
 ·simp only[ac,ae,or_false]at hr;rcases hr with rfl|rfl|rfl
  ·rw[ct rfl,abN (by simp[SS.yj])]at hy;rw[<-au hy];refine bX ?_;simp only[cr,yk,ah,ak,aw,decide_true];cases lg with
   |true=>simp only[Yx,cY,v,IE.ev,z45,gy,AV.cf,eP];rfl
   |false=>simp only[Yx,cY,v,IE.ev,SS.yj,kG rfl,AV.cf,eP];rfl
  ·rw[bY rfl]at hy;cases hy
  ·rw[ct rfl,i5]at hy;rw[<-au hy];refine bX ?_;simp only[cr,yk,ah,ak,aw,Prod.mk.injEq,reduceCtorEq,and_false,decide_false,decide_true,RK.app.injEq,br,false_and];have ew:(s.xs.set 11 (c_ (s.f0.length+1) (bL.b 101) (bL.i 101).toNat)).set 12 (.bool false)=(s.yj (Y.th j).T (bL.b 101) (bL.i 101).toNat).xs:=by
    unfold SS.xs SS.yj;dsimp only;rw[aD,List.set_append_right _ _ (by omega),List.set_append_right _ _ (by omega),hq];rfl
   have et:(Nf lg).ev bL=c_ (s.f0.length+1) (bL.b 101) (bL.i 101).toNat:=by
    rw[cy (Nat.succ_pos _)];cases lg with
    |true=>simp only[Nf,v,AV.ev,IE.ev,af,AA.ev,BR.ev,z46,ap];rfl
    |false=>rw[kG rfl];rfl
   have ej:(AV.bool (.cmp .lss (.var 2) (.lit 0))).ev bL=.bool false:=by simp only[v,AV.ev,BE.ev,IE.ev,z2];have:decide ((j:Int)<0)=false:=decide_eq_false (by omega);exact congrArg Value.bool this
   simp only[cY,dF,List.foldr_cons,List.foldr_nil,K2,gy,bm,et,ej,AV.cf,aX,v,IE.ev,CH,lx];rw[<-ew];rfl
 ·have:=C.fr;simp only[AV.cf,eP,bF,ff,AV.ev,af,AA.ev,BR.ev,IE.ev,BE.ev,lx,jY,WB]at this;exact this
 ·simp only[bdD,ah,ak,AD.ev,iy.ev,AV.cf,bF,AV.ev,af,AA.ev,BR.ev,IE.ev,y11]at q65;exact q65
 ·simp only[zo,ah,ak,AD.ev,iy.ev,AV.cf,bF,AV.ev,af,AA.ev,BR.ev,IE.ev,y16,Yi]at q76;exact q76
end
section
variable {base:Nat}{W0:World}{bJ:Nat->Option Tok.Seat}{h N:Nat}{m:Machine}{T:Trace}{w:World}{L:cg}{cs:List Frame}{fr:Frame}{a a':Goroutine}
theorem hand(A:dD aa base W0 bJ h N m T a w)(H:bK aa base w L)(hr:a.status=.running)(hs:∀w',stepG aa (h==0) a w'=.go a' w' #[]):
  cm aa m T fun m' T'=>∃w',dD aa base W0 bJ h N m' T' a' w'∧bK aa base w' L:=by
 have W:dy aa (h==0) (DK (SK aa base bJ)) (fun g' w'=>g'=a'∧∃d,w'=cM w d) 1 a w:=dy.one hr fun d=>by rw[hs];exact⟨⟨cE.refl _ _,fun e he=>(by simp at he),fun _ _ _ _ x=>x⟩,rfl,d,rfl⟩
 refine(A.uu W fun a1 w1 hd=>?_).mono fun m1 T1 hd=>?_
 ·obtain⟨_,d,rfl⟩:=hd;exact fw _ _ _
 ·obtain⟨a1,w1,A1,rfl,d,rfl⟩:=hd;exact⟨_,A1,H.Eg (fw _ _ _)⟩
theorem B7{tm:Array Value}{d n:Nat}{v:Value}:(tm.setIfInBounds d v).getD n undef=if n=d∧d<tm.size then v else tm.getD n undef:=by
 rw[be,be,Array.getElem?_setIfInBounds];by_cases h:d=n
 ·subst h;by_cases h2:d<tm.size
  ·simp[h2]
  ·simp[h2]
 ·have:¬(n=d):=fun e=>h e.symm;simp[h,this]
theorem K4{fn nt i:Nat}{ops:Array Oper}{rest:List Nat}{k:List Item}{ds:List Deferred}{kind:CallKind}{lv:List (Nat×Value)}{o:Oper}{d:Nat}{v:Value}(A:dD aa base W0 bJ h N m T (G fr cs) w)(H:bK aa base w L)(hf:FA fn nt (.inRegion ops (i::rest)::k) ds kind lv fr)(ho:ops[i]?=some o)(hg:o.guard=none)(hd:o.dst=some d)(hdn:d<nt)(hk:ic kind)
 (hv:∀(tm:Array Value) (w':World),(∀p∈lv,tm.getD p.1 undef=p.2)->(execOp (⟨tm,ds⟩:Act).eval o).run aa w'=.ok (.value v) w'∧(execOp (⟨tm,ds⟩:Act).eval o).events aa w' #[]=#[]):
  cm aa m T fun m' T'=>∃w' bT,dD aa base W0 bJ h N m' T' (G bT cs) w'∧bK aa base w' L∧FA fn nt (.inRegion ops rest::k) ds kind ((d,v)::lv.filter (fun p=>!(p.1==d))) bT:=by
 obtain⟨⟨tm,rfl,h2,h3⟩,h4,h5⟩:=hf;have rm:(iD fn kind).kind≠.early:=by rcases hk with rfl|rfl<;>simp[iD]
 have hw:Region.wanted o (yielded ops (⟨tm,ds⟩:Act).tmps)=true:=by unfold Region.wanted;rw[hg]
 have hs:∀w',stepG aa (h==0) (G ((iD fn kind).at ⟨tm,ds⟩ (.inRegion ops (i::rest)::k)) cs) w'=.go (G ((iD fn kind).at ((⟨tm,ds⟩:Act).put o.dst v) (.inRegion ops rest::k)) cs) w' #[]:=fun w'=>by obtain⟨q1,q2⟩:=hv tm w' h3;rw[stepG_value ho hw rm q1];unfold listed;rw[q2];rfl
 refine(hand A H rfl hs).mono fun m1 T1 hd'=>?_;obtain⟨w1,A1,H1⟩:=hd';refine⟨w1,_,A1,H1,⟨tm.setIfInBounds d v,?_,?_,fun p hp=>?_⟩,h4,h5⟩
 ·rw[hd];rfl
 ·rw[Array.size_setIfInBounds];exact h2
 ·rw[B7];rcases ac.1 hp with rfl|hp
  ·rw[if_pos ⟨rfl,by omega⟩]
  ·obtain⟨q1,q2⟩:=aU.1 hp;have:¬(p.1=d):=by simpa using q2
   rw[if_neg fun e=>this e.1];exact h3 p q1
theorem K5{fn nt i:Nat}{ops:Array Oper}{rest:List Nat}{k:List Item}{ds:List Deferred}{kind:CallKind}{lv:List (Nat×Value)}{o:Oper}{D:Deferred}(A:dD aa base W0 bJ h N m T (G fr cs) w)(H:bK aa base w L)(hf:FA fn nt (.inRegion ops (i::rest)::k) ds kind lv fr)(ho:ops[i]?=some o)(hg:o.guard=none)(hd:o.dst=none)(hk:ic kind)
 (hv:∀(tm:Array Value) (w':World),(∀p∈lv,tm.getD p.1 undef=p.2)->(execOp (⟨tm,ds⟩:Act).eval o).run aa w'=.ok (.defer D) w'∧(execOp (⟨tm,ds⟩:Act).eval o).events aa w' #[]=#[]):
  cm aa m T fun m' T'=>∃w' bT,dD aa base W0 bJ h N m' T' (G bT cs) w'∧bK aa base w' L∧FA fn nt (.inRegion ops rest::k) (D::ds) kind lv bT:=by
 obtain⟨⟨tm,rfl,h2,h3⟩,h4,h5⟩:=hf;have rm:(iD fn kind).kind≠.early:=by rcases hk with rfl|rfl<;>simp[iD]
 have hw:Region.wanted o (yielded ops (⟨tm,ds⟩:Act).tmps)=true:=by unfold Region.wanted;rw[hg]
 have hs:∀w',stepG aa (h==0) (G ((iD fn kind).at ⟨tm,ds⟩ (.inRegion ops (i::rest)::k)) cs) w'=.go (G ((iD fn kind).at ⟨tm,D::ds⟩ (.inRegion ops rest::k)) cs) w' #[]:=fun w'=>by obtain⟨q1,q2⟩:=hv tm w' h3;rw[Go.Proofs.Ythaddgfbohmfoaa.SX.stepG_defer ho hw rm q1];unfold listed;rw[q2,hd];rfl
 refine(hand A H rfl hs).mono fun m1 T1 hd'=>?_;obtain⟨w1,A1,H1⟩:=hd';exact⟨w1,_,A1,H1,⟨tm,rfl,h2,h3⟩,h4,h5⟩
end
def ly(V:fN):CallKind:=match V.kind with
 |.wrapped=>.normal
 |k=>k
def F6(ρ:cn)(V:fN):List Deferred:=match V.kind with
 |.wrapped=>ρ.bt.2
 |_=>V.defers.map (AD.ev ρ)
def CI(ρ:cn)(dH:List Nat)(V:fN)(f:Frame):Prop:=FA V.fn V.nt V.todo (F6 ρ V) (ly V) (dH.zip (AV.cf ρ V.dx)) f
def PD:CallKind->Bool
 |.wrapped=>true
 |_=>false
def Ni(V:fN):Bool:=M3 V.mode&&(kr V.kind||(PD V.kind&&V.defers.isEmpty))
theorem TM{ρ:cn}{a:bH}{dH:List Nat}{f:Frame}{V:fN}(hf:dj aa ρ a f)(hs:fW a dH=⟨V.fn,V.nt,V.todo,V.defers,V.mode,V.kind,[],[],V.dx⟩)(ht:Ni V=true)(hb:ρ.bt.1=none):CI ρ dH V f:=by
 obtain⟨fn,nt,todo,ds,mode,kind,cl,hp,dx⟩:=V;simp only[Ni,ax,Bool.or_eq_true]at ht;dsimp only at hs ht;have hm:mode=.run:=by have:=ht.1;cases mode<;>first|rfl|cases this
 subst hm;rcases ht.2 with h2|⟨h2,h3⟩
 ·have:=tw.of hf hs (mV h2);unfold CI F6 ly;cases kind<;>first|exact this|cases h2
 ·cases kind<;>first|cases h2;done|skip
  cases ds with
  |cons x y=>cases h3
  |nil=>exact tw.adP (ds:=ρ.bt.2) hf hs (Prod.ext hb rfl)
def aem(ρ:cn)(dW:FuncId->List Nat):List fN->List Frame->Prop
 |[],[]=>True
 |V::Vs,f::fs=>CI ρ (dW V.fn) V f∧aem ρ dW Vs fs
 |_,_=>False
theorem Nj{ρ:cn}{dW:FuncId->List Nat}(hb:ρ.bt.1=none):∀{cl:List bH} {Vs:List fN} {fs:List Frame},cl.map (fun fr=>fW fr (dW fr.fn))=Vs->c8 aa ρ cl fs->Vs.all Ni=true->aem ρ dW Vs fs
 |[],_,fs,h,hr,_=>by
  subst h;cases fs with
  |nil=>exact trivial
  |cons a b=>exact hr.elim
 |a::cl,_,fs,h,hr,ha=>by
  subst h;cases fs with
  |nil=>exact hr.elim
  |cons f fs=>simp only[ah,List.all_cons,ax]at ha;exact⟨TM (dH:=dW a.fn) hr.1 rfl ha.1 hb,Nj hb rfl hr.2 ha.2⟩
section
variable {base:Nat}{W0:World}{bJ:Nat->Option Tok.Seat}{h N:Nat}{m:Machine}{T:Trace}{w:World}{L:cg}
structure B_(base:Nat)(W0:World)(bJ:Nat->Option Tok.Seat)(h N:Nat)(L:cg)(cH post:List (cD×Nat×bM))(ρ:cn)(cs:List Frame)(dH:List Nat)(dW:FuncId->List Nat)(V:fN)(Vs:List fN)(w:World)(m':Machine)(T':Trace)(w':World)(bL:cn)(bT:Frame)(dk:List Frame):Prop where
 eG:dD aa base W0 bJ h N m' T' (G bT (dk++cs)) w'
 bE:cz (dR 100) ρ bL
 gX:cE (BH ρ w cH) w w'
 heap:bK aa base w' (i0 L (cH.map (·.1)) (cr bL post))
 fr:CI bL dH V bT
 cC:aem bL dW Vs dk
theorem qK{fr:Frame}{cC cs:List Frame}(A:dD aa base W0 bJ h N m T (G fr (cC++cs)) w)(H:bK aa base w L)(hS:cw L bJ)(cH post:List (cD×Nat×bM)){bs:List (BE×Bool)}{mem:List (AA×AV)}{n:Nat}{ks:List Nat}{da:bH}{callers:List bH}{dH:List Nat}{dW:FuncId->List Nat}{V:fN}{Vs:List fN}
 (hv:c7 (cO bs mem n ks (cJ da callers (cH.map (·.2)))) dH dW=some (V,Vs))(hV:V.hp=post.map (·.2))(hV':(V::Vs).all Ni=true)(hl:bR 100 (cJ da callers (cH.map (·.2)))=true)(hO:(OO bs [] mem).low 100=true){ρ:cn}(hbt:ρ.bt.1=none)(hf:dj aa ρ da fr)(iw:c8 aa ρ callers cC)
 (hb:∀p∈bs,p.1.ev ρ=p.2)(hm:∀p∈mem,lq L (cH.map (·.1)) w base ρ p)(hpre:mo L ρ cH)(zR:(cH.map (·.1)).Nodup)(zn:(post.map (·.2.1)).Nodup)(S0:cH.all BI=true):
  cm aa m T fun m' T'=>∃w' bL bT dk,B_ base W0 bJ h N L cH post ρ cs dH dW V Vs w m' T' w' bL bT dk:=by
 simp only[List.all_cons,ax]at hV';refine(SZ A H hS cH post hv hV hl hO hf iw hb hm hpre zR zn S0).mono fun m1 T1 hd=>?_;obtain⟨w',bL,a1,cl,bT,dk,C⟩:=hd;have qj:bL.bt.1=none:=by rw[C.bE.bt];exact hbt
 exact⟨w',bL,bT,dk,C.eG,C.bE,C.gX,C.heap,TM C.fr C.da hV'.1 qj,Nj qj C.cls C.cC hV'.2⟩
theorem B_.none{cH post:List (cD×Nat×bM)}{ρ:cn}{cs:List Frame}{dH:List Nat}{dW:FuncId->List Nat}{V:fN}{m':Machine}{T':Trace}{w':World}{bL:cn}{bT:Frame}{dk:List Frame}(C:B_ base W0 bJ h N L cH post ρ cs dH dW V [] w m' T' w' bL bT dk):dk=[]:=by
 have:=C.cC;cases dk with
 |nil=>rfl
 |cons a b=>exact this.elim
theorem B_.one{cH post:List (cD×Nat×bM)}{ρ:cn}{cs:List Frame}{dH:List Nat}{dW:FuncId->List Nat}{V V1:fN}{m':Machine}{T':Trace}{w':World}{bL:cn}{bT:Frame}{dk:List Frame}(C:B_ base W0 bJ h N L cH post ρ cs dH dW V [V1] w m' T' w' bL bT dk):∃f,dk=[f]∧CI bL (dW V1.fn) V1 f:=by
 have:=C.cC;cases dk with
 |nil=>exact this.elim
 |cons a b=>
  cases b with
  |nil=>exact⟨a,rfl,this.1⟩
  |cons c d=>exact this.2.elim
end
end Go.Proofs.Ythaddgfbohmfoaa
namespace Go.Proofs.Ythaddgfbohmfoaa
open Go.Proofs.Ythaddgfbohmfoaa.SX Go.Conc
noncomputable def lpB:Code:=pc (bQ Fn.oT) [1,0,0]
noncomputable def hdT:List Item:=[.code lpB,.inLoop lpB,.inBlock 0]
noncomputable def rL:AV:=.slice (some ⟨.cN 52,v 55⟩) (v 53) (v 54)
noncomputable def F7(held:Bool)(b:AV)(i:IE):List (Nat×AV):=[(0,bF 40),(1,bF 14),(2,b),(3,tr held),(8,i64 i)]
noncomputable def Is:List Nat:=[0,1,2,3,8]
noncomputable def WC(held:Bool)(st:Nat->Value):bH:=⟨dh,61,bZ 61 st (F7 held rL (v 56)),hdT,[],.run,.wrapped⟩
noncomputable def akk(held:Bool)(st:Nat->Value):bH:=⟨dh,61,bZ 61 st [(0,bF 40),(1,bF 14),(2,.ez 59),(3,tr held)],[.code (bQ Fn.oT)],[],.run,.normal⟩
theorem sIn(held:Bool)(st:Nat->Value):c7 (cO [] [] 6 [] (cJ (akk held st) [] [])) Is (fun _=>[])=some (⟨dh,61,hdT,[],.run,.normal,[],[],[bF 40,bF 14,.ez 59,tr held,i64 (.lit 0)]⟩,[]):=by cases held<;>kernel_rfl
theorem aen(held:Bool)(st:Nat->Value):bR 100 (cJ (akk held st) [] [])=true:=by cases held<;>kernel_rfl
noncomputable def PE:IE:=.plus (.tn (v 55)) (.times (.tn (v 56)) (.lit 4))
noncomputable def sM:List (AA×AV):=[(⟨.cN 52,PE⟩,i8 (v 3)),(⟨.cN 52,nJ PE 1⟩,i64 (v 6)),(⟨.cN 52,nJ PE 2⟩,i64 (v 4)),(⟨.cN 52,nJ PE 3⟩,i64 (v 5))]
noncomputable def sLt:List (BE×Bool):=[(.cmp .lss (v 56) (.tn (v 53)),true),(.cmp .leq (.lit 0) (v 56),true)]
noncomputable def sBs:List (BE×Bool):=sLt++[(.cmp .eql (v 3) (.lit 20),false),(.cmp .eql (v 3) (.lit 21),false),(.cmp .eql (v 3) (.lit 22),false)]
noncomputable def TN:List (BE×Bool):=sLt++[(.cmp .eql (v 3) (.lit 20),false),(.cmp .eql (v 3) (.lit 21),false),(.cmp .eql (v 3) (.lit 22),true)]
noncomputable def abQ:List (BE×Bool):=sLt++[(.cmp .eql (v 3) (.lit 20),false),(.cmp .eql (v 3) (.lit 21),true)]
noncomputable def TP:List (BE×Bool):=sLt++[(.cmp .eql (v 3) (.lit 20),true)]
noncomputable def se:List Item:=[.inBlock 2,.inBlock 1,.code (pc (bQ Fn.oT) [1,0,0,1,1]),.inLoop lpB,.inBlock 0]
noncomputable def dfT:List Item:=.inRegion (fP (pc (bQ Fn.oT) [1,0,0,1,0,0,1,0,1,1,1,1,1,1,1,1])) [3]::se
noncomputable def Nk:List Item:=.inRegion (fP (pc (bQ Fn.oT) [1,0,0,1,0,0,1,0,1,1,1,1,1,1,1,0])) [3]::se
noncomputable def hoO:Array Oper:=fP (pc (bQ Fn.oT) [1,0,0,1,0,0,1,0,1,1,1,1,1,0,0])
noncomputable def laO:Array Oper:=fP (pc (bQ Fn.oT) [1,0,0,1,0,0,1,0,1,1,1,0])
noncomputable def faT:List Item:=.inRegion (fP (pc (bQ Fn.oT) [1,0,0,1,0,0,1,0,1,0,1])) [1]::se
noncomputable def uV(held:Bool):List AV:=[bF 40,bF 14,rL,tr held,i64 (v 56)]
noncomputable def PF:List (Nat×bM):=[(100,.cells lN iA)]
theorem aqk(st:Nat->Value):c7 (cO sBs sM 61 [100] (cJ (WC false st) [] [])) [0,1,2] (fun _=>Is)=some (⟨d7,117,[.code (bQ Fn.one)],[],.run,.normal,[],PF,[bF 40,bF 14,F2]⟩,[⟨dh,61,dfT,[],.run,.wrapped,[],[],uV false⟩]):=by kernel_rfl
theorem akl(st:Nat->Value):c7 (cO sBs sM 61 [100] (cJ (WC true st) [] [])) [0,1,2] (fun _=>Is)=some (⟨yU,11,[.code (bQ Fn.held)],[],.run,.normal,[],PF,[bF 40,bF 14,F2]⟩,[⟨dh,61,Nk,[],.run,.wrapped,[],[],uV true⟩]):=by kernel_rfl
theorem K6(held:Bool)(st:Nat->Value):bR 100 (cJ (WC held st) [] [])=true:=by cases held<;>kernel_rfl
theorem sO:(OO sBs [] sM).low 100=true:=by kernel_rfl
noncomputable def hoW:List Nat:=[0,1,2,3,8,48,49,50,52]
theorem sHo(st:Nat->Value):c7 (cO TN sM 57 [100] (cJ (WC false st) [] [])) hoW (fun _=>[])=some (⟨dh,61,.inRegion hoO [5,6]::.code .ret::se,[],.run,.wrapped,[],PF,uV false++[bF 40,bF 14,rL,i64 (.op .add .i64 (v 56) (.lit 1))]⟩,[]):=by kernel_rfl
theorem akm:(OO TN [] sM).low 100=true:=by kernel_rfl
noncomputable def laW:List Nat:=[0,1,2,3,8,35,36,39]
noncomputable def laA:AV:=.agg [i8 (.lit 1),i64 (v 6),i64 (.lit 0),i64 (.lit 0)]
theorem sLa(held:Bool)(st:Nat->Value):c7 (cO abQ sM 44 [100] (cJ (WC held st) [] [])) laW (fun _=>[])=some (⟨dh,61,.inRegion laO [5]::se,[],.run,.wrapped,[],PF,uV held++[bF 40,bF 14,laA]⟩,[]):=by cases held<;>kernel_rfl
theorem aqm:(OO abQ [] sM).low 100=true:=by kernel_rfl
theorem aqn:(OO TP [] sM).low 100=true:=by kernel_rfl
theorem aqo(held:Bool)(st:Nat->Value):c7 (cO [(.cmp .lss (v 56) (.tn (v 53)),false)] [] 10 [] (cJ (WC held st) [] [])) [] (fun _=>[])=some (⟨dh,61,[],[],.run,.wrapped,[],[],[]⟩,[]):=by cases held<;>kernel_rfl
theorem akn:(OO [(.cmp .lss (v 56) (.tn (v 53)),false)] [] []).low 100=true:=by kernel_rfl
noncomputable def TQ(held:Bool)(t:List Item)(st:Nat->Value):bH:=⟨dh,61,bZ 61 st (F7 held rL (v 56)),t,[],.run,.wrapped⟩
noncomputable def yV(held:Bool):List AV:=[bF 40,bF 14,rL,tr held,i64 (.op .add .i64 (v 56) (.lit 1))]
theorem ako(held:Bool)(st:Nat->Value):c7 (cO [] [] 9 [] (cJ (TQ held (.inRegion laO []::se) st) [] [])) Is (fun _=>[])=some (⟨dh,61,hdT,[],.run,.wrapped,[],[],yV held⟩,[]):=by cases held<;>kernel_rfl
theorem TR(held:Bool)(st:Nat->Value):bR 100 (cJ (TQ held (.inRegion laO []::se) st) [] [])=true:=by cases held<;>kernel_rfl
noncomputable def abS(st:Nat->Value):bH:=⟨yU,11,bZ 11 st Dk,[.code (bQ Fn.held)],[],.run,.normal⟩
noncomputable def hdD(b:Nat):List AD:=[⟨.fn (.func Tq) [bF b],[]⟩]
noncomputable def aep:List Item:=[.inRegion (fP (pc (bQ Fn.held) [1,1])) [3]]
theorem hIn(st:Nat->Value):c7 (cO [] [] 15 [101,100] (cJ (abS st) [] [])) [0,1,2] (fun _=>[])=some (⟨d7,117,[.code (bQ Fn.one)],[],.run,.normal,[],[(101,.cells lN iA),(100,.cells [bF 40] 48)],[bF 40,bF 14,F2]⟩,[⟨yU,11,aep,hdD 100,.run,.normal,[],[],[]⟩]):=by kernel_rfl
theorem aeq(st:Nat->Value):bR 100 (cJ (abS st) [] [])=true:=by kernel_rfl
noncomputable def aer(st:Nat->Value):bH:=⟨yU,11,bZ 11 st [],aep,hdD 36,.run,.normal⟩
end Go.Proofs.Ythaddgfbohmfoaa
namespace Go.Proofs.Ythaddgfbohmfoaa
open Go.Proofs.Ythaddgfbohmfoaa.SX Go.Conc
open Go.ConcN (upd upd_ne upd_same)
open Go.Proofs.Try renaming prog->aa
open _root_.List renaming mem_cons->ac,mem_singleton->ad,not_mem_nil->ae,map_cons->ah,nodup_nil->ai,map_nil->ak,mem_cons_of_mem->am,mem_cons_self->an,find?_cons->aw,mem_append->ay,cons_append->az,nil_append->aA,getElem?_append_right->aE,mem_map->aJ,mem_filter->aU,append_nil->aX,toList_toArray->bm
open _root_.Option renaming map_some->af,map_none->bu
open _root_.Int renaming toNat_natCast->ap
open _root_.Option.some renaming inj->au
open _root_.Array renaming eq_empty_of_size_eq_zero->bz
def ux(SB off n cap:Nat):Value:=.slice (some ⟨SB,off,none⟩) n cap
abbrev vG(S T:Nat)(bv:Value)(held:Bool)(i:Int)(ds:List Deferred)(fr:Frame):Prop:=FA dh 61 hdT ds .normal [(0,cb S),(1,cb T),(2,bv),(3,.bool held),(8,iV i)] fr
abbrev TS(t:List Item)(S T:Nat)(bv:Value)(held:Bool)(i:Int)(ds:List Deferred)(fr:Frame):Prop:=FA dh 61 t ds .normal [(0,cb S),(1,cb T),(2,bv),(3,.bool held),(8,iV i)] fr
noncomputable def jJ(S T SB off n cap i:Nat)(op c arg nw:Int)(ds:List Deferred):cn:={gY [(3,op),(4,arg),(5,nw),(6,c),(53,n),(54,cap),(55,off),(56,i)] [(14,T),(40,S),(52,SB)] []with bt:=(none,ds)}
structure yW(L:cg)(SB off i:Nat)(op c arg nw:Int):Prop where
 ex:∃r k,L r=some (SB,k)∧k.cell (off+i*4)=some (qn op)∧k.cell (off+i*4+1)=some (iV c)∧k.cell (off+i*4+2)=some (iV arg)∧k.cell (off+i*4+3)=some (iV nw)
theorem add_one{i:Nat}(h:i≤1000000):o0 .add .i64 (i:Int) 1=((i+1:Nat):Int):=by show IntKind.wrap .i64 ((i:Int)+1)=_;rw[IntWalk.i64_in _ (by omega)];rfl
theorem aes{ρ:cn}{off i:Nat}(h55:ρ.i 55=off)(h56:ρ.i 56=i):(PE.ev ρ).toNat=off+i*4:=by simp only[PE,v,IE.ev,h55,h56];omega
section
variable {base:Nat}{W0:World}{bJ:Nat->Option Tok.Seat}{h N:Nat}{m:Machine}{T:Trace}{w:World}{L:cg}{cs:List Frame}{fr f67:Frame}{S Tb SB off n cap i:Nat}{op c arg nw:Int}{ds:List Deferred}{held:Bool}
theorem Ew(H:yW L SB off i op c arg nw):∀p∈sM,lq L [] w base (jJ S Tb SB off n cap i op c arg nw ds) p:=fun p hp=>by
 obtain⟨r,k,e,c0,c1,c2,c3⟩:=H.ex;have e0:(PE.ev (jJ S Tb SB off n cap i op c arg nw ds)).toNat=off+i*4:=aes rfl rfl;have ea:∀q:Nat,((nJ PE (q+1)).ev (jJ S Tb SB off n cap i op c arg nw ds)).toNat=off+i*4+(q+1):=fun q=>by show(((PE.ev (jJ S Tb SB off n cap i op c arg nw ds)).toNat:Int)+((q+1:Nat):Int)).toNat=_;rw[e0];omega
 simp only[sM,ac,ae,or_false]at hp;rcases hp with rfl|rfl|rfl|rfl
 ·exact .inl ⟨r,k,e,by simp,by show k.cell _=_;rw[show((⟨.cN 52,PE⟩:AA).ev (jJ S Tb SB off n cap i op c arg nw ds)).off=off+i*4 from e0];exact c0⟩
 ·exact .inl ⟨r,k,e,by simp,by show k.cell _=_;rw[show((⟨.cN 52,nJ PE 1⟩:AA).ev (jJ S Tb SB off n cap i op c arg nw ds)).off=off+i*4+1 from ea 0];exact c1⟩
 ·exact .inl ⟨r,k,e,by simp,by show k.cell _=_;rw[show((⟨.cN 52,nJ PE 2⟩:AA).ev (jJ S Tb SB off n cap i op c arg nw ds)).off=off+i*4+2 from ea 1];exact c2⟩
 ·exact .inl ⟨r,k,e,by simp,by show k.cell _=_;rw[show((⟨.cN 52,nJ PE 3⟩:AA).ev (jJ S Tb SB off n cap i op c arg nw ds)).off=off+i*4+3 from ea 2];exact c3⟩
theorem It{bv:Value}(A:dD aa base W0 bJ h N m T (G fr cs) w)(H:bK aa base w L)(hS:cw L bJ)(hf:F5 S Tb bv held fr):
  cm aa m T fun m' T'=>∃w' bT,dD aa base W0 bJ h N m' T' (G bT cs) w'∧bK aa base w' L∧vG S Tb bv held 0 [] bT:=by
 let ρ:cn:=gY [] [(14,Tb),(40,S)] [(59,bv)];refine(cQ (cC:=[]) (cs:=cs) A H hS [] [] (sIn held (bU fr)) rfl (by cases held<;>rfl) (aen held _) nU (ρ:=ρ) (hf.rel (.inl rfl) [(0,bF 40),(1,bF 14),(2,.ez 59),(3,tr held)] rfl rfl) trivial (nofun) (nofun) (nofun) ai ai rfl).mono fun m1 T1 hd=>?_;obtain⟨w',bL,bT,dk,C⟩:=hd;obtain rfl:=C.none;have jY:bL.b 14=Tb:=C.bE.bb 14;have lx:bL.b 40=S:=C.bE.bb 40;have WB:bL.v 59=bv:=congrFun C.bE.v 59;refine⟨w',bT,C.eG,cU C.heap,?_⟩;have:=C.fr;simp only[AV.cf,bF,tr,i64,AV.ev,af,AA.ev,BR.ev,IE.ev,BE.ev,jY,lx,WB]at this;exact this
theorem vH(hf:vG S Tb (ux SB off n cap) held i ds fr):dj aa (jJ S Tb SB off n cap i op c arg nw ds) (WC held (bU fr)) fr:=hf.yR rfl (F7 held rL (v 56)) rfl
theorem Iu(hi:i<n):∀p∈sLt,p.1.ev (jJ S Tb SB off n cap i op c arg nw ds)=p.2:=fun p hp=>by
 simp only[sLt,ac,ae,or_false]at hp;rcases hp with rfl|rfl
 ·show decide ((i:Int)<(((n:Nat):Int).toNat:Int))=true;exact decide_eq_true (by omega)
 ·show decide ((0:Int)≤(i:Int))=true;exact decide_eq_true (by omega)
theorem Nl(hi:i<n)(Xn:op≠20)(h21:op≠21)(h22:op≠22):∀p∈sBs,p.1.ev (jJ S Tb SB off n cap i op c arg nw ds)=p.2:=fun p hp=>by
 rcases ay.1 hp with hp|hp
 ·exact Iu hi p hp
 ·simp only[ac,ae,or_false]at hp;rcases hp with rfl|rfl|rfl
  ·show decide (op=20)=false;exact decide_eq_false Xn
  ·show decide (op=21)=false;exact decide_eq_false h21
  ·show decide (op=22)=false;exact decide_eq_false h22
theorem kV{w':World}{ρ:cn}{x:Nat}{Y:GS}{L0:cg}{post:List (cD×Nat×bM)}(hp:∀p∈post,p.1=(x,.dN))(H:bK aa base w' (i0 (ci x Y L0) [] (cr ρ post))):bK aa base w' (ci x Y L0):=H.sub fun r y hy=>by
 have hr:r≠(x,.dN):=fun e=>by rw[e,bY rfl]at hy;cases hy
 rw[jj (by simp) fun p Az e=>?_]
 ·exact hy
 ·obtain⟨q,hq,rfl⟩:=aJ.1 Az;exact hr (e▸hp q hq)
theorem YB{x:Nat}{Y:GS}{L0:cg}(A:dD aa base W0 bJ h N m T (G fr cs) w)(H:bK aa base w (ci x Y L0))(hS:cw (ci x Y L0) bJ)(hf:vG S Tb (ux SB off n cap) false i ds fr)(hs:yW (ci x Y L0) SB off i op c arg nw)(hi:i<n)(Xn:op≠20)(h21:op≠21)(h22:op≠22):
  cm aa m T fun m' T'=>∃w' bT f67,dD aa base W0 bJ h N m' T' (G bT (f67::cs)) w'∧bK aa base w' (ci x Y L0)∧qJ false S Tb op c arg nw bT∧TS dfT S Tb (ux SB off n cap) false i ds f67:=by
 refine(qK (cC:=[]) (cs:=cs) A H hS [] [((x,.dN),100,.cells lN iA)] (aqk (bU fr)) rfl rfl (K6 false _) sO (ρ:=jJ S Tb SB off n cap i op c arg nw ds) rfl (vH hf) trivial (Nl hi Xn h21 h22) (Ew hs) (nofun) ai (by simp) rfl).mono fun m1 T1 hd=>?_;obtain⟨w',bL,bT,dk,C⟩:=hd;obtain⟨f67,rfl,lO⟩:=C.one;have z3:bL.i 3=op:=C.bE.ii 3;have z4:bL.i 4=arg:=C.bE.ii 4;have z5:bL.i 5=nw:=C.bE.ii 5;have z6:bL.i 6=c:=C.bE.ii 6;have K7:bL.i 53=n:=C.bE.ii 53;have K8:bL.i 54=cap:=C.bE.ii 54;have K9:bL.i 55=off:=C.bE.ii 55;have K_:bL.i 56=i:=C.bE.ii 56;have jY:bL.b 14=Tb:=C.bE.bb 14;have lx:bL.b 40=S:=C.bE.bb 40;have La:bL.b 52=SB:=C.bE.bb 52;have zb:bL.bt=(none,ds):=C.bE.bt;refine⟨w',bT,f67,C.eG,kV (fun p hp=>by rw[ad.1 hp]) C.heap,?_,?_⟩
 ·have:=C.fr;unfold CI F6 ly at this;simp only[AV.cf,F2,bF,i8,i64,v,AV.ev,af,AA.ev,BR.ev,IE.ev,z3,z4,z5,z6,jY,lx]at this;exact this
 ·unfold CI F6 ly at lO;simp only[zb,uV,rL,AV.cf,bF,tr,i64,v,AV.ev,af,AA.ev,BR.ev,IE.ev,BE.ev,K7,K8,K9,K_,jY,lx,La,ap]at lO;exact lO
theorem YC(A:dD aa base W0 bJ h N m T (G fr cs) w)(H:bK aa base w L)(hS:cw L bJ)(hf:vG S Tb (ux SB off n cap) held i ds fr)(hi:n≤i):
  cm aa m T fun m' T'=>∃w' bT,dD aa base W0 bJ h N m' T' (G bT cs) w'∧bK aa base w' L∧FA dh 61 [] ds .normal [] bT:=by
 refine(qK (cC:=[]) (cs:=cs) A H hS [] [] (aqo held (bU fr)) rfl rfl (K6 held _) akn (ρ:=jJ S Tb SB off n cap i 0 0 0 0 ds) rfl (vH hf) trivial (fun p hp=>?_) (nofun) (nofun) ai ai rfl).mono fun m1 T1 hd=>?_
 ·obtain rfl:=ad.1 hp;show decide ((i:Int)<(((n:Nat):Int).toNat:Int))=false;exact decide_eq_false (by omega)
 obtain⟨w',bL,bT,dk,C⟩:=hd;obtain rfl:=C.none;have zb:bL.bt=(none,ds):=C.bE.bt;refine⟨w',bT,C.eG,cU C.heap,?_⟩;have:=C.fr;unfold CI F6 ly at this;simp only[zb]at this;exact this
def oV(S T:Nat)(c:Int):Deferred:={target:=.fn (.func d7) #[],args:=#[cb S,cb T,.agg #[qn 1,iV c,iV 0,iV 0]]}
theorem aeu:(laO[5]?).isSome=true:=by kernel_rfl
noncomputable def TU:Oper:=(laO[5]?).get aeu
theorem aqq:laO[5]?=some TU:=(Option.some_get _).symm
noncomputable def aqr:Array TypeId:=match TU.op with
 |.defer c=>c.argTypes
 |_=>#[]
theorem akr:TU.op=.defer {callee:=.value (.func d7),args:=#[.tmp 35,.tmp 36,.tmp 39],argTypes:=aqr}:=by kernel_rfl
theorem laG:TU.guard=none:=by kernel_rfl
theorem laD:TU.dst=none:=by kernel_rfl
theorem TV{x:Nat}{Y:GS}{L0:cg}(A:dD aa base W0 bJ h N m T (G fr cs) w)(H:bK aa base w (ci x Y L0))(hS:cw (ci x Y L0) bJ)(hf:vG S Tb (ux SB off n cap) held i ds fr)(hs:yW (ci x Y L0) SB off i 21 c arg nw)(hi:i<n)(vS:i<1000000):
  cm aa m T fun m' T'=>∃w' bT,dD aa base W0 bJ h N m' T' (G bT cs) w'∧bK aa base w' (ci x Y L0)∧vG S Tb (ux SB off n cap) held ((i+1:Nat):Int) (oV S Tb c::ds) bT:=by
 refine(qK (cC:=[]) (cs:=cs) A H hS [] [((x,.dN),100,.cells lN iA)] (sLa held (bU fr)) rfl rfl (K6 held _) aqm (ρ:=jJ S Tb SB off n cap i 21 c arg nw ds) rfl (vH hf) trivial (fun p hp=>?_) (Ew hs) (nofun) ai (by simp) rfl).trans fun m1 T1 hd=>?_
 ·rcases ay.1 hp with hp|hp
  ·exact Iu hi p hp
  ·simp only[ac,ae,or_false]at hp;rcases hp with rfl|rfl<;>rfl
 obtain⟨w1,bW,c9,d9,C⟩:=hd;obtain rfl:=C.none;have z6:bW.i 6=c:=C.bE.ii 6;have K7:bW.i 53=n:=C.bE.ii 53;have K8:bW.i 54=cap:=C.bE.ii 54;have K9:bW.i 55=off:=C.bE.ii 55;have K_:bW.i 56=i:=C.bE.ii 56;have jY:bW.b 14=Tb:=C.bE.bb 14;have lx:bW.b 40=S:=C.bE.bb 40;have La:bW.b 52=SB:=C.bE.bb 52;have zb:bW.bt=(none,ds):=C.bE.bt;have H1:bK aa base w1 (ci x Y L0):=kV (fun p hp=>by rw[ad.1 hp]) C.heap;have f1:FA dh 61 (.inRegion laO [5]::se) ds .normal [(0,cb S),(1,cb Tb),(2,ux SB off n cap),(3,.bool held),(8,iV i),(35,cb S),(36,cb Tb),(39,.agg #[qn 1,iV c,iV 0,iV 0])] c9:=by have:=C.fr;unfold CI F6 ly at this;simp only[zb,uV,rL,laA,az,aA,AV.cf,bF,tr,i8,i64,v,AV.ev,af,AA.ev,BR.ev,IE.ev,BE.ev,z6,K7,K8,K9,K_,jY,lx,La,ap]at this;exact this
 refine(K5 (D:=oV S Tb c) C.eG H1 f1 aqq laG laD (.inl rfl) fun tm w' ht=>?_).trans fun m2 T2 hd=>?_
 ·have t35:=ht (35,cb S) (by simp);have t36:=ht (36,cb Tb) (by simp);have t39:=ht (39,.agg #[qn 1,iV c,iV 0,iV 0]) (by simp);have ef:(⟨tm,ds⟩:Act).eval (.func d7)=.func (.func d7) #[] #[]:=rfl;have e35:(⟨tm,ds⟩:Act).eval (.tmp 35)=cb S:=t35;have e36:(⟨tm,ds⟩:Act).eval (.tmp 36)=cb Tb:=t36;have e39:(⟨tm,ds⟩:Act).eval (.tmp 39)=.agg #[qn 1,iV c,iV 0,iV 0]:=t39;constructor
  ·unfold execOp;simp[akr,resolve,Deferred.ofValue,ef,oV,e35,e36,e39]
  ·unfold execOp;simp[akr,resolve,Deferred.ofValue,ef]
 obtain⟨w2,iE,A2,H2,f2⟩:=hd;have Ys:TS (.inRegion laO []::se) S Tb (ux SB off n cap) held i (oV S Tb c::ds) iE:=f2.sub fun p hp=>by simp only[ac,ae,or_false]at hp⊢;rcases hp with rfl|rfl|rfl|rfl|rfl<;>simp
 refine(qK (cC:=[]) (cs:=cs) A2 H2 hS [] [] (ako held (bU iE)) rfl rfl (TR held _) nU (ρ:=jJ S Tb SB off n cap i 0 0 0 0 (oV S Tb c::ds)) rfl (Ys.yR rfl (F7 held rL (v 56)) rfl) trivial (nofun) (nofun) (nofun) ai ai rfl).mono fun m3 T3 hd=>?_;obtain⟨w3,qm,kH,KX,C3⟩:=hd;obtain rfl:=C3.none;have q53:qm.i 53=n:=C3.bE.ii 53;have q54:qm.i 54=cap:=C3.bE.ii 54;have q55:qm.i 55=off:=C3.bE.ii 55;have q56:qm.i 56=i:=C3.bE.ii 56;have r14:qm.b 14=Tb:=C3.bE.bb 14;have r40:qm.b 40=S:=C3.bE.bb 40;have r52:qm.b 52=SB:=C3.bE.bb 52;have qb:qm.bt=(none,oV S Tb c::ds):=C3.bE.bt;have ei:o0 .add .i64 (i:Int) 1=((i+1:Nat):Int):=add_one (show i≤1000000 by omega);refine⟨w3,kH,C3.eG,cU C3.heap,?_⟩;have:=C3.fr;unfold CI F6 ly at this;simp only[qb,yV,rL,AV.cf,bF,tr,i64,v,AV.ev,af,AA.ev,BR.ev,IE.ev,BE.ev,q53,q54,q55,q56,r14,r40,r52,ap,ei]at this;exact this
end
abbrev qL:Nat:=48
abbrev F8(S T:Nat)(op c arg nw:Int)(fr:Frame):Prop:=FA yU 11 [.code (bQ Fn.held)] [] .normal [(0,cb S),(1,cb T),(2,.agg (iu op c arg nw).toArray)] fr
def aqs(b:Nat):List Deferred:=[{target:=.fn (.func Tq) #[cb b],args:=#[]}]
abbrev Nm(b:Nat)(fr:Frame):Prop:=FA yU 11 aep (aqs b) .normal [] fr
section
variable {base:Nat}{W0:World}{bJ:Nat->Option Tok.Seat}{h N:Nat}{m:Machine}{T:Trace}{w:World}{L:cg}{cs:List Frame}{fr f67 f81 f80:Frame}{S Tb SB off n cap i:Nat}{op c arg nw:Int}{ds:List Deferred}{held:Bool}
theorem TW{x:Nat}{Y:GS}{L0:cg}(A:dD aa base W0 bJ h N m T (G fr cs) w)(H:bK aa base w (ci x Y L0))(hS:cw (ci x Y L0) bJ)(hf:vG S Tb (ux SB off n cap) true i ds fr)(hs:yW (ci x Y L0) SB off i op c arg nw)(hi:i<n)(Xn:op≠20)(h21:op≠21)(h22:op≠22):
  cm aa m T fun m' T'=>∃w' bT f67,dD aa base W0 bJ h N m' T' (G bT (f67::cs)) w'∧bK aa base w' (ci x Y L0)∧F8 S Tb op c arg nw bT∧TS Nk S Tb (ux SB off n cap) true i ds f67:=by
 refine(qK (cC:=[]) (cs:=cs) A H hS [] [((x,.dN),100,.cells lN iA)] (akl (bU fr)) rfl rfl (K6 true _) sO (ρ:=jJ S Tb SB off n cap i op c arg nw ds) rfl (vH hf) trivial (Nl hi Xn h21 h22) (Ew hs) (nofun) ai (by simp) rfl).mono fun m1 T1 hd=>?_;obtain⟨w',bL,bT,dk,C⟩:=hd;obtain⟨f67,rfl,lO⟩:=C.one;have z3:bL.i 3=op:=C.bE.ii 3;have z4:bL.i 4=arg:=C.bE.ii 4;have z5:bL.i 5=nw:=C.bE.ii 5;have z6:bL.i 6=c:=C.bE.ii 6;have K7:bL.i 53=n:=C.bE.ii 53;have K8:bL.i 54=cap:=C.bE.ii 54;have K9:bL.i 55=off:=C.bE.ii 55;have K_:bL.i 56=i:=C.bE.ii 56;have jY:bL.b 14=Tb:=C.bE.bb 14;have lx:bL.b 40=S:=C.bE.bb 40;have La:bL.b 52=SB:=C.bE.bb 52;have zb:bL.bt=(none,ds):=C.bE.bt;refine⟨w',bT,f67,C.eG,kV (fun p hp=>by rw[ad.1 hp]) C.heap,?_,?_⟩
 ·have:=C.fr;unfold CI F6 ly at this;simp only[AV.cf,F2,bF,i8,i64,v,AV.ev,af,AA.ev,BR.ev,IE.ev,z3,z4,z5,z6,jY,lx]at this;exact this
 ·unfold CI F6 ly at lO;simp only[zb,uV,rL,AV.cf,bF,tr,i64,v,AV.ev,af,AA.ev,BR.ev,IE.ev,BE.ev,K7,K8,K9,K_,jY,lx,La,ap]at lO;exact lO
theorem YD{x a j:Nat}{Y:GS}{L0:cg}(A:dD aa base W0 bJ h N m T (G fr cs) w)(H:bK aa base w (ci x Y L0))(hS:cw (ci x Y L0) bJ)(hf:F8 S Tb op c arg nw fr):
  cm aa m T fun m' T'=>∃w' bT f81 B,dD aa base W0 bJ h N m' T' (G bT (f81::cs)) w'∧bK aa base w' (ci x Y (L0.set (a,.app 8 j) (B,.obj qL [cb S])))∧qJ false S Tb op c arg nw bT∧Nm B f81:=by
 refine(cQ (cC:=[]) (cs:=cs) A H hS [] [((x,.dN),101,.cells lN iA),((a,.app 8 j),100,.cells [bF 40] qL)] (hIn (bU fr)) rfl rfl (aeq _) nU (ρ:=jJ S Tb 0 0 0 0 0 op c arg nw []) (hf.rel (.inl rfl) Dk rfl rfl) trivial (nofun) (nofun) (nofun) ai (by simp) rfl).mono fun m1 T1 hd=>?_;obtain⟨w',bL,bT,dk,C⟩:=hd;obtain⟨f81,rfl,Nn⟩:=C.one;have z3:bL.i 3=op:=C.bE.ii 3;have z4:bL.i 4=arg:=C.bE.ii 4;have z5:bL.i 5=nw:=C.bE.ii 5;have z6:bL.i 6=c:=C.bE.ii 6;have jY:bL.b 14=Tb:=C.bE.bb 14;have lx:bL.b 40=S:=C.bE.bb 40;refine⟨w',bT,f81,bL.b 100,C.eG,C.heap.sub (cX [(x,.dN),(a,.app 8 j)] (fz (fun k hk hr=>rfl) fun r hr _=>cg.b7 fun e=>hr (by simp[e])) (fun r hr=>by cases hr) (fun p hp=>?_) fun r hr y hy=>?_),?_,?_⟩
 ·simp only[cr,ah,ak,ac,ae,or_false]at hp;rcases hp with rfl|rfl<;>simp
 ·simp only[ac,ae,or_false]at hr;rcases hr with rfl|rfl
  ·rw[bY rfl]at hy;cases hy
  ·rw[ct rfl,cg.cj]at hy;rw[<-au hy];refine bX ?_;simp only[cr,ah,ak,aw,Prod.mk.injEq,reduceCtorEq,and_false,decide_false,decide_true,cY,AV.cf,bF,AV.ev,af,AA.ev,BR.ev,IE.ev,lx];rfl
 ·have:=C.fr;simp only[AV.cf,F2,bF,i8,i64,v,AV.ev,af,AA.ev,BR.ev,IE.ev,z3,z4,z5,z6,jY,lx]at this;exact this
 ·simp only[hdD,ah,ak,AD.ev,iy.ev,AV.cf,bF,AV.ev,af,AA.ev,BR.ev,IE.ev]at Nn;exact Nn
end
theorem aew:(hoO[5]?).isSome=true:=by kernel_rfl
noncomputable def F9:Oper:=(hoO[5]?).get aew
theorem aqt:hoO[5]?=some F9:=(Option.some_get _).symm
abbrev TX:Nat:=94
theorem aqu:F9.op=.slice TX (.tmp 50) (some (.tmp 52)) none none:=by kernel_rfl
theorem hoG:F9.guard=none:=by kernel_rfl
theorem hoD:F9.dst=some 53:=by kernel_rfl
theorem YE:under? aa TX=.ok (.slice iA):=by kernel_rfl
theorem aex:sizeOf? aa iA=.ok 4:=by kernel_rfl
def nA(SB off n cap i:Nat):Value:=if cap=i then .slice (some ⟨SB,off,none⟩) (n-i) (cap-i)else .slice (some ⟨SB,off+i*4,none⟩) (n-i) (cap-i)
noncomputable def zX(off n cap i:Nat):AV:=.slice (if cap=i then some ⟨.cN 52,.lit (Int.ofNat off)⟩else(some (⟨.cN 52,.lit (Int.ofNat off)⟩:AA)).map (·.add (i*4))) (.lit (Int.ofNat (n-i))) (.lit (Int.ofNat (cap-i)))
theorem YF{off n cap i:Nat}(h:i≤n)(hn:n≤cap):sliceOp? aa TX (.slice (some ⟨.cN 52,.lit (Int.ofNat off)⟩) (.lit (Int.ofNat n)) (.lit (Int.ofNat cap))) (some (.int .i64 (.lit (Int.ofNat i)))) none none=.ok (zX off n cap i):=by unfold sliceOp?;rw[YE];simp only[bind,Except.bind,litNat?,bounds?,bound?,high?,aex,pure,Except.pure];simp[h,hn,zX]
theorem PG{ρ:cn}{SB off n cap i:Nat}(h52:ρ.b 52=SB):(zX off n cap i).ev ρ=nA SB off n cap i:=by
 unfold zX nA;by_cases h:cap=i
 ·simp only[h,if_true,AV.ev,af,AA.ev,BR.ev,IE.ev,h52];rfl
 ·simp only[h,if_false,AV.ev,af,AA.sI];simp only[AA.ev,BR.ev,IE.ev,h52];simp[Addr.add]
theorem TY{f:Operand->Value}{SB off n cap i:Nat}(w:World)(h50:f (.tmp 50)=ux SB off n cap)(h52:f (.tmp 52)=iV i)(hi:i≤n)(hn:n≤cap):
  (execOp f F9).run aa w=.ok (.value (nA SB off n cap i)) w∧(execOp f F9).events aa w #[]=#[]:=by
 let K:ik:=⟨aa,{},fun _=>True,fun _=>False,True,fun _ _=>False⟩;let ρ:cn:=gY [] [(52,SB)] [];have W:wq aa (fun _=>False) (fun _ _=>False) (execOp f F9) (fun r w'=>r=.value (nA SB off n cap i)∧w'=w) w:=by unfold execOp;simp only[aqu,h50,h52,af,bu,bG];refine Aw (K:=K) (ρ:=ρ) (w:=w) (YF (off:=off) hi hn) (Q:=fun v w'=>wq aa (fun _=>False) (fun _ _=>False) (pure (Go.Next.value v)) (fun r w'=>r=.value (nA SB off n cap i)∧w'=w) w') ?_;rw[PG rfl];exact⟨rfl,rfl⟩
 obtain⟨q1,q2⟩:=ou W;constructor
 ·cases e:(execOp f F9).run aa w with
  |ok a w'=>rw[e]at q1;obtain⟨rfl,rfl⟩:=q1;rfl
  |halt hh w'=>rw[e]at q1;cases hh<;>exact q1.elim
 ·refine bz ?_;rcases Nat.eq_zero_or_pos ((execOp f F9).events aa w #[]).size with h|h
  ·exact h
  ·exact(q2 _ (Array.getElem_mem h)).elim
noncomputable def Lb:List Item:=.inRegion hoO [6]::.code .ret::se
noncomputable def hoC(st:Nat->Value):bH:=⟨dh,61,bZ 61 st [(48,bF 40),(49,bF 14),(53,.ez 59)],Lb,[],.run,.wrapped⟩
theorem aey(st:Nat->Value):c7 (cO [] [] 1 [] (cJ (hoC st) [] [])) [0,1,2,3] (fun _=>[])=some (⟨dh,61,[.code (bQ Fn.oT)],[],.run,.normal,[],[],[bF 40,bF 14,.ez 59,tr true]⟩,[⟨dh,61,Lb,[],.run,.wrapped,[],[],[]⟩]):=by kernel_rfl
theorem PH(st:Nat->Value):bR 100 (cJ (hoC st) [] [])=true:=by kernel_rfl
section
variable {base:Nat}{W0:World}{bJ:Nat->Option Tok.Seat}{h N:Nat}{m:Machine}{T:Trace}{w:World}{L:cg}{cs:List Frame}{fr:Frame}{S Tb SB off n cap i:Nat}{op c arg nw:Int}{ds:List Deferred}
theorem TZ{x:Nat}{Y:GS}{L0:cg}(A:dD aa base W0 bJ h N m T (G fr cs) w)(H:bK aa base w (ci x Y L0))(hS:cw (ci x Y L0) bJ)(hf:vG S Tb (ux SB off n cap) false i ds fr)(hs:yW (ci x Y L0) SB off i 22 c arg nw)(hi:i<n)(hn:n≤cap)(vS:i<1000000):
  cm aa m T fun m' T'=>∃w' bT f67,dD aa base W0 bJ h N m' T' (G bT (f67::cs)) w'∧bK aa base w' (ci x Y L0)∧F5 S Tb (nA SB off n cap (i+1)) true bT∧FA dh 61 Lb ds .normal [] f67:=by
 refine(qK (cC:=[]) (cs:=cs) A H hS [] [((x,.dN),100,.cells lN iA)] (sHo (bU fr)) rfl rfl (K6 false _) akm (ρ:=jJ S Tb SB off n cap i 22 c arg nw ds) rfl (vH hf) trivial (fun p hp=>?_) (Ew hs) (nofun) ai (by simp) rfl).trans fun m1 T1 hd=>?_
 ·rcases ay.1 hp with hp|hp
  ·exact Iu hi p hp
  ·simp only[ac,ae,or_false]at hp;rcases hp with rfl|rfl|rfl<;>rfl
 obtain⟨w1,bW,c9,d9,C⟩:=hd;obtain rfl:=C.none;have K7:bW.i 53=n:=C.bE.ii 53;have K8:bW.i 54=cap:=C.bE.ii 54;have K9:bW.i 55=off:=C.bE.ii 55;have K_:bW.i 56=i:=C.bE.ii 56;have jY:bW.b 14=Tb:=C.bE.bb 14;have lx:bW.b 40=S:=C.bE.bb 40;have La:bW.b 52=SB:=C.bE.bb 52;have zb:bW.bt=(none,ds):=C.bE.bt;have ei:o0 .add .i64 (i:Int) 1=((i+1:Nat):Int):=add_one (show i≤1000000 by omega);have H1:bK aa base w1 (ci x Y L0):=kV (fun p hp=>by rw[ad.1 hp]) C.heap;have f1:FA dh 61 (.inRegion hoO [5,6]::.code .ret::se) ds .normal [(0,cb S),(1,cb Tb),(2,ux SB off n cap),(3,.bool false),(8,iV i),(48,cb S),(49,cb Tb),(50,ux SB off n cap),(52,iV ((i+1:Nat):Int))] c9:=by have:=C.fr;unfold CI F6 ly at this;simp only[zb,uV,rL,az,aA,AV.cf,bF,tr,i64,v,AV.ev,af,AA.ev,BR.ev,IE.ev,BE.ev,K7,K8,K9,K_,jY,lx,La,ap,ei]at this;exact this
 refine(K4 (v:=nA SB off n cap (i+1)) (d:=53) C.eG H1 f1 aqt hoG hoD (by decide) (.inl rfl) fun tm w' ht=>TY w' (ht (50,ux SB off n cap) (by simp)) (ht (52,iV ((i+1:Nat):Int)) (by simp)) (by omega) hn).trans fun m2 T2 hd=>?_;obtain⟨w2,iE,A2,H2,f2⟩:=hd;have Ys:FA dh 61 Lb ds .normal [(48,cb S),(49,cb Tb),(53,nA SB off n cap (i+1))] iE:=f2.sub fun p hp=>by
  simp only[ac,ae,or_false]at hp;rcases hp with rfl|rfl|rfl
  ·exact am _ (aU.2 ⟨by simp,rfl⟩)
  ·exact am _ (aU.2 ⟨by simp,rfl⟩)
  ·exact an
 let ρ:cn:={gY [] [(14,Tb),(40,S)] [(59,nA SB off n cap (i+1))]with bt:=(none,ds)};refine(qK (cC:=[]) (cs:=cs) A2 H2 hS [] [] (aey (bU iE)) rfl rfl (PH _) nU (ρ:=ρ) rfl (Ys.yR rfl [(48,bF 40),(49,bF 14),(53,.ez 59)] rfl) trivial (nofun) (nofun) (nofun) ai ai rfl).mono fun m3 T3 hd=>?_;obtain⟨w3,qm,kH,KX,C3⟩:=hd;obtain⟨f67,rfl,lO⟩:=C3.one;have r14:qm.b 14=Tb:=C3.bE.bb 14;have r40:qm.b 40=S:=C3.bE.bb 40;have WB:qm.v 59=nA SB off n cap (i+1):=congrFun C3.bE.v 59;have qb:qm.bt=(none,ds):=C3.bE.bt;refine⟨w3,kH,f67,C3.eG,cU C3.heap,?_,?_⟩
 ·have:=C3.fr;unfold CI F6 ly at this;simp only[AV.cf,bF,tr,AV.ev,af,AA.ev,BR.ev,IE.ev,BE.ev,r14,r40,WB]at this;exact this
 ·unfold CI F6 ly at lO;simp only[qb]at lO;exact lO
end
structure yl(fn nt:Nat)(ds:List Deferred)(md:FrameMode)(fr:Frame):Prop where
 ex:∃tm todo,fr={(iD fn .normal).at ⟨tm,ds⟩ todo with mode:=md}∧tm.size=nt
 fn:∃f,Try.prog.funcs[fn]?=some f
noncomputable def Iv:List AV:=[bF 40,bF 14,laA]
noncomputable def abT:bH:=okA (fD aa d7 Iv .deferred)
theorem PI:fD aa d7 Iv .deferred=.ok abT:=by kernel_rfl
theorem T0:fW abT [0,1,2]=⟨d7,117,[.code (bQ Fn.one)],[],.run,.deferred,[],[],Iv⟩:=by kernel_rfl
theorem YG(a:Array Value)(w:World):(invoke (.fn (.func d7) #[]) a).run aa w=.ok (.enter d7 (a++#[])) w:=by kernel_rfl
theorem aez(a:Array Value)(w:World):(invoke (.fn (.func d7) #[]) a).events aa w #[]=#[]:=by kernel_rfl
def Ca:FrameMode->Bool
 |.returning=>true
 |.panicking []=>true
 |.panicking (e::_)=>!e.recovered
 |.run=>false
theorem aeA:(Try.prog.funcs[d7]?).map (fun f=>f.results.size)=some 0:=by kernel_rfl
theorem abU:∃f,Try.prog.funcs[d7]?=some f∧f.results.size=0:=by
 have:=aeA;cases e:Try.prog.funcs[d7]? with
 |none=>rw[e]at this;cases this
 |some f=>rw[e]at this;exact⟨f,rfl,au this⟩
section
variable {base:Nat}{W0:World}{bJ:Nat->Option Tok.Seat}{h N:Nat}{m:Machine}{T:Trace}{w:World}{L:cg}{cs:List Frame}{fr f67:Frame}{S Tb:Nat}{c:Int}{ds:List Deferred}{md:FrameMode}
theorem YH{fn nt:Nat}{lv:List (Nat×Value)}(A:dD aa base W0 bJ h N m T (G fr cs) w)(H:bK aa base w L)(hf:FA fn nt [] ds .normal lv fr):
  cm aa m T fun m' T'=>∃w' bT,dD aa base W0 bJ h N m' T' (G bT cs) w'∧bK aa base w' L∧yl fn nt ds .returning bT:=by
 obtain⟨⟨tm,rfl,h2,h3⟩,h4,h5⟩:=hf;refine(hand A H rfl fun w'=>stepG_end).mono fun m1 T1 hd=>?_;obtain⟨w1,A1,H1⟩:=hd;exact⟨w1,_,A1,H1,⟨tm,[],rfl,h2⟩,h5⟩
theorem T_{fn nt:Nat}{k:List Item}{lv:List (Nat×Value)}(A:dD aa base W0 bJ h N m T (G fr cs) w)(H:bK aa base w L)(hf:FA fn nt (.code .ret::k) ds .normal lv fr):
  cm aa m T fun m' T'=>∃w' bT,dD aa base W0 bJ h N m' T' (G bT cs) w'∧bK aa base w' L∧yl fn nt ds .returning bT:=by
 obtain⟨⟨tm,rfl,h2,h3⟩,h4,h5⟩:=hf;refine(hand A H rfl fun w'=>stepG_ret').mono fun m1 T1 hd=>?_;obtain⟨w1,A1,H1⟩:=hd;exact⟨w1,_,A1,H1,⟨tm,_,rfl,h2⟩,h5⟩
theorem aeB(A:dD aa base W0 bJ h N m T (G fr cs) w)(H:bK aa base w L)(hf:yl dh 61 (oV S Tb c::ds) md fr)(hm:md≠.run):
  cm aa m T fun m' T'=>∃w' bT f67,dD aa base W0 bJ h N m' T' (G bT (f67::cs)) w'∧bK aa base w' L∧qJ true S Tb 1 c 0 0 bT∧yl dh 61 ds md f67:=by
 obtain⟨⟨tm,todo,rfl,h2⟩,h5⟩:=hf;let ρ:cn:=gY [(6,c)] [(14,Tb),(40,S)] [];have pz:(AV.cf ρ Iv).toArray=(oV S Tb c).args:=rfl;obtain⟨e1,_⟩:=jW (P:=aa) (ρ:=ρ) (U:=dR 100) PI (.inr rfl) (AV.gJ Iv (by kernel_rfl));rw[pz]at e1;have hs:∀w',stepG aa (h==0) (G {(iD dh .normal).at ⟨tm,oV S Tb c::ds⟩ todo with mode:=md} cs) w'=.go (G (Frame.enter aa d7 (oV S Tb c).args .deferred) ({(iD dh .normal).at ⟨tm,ds⟩ todo with mode:=md}::cs)) w' #[]:=fun w'=>by rw[ll (D:=oV S Tb c) (Ds:=ds) hm rfl (.inl ⟨_,_,rfl⟩)];rw[jd (.inl ⟨_,_,rfl⟩) (YG (oV S Tb c).args w')];rw[show(invoke (oV S Tb c).target (oV S Tb c).args).events aa w' #[]=#[]from aez _ w'];rfl
 refine(hand A H rfl hs).mono fun m1 T1 hd=>?_;obtain⟨w1,A1,H1⟩:=hd;exact⟨w1,_,_,A1,H1,tw.of e1 T0 (.inr rfl),⟨tm,todo,rfl,h2⟩,h5⟩
end
theorem YI{ρ:cn}{fn nt:Nat}{t:TT}{todo:List Item}{md:ia}{fr:Frame}{ds:List Deferred}(h:dj aa ρ ⟨fn,nt,t,todo,[],md,.wrapped⟩ fr)(hb:ρ.bt=(none,ds)):yl fn nt ds (md.ev ρ) fr:=by obtain⟨tm,td,i,rfl⟩:=h;refine⟨⟨tm,td,?_,i.tmps.size⟩,i.fn⟩;unfold dS bB aB dB;rw[hb];rfl
noncomputable def faC(held:Bool)(st:Nat->Value):dw:=XK (cO TP sM 41 [100] (cJ (WC held st) [] []))
theorem akt(held:Bool)(st:Nat->Value):cO TP sM 41 [100] (cJ (WC held st) [] [])=.ok (faC held st):=by cases held<;>kernel_rfl
theorem aqv(held:Bool)(st:Nat->Value):(faC held st).h.hp=PF:=by cases held<;>kernel_rfl
noncomputable def Iw:AV:=match(faC false (fun _=>undef)).da.mode with
 |.panicking ((a,_)::_)=>a
 |_=>cx
theorem aeC(held:Bool)(st:Nat->Value):fW (faC held st).da []=⟨dh,61,faT,[],.panicking [(Iw,false)],.wrapped,[],[],[]⟩:=by cases held<;>kernel_rfl
theorem PJ(held:Bool)(st:Nat->Value):(faC held st).callers=[]:=by cases held<;>kernel_rfl
noncomputable def abV:ByteArray:=match Iw with
 |.iface _ (.str s)=>s
 |_=>.empty
theorem Ua:Iw=.iface 9 (.str abV):=by kernel_rfl
noncomputable def Ex:Value:=Iw.ev (gY [] [] [])
theorem aeD(ρ:cn):Iw.ev ρ=Ex:=by unfold Ex;rw[Ua];rfl
section
variable {base:Nat}{W0:World}{bJ:Nat->Option Tok.Seat}{h N:Nat}{m:Machine}{T:Trace}{w:World}{cs:List Frame}{fr:Frame}{S Tb SB off n cap i:Nat}{c arg nw:Int}{ds:List Deferred}{held:Bool}
theorem Ub{x:Nat}{Y:GS}{L0:cg}(A:dD aa base W0 bJ h N m T (G fr cs) w)(H:bK aa base w (ci x Y L0))(hS:cw (ci x Y L0) bJ)(hf:vG S Tb (ux SB off n cap) held i ds fr)(hs:yW (ci x Y L0) SB off i 20 c arg nw)(hi:i<n):
  cm aa m T fun m' T'=>∃w' bT,dD aa base W0 bJ h N m' T' (G bT cs) w'∧bK aa base w' (ci x Y L0)∧yl dh 61 ds (.panicking [{v:=Ex,recovered:=false}]) bT:=by
 refine(FT (cC:=[]) (cs:=cs) A H [] [((x,RK.dN),100,.cells lN iA)] (akt held (bU fr)) (aqv held _) (K6 held _) aqn (ρ:=jJ S Tb SB off n cap i 20 c arg nw ds) (vH hf) trivial (fun p hp=>?_) (Ew hs) (nofun) ai (by simp) (nofun)).mono fun m1 T1 hd=>?_
 ·rcases ay.1 hp with hp|hp
  ·exact Iu hi p hp
  ·obtain rfl:=ad.1 hp;rfl
 obtain⟨a1,w1,bW,U1,A1,Ag,kp,I,Γ,H1⟩:=hd;obtain⟨c9,d9,h1,h2,rfl⟩:=Γ;have hc:=PJ held (bU fr);rw[hc]at h2;obtain rfl:d9=[]:=by
  cases d9 with
  |nil=>rfl
  |cons a b=>exact h2.elim
 have SC:=aeC held (bU fr);generalize(faC held (bU fr)).da=da at h1 SC;obtain⟨fn',nt',t',todo',ds',aku,uK⟩:=da;simp only[fW,fN.mk.injEq]at SC;obtain⟨rfl,rfl,rfl,rfl,rfl,rfl,_⟩:=SC;have zb:bW.bt=(none,ds):=Ag.bt;have:=YI h1 zb;simp only[ia.ev,ah,ak,aeD]at this;exact⟨w1,c9,A1,kV (fun p hp=>by rw[ad.1 hp]) H1,this⟩
end
noncomputable def rtF(st:Nat->Value):bH:=⟨dh,61,bZ 61 st [],[],[],.returning,.normal⟩
theorem Ix{ρ:cn}{fr:Frame}(h:yl dh 61 [] .returning fr):dj aa ρ (rtF (bU fr)) fr:=by obtain⟨⟨tm,todo,rfl,h2⟩,h5⟩:=h;exact⟨tm,todo,⟨qH h2 (by decide) (nofun),.inl (.inl rfl),(fun x=>by cases x),h5⟩,rfl⟩
noncomputable def aeE(st:Nat->Value):bH:=⟨dh,61,bZ 61 st [],Lb,[],.run,.wrapped⟩
theorem rtS(s1 s2:Nat->Value):c7 (cO [] [] 2 [] (cJ (rtF s1) [aeE s2] [])) [] (fun _=>[])=some (⟨dh,61,.code .ret::se,[],.run,.wrapped,[],[],[]⟩,[]):=by kernel_rfl
theorem aeF(s1 s2:Nat->Value):bR 100 (cJ (rtF s1) [aeE s2] [])=true:=by kernel_rfl
noncomputable def bdF(st:Nat->Value):bH:=⟨BZ,43,bZ 43 st [],bdT,bdD 11,.run,.normal⟩
noncomputable def kcF(st:Nat->Value):bH:=⟨ed,14,bZ 14 st [],kcT,zo 16 17,.run,.deferred⟩
noncomputable def rtM:List (AA×AV):=[(⟨.cN 11,.lit 0⟩,bF 40)]
noncomputable def YJ:List (Nat×bM):=[(40,.cH false 44 (v 41) [(.lit 13,i64 (v 57))] [] [] fe (v 42))]
noncomputable def abW:List (Nat×bM):=[(40,.cH false 44 (v 41) [(.lit 13,i64 (v 57))] [(.lit 13,i64 (.op .add .i64 (v 57) (.lit 1)))] [] fe (v 42))]
theorem rtB(s1 s2 s3:Nat->Value):c7 (cO [] rtM 18 [40] (cJ (rtF s1) [bdF s2,kcF s3] YJ)) [] (fun _=>[])=some (⟨ed,14,[],zo 16 17,.run,.deferred,[],abW,[]⟩,[]):=by kernel_rfl
theorem aeG(s1 s2 s3:Nat->Value):bR 100 (cJ (rtF s1) [bdF s2,kcF s3] YJ)=true:=by kernel_rfl
theorem rtO:(OO [] [] rtM).low 100=true:=by kernel_rfl
def SS.zt(s:SS):SS:={s with ended:=s.ended+1}
theorem No{a:Nat}{s:SS}{L:cg}(r:cD)(h0:r≠(a,.app 0 0)):eQ a s.zt L r=eQ a s L r:=by
 obtain⟨z,k⟩:=r;unfold eQ;by_cases hz:z=a
 ·subst hz;simp only[if_true];cases k with
  |app i i'=>
   rcases i with _|i
   ·have hi:¬(RK.app 0 i'=RK.app 0 0):=fun e=>h0 (by rw[e]);simp only[hi,if_false]
   ·rfl
  |_=>rfl
 ·simp only[hz,if_false]
section
variable {base:Nat}{W0:World}{bJ:Nat->Option Tok.Seat}{h N:Nat}{m:Machine}{T:Trace}{w:World}{L:cg}{cs:List Frame}{fr f67 f65 f76:Frame}{ds:List Deferred}
theorem PK(A:dD aa base W0 bJ h N m T (G fr (f67::cs)) w)(H:bK aa base w L)(hS:cw L bJ)(hf:yl dh 61 [] .returning fr)(lO:FA dh 61 Lb ds .normal [] f67):
  cm aa m T fun m' T'=>∃w' bT,dD aa base W0 bJ h N m' T' (G bT cs) w'∧bK aa base w' L∧yl dh 61 ds .returning bT:=by
 let ρ:cn:={gY [] [] []with bt:=(none,ds)};have iw:c8 aa ρ [aeE (bU f67)] [f67]:=⟨lO.yR rfl [] rfl,trivial⟩;refine(qK (cC:=[f67]) (cs:=cs) A H hS [] [] (rtS (bU fr) (bU f67)) rfl rfl (aeF _ _) nU (ρ:=ρ) rfl (Ix hf) iw (nofun) (nofun) (nofun) ai ai rfl).trans fun m1 T1 hd=>?_;obtain⟨w1,bW,c9,d9,C⟩:=hd;obtain rfl:=C.none;have zb:bW.bt=(none,ds):=C.bE.bt;have:=C.fr;unfold CI F6 ly at this;simp only[zb]at this;exact T_ C.eG (cU C.heap) this
theorem Uc{x a:Nat}{Y:GS}{L0:cg}{s:SS}{tI:Nat}{YA:cD}{k11:fK}{t:FU}(A:dD aa base W0 bJ h N m T (G fr (f65::f76::cs)) w)(H:bK aa base w (ci x Y (eQ a s L0)))(hS:cw (ci x Y (eQ a s L0)) bJ)(hq:s.q.length=4)(hf:yl dh 61 [] .returning fr)(WD:Ng tI f65)(Np:Yy t f76)(Nh:ci x Y (eQ a s L0) YA=some (tI,k11))(g11:k11.cell 0=some (cb s.S))(n11:YA≠(a,.app 0 0)){e:Nat}(he:s.ended=e)(Q4:e≤1000000):
  cm aa m T fun m' T'=>∃w' bT,dD aa base W0 bJ h N m' T' (G bT cs) w'∧bK aa base w' (ci x Y (eQ a s.zt L0))∧FA ed 14 [] (FY t.c2 t.c5) .deferred [] bT:=by
 let ρ:cn:=gY [(41,1),(42,1),(57,s.ended)] [(11,tI),(16,t.c2),(17,t.c5),(40,s.S)] [(44,.agg s.xs.toArray)];have x13:s.xs[13]?=some (iV s.ended):=by unfold SS.xs;rw[aE (by omega),hq];rfl
 have iw:c8 aa ρ [bdF (bU f65),kcF (bU f76)] [f65,f76]:=⟨WD.rel (.inl rfl) [] rfl rfl,Np.rel (.inr rfl) [] rfl rfl,trivial⟩;refine(cQ (cC:=[f65,f76]) (cs:=cs) A H hS [((a,.app 0 0),40,.cH false 44 (v 41) [(.lit 13,i64 (v 57))] [] [] fe (v 42))] [((a,.app 0 0),40,.cH false 44 (v 41) [(.lit 13,i64 (v 57))] [(.lit 13,i64 (.op .add .i64 (v 57) (.lit 1)))] [] fe (v 42))] (rtB (bU fr) (bU f65) (bU f76)) rfl rfl (aeG _ _ _) rtO (ρ:=ρ) (Ix hf) iw (nofun) (fun p hp=>?_) (fun p hp=>?_) (by simp) (by simp) rfl).mono fun m1 T1 hd=>?_
 ·obtain rfl:=ad.1 hp;exact .inl ⟨_,_,Nh,by simpa using n11,g11⟩
 ·obtain rfl:=ad.1 hp;refine⟨.fF fe 1 s.xs,by rw[ct rfl];exact i5,rfl,rfl,fun i hi=>?_,fun q km=>?_,rfl⟩
  ·rw[mX i hi,rJ hq];rfl
  ·obtain rfl:=ad.1 km;exact x13
 obtain⟨w',bL,bT,dk,C⟩:=hd;obtain rfl:=C.none;have CH:bL.i 42=1:=C.bE.ii 42;have z57:bL.i 57=s.ended:=C.bE.ii 57;have y16:bL.b 16=t.c2:=C.bE.bb 16;have Yi:bL.b 17=t.c5:=C.bE.bb 17;have lx:bL.b 40=s.S:=C.bE.bb 40;have K2:bL.v 44=.agg s.xs.toArray:=congrFun C.bE.v 44;have ei:o0 .add .i64 s.ended 1=s.ended+1:=by rw[he];have:=add_one (i:=e) Q4;rw[this];rfl
 refine⟨w',bT,C.eG,C.heap.sub (cX [(a,.app 0 0)] (fz (fun k hk hr=>rfl) fun r hr _=>No r fun e=>hr (by simp[e])) (fun r hr=>by simpa using hr) (fun p hp=>?_) fun r hr y hy=>?_),?_⟩
 ·simp only[cr,ah,ak,ad]at hp;subst hp;simp
 ·simp only[ac,ae,or_false]at hr;subst hr;rw[ct rfl,i5]at hy;rw[<-au hy];refine bX ?_;simp only[cr,ah,ak,aw,decide_true];have ew:s.xs.set 13 (iV (s.ended+1))=s.zt.xs:=by
   unfold SS.xs SS.zt;dsimp only;rw[List.set_append_right _ _ (by omega),hq];rfl
  simp only[cY,dF,List.foldr_cons,List.foldr_nil,K2,gy,bm,i64,AV.ev,AV.cf,aX,v,IE.ev,CH,z57,lx,ei];rw[<-ew];rfl
 ·have:=C.fr;simp only[zo,ah,ak,AD.ev,iy.ev,AV.cf,bF,AV.ev,af,AA.ev,BR.ev,IE.ev,y16,Yi]at this;exact this
end
structure mu(kd:Bool)(fr:Frame):Prop where
 ex:∃tm todo,fr={(iD d7 (fE kd)).at ⟨tm,[]⟩ todo with mode:=.returning}∧tm.size=117
noncomputable def onR(st:Nat->Value):bH:=⟨d7,117,bZ 117 st [],[],[],.returning,.normal⟩
theorem Cb{ρ:cn}{fr:Frame}(h:mu false fr):dj aa ρ (onR (bU fr)) fr:=by obtain⟨⟨tm,todo,rfl,h2⟩⟩:=h;obtain⟨f,hf,_⟩:=abU;exact⟨tm,todo,⟨qH h2 (by decide) (nofun),.inl (.inl rfl),(fun x=>by cases x),⟨f,hf⟩⟩,rfl⟩
theorem aeH(Iy st:Nat->Value):c7 (cO [] [] 10 [] (cJ (onR Iy) [TQ false dfT st] [])) Is (fun _=>[])=some (⟨dh,61,hdT,[],.run,.wrapped,[],[],yV false⟩,[]):=by kernel_rfl
theorem PL(Iy st:Nat->Value):bR 100 (cJ (onR Iy) [TQ false dfT st] [])=true:=by kernel_rfl
theorem aeI(Iy s81 st:Nat->Value):c7 (cO [] [] 48 [] (cJ (onR Iy) [aer s81,TQ true Nk st] [])) Is (fun _=>[])=some (⟨dh,61,hdT,[],.run,.wrapped,[],[],yV true⟩,[]):=by kernel_rfl
theorem PM(Iy s81 st:Nat->Value):bR 100 (cJ (onR Iy) [aer s81,TQ true Nk st] [])=true:=by kernel_rfl
section
variable {base:Nat}{W0:World}{bJ:Nat->Option Tok.Seat}{h N:Nat}{m:Machine}{T:Trace}{w:World}{L:cg}{cs:List Frame}{fr f67 f81 f80:Frame}{S Tb SB off n cap i:Nat}{ds:List Deferred}{md:FrameMode}{kd:Bool}
theorem YK(A:dD aa base W0 bJ h N m T (G fr cs) w)(H:bK aa base w L)(hf:KY kd fr):
  cm aa m T fun m' T'=>∃w' bT,dD aa base W0 bJ h N m' T' (G bT cs) w'∧bK aa base w' L∧mu kd bT:=by
 obtain⟨⟨tm,rfl,h2,h3⟩,h4,h5⟩:=hf;refine(hand A H rfl fun w'=>stepG_end).mono fun m1 T1 hd=>?_;obtain⟨w1,A1,H1⟩:=hd;exact⟨w1,_,A1,H1,⟨tm,[],rfl,h2⟩⟩
theorem xc{k:List Item}{lv:List (Nat×Value)}(A:dD aa base W0 bJ h N m T (G fr cs) w)(H:bK aa base w L)(hf:FA d7 117 (.code .ret::k) [] (fE kd) lv fr):
  cm aa m T fun m' T'=>∃w' bT,dD aa base W0 bJ h N m' T' (G bT cs) w'∧bK aa base w' L∧mu kd bT:=by
 obtain⟨⟨tm,rfl,h2,h3⟩,h4,h5⟩:=hf;refine(hand A H rfl fun w'=>stepG_ret').mono fun m1 T1 hd=>?_;obtain⟨w1,A1,H1⟩:=hd;exact⟨w1,_,A1,H1,⟨tm,_,rfl,h2⟩⟩
theorem PN(A:dD aa base W0 bJ h N m T (G f80 (f67::cs)) w)(H:bK aa base w L)(hS:cw L bJ)(hf:mu false f80)(lO:TS dfT S Tb (ux SB off n cap) false i ds f67)(hi:i<1000000):
  cm aa m T fun m' T'=>∃w' bT,dD aa base W0 bJ h N m' T' (G bT cs) w'∧bK aa base w' L∧vG S Tb (ux SB off n cap) false ((i+1:Nat):Int) ds bT:=by
 have iw:c8 aa (jJ S Tb SB off n cap i 0 0 0 0 ds) [TQ false dfT (bU f67)] [f67]:=⟨lO.yR rfl (F7 false rL (v 56)) rfl,trivial⟩;refine(qK (cC:=[f67]) (cs:=cs) A H hS [] [] (aeH (bU f80) (bU f67)) rfl rfl (PL _ _) nU (ρ:=jJ S Tb SB off n cap i 0 0 0 0 ds) rfl (Cb hf) iw (nofun) (nofun) (nofun) ai ai rfl).mono fun m1 T1 hd=>?_;obtain⟨w',bL,bT,dk,C⟩:=hd;obtain rfl:=C.none;have K7:bL.i 53=n:=C.bE.ii 53;have K8:bL.i 54=cap:=C.bE.ii 54;have K9:bL.i 55=off:=C.bE.ii 55;have K_:bL.i 56=i:=C.bE.ii 56;have jY:bL.b 14=Tb:=C.bE.bb 14;have lx:bL.b 40=S:=C.bE.bb 40;have La:bL.b 52=SB:=C.bE.bb 52;have zb:bL.bt=(none,ds):=C.bE.bt;have ei:o0 .add .i64 (i:Int) 1=((i+1:Nat):Int):=add_one (show i≤1000000 by omega);refine⟨w',bT,C.eG,cU C.heap,?_⟩;have:=C.fr;unfold CI F6 ly at this;simp only[zb,yV,rL,AV.cf,bF,tr,i64,v,AV.ev,af,AA.ev,BR.ev,IE.ev,BE.ev,K7,K8,K9,K_,jY,lx,La,ap,ei]at this;exact this
theorem Lc{B:Nat}(A:dD aa base W0 bJ h N m T (G f80 (f81::f67::cs)) w)(H:bK aa base w L)(hS:cw L bJ)(hf:mu false f80)(Nn:Nm B f81)(lO:TS Nk S Tb (ux SB off n cap) true i ds f67)(hi:i<1000000):
  cm aa m T fun m' T'=>∃w' bT,dD aa base W0 bJ h N m' T' (G bT cs) w'∧bK aa base w' L∧vG S Tb (ux SB off n cap) true ((i+1:Nat):Int) ds bT:=by
 let ρ:cn:={gY [(3,0),(4,0),(5,0),(6,0),(53,n),(54,cap),(55,off),(56,i)] [(14,Tb),(36,B),(40,S),(52,SB)] []with bt:=(none,ds)};have iw:c8 aa ρ [aer (bU f81),TQ true Nk (bU f67)] [f81,f67]:=⟨Nn.rel (.inl rfl) [] rfl rfl,lO.yR rfl (F7 true rL (v 56)) rfl,trivial⟩;refine(qK (cC:=[f81,f67]) (cs:=cs) A H hS [] [] (aeI (bU f80) (bU f81) (bU f67)) rfl rfl (PM _ _ _) nU (ρ:=ρ) rfl (Cb hf) iw (nofun) (nofun) (nofun) ai ai rfl).mono fun m1 T1 hd=>?_;obtain⟨w',bL,bT,dk,C⟩:=hd;obtain rfl:=C.none;have K7:bL.i 53=n:=C.bE.ii 53;have K8:bL.i 54=cap:=C.bE.ii 54;have K9:bL.i 55=off:=C.bE.ii 55;have K_:bL.i 56=i:=C.bE.ii 56;have jY:bL.b 14=Tb:=C.bE.bb 14;have lx:bL.b 40=S:=C.bE.bb 40;have La:bL.b 52=SB:=C.bE.bb 52;have zb:bL.bt=(none,ds):=C.bE.bt;have ei:o0 .add .i64 (i:Int) 1=((i+1:Nat):Int):=add_one (show i≤1000000 by omega);refine⟨w',bT,C.eG,cU C.heap,?_⟩;have:=C.fr;unfold CI F6 ly at this;simp only[zb,yV,rL,AV.cf,bF,tr,i64,v,AV.ev,af,AA.ev,BR.ev,IE.ev,BE.ev,K7,K8,K9,K_,jY,lx,La,ap,ei]at this;exact this
theorem PO(A:dD aa base W0 bJ h N m T (G f80 (f67::cs)) w)(H:bK aa base w L)(hf:mu true f80)(lO:yl dh 61 ds md f67)(hm:Ca md=true):
  cm aa m T fun m' T'=>∃w',dD aa base W0 bJ h N m' T' (G f67 cs) w'∧bK aa base w' L:=by
 obtain⟨⟨tm,todo,rfl,h2⟩⟩:=hf;obtain⟨f,Ru,WZ⟩:=abU;have nR:∀w',(results f tm).run aa w'=.ok (.tuple #[]) w'∧(results f tm).events aa w' #[]=#[]:=fun w'=>by
  have e0:f.results=#[]:=bz WZ;have e1:results f tm=pure (.tuple #[]):=by unfold results;rw[e0];simp
  rw[e1];exact⟨rfl,rfl⟩
 have hs:∀w',stepG aa (h==0) (G {(iD d7 (fE true)).at ⟨tm,[]⟩ todo with mode:=.returning} (f67::cs)) w'=.go (G f67 cs) w' #[]:=fun w'=>by
  rw[kA rfl rfl rfl Ru (nR w').1];rw[show(results f ({(iD d7 (fE true)).at ⟨tm,[]⟩ todo with mode:=.returning}:Frame).tmps).events aa w' #[]=#[]from(nR w').2];obtain⟨⟨tm2,Iz,rfl,_⟩,_⟩:=lO;cases md with
  |run=>cases hm
  |returning=>rfl
  |panicking l=>
   cases l with
   |nil=>rfl
   |cons e l=>
    obtain⟨ev,er,eg⟩:=e;cases er with
    |false=>rfl
    |true=>cases hm
 refine(hand A H rfl hs).mono fun m2 T2 hd=>?_;obtain⟨w2,A2,H2⟩:=hd;exact⟨w2,A2,H2⟩
end
end Go.Proofs.Ythaddgfbohmfoaa
namespace Go.Proofs.Ythaddgfbohmfoaa.SX
open Go.Conc
open _root_.List renaming mem_cons_of_mem->am,mem_cons_self->an
open _root_.Array renaming eq_empty_of_size_eq_zero->bz,toList_inj->bD
def Cc(c:Frame):Frame:=match c.mode with
 |.panicking ({recovered:=true,..}::lQ)=>
  match lQ.dropWhile (!·.goexit)with
  |[]=>{c with mode:=.returning}
  |rest=>{c with mode:=.panicking rest}
 |_=>c
section
variable {P:Program}{main:Bool}{O:dP}{ext:Ext}{U:Nat->Prop}{ρ:cn}{cs:List Frame}
theorem Ud{c1:Frame}{cs2:List Frame}(hq:∃m,QuitsD P m 0 (G (Cc c1) cs2))(hO:O.mem=[])(hb:O.bs=[])(hi:O.is=[])(S:ti P O ext)(hU:O.In U):∀{n:Nat} {c:dw},leave? P O ext n c=true->kD U c->∀{g:Goroutine},jv P ρ c (c1::cs2) g->∃m,QuitsD P m 0 g:=by
 have kn:∀w,ji O ρ w:=fun w=>⟨(fun p hp=>by rw[hb]at hp;cases hp),(fun p hp=>by rw[hi]at hp;cases hp),(fun p hp=>by rw[hO]at hp;cases hp)⟩;intro n
 induction n with
 |zero=>intro c he;cases he
 |succ n ih=>
  intro c he I g Γ;obtain⟨⟨fn,nt,tmps,todo,defers,mode,kind⟩,callers,h⟩:=c;have jO:leave1? P O ext (leave? P O ext n) ⟨⟨fn,nt,tmps,todo,defers,mode,kind⟩,callers,h⟩=true:=he;clear he;unfold leave1? at jO;dsimp only at jO;split at jO
  ·split at jO
   ·cases jO
   rename_i ht;have ret:∀{todo':List Item},leave? P O ext n ⟨⟨fn,nt,tmps,todo',defers,.returning,kind⟩,callers,h⟩=true->(∀w tm io,stepG P false (G ((iD fn kind).at ⟨tm,defers.map (AD.ev ρ)⟩ todo) io) w=.go (G {(iD fn kind).at ⟨tm,defers.map (AD.ev ρ)⟩ todo with mode:=.returning} io) w #[])->∃m,QuitsD P m 0 g:=by intro todo' hl hs;obtain⟨tm,cC,h1,h2,h3,hc,rfl⟩:=(ml ht).1 Γ;obtain⟨m,hm⟩:=ih hl ⟨⟨I.da.tmps,I.da.defers,trivial⟩,I.callers⟩ (g:=G {(iD fn kind).at ⟨tm,defers.map (AD.ev ρ)⟩ todo with mode:=.returning} (cC++(c1::cs2))) ⟨_,cC,⟨tm,todo,⟨h1,.inl h2,(fun x=>by cases x),h3⟩,by rw[<-lh h2];rfl⟩,hc,rfl⟩;exact⟨m+1,.ctl rfl (fun w=>hs w tm _) hm⟩
   split at jO
   ·exact ret jO fun _ _ _=>stepG_end
   ·exact ret jO fun _ _ _=>stepG_ret'
   ·split at jO
    ·rename_i c1 hs;obtain⟨fJ,g',I',vj,di⟩:=Bp (main:=false) S hU hs I Γ (kn default);obtain⟨m,hm⟩:=ih jO I' vj;refine⟨m+1,.ctl fJ (fun w=>?_) hm⟩;obtain⟨es,e1,e2⟩:=di w (kn w);have:es=#[]:=by
      rcases Nat.eq_zero_or_pos es.size with h0|h0
      ·exact bz h0
      ·obtain⟨p,hp,_⟩:=e2 _ (Array.getElem_mem h0);rw[hO]at hp;cases hp
     rw[e1,this]
    ·cases jO
  ·split at jO
   ·rename_i f hf;obtain⟨fr,cC,⟨tm,td,is,rfl⟩,hc,rfl⟩:=Γ;split at jO
    ·rename_i nR;cases cC with
     |cons a b=>exact absurd hc (by simp[c8])
     |nil=>
      have hr:f.results=#[]:=by apply bD.1;exact nR
      obtain⟨m,hm⟩:=hq;refine⟨m+1,.ctl rfl (fun w=>?_) hm⟩;have:=kA (main:=false) (P:=P) (cs:=cs2) (eX:=c1) (fr:=dS ρ ⟨fn,nt,tmps,todo,[],.returning,.deferred⟩ tm td) (w:=w) rfl rfl rfl hf (results_none hr _ P w);rw[events_results_none hr,seen_none]at this;exact this
    ·rename_i eX rest nR;cases cC with
     |nil=>exact absurd hc (by simp[c8])
     |cons d1 cC=>
      obtain⟨Xl,hc⟩:=hc;have hr:f.results=#[]:=by apply bD.1;exact nR
      obtain⟨m,hm⟩:=ih jO ⟨xR (I.callers _ (an ..)),fun fr hf=>I.callers fr (am _ hf)⟩ (g:=_) ⟨_,cC,FC Xl,hc,rfl⟩;refine⟨m+1,.ctl rfl (fun w=>?_) hm⟩;have:=kA (main:=false) (P:=P) (cs:=cC++(c1::cs2)) (eX:=d1) (fr:=dS ρ ⟨fn,nt,tmps,todo,[],.returning,.deferred⟩ tm td) (w:=w) rfl rfl rfl hf (results_none hr _ P w);rw[events_results_none hr,seen_none]at this;exact this
    ·cases jO
   ·cases jO
  ·cases jO
end
end Go.Proofs.Ythaddgfbohmfoaa.SX
namespace Go.Proofs.Ythaddgfbohmfoaa
open Go.Proofs.Ythaddgfbohmfoaa.SX Go.Conc
open Go.ConcN (upd upd_ne upd_same)
open Go.Proofs.Try renaming prog->aa
open _root_.List renaming mem_cons->ac,mem_singleton->ad,not_mem_nil->ae,map_cons->ah,map_nil->ak,mem_cons_of_mem->am,mem_cons_self->an,find?_cons->aw,mem_append->ay,cons_append->az,nil_append->aA,length_append->aD,length_pos_iff->aG,length_cons->bd
open _root_.Option renaming map_some->af
open _root_.Int renaming toNat_natCast->ap
open _root_.Nat renaming le_refl->aq
open _root_.Option.some renaming inj->au
open _root_.Array renaming eq_empty_of_size_eq_zero->bz
structure jw(fn nt:Nat)(ds:List Deferred)(kind:CallKind)(md:FrameMode)(fr:Frame):Prop where
 ex:∃tm todo,fr={(iD fn kind).at ⟨tm,ds⟩ todo with mode:=md}∧tm.size=nt
 le:nt≤60000
 fn:∃f,Try.prog.funcs[fn]?=some f
theorem F_{fn nt:Nat}{ds:List Deferred}{md:FrameMode}{fr:Frame}:yl fn nt ds md fr->nt≤60000->jw fn nt ds .normal md fr:=fun h hle=>⟨h.ex,hle,h.fn⟩
theorem jw.f{fn nt:Nat}{ds:List Deferred}{md:FrameMode}{fr:Frame}(h:jw fn nt ds .normal md fr):yl fn nt ds md fr:=⟨h.ex,h.fn⟩
def Ga(md:FrameMode)(ch:List PanicEntry):FrameMode:=match md with
 |.panicking c=>.panicking (ch++c)
 |_=>.panicking ch
theorem mY{fn nt:Nat}{todo:List Item}{ds:List Deferred}{kind:CallKind}{lv:List (Nat×Value)}{f:Frame}(ch:List PanicEntry)(h:FA fn nt todo ds kind lv f):jw fn nt ds kind (.panicking ch) (f.raise ch):=by obtain⟨⟨tm,rfl,h2,h3⟩,h4,h5⟩:=h;exact⟨⟨tm,todo,rfl,h2⟩,h4,h5⟩
theorem PP{fn nt:Nat}{ds:List Deferred}{kind:CallKind}{md:FrameMode}{f:Frame}(ch:List PanicEntry)(h:jw fn nt ds kind md f):jw fn nt ds kind (Ga md ch) (f.raise ch):=by obtain⟨⟨tm,todo,rfl,h2⟩,h4,h5⟩:=h;refine⟨⟨tm,todo,?_,h2⟩,h4,h5⟩;cases md<;>rfl
def Gb(ch:List PanicEntry):Prop:=∃e l,ch=e::l∧e.recovered=false∧e.goexit=false∧∀x∈l,x.goexit=false
theorem xd{ch:List PanicEntry}(h:Gb ch):Ca (.panicking ch)=true:=by obtain⟨e,l,rfl,h1,_⟩:=h;simp[Ca,h1]
section
variable {base:Nat}{W0:World}{bJ:Nat->Option Tok.Seat}{h N:Nat}{m:Machine}{T:Trace}{w:World}{L:cg}{cs:List Frame}{fr f:Frame}{ds:List Deferred}{md:FrameMode}{kind:CallKind}
theorem jf{fn nt:Nat}{ch:List PanicEntry}(A:dD aa base W0 bJ h N m T (G fr (f::cs)) w)(H:bK aa base w L)(hf:jw fn nt [] kind (.panicking ch) fr):
  cm aa m T fun m' T'=>∃w',dD aa base W0 bJ h N m' T' (G (f.raise ch) cs) w'∧bK aa base w' L:=by
 obtain⟨⟨tm,todo,rfl,h2⟩,h4,fn',h5⟩:=hf;have hs:∀w',stepG aa (h==0) (G {(iD fn kind).at ⟨tm,[]⟩ todo with mode:=.panicking ch} (f::cs)) w'=.go (G (f.raise ch) cs) w' #[]:=fun w'=>by
  have hc:Frame.catches aa {(iD fn kind).at ⟨tm,[]⟩ todo with mode:=.panicking ch}=false:=by unfold Frame.catches;rw[show(({(iD fn kind).at ⟨tm,[]⟩ todo with mode:=.panicking ch}:Frame).fn)=fn from rfl,h5]
  have:stepG aa (h==0) (G {(iD fn kind).at ⟨tm,[]⟩ todo with mode:=.panicking ch} (f::cs)) w'=unwind aa (h==0) {(iD fn kind).at ⟨tm,[]⟩ todo with mode:=.panicking ch} (f::cs) none w':=rfl;rw[this];unfold unwind;rw[show(({(iD fn kind).at ⟨tm,[]⟩ todo with mode:=.panicking ch}:Frame).defers)=[]from rfl];dsimp only;refine(if_neg fun e=>?_).trans rfl;rw[show Frame.catches aa _=false from hc]at e;cases e
 exact hand A H rfl hs
theorem Nq{fn nt g:Nat}{lA:List AV}{E:bH}{D:Deferred}{cap:Array Value}{ρ:cn}(A:dD aa base W0 bJ h N m T (G fr cs) w)(H:bK aa base w L)(hf:jw fn nt (D::ds) kind md fr)(hm:md≠.run)(hE:fD aa g lA .deferred=.ok E)(jG:AV.iB (dR 100) lA)(ht:D.target=.fn (.func g) cap)(ha:D.args=#[])(hc:(AV.cf ρ lA).toArray=cap)
 (hi:∀w',(invoke (.fn (.func g) cap) #[]).run aa w'=.ok (.enter g (#[]++cap)) w'∧(invoke (.fn (.func g) cap) #[]).events aa w' #[]=#[]):
  cm aa m T fun m' T'=>∃w' bT f,dD aa base W0 bJ h N m' T' (G bT (f::cs)) w'∧bK aa base w' L∧dj aa ρ E bT∧jw fn nt ds kind md f:=by
 obtain⟨⟨tm,todo,rfl,h2⟩,h4,h5⟩:=hf;obtain⟨e1,_⟩:=jW (P:=aa) (ρ:=ρ) (U:=dR 100) hE (.inr rfl) jG;rw[hc]at e1;have hs:∀w',stepG aa (h==0) (G {(iD fn kind).at ⟨tm,D::ds⟩ todo with mode:=md} cs) w'=.go (G (Frame.enter aa g cap .deferred) ({(iD fn kind).at ⟨tm,ds⟩ todo with mode:=md}::cs)) w' #[]:=fun w'=>by obtain⟨i1,i2⟩:=hi w';rw[ll (D:=D) (Ds:=ds) hm rfl (.inl ⟨_,_,ht⟩)];rw[jd (.inl ⟨_,_,ht⟩) (by rw[ht,ha];exact i1)];rw[ht,ha,i2];rw[show(#[]++cap:Array Value)=cap by simp];rfl
 refine(hand A H rfl hs).mono fun m1 T1 hd=>?_;obtain⟨w1,A1,H1⟩:=hd;exact⟨w1,_,_,A1,H1,e1,⟨tm,todo,rfl,h2⟩,h4,h5⟩
theorem Ue{g:Nat}(hg:(Try.prog.funcs[g]?).map (fun f=>f.results.size)=some 0):∃f,Try.prog.funcs[g]?=some f∧∀tm w',(results f tm).run aa w'=.ok (.tuple #[]) w'∧(results f tm).events aa w' #[]=#[]:=by
 cases e:Try.prog.funcs[g]? with
 |none=>rw[e]at hg;cases hg
 |some f=>
  rw[e]at hg;refine⟨f,rfl,fun tm w'=>?_⟩;have e0:f.results=#[]:=bz (au hg);have e1:results f tm=pure (.tuple #[]):=by unfold results;rw[e0];simp
  rw[e1];exact⟨rfl,rfl⟩
theorem PQ{fn nt:Nat}(hf:jw fn nt ds kind md f)(hm:Ca md=true):Cc f=f:=by
 obtain⟨⟨tm2,Iz,rfl,_⟩,_⟩:=hf;cases md with
 |run=>cases hm
 |returning=>rfl
 |panicking l=>
  cases l with
  |nil=>rfl
  |cons e l=>
   obtain⟨ev,er,eg⟩:=e;cases er with
   |false=>rfl
   |true=>cases hm
theorem YL{g ng:Nat}{lv:List (Nat×Value)}(A:dD aa base W0 bJ h N m T (G fr (f::cs)) w)(H:bK aa base w L)(hg:(Try.prog.funcs[g]?).map (fun f=>f.results.size)=some 0)(hf:FA g ng [] [] .deferred lv fr)(hb:Cc f=f):
  cm aa m T fun m' T'=>∃w',dD aa base W0 bJ h N m' T' (G f cs) w'∧bK aa base w' L:=by
 obtain⟨⟨tm,rfl,h2,h3⟩,h4,h5⟩:=hf;obtain⟨fg,Ru,nR⟩:=Ue hg;refine(hand A H rfl fun w'=>stepG_end).trans fun m1 T1 hd=>?_;obtain⟨w1,A1,H1⟩:=hd;have hs:∀w',stepG aa (h==0) (G {(iD g .deferred).at ⟨tm,[]⟩ []with mode:=.returning} (f::cs)) w'=.go (G f cs) w' #[]:=fun w'=>by rw[kA rfl rfl rfl Ru (nR tm w').1];rw[show(results fg ({(iD g .deferred).at ⟨tm,[]⟩ []with mode:=.returning}:Frame).tmps).events aa w' #[]=#[]from(nR tm w').2];show GStep.go (G (Cc f) cs) w' #[]=_;rw[hb]
 exact hand A1 H1 rfl hs
end
structure Sp where
 op:Int
 c:Nat
 arg:Int
 nw:Int
def Sp.dx(x:Sp):List Value:=iu x.op x.c x.arg x.nw
def Sp.ok(x:Sp):Prop:=x.c<6
def aqz(c:Nat):Sp:=⟨1,c,0,0⟩
inductive Ct where
 |run(l:List Sp)(held:Bool)(ds:List Nat)(up:Option (List Nat))
 |uj(fq:Bool)(ds:List Nat)(up:Option (List Nat))
 |ky(fq:Bool)
inductive Nx where
 |Ey(c:Ct)
 |one(x:Sp)(c:Ct)
 |off(fq:Bool)
def Ct.next:Ct->Nx
 |.run [] _ ds up=>.Ey (.uj false ds up)
 |.run (x::l) held ds up=>if x.op=20 then .Ey (.uj true ds up)else if x.op=21 then .Ey (.run l held (x.c::ds) up)else if x.op=22∧held=false then .Ey (.run l true [] (some ds))else .one x (.run l held ds up)
 |.uj fq (c::ds) up=>.one (aqz c) (.uj fq ds up)
 |.uj fq [] (some d0)=>.Ey (.uj fq d0 none)
 |.uj fq [] none=>.Ey (.ky fq)
 |.ky fq=>.off fq
def zu:Option (List Nat)->Nat
 |none=>1
 |some d=>d.length+2
def Ct.sz:Ct->Nat
 |.run l _ ds up=>3*l.length+ds.length+zu up+1
 |.uj _ ds up=>ds.length+zu up
 |.ky _=>0
theorem Ct.Ld{c c':Ct}(h:c.next=.Ey c'):c'.sz<c.sz:=by
 cases c with
 |run l held ds up=>
  cases l with
  |nil=>simp only[Ct.next,Nx.Ey.injEq]at h;subst h;simp only[Ct.sz,List.length_nil];omega
  |cons x l=>
   simp only[Ct.next]at h;split at h
   ·cases h;simp only[Ct.sz,bd];omega
   ·split at h
    ·cases h;simp only[Ct.sz,bd];omega
    ·split at h
     ·cases h;simp only[Ct.sz,bd,List.length_nil,zu];omega
     ·cases h
 |uj fq ds up=>
  cases ds with
  |cons c ds=>cases h
  |nil=>
   cases up with
   |none=>cases h;simp only[Ct.sz,List.length_nil,zu];omega
   |some d=>cases h;simp only[Ct.sz,List.length_nil,zu];omega
 |ky fq=>cases h
theorem Ct.Ce{c c':Ct}{x:Sp}(h:c.next=.one x c'):c'.sz<c.sz:=by
 cases c with
 |run l held ds up=>
  cases l with
  |nil=>cases h
  |cons y l=>
   simp only[Ct.next]at h;split at h
   ·cases h
   ·split at h
    ·cases h
    ·split at h
     ·cases h
     ·cases h;simp only[Ct.sz,bd];omega
 |uj fq ds up=>
  cases ds with
  |cons c ds=>cases h;simp only[Ct.sz,bd];omega
  |nil=>
   cases up with
   |none=>cases h
   |some d=>cases h
 |ky fq=>cases h
def Ct.fq:Ct->Ct
 |.run l true ds up=>.run l true ds up
 |.run _ false ds up=>.uj true ds up
 |.uj _ ds up=>.uj true ds up
 |.ky _=>.ky true
def Ct.held:Ct->Bool
 |.run _ h _ _=>h
 |_=>false
def Ct.ok:Ct->Prop
 |.run l held ds up=>(∀x∈l,x.ok)∧(∀c∈ds,c<6)∧(∀d,up=some d->∀c∈d,c<6)∧(held=true↔up≠none)
 |.uj _ ds up=>(∀c∈ds,c<6)∧(∀d,up=some d->∀c∈d,c<6)
 |.ky _=>True
theorem Ct.Uf{c c':Ct}(h:c.next=.Ey c')(k:c.ok):c'.ok:=by
 cases c with
 |run l held ds up=>
  obtain⟨k1,k2,k3,k4⟩:=k;cases l with
  |nil=>simp only[Ct.next,Nx.Ey.injEq]at h;subst h;exact⟨k2,k3⟩
  |cons x l=>
   simp only[Ct.next]at h;split at h
   ·cases h;exact⟨k2,k3⟩
   ·split at h
    ·cases h;refine⟨fun y hy=>k1 y (am _ hy),fun c hc=>?_,k3,k4⟩;rcases ac.1 hc with rfl|hc
     ·exact k1 x (an ..)
     ·exact k2 c hc
    ·split at h
     ·cases h;exact⟨fun y hy=>k1 y (am _ hy),(fun c hc=>by cases hc),(fun d e=>by cases e;exact k2),by simp⟩
     ·cases h
 |uj fq ds up=>
  cases ds with
  |cons c ds=>cases h
  |nil=>
   cases up with
   |none=>cases h;trivial
   |some d=>cases h;exact⟨k.2 d rfl,fun d e=>by cases e⟩
 |ky fq=>cases h
theorem Ct.Ug{c c':Ct}{x:Sp}(h:c.next=.one x c')(k:c.ok):x.c<6∧c'.ok:=by
 cases c with
 |run l held ds up=>
  obtain⟨k1,k2,k3,k4⟩:=k;cases l with
  |nil=>cases h
  |cons y l=>
   simp only[Ct.next]at h;split at h
   ·cases h
   ·split at h
    ·cases h
    ·split at h
     ·cases h
     ·cases h;exact⟨k1 _ (an ..),fun z hz=>k1 z (am _ hz),k2,k3,k4⟩
 |uj fq ds up=>
  cases ds with
  |cons c ds=>cases h;exact⟨k.1 _ (an ..),fun z hz=>k.1 z (am _ hz),k.2⟩
  |nil=>
   cases up with
   |none=>cases h
   |some d=>cases h
 |ky fq=>cases h
theorem Ct.Uh{c:Ct}(k:c.ok):c.fq.ok:=by
 cases c with
 |run l held ds up=>
  cases held with
  |true=>exact k
  |false=>exact⟨k.2.1,k.2.2.1⟩
 |uj fq ds up=>exact k
 |ky fq=>trivial
theorem Ct.Ui{c:Ct}:c.fq.sz≤c.sz:=by
 cases c with
 |run l held ds up=>
  cases held with
  |true=>exact aq _
  |false=>simp only[Ct.fq,Ct.sz];omega
 |uj fq ds up=>exact aq _
 |ky fq=>exact aq _
noncomputable def mkA:List AV:=[i64 (v 2),i8 (.lit 8),i64 (.lit (-1)),i64 (v 4),i64 (v 5),i64 (.lit 0),i64 (.lit 0),ff]
noncomputable def IB(l:AV):List AV:=[.ez 60,.ez 64,l,.ez 61,.ez 62,.ez 63,ff]
noncomputable def Le(lg:Bool):AV:=match lg with
 |true=>Q1 102 (.plus (.tn (v 36)) (.lit 1)) (v 102)
 |false=>Q1 102 (.lit 1) (v 102)
noncomputable def aeK(lg:Bool):List (Nat×bM):=(match lg with
 |true=>[(39,.cH false 49 (v 36) [] [] [] dQ (v 38))]
 |false=>[])++[(10,.cells (IB (Em lg)) gK)]
noncomputable def YM(lg:Bool):bM:=match lg with
 |true=>.cH false 49 (v 36) [] [] mkA dQ (v 102)
 |false=>.row mkA dQ (v 102)
noncomputable def Uj(lg:Bool):List (Nat×bM):=[(102,YM lg),(101,.cells mkA dQ),(100,.cells lN iA),(10,.cells (IB (Le lg)) gK)]
noncomputable def IC(lg:Bool):List (BE×Bool):=[(.cmp .eql (v 3) (.lit 7),false),(.cmp .eql (v 3) (.lit 8),true)]++match lg with
 |true=>[(.cmp .leq (.plus (.tn (v 36)) (.lit 1)) (.lit 1048576),true)]
 |false=>[]
noncomputable def mkK:List Item:=[.code .ret,.code (pc (bQ Fn.one) [1,1,1])]
theorem mk(kd lg:Bool)(st:Nat->Value):c7 (cO (IC lg) nE 75 [102,101,100,10] (cJ (B0 kd st) [] (aeK lg))) [] (fun _=>[])=some (⟨d7,117,mkK,[],.run,fE kd,[],Uj lg,[]⟩,[]):=by cases kd<;>cases lg<;>kernel_rfl
theorem akz(kd lg:Bool)(st:Nat->Value):bR 100 (cJ (B0 kd st) [] (aeK lg))=true:=by cases kd<;>cases lg<;>kernel_rfl
theorem mkO(lg:Bool):(OO (IC lg) [] nE).low 100=true:=by cases lg<;>kernel_rfl
noncomputable def mkM:List (AA×AV):=nE++[(⟨.cN 10,.lit 6⟩,tr true)]
theorem mkS(kd:Bool)(st:Nat->Value):c7 (cO (IC false) mkM 75 [100] (cJ (B0 kd st) [] [])) [] (fun _=>[])=some (⟨d7,117,mkK,[],.run,fE kd,[],[(100,.cells lN iA)],[]⟩,[]):=by cases kd<;>kernel_rfl
theorem aqC:(OO (IC false) [] mkM).low 100=true:=by kernel_rfl
def nG(j:Nat)(arg nw:Int):List Value:=[iV j,qn 8,iV (-1),iV arg,iV nw,iV 0,iV 0,.bool false]
def GS.dF(Y:GS)(d:List Value)(LA cL:Nat):GS:={Y with db:=Y.db++d,LA:=LA,cL:=cL}
noncomputable def tJ(x:Nat)(lg:Bool):List (cD×Nat×bM):=(match lg with
 |true=>[((x,.db),39,.cH false 49 (v 36) [] [] [] dQ (v 38))]
 |false=>[])++[((x,.run),10,.cells (IB (Em lg)) gK)]
noncomputable def ym(x:Nat)(lg:Bool):List (cD×Nat×bM):=[((x,.db),102,YM lg),((x,.dN),101,.cells mkA dQ),((x,.dN),100,.cells lN iA),((x,.run),10,.cells (IB (Le lg)) gK)]
theorem Ez(x:Nat)(lg:Bool):(tJ x lg).map (·.2)=aeK lg:=by cases lg<;>rfl
theorem Lf(x:Nat)(lg:Bool):(ym x lg).map (·.2)=Uj lg:=rfl
section
variable {base:Nat}{W0:World}{bJ:Nat->Option Tok.Seat}{h N:Nat}{m:Machine}{T:Trace}{w:World}{x:Nat}{Y:GS}{L0:cg}{cs:List Frame}{fr:Frame}{j S:Nat}{c arg nw:Int}{kd:Bool}
theorem Uk(A:dD aa base W0 bJ h N m T (G fr cs) w)(H:bK aa base w (ci x Y L0))(hS:cw (ci x Y L0) bJ)(hj:j<Y.n)(di:Y.dJ=false)(he:(Y.ts j).e=false)(dI:(Y.ts j).a.length=8)(hf:qJ kd S (Y.th j).T 8 c arg nw fr)(pi:Y.db.length=8*(Y.db.length / 8))(jC:Y.db.length / 8+1≤1048576):
  cm aa m T fun m' T'=>∃w' bT LA cL,dD aa base W0 bJ h N m' T' (G bT cs) w'∧bK aa base w' (ci x (Y.dF (nG j arg nw) LA cL) L0)∧mu kd bT:=by
 obtain⟨a0,a1,a2,a3,a4,a5,a6,a7,ha⟩:=r_ dI;obtain⟨lg,jZ⟩:∃b,b=!(Y.db.isEmpty):=⟨_,rfl⟩;have BT:lg=true->Y.db≠[]:=fun e e2=>by rw[e2,e]at jZ;cases jZ
 have kG:lg=false->Y.db=[]:=fun e=>by
  cases hl:Y.db with
  |nil=>rfl
  |cons a b=>rw[hl,e]at jZ;cases jZ
 let ρ:cn:=gY [(2,j),(3,8),(4,arg),(5,nw),(6,c),(36,(Y.db.length / 8:Nat)),(38,Y.cL)] [(10,Y.R),(14,(Y.th j).T),(39,Y.LA),(40,S)] [(49,.agg Y.db.toArray),(60,c_ Y.n Y.TA Y.cT),(61,c_ Y.cp.length Y.WA Y.cW),(62,c_ Y.ready.length Y.RA Y.cR),(63,c_ Y.n Y.FA Y.cF),(64,.map (some Y.MB))];have hb:∀p∈IC lg,p.1.ev ρ=p.2:=fun p hp=>by
  unfold IC at hp;rcases ay.1 hp with hp|hp
  ·simp only[ac,ae,or_false]at hp;rcases hp with rfl|rfl<;>rfl
  ·cases lg with
   |false=>cases hp
   |true=>obtain rfl:=ad.1 hp;show decide ((((Y.db.length / 8:Nat):Int).toNat:Int)+1≤1048576)=true;exact decide_eq_true (by omega)
 have iM:ci x Y L0 (x,.lW j)=some ((Y.th j).T,.obj mU (fA Y.R j (Y.th j) (Y.ts j))):=by rw[bY rfl];exact if_pos hj
 have hm:∀p∈nE,lq (ci x Y L0) ((tJ x lg).map (·.1)) w base ρ p:=fun p hp=>by
  have nd:(x,RK.lW j)∉(tJ x lg).map (·.1):=by cases lg<;>simp[tJ]
  simp only[nE,ac,ae,or_false]at hp;rcases hp with rfl|rfl|rfl
  ·exact .inl ⟨_,_,iM,nd,rfl⟩
  ·exact .inl ⟨_,_,iM,nd,rfl⟩
  ·refine .inl ⟨_,_,iM,nd,?_⟩;show(fA Y.R j (Y.th j) (Y.ts j))[13]?=some (.bool false);unfold fA;rw[ha,he];rfl
 have hpre:mo (ci x Y L0) ρ (tJ x lg):=fun p hp=>by
  unfold tJ at hp;rcases ay.1 hp with hp|hp
  ·cases lg with
   |false=>cases hp
   |true=>obtain rfl:=ad.1 hp;refine⟨.fF dQ Y.cL Y.db,by rw[bY rfl];exact if_neg (BT rfl),rfl,rfl,fun i hi=>?_,(nofun),rfl⟩;rw[oU i hi];show _=(((Y.db.length / 8:Nat):Int)).toNat*8;rw[ap];omega
  ·obtain rfl:=ad.1 hp;refine⟨.obj gK Y.runV,by rw[bY rfl];rfl,rfl,?_⟩;unfold GS.runV;rw[di];cases lg with
   |true=>rw[cy (by have:=aG.2 (BT rfl);omega:0<Y.db.length / 8)];rfl
   |false=>rw[kG rfl];rfl
 have hv:c7 (cO (IC lg) nE 75 [102,101,100,10] (cJ (B0 kd (bU fr)) [] ((tJ x lg).map (·.2)))) [] (fun _=>[])=some (⟨d7,117,mkK,[],.run,fE kd,[],Uj lg,[]⟩,[]):=by rw[Ez];exact mk kd lg _
 have od:bR 100 (cJ (B0 kd (bU fr)) [] ((tJ x lg).map (·.2)))=true:=by rw[Ez];exact akz kd lg _
 refine(cQ (cC:=[]) (cs:=cs) A H hS (tJ x lg) (ym x lg) hv (Lf x lg).symm (by cases kd<;>rfl) od (mkO lg) (ρ:=ρ) (hf.rel (eO kd) Dk rfl rfl) trivial hb hm hpre (by cases lg<;>simp[tJ]) (by simp[ym]) (by cases lg<;>rfl)).trans fun m1 T1 hd=>?_;obtain⟨w',bL,bT,dk,C⟩:=hd;obtain rfl:=C.none;have x2:bL.i 2=j:=C.bE.ii 2;have x4:bL.i 4=arg:=C.bE.ii 4;have x5:bL.i 5=nw:=C.bE.ii 5;have Ye:bL.i 36=(Y.db.length / 8:Nat):=C.bE.ii 36;have mr:bL.b 10=Y.R:=C.bE.bb 10;have z49:bL.v 49=.agg Y.db.toArray:=congrFun C.bE.v 49;have Yf:bL.v 60=c_ Y.n Y.TA Y.cT:=congrFun C.bE.v 60;have Ik:bL.v 61=c_ Y.cp.length Y.WA Y.cW:=congrFun C.bE.v 61;have Pp:bL.v 62=c_ Y.ready.length Y.RA Y.cR:=congrFun C.bE.v 62;have Pq:bL.v 63=c_ Y.n Y.FA Y.cF:=congrFun C.bE.v 63;have To:bL.v 64=.map (some Y.MB):=congrFun C.bE.v 64;have eD:AV.cf bL mkA=nG j arg nw:=by simp only[mkA,AV.cf,i64,i8,ff,v,AV.ev,IE.ev,BE.ev,x2,x4,x5];rfl
 have dl:(nG j arg nw).length=8:=rfl;have H':bK aa base w' (ci x (Y.dF (nG j arg nw) (bL.b 102) (bL.i 102).toNat) L0):=by
  refine C.heap.sub (cX [(x,.db),(x,.dN),(x,.run)] (fz (fun k hk hr=>?_) fun r hr _=>rfl) (fun r hr=>?_) (fun p hp=>?_) fun r hr y hy=>?_)
  ·simp only[ac,Prod.mk.injEq,true_and,ae,or_false,not_or]at hr;cases k with
   |db=>exact absurd rfl hr.1
   |run=>exact absurd rfl hr.2.2
   |_=>rfl
  ·cases lg<;>simp only[tJ,aA,az,ah,ak,ac,ae,or_false]at hr
   ·subst hr;simp
   ·rcases hr with rfl|rfl<;>simp
  ·simp only[cr,ym,ah,ak,ac,ae,or_false]at hp;rcases hp with rfl|rfl|rfl|rfl<;>simp
  ·simp only[ac,ae,or_false]at hr;rcases hr with rfl|rfl|rfl
   ·rw[bY rfl]at hy;simp only[eo,GS.dF]at hy;have df:¬(Y.db++nG j arg nw=[]):=by simp[nG]
    simp only[df,if_false]at hy;rw[<-au hy];refine bX ?_;simp only[cr,ym,ah,ak,aw,decide_true];cases lg with
    |true=>simp only[YM,cY,v,IE.ev,z49,eD,gy];rfl
    |false=>rw[kG rfl];simp only[YM,cY,v,IE.ev,eD];rfl
   ·rw[bY rfl]at hy;cases hy
   ·rw[bY rfl]at hy;rw[<-au hy];refine bX ?_;simp only[cr,ym,ah,ak,aw,Prod.mk.injEq,reduceCtorEq,and_false,decide_false,decide_true];have hz:(Y.db++nG j arg nw).length / 8=Y.db.length / 8+1:=by
     rw[aD,dl];omega
    simp only[cY,IB,AV.cf,ff,AV.ev,BE.ev,Yf,Ik,Pp,Pq,To,mr,GS.dF,GS.runV,runV,hz,di];rw[cy (Nat.succ_pos _)];cases lg with
    |true=>simp only[Le,Q1,v,AV.ev,IE.ev,af,AA.ev,BR.ev,Ye,ap];rfl
    |false=>rw[kG rfl];rfl
 refine(xc C.eG H' C.fr).mono fun m2 T2 hd=>?_;obtain⟨w2,iE,A2,H2,h2⟩:=hd;exact⟨w2,iE,_,_,A2,H2,h2⟩
end
end Go.Proofs.Ythaddgfbohmfoaa
namespace Go.Proofs.Ythaddgfbohmfoaa
open Go.Proofs.Ythaddgfbohmfoaa.SX Go.Conc
inductive Lg where
 |is|low|high
 deriving DecidableEq
noncomputable def PR(k:Lg):List (BE×Bool):=[(.cmp .eql (v 3) (.lit 7),true),(.cmp .lss (v 4) (.lit 0),match k with
 |.low=>true
 |_=>false),(.cmp .geq (v 4) (.tn (v 48)),match k with
 |.high=>true
 |_=>false)]
noncomputable def goM:List (AA×AV):=[(⟨.cN 10,.lit 6⟩,ff),(⟨.cN 40,.lit 0⟩,.slice (some ⟨.cN 49,.lit 0⟩) (v 48) (v 50))]
def goN:Lg->Nat
 |.is=>118
 |_=>116
noncomputable def sf:List AV:=[i64 (v 2),i8 (.lit 7),i64 (.lit (-1)),i64 (.lit 0),i64 (.lit 0),i64 (.lit 0),i64 (.lit 0),ff]
noncomputable def akA:List (Nat×bM):=[(104,.cells sf dQ),(103,.cells sf dQ),(102,.cells [i64 (v 4)] 2),(101,.cells [bF 40] 48),(100,.cells lN iA),(14,FW (.ptr none::sf))]
noncomputable def Nr:List Item:=[.inRegion (fP (pc (bQ Fn.XL) [1,1,1,0])) [2],.code (pc (bQ Fn.XL) [1,1,1,1])]
noncomputable def yX:List Item:=[.inRegion (fP (pc (bQ Fn.one) [1,0,1,0,0])) [5,6],.code (pc (bQ Fn.one) [1,0,1,0,1]),.code (pc (bQ Fn.one) [1,1])]
noncomputable def YN:Lg->AV
 |.is=>.func (.func BZ) [] [bF 101,bF 102]
 |_=>.nilFunc
noncomputable def aeL(f:FuncId):List Nat:=Bool.rec [0,1] [0,1,5] (Nat.beq f 46)
theorem aqE(kd:Bool)(k:Lg)(st:Nat->Value):c7 (cO (PR k) goM (goN k) [104,103,102,101,100,14] (cJ (B0 kd st) [] XY)) [0,25,26] aeL=some (⟨mG,41,XW,[],.run,.normal,[],akA,[bF 14,uS 27,UN]⟩,[⟨wU,63,Nr,[],.run,.normal,[],[],[bF 14,YN k,bF 103]⟩,⟨d7,117,yX,[],.run,fE kd,[],[],[bF 40,bF 14]⟩]):=by cases kd<;>cases k<;>kernel_rfl
theorem YO(kd:Bool)(st:Nat->Value):bR 100 (cJ (B0 kd st) [] XY)=true:=by cases kd<;>kernel_rfl
theorem akB(k:Lg):(OO (PR k) [] goM).low 100=true:=by cases k<;>kernel_rfl
end Go.Proofs.Ythaddgfbohmfoaa
namespace Go.Proofs.Ythaddgfbohmfoaa
open Go.Proofs.Ythaddgfbohmfoaa.SX Go.Conc
open Go.ConcN (upd upd_ne upd_same)
open Go.Proofs.Try renaming prog->aa
open _root_.List renaming mem_cons->ac,mem_singleton->ad,not_mem_nil->ae,map_cons->ah,nodup_nil->ai,map_nil->ak,find?_cons->aw,cons_append->az,nil_append->aA
open _root_.Option renaming map_some->af,map_none->bu
open _root_.Nat renaming reduceEqDiff->br
open _root_.Option.some renaming inj->au
def Lg.jg(k:Lg)(n:Int)(nb:Nat):Prop:=match k with
 |.is=>0≤n∧n<nb
 |.low=>n<0
 |.high=>(nb:Int)≤n∧0≤n
def Ul(k:Lg)(B1 B2:Nat):Value:=match k with
 |.is=>.func (.func BZ) #[] #[cb B1,cb B2]
 |_=>.nilFunc
abbrev GoW(T AB:Nat)(fv:Value)(fr:Frame):Prop:=FA wU 63 Nr [] .normal [(0,cb T),(1,fv),(5,cb AB)] fr
abbrev yn(kd:Bool)(S T:Nat)(fr:Frame):Prop:=FA d7 117 yX [] (fE kd) [(0,cb S),(1,cb T)] fr
section
variable {base:Nat}{W0:World}{bJ:Nat->Option Tok.Seat}{h N:Nat}{m:Machine}{T:Trace}{w:World}{x a:Nat}{Y:GS}{L0:cg}{cs:List Frame}{fr:Frame}{j:Nat}{kd:Bool}
theorem akC{S PB nb fI:Nat}{c arg nw:Int}{rS:cD}{kS:fK}(k:Lg)(A:dD aa base W0 bJ h N m T (G fr cs) w)(H:bK aa base w (ci x Y L0))(hS:cw (ci x Y L0) bJ)(hj:j<Y.n)(di:Y.dJ=false)(he:(Y.ts j).e=false)(dI:(Y.ts j).a.length=8)(hf:qJ kd S (Y.th j).T 7 c arg nw fr)(eS:ci x Y L0 rS=some (S,kS))(gS:kS.cell 0=some (.slice (some ⟨PB,0,none⟩) nb fI))(nS:rS≠(x,.lW j))(hk:k.jg arg nb):
  cm aa m T fun m' T'=>∃w' bT f46 f80 AB B1 B2,dD aa base W0 bJ h N m' T' (G bT (f46::f80::cs)) w'∧bK aa base w' (ci x (Y.lX j (.pointer none) (qc j 7 0 0) AB) ((L0.set (a,.app 10 j) (B1,.obj qL [cb S])).set (a,.app 11 j) (B2,.obj 2 [iV arg])))∧Tg (Y.th j).T (Y.th j).sd bT∧GoW (Y.th j).T AB (Ul k B1 B2) f46∧yn kd S (Y.th j).T f80:=by
 obtain⟨a0,a1,a2,a3,a4,a5,a6,a7,ha⟩:=r_ dI;have iM:eo Y (.lW j)=some ((Y.th j).T,.obj mU (fA Y.R j (Y.th j) (Y.ts j))):=if_pos hj;let ρ:cn:=gY [(2,j),(3,7),(4,arg),(5,nw),(6,c),(48,nb),(50,fI)] [(10,Y.R),(14,(Y.th j).T),(26,(Y.th j).wk),(27,(Y.th j).sd),(40,S),(49,PB)] [(50,(Y.ts j).v),(51,(Y.ts j).a.getD 0 undef),(52,(Y.ts j).a.getD 1 undef),(53,(Y.ts j).a.getD 2 undef),(54,(Y.ts j).a.getD 3 undef),(55,(Y.ts j).a.getD 4 undef),(56,(Y.ts j).a.getD 5 undef),(57,(Y.ts j).a.getD 6 undef),(58,(Y.ts j).a.getD 7 undef)];let cH:List (cD×Nat×bM):=[((x,.lW j),14,FW Pi)];let post:List (cD×Nat×bM):=[((x,.dN),104,.cells sf dQ),((x,.gG j),103,.cells sf dQ),((a,.app 11 j),102,.cells [i64 (v 4)] 2),((a,.app 10 j),101,.cells [bF 40] 48),((x,.dN),100,.cells lN iA),((x,.lW j),14,FW (.ptr none::sf))];refine(cQ (cC:=[]) (cs:=cs) A H hS cH post (aqE kd k (bU fr)) rfl (by cases kd<;>rfl) (YO kd _) (akB k) (ρ:=ρ) (hf.rel (eO kd) Dk rfl rfl) trivial (fun p hp=>?_) (fun p hp=>?_) (fun p hp=>?_) (by simp[cH]) (by simp[post]) rfl).mono fun m1 T1 hd=>?_
 ·simp only[PR,ac,ae,or_false]at hp;rcases hp with rfl|rfl|rfl
  ·rfl
  ·show decide (arg<0)=_;cases k with
   |is=>exact decide_eq_false (by have:=hk.1;omega)
   |low=>exact decide_eq_true hk
   |high=>exact decide_eq_false (by have:=hk.2;omega)
  ·show decide (arg≥(((nb:Nat):Int).toNat:Int))=_;cases k with
   |is=>exact decide_eq_false (by have:=hk.2;omega)
   |low=>exact decide_eq_false (by have:arg<0:=hk;omega)
   |high=>exact decide_eq_true (by have:=hk.1;omega)
 ·simp only[goM,ac,ae,or_false]at hp;rcases hp with rfl|rfl
  ·refine .inl ⟨(x,.run),.obj gK Y.runV,jr (fun _ _ e=>by cases e) rfl,by simp[cH],?_⟩;show some (Value.bool Y.dJ)=_;rw[di];rfl
  ·exact .inl ⟨rS,kS,eS,by simpa[cH] using nS,gS⟩
 ·simp only[cH,ac,ae,or_false]at hp;subst hp;refine⟨_,jr (fun _ _ e=>by cases e) iM,rfl,?_⟩;show _=[cb Y.R,iV j,_,_,(Y.ts j).v]++(Y.ts j).a++[.bool (Y.ts j).e];rw[he,ha];simp only[ρ,ha];rfl
 obtain⟨w',bL,bT,dk,C⟩:=hd;obtain⟨f46,f80,rfl,Lh,tH⟩:∃f46 f80,dk=[f46,f80]∧FA wU 63 Nr [] .normal ((aeL 46).zip (AV.cf bL [bF 14,YN k,bF 103])) f46∧FA d7 117 yX [] (fE kd) ((aeL 80).zip (AV.cf bL [bF 40,bF 14])) f80:=by
  have:=C.cC
  match dk,this with
  |[],h=>exact h.elim
  |[_],h=>exact h.2.elim
  |[f,g],h=>exact⟨f,g,rfl,h.1,h.2.1⟩
  |_::_::_::_,h=>exact h.2.2.elim
 have x2:bL.i 2=j:=C.bE.ii 2;have x4:bL.i 4=arg:=C.bE.ii 4;have mr:bL.b 10=Y.R:=C.bE.bb 10;have jY:bL.b 14=(Y.th j).T:=C.bE.bb 14;have Pn:bL.b 26=(Y.th j).wk:=C.bE.bb 26;have Th:bL.b 27=(Y.th j).sd:=C.bE.bb 27;have lx:bL.b 40=S:=C.bE.bb 40;have eV:AV.cf bL sf=qc j 7 0 0:=by simp only[sf,AV.cf,i64,i8,ff,v,AV.ev,IE.ev,BE.ev,x2];rfl
 have eF:(YN k).ev bL=Ul k (bL.b 101) (bL.b 102):=by cases k<;>simp only[YN,Ul,bF,AV.ev,AV.cf,af,AA.ev,BR.ev,IE.ev]<;>rfl
 refine⟨w',bT,f46,f80,bL.b 103,bL.b 101,bL.b 102,C.eG,C.heap.sub (cX [(x,.lW j),(x,.gG j),(x,.dN),(a,.app 10 j),(a,.app 11 j)] (fz (fun k hk hr=>?_) fun r hr _=>?_) (fun r hr=>?_) (fun p hp=>?_) fun r hr y hy=>?_),?_,?_,?_⟩
 ·simp only[ac,Prod.mk.injEq,true_and,ae,or_false,not_or]at hr;cases k with
  |lW i=>have hi:i≠j:=fun e=>hr.1 (by rw[e]);simp[eo,GS.lX,upd_ne _ _ hi]
  |gG i=>have hi:i≠j:=fun e=>hr.2.1 (by rw[e]);simp[eo,GS.lX,upd_ne _ _ hi]
  |_=>rfl
 ·rw[cg.b7 fun e=>hr (by simp[e]),cg.b7 fun e=>hr (by simp[e])]
 ·simp only[cH,ah,ak,ad]at hr;subst hr;simp
 ·simp only[cr,post,ah,ak,ac,ae,or_false]at hp;rcases hp with rfl|rfl|rfl|rfl|rfl|rfl<;>simp
 ·simp only[ac,ae,or_false]at hr;rcases hr with rfl|rfl|rfl|rfl|rfl
  ·rw[bY rfl]at hy;simp only[eo,GS.lX,hj,if_true,upd_same,Option.some.injEq]at hy;subst hy;refine bX ?_;simp only[cr,post,ah,ak,aw,Prod.mk.injEq,reduceCtorEq,and_false,decide_false,true_and,decide_true,RK.lW.injEq];simp only[FW,cY,az,aA,fp,AV.cf,eV,jY,mr,Pn,Th,bF,i64,uS,ff,v,AV.ev,IE.ev,BE.ev,af,bu,AA.ev,BR.ev,x2];rfl
  ·rw[bY rfl]at hy;simp only[eo,GS.lX,upd_same,af,Option.some.injEq]at hy;subst hy;refine bX ?_;simp only[cr,post,ah,ak,aw,Prod.mk.injEq,reduceCtorEq,and_false,decide_false,true_and,decide_true,RK.gG.injEq];simp only[cY,eV]
  ·rw[bY rfl]at hy;cases hy
  ·rw[ct rfl,cg.b7 (by simp),cg.cj]at hy;rw[<-au hy];refine bX ?_;simp only[cr,post,ah,ak,aw,Prod.mk.injEq,reduceCtorEq,and_false,decide_false,true_and,decide_true,RK.app.injEq,br,false_and,cY,AV.cf,bF,AV.ev,af,AA.ev,BR.ev,IE.ev,lx];rfl
  ·rw[ct rfl,cg.cj]at hy;rw[<-au hy];refine bX ?_;simp only[cr,post,ah,ak,aw,Prod.mk.injEq,reduceCtorEq,and_false,decide_false,true_and,decide_true,cY,AV.cf,i64,v,AV.ev,IE.ev,x4];rfl
 ·have:=C.fr;simp only[AV.cf,bF,uS,UN,AV.ev,af,AA.ev,BR.ev,IE.ev,jY,Th]at this;exact this
 ·simp only[AV.cf,eF,bF,AV.ev,af,AA.ev,BR.ev,IE.ev,jY]at Lh;exact Lh
 ·simp only[AV.cf,bF,AV.ev,af,AA.ev,BR.ev,IE.ev,jY,lx]at tH;exact tH
end
section
variable {base:Nat}{W0:World}{bJ:Nat->Option Tok.Seat}{h N:Nat}{m:Machine}{T:Trace}{w:World}{x:Nat}{Y:GS}{L0:cg}{cs:List Frame}{fr:Frame}{j S:Nat}{c arg nw:Int}{kd:Bool}
theorem Do(A:dD aa base W0 bJ h N m T (G fr cs) w)(H:bK aa base w (ci x Y L0))(hS:cw (ci x Y L0) bJ)(hj:j<Y.n)(di:Y.dJ=true)(he:(Y.ts j).e=false)(dI:(Y.ts j).a.length=8)(hf:qJ kd S (Y.th j).T 8 c arg nw fr):
  cm aa m T fun m' T'=>∃w' bT,dD aa base W0 bJ h N m' T' (G bT cs) w'∧bK aa base w' (ci x Y L0)∧mu kd bT:=by
 obtain⟨a0,a1,a2,a3,a4,a5,a6,a7,ha⟩:=r_ dI;let ρ:cn:=gY [(2,j),(3,8),(4,arg),(5,nw),(6,c)] [(10,Y.R),(14,(Y.th j).T),(40,S)] [];have iM:ci x Y L0 (x,.lW j)=some ((Y.th j).T,.obj mU (fA Y.R j (Y.th j) (Y.ts j))):=by rw[bY rfl];exact if_pos hj
 refine(cQ (cC:=[]) (cs:=cs) A H hS [] [((x,.dN),100,.cells lN iA)] (mkS kd (bU fr)) rfl (by cases kd<;>rfl) (tF kd _) aqC (ρ:=ρ) (hf.rel (eO kd) Dk rfl rfl) trivial (fun p hp=>?_) (fun p hp=>?_) (nofun) ai (by simp) rfl).trans fun m1 T1 hd=>?_
 ·simp only[IC,az,aA,ac,ae,or_false]at hp;rcases hp with rfl|rfl<;>rfl
 ·simp only[mkM,nE,az,aA,ac,ae,or_false]at hp;rcases hp with rfl|rfl|rfl|rfl
  ·exact .inl ⟨_,_,iM,by simp,rfl⟩
  ·exact .inl ⟨_,_,iM,by simp,rfl⟩
  ·refine .inl ⟨_,_,iM,by simp,?_⟩;show(fA Y.R j (Y.th j) (Y.ts j))[13]?=some (.bool false);unfold fA;rw[ha,he];rfl
  ·refine .inl ⟨(x,.run),.obj gK Y.runV,jr (fun _ _ e=>by cases e) rfl,by simp,?_⟩;show some (Value.bool Y.dJ)=_;rw[di];rfl
 obtain⟨w',bL,bT,dk,C⟩:=hd;obtain rfl:=C.none;exact xc C.eG (kV (fun p hp=>by rw[ad.1 hp]) C.heap) C.fr
end
end Go.Proofs.Ythaddgfbohmfoaa
namespace Go.Proofs.Ythaddgfbohmfoaa
open Go.Proofs.Ythaddgfbohmfoaa.SX Go.Conc
noncomputable def aeM(lo:Bool):List (BE×Bool):=[(.cmp .eql (v 3) (.lit 7),false),(.cmp .eql (v 3) (.lit 8),false)]++match lo with
 |true=>[(.cmp .geq (v 3) (.lit 1),false)]
 |false=>[(.cmp .geq (v 3) (.lit 1),true),(.cmp .leq (v 3) (.lit 8),false)]
noncomputable def YP:List Item:=[.code (pc (bQ Fn.one) [1,1,1,0,1,0,0]),.code (pc (bQ Fn.one) [1,1,1,0,1,0,1]),.code (pc (bQ Fn.one) [1,1,1,1])]
theorem aqF(kd lo:Bool)(st:Nat->Value):c7 (cO (aeM lo) [] 48 [100] (cJ (B0 kd st) [] [])) [0,1,5] (fun _=>[])=some (⟨d7,117,YP,[],.run,fE kd,[],[(100,.cells lN iA)],[bF 40,bF 14,bF 100]⟩,[]):=by cases kd<;>cases lo<;>kernel_rfl
theorem akD(lo:Bool):(OO (aeM lo) [] []).low 100=true:=by cases lo<;>kernel_rfl
noncomputable def yo:Array Oper:=fP (pc (bQ Fn.one) [1,1,1,0,1,0,0])
noncomputable def ID:List Item:=[.code (pc (bQ Fn.one) [1,1,1,0,1,0,1]),.code (pc (bQ Fn.one) [1,1,1,1])]
noncomputable def Dp:List (Nat×AV):=[(0,bF 40),(1,bF 14),(5,bF 38),(49,bF 14),(50,bF 40),(51,pA 38 1),(52,i64 (v 6)),(53,bF 40),(54,pA 40 4),(55,Io),(56,bF 38),(57,i8 (v 3)),(58,pA 38 2),(59,i64 (v 4)),(60,pA 38 3),(61,i64 (v 5))]
noncomputable def akE(kd:Bool)(l:List Nat)(st:Nat->Value):bH:=⟨d7,117,bZ 117 st Dp,.inRegion yo (13::l)::ID,[],.run,fE kd⟩
noncomputable def aeN(lo:Bool):List (BE×Bool):=match lo with
 |true=>[(.cmp .lss (v 3) (.lit 1),true)]
 |false=>[(.cmp .lss (v 3) (.lit 1),false),(.cmp .gtr (v 3) (.lit 6),true)]
noncomputable def rfM:List (AA×AV):=[(⟨.cN 14,.lit 0⟩,bF 10),(⟨.cN 14,.lit 13⟩,ff)]
theorem aqH(lo:Bool):(OO (aeN lo) [] rfM).low 100=true:=by cases lo<;>kernel_rfl
noncomputable def akF:Nat:=match pc (bQ Fn.one) [1,1,1,0,1,0,0]with
 |.region id _ _=>id
 |_=>0
theorem YQ:YP=.code (.region akF yo true)::ID:=by kernel_rfl
noncomputable def Um(st:Nat->Value):Mid:=tE rH rG 117 yo (bZ 117 st uw)
theorem YR(st:Nat->Value):(Um st).isSome=true:=by kernel_rfl
theorem aqI(st:Nat->Value):(Um st).j=13:=by kernel_rfl
theorem aqJ(st:Nat->Value):(Um st).s=Dl:=by kernel_rfl
theorem aqK(st:Nat->Value):(Um st).m=8191:=by kernel_rfl
noncomputable def YS:List Nat:=[0,1,5,49,50,51,52,53,54,55,56,57,58,59,60,61]
theorem YT(st:Nat->Value):(YS.map fun n=>(Um st).t.get n)=Dp.map (·.2):=by kernel_rfl
noncomputable def YU(kd:Bool)(st:Nat->Value):bH:=⟨d7,117,bZ 117 st uw,YP,[],.run,fE kd⟩
theorem aeO(kd:Bool)(st:Nat->Value):bR 100 (cJ (YU kd st) [] [])=true:=by cases kd<;>kernel_rfl
noncomputable def rfT:AV:=.tuple [i64 (.lit 0),i64 (.lit 0),ff]
theorem aeP(kd lo:Bool)(l:List Nat)(st:Nat->Value):c7 (cO (aeN lo) rfM 61 [] (cJ (akE kd l st) [] [])) (YS++[62]) (fun _=>[])=some (⟨d7,117,.inRegion yo l::ID,[],.run,fE kd,[],[],Dp.map (·.2)++[rfT]⟩,[]):=by cases kd<;>cases lo<;>kernel_rfl
theorem PS(kd:Bool)(l:List Nat)(st:Nat->Value):bR 100 (cJ (akE kd l st) [] [])=true:=by cases kd<;>kernel_rfl
noncomputable def YV:List (Nat×AV):=Dp++[(62,rfT)]
noncomputable def akG(st:Nat->Value):Option TT:=M_ rH rG 117 yo 13 Dl 8191 (bZ 117 st YV)
theorem YW(st:Nat->Value):(akG st).isSome=true:=by kernel_rfl
theorem YX(st:Nat->Value):([0,1,7,8,9].map fun n=>(Yj (akG st)).get n)=[bF 40,bF 14,i64 (.lit 0),i64 (.lit 0),ff]:=by kernel_rfl
theorem aeQ(kd:Bool)(l:List Nat)(st:Nat->Value):bR 100 (cJ ⟨d7,117,bZ 117 st YV,.inRegion yo l::ID,[],.run,fE kd⟩ [] [])=true:=by cases kd<;>kernel_rfl
noncomputable def akH:List (Nat×AV):=[(0,bF 40),(1,bF 14),(7,i64 (.lit 0)),(8,i64 (.lit 0)),(9,ff)]
noncomputable def akI(kd:Bool)(st:Nat->Value):bH:=⟨d7,117,bZ 117 st akH,.inRegion yo []::ID,[],.run,fE kd⟩
noncomputable def abX:List (Nat×bM):=[(40,.cH false 44 (v 41) [(.lit 12,ff)] [] [] fe (v 42))]
noncomputable def aeR:List (Nat×bM):=[(40,.cH false 44 (v 41) [(.lit 12,ff)] [(.lit 12,ff)] [] fe (v 42))]
noncomputable def aqL:List Item:=[.code .ret,.code (pc (bQ Fn.one) [1,1,1,1])]
theorem on8(kd:Bool)(st:Nat->Value):c7 (cO [] [] 23 [40] (cJ (akI kd st) [] abX)) [] (fun _=>[])=some (⟨d7,117,aqL,[],.run,fE kd,[],aeR,[]⟩,[]):=by cases kd<;>kernel_rfl
theorem aeS(kd:Bool)(st:Nat->Value):bR 100 (cJ (akI kd st) [] abX)=true:=by cases kd<;>kernel_rfl
end Go.Proofs.Ythaddgfbohmfoaa
namespace Go.Proofs.Ythaddgfbohmfoaa
open Go.Proofs.Ythaddgfbohmfoaa.SX Go.Conc
open Go.ConcN (upd upd_ne upd_same)
open Go.Proofs.Try renaming prog->aa
open _root_.List renaming mem_cons->ac,mem_singleton->ad,not_mem_nil->ae,map_cons->ah,nodup_nil->ai,map_nil->ak,find?_cons->aw,cons_append->az,nil_append->aA,getElem?_append_right->aE,getElem?_eq_some_iff->aH,append_nil->aX,toList_toArray->bm
open _root_.Option renaming map_some->af
open _root_.Option.some renaming inj->au
def Un(S T BX c:Nat)(op arg nw:Int):List (Nat×Value):=[(0,cb S),(1,cb T),(5,cb BX),(49,cb T),(50,cb S),(51,cv BX 1),(52,iV c),(53,cb S),(54,cv S 4),(55,cv S (4+c)),(56,cb BX),(57,qn op),(58,cv BX 2),(59,iV arg),(60,cv BX 3),(61,iV nw)]
theorem IF{ρ:cn}{S T BX c:Nat}{op arg nw:Int}(h3:ρ.i 3=op)(h4:ρ.i 4=arg)(h5:ρ.i 5=nw)(h6:ρ.i 6=c)(h14:ρ.b 14=T)(h38:ρ.b 38=BX)(Yr:ρ.b 40=S):gz ρ Dp=Un S T BX c op arg nw:=by have hc:=xb Yr h6;simp only[gz,Dp,ah,ak,hc,bF,pA,i8,i64,v,AV.ev,af,AA.ev,BR.ev,IE.ev,h3,h4,h5,h6,h14,h38,Yr];rfl
noncomputable def abY:List AV:=Dp.map (·.2)
theorem aeT{ρ:cn}:YS.zip (AV.cf ρ abY)=gz ρ Dp:=rfl
section
variable {base:Nat}{W0:World}{bJ:Nat->Option Tok.Seat}{h N:Nat}{m:Machine}{T:Trace}{w:World}{x a:Nat}{Y:GS}{L:cg}{cs:List Frame}{fr:Frame}{j:Nat}{s:SS}
theorem pN{kd:Bool}{c:Nat}{op arg nw:Int}(lo:Bool)(hlo:match lo with
  |true=>op<1
  |false=>8<op)(A:dD aa base W0 bJ h N m T (G fr cs) w)(H:bK aa base w (ci x Y (eQ a s L)))(hS:cw (ci x Y (eQ a s L)) bJ)(hj:j<Y.n)(he:(Y.ts j).e=false)(dI:(Y.ts j).a.length=8)(hq:s.q.length=4)(hf:qJ kd s.S (Y.th j).T op c arg nw fr)(hc:c<6):
  cm aa m T fun m' T'=>∃w' bT BX,dD aa base W0 bJ h N m' T' (G bT cs) w'∧bK aa base w' (ci x Y (eQ a {s with box:=upd s.box j (some (BX,iu op c arg nw))} L))∧mu kd bT:=by
 obtain⟨a0,a1,a2,a3,a4,a5,a6,a7,ha⟩:=r_ dI;refine(cQ (cC:=[]) (cs:=cs) A H hS [] [((a,.app 9 j),100,.cells lN iA)] (aqF kd lo (bU fr)) rfl (by cases kd<;>rfl) (tF kd _) (akD lo) (ρ:=qe s.S (Y.th j).T 0 c op arg nw) (hf.rel (eO kd) Dk rfl rfl) trivial (fun p hp=>?_) (nofun) (nofun) ai (by simp) rfl).trans fun m1 T1 hd=>?_
 ·unfold aeM at hp;cases lo with
  |true=>
   have hl:op<1:=hlo;simp only[az,aA,ac,ae,or_false]at hp;rcases hp with rfl|rfl|rfl
   ·exact decide_eq_false (by show ¬op=7;omega)
   ·exact decide_eq_false (by show ¬op=8;omega)
   ·exact decide_eq_false (by show ¬op≥1;omega)
  |false=>
   have hl:8<op:=hlo;simp only[az,aA,ac,ae,or_false]at hp;rcases hp with rfl|rfl|rfl|rfl
   ·exact decide_eq_false (by show ¬op=7;omega)
   ·exact decide_eq_false (by show ¬op=8;omega)
   ·exact decide_eq_true (by show op≥1;omega)
   ·exact decide_eq_false (by show ¬op≤8;omega)
 obtain⟨w1,bW,c9,d9,C⟩:=hd;obtain rfl:=C.none;have x3:bW.i 3=op:=C.bE.ii 3;have x4:bW.i 4=arg:=C.bE.ii 4;have x5:bW.i 5=nw:=C.bE.ii 5;have x6:bW.i 6=c:=C.bE.ii 6;have jY:bW.b 14=(Y.th j).T:=C.bE.bb 14;have lx:bW.b 40=s.S:=C.bE.bb 40;let BX:=bW.b 100;let s':SS:={s with box:=upd s.box j (some (BX,iu op c arg nw))};have f1:FA d7 117 YP [] (fE kd) [(0,cb s.S),(1,cb (Y.th j).T),(5,cb BX)] c9:=by have:=C.fr;simp only[AV.cf,bF,AV.ev,af,AA.ev,BR.ev,IE.ev,jY,lx]at this;exact this
 have eS:AV.cf bW lN=iu op c arg nw:=by simp only[lN,AV.cf,i8,i64,v,AV.ev,IE.ev,x3,x4,x5,x6];rfl
 have H1:bK aa base w1 (ci x Y (eQ a s' L)):=by
  have e:eQ a s' L=(eQ a s L).set (a,.app 9 j) (BX,.obj iA (iu op c arg nw)):=(zW (p:=(BX,iu op c arg nw))).symm;rw[e];refine C.heap.sub (cX [(a,.app 9 j)] (fz (fun k hk hr=>rfl) fun r hr _=>cg.b7 fun e=>hr (by simp[e])) (fun r hr=>by cases hr) (fun p hp=>?_) fun r hr y hy=>?_)
  ·simp only[cr,ah,ak,ad]at hp;subst hp;simp
  ·simp only[ac,ae,or_false]at hr;subst hr;rw[ct rfl,cg.cj]at hy;rw[<-au hy];refine bX ?_;simp only[cr,ah,ak,aw,decide_true,cY,eS];rfl
 have lM:cw (ci x Y (eQ a s' L)) bJ:=by have e:eQ a s' L=(eQ a s L).set (a,.app 9 j) (BX,.obj iA (iu op c arg nw)):=(zW (p:=(BX,iu op c arg nw))).symm;rw[e];exact(uh rfl fun b=>vF).still hS
 have rB:ci x Y (eQ a s' L) (a,.app 9 j)=some (BX,.obj iA (iu op c arg nw)):=by rw[ct rfl];exact TE (p:=(BX,iu op c arg nw)) (upd_same _ _ _)
 have g1:dj aa (qe s.S (Y.th j).T BX c op arg nw) (YU kd (bU c9)) c9:=f1.rel (eO kd) uw rfl rfl;unfold YU at g1;have od:=aeO kd (bU c9);unfold YU at od;rw[YQ]at g1 od;have b9:∀ρ:cn,ρ.i 6=c->∀p∈rH,p.1.ev ρ=p.2:=fun ρ h6 p hp=>by
  simp only[rH,ac,ae,or_false]at hp;rcases hp with rfl|rfl
  ·show decide (ρ.i 6<6)=true;rw[h6];exact decide_eq_true (by omega)
  ·show decide ((0:Int)≤ρ.i 6)=true;rw[h6];exact decide_eq_true (by omega)
 have m9:∀(ρ:cn) (w':World),ρ.i 3=op->ρ.i 4=arg->ρ.i 5=nw->ρ.i 6=c->ρ.b 38=BX->∀p∈rG,lq (ci x Y (eQ a s' L)) [] w' base ρ p:=fun ρ w' h3 h4 h5 h6 h38 p hp=>by
  have Yv:ci x Y (eQ a s' L) (a,.app 9 j)=some (ρ.b 38,.obj iA (iu op c arg nw)):=by rw[h38];exact rB
  simp only[rG,ac,ae,or_false]at hp;rcases hp with rfl|rfl|rfl|rfl
  ·exact .inl ⟨_,_,Yv,by simp,by simp only[i8,v,AV.ev,IE.ev,h3];rfl⟩
  ·exact .inl ⟨_,_,Yv,by simp,by simp only[i64,v,AV.ev,IE.ev,h6];rfl⟩
  ·exact .inl ⟨_,_,Yv,by simp,by simp only[i64,v,AV.ev,IE.ev,h4];rfl⟩
  ·exact .inl ⟨_,_,Yv,by simp,by simp only[i64,v,AV.ev,IE.ev,h5];rfl⟩
 refine(FZ (dH:=YS) (dx:=abY) (dA:=[]) C.eG H1 (YR (bU c9)) od Ip g1 (b9 _ rfl) (m9 _ _ rfl rfl rfl rfl rfl) (by cases kd<;>rfl) (YT (bU c9))).trans fun m2 T2 hd=>?_;obtain⟨w2,rn,l,iE,A2,H2,B3,Fx,f2⟩:=hd;have q1:(tE rH rG 117 yo (bZ 117 (bU c9) uw)).j=13:=aqI _;have q2:(tE rH rG 117 yo (bZ 117 (bU c9) uw)).s=Dl:=aqJ _;have q3:(tE rH rG 117 yo (bZ 117 (bU c9) uw)).m=8191:=aqK _;rw[q1,q2,q3]at Fx;rw[q1]at f2;have Ys:FA d7 117 (.inRegion yo (13::l)::ID) [] (fE kd) (Un s.S (Y.th j).T BX c op arg nw) iE:=by have e:=IF (ρ:=rn) (B3.i 3 (by decide)) (B3.i 4 (by decide)) (B3.i 5 (by decide)) (B3.i 6 (by decide)) (B3.b 14 (by decide)) (B3.b 38 (by decide)) (B3.b 40 (by decide));rw[aeT,e]at f2;exact f2
 let ρc:cn:=gY [(3,op),(4,arg),(5,nw),(6,c)] [(10,Y.R),(14,(Y.th j).T),(38,BX),(40,s.S)] [];have e0:gz ρc Dp=Un s.S (Y.th j).T BX c op arg nw:=IF rfl rfl rfl rfl rfl rfl rfl;have iM:ci x Y (eQ a s' L) (x,.lW j)=some ((Y.th j).T,.obj mU (fA Y.R j (Y.th j) (Y.ts j))):=by rw[bY rfl];exact if_pos hj
 refine(cQ (cC:=[]) (cs:=cs) A2 H2 lM [] [] (aeP kd lo l (bU iE)) rfl (by cases kd<;>rfl) (PS kd l _) (aqH lo) (ρ:=ρc) (Ys.rel (eO kd) Dp e0 rfl) trivial (fun p hp=>?_) (fun p hp=>?_) (nofun) ai ai rfl).trans fun m3 T3 hd=>?_
 ·unfold aeN at hp;cases lo with
  |true=>have hl:op<1:=hlo;obtain rfl:=ad.1 hp;exact decide_eq_true (by show op<1;omega)
  |false=>
   have hl:8<op:=hlo;simp only[ac,ae,or_false]at hp;rcases hp with rfl|rfl
   ·exact decide_eq_false (by show ¬op<1;omega)
   ·exact decide_eq_true (by show op>6;omega)
 ·simp only[rfM,ac,ae,or_false]at hp;rcases hp with rfl|rfl
  ·exact .inl ⟨_,_,iM,by simp,rfl⟩
  ·refine .inl ⟨_,_,iM,by simp,?_⟩;show(fA Y.R j (Y.th j) (Y.ts j))[13]?=some (.bool false);unfold fA;rw[ha,he];rfl
 obtain⟨w3,qm,kH,KX,C3⟩:=hd;obtain rfl:=C3.none;have H3:=cU C3.heap;have g3:dj aa qm ⟨d7,117,bZ 117 (bU kH) YV,.inRegion yo l::ID,[],.run,fE kd⟩ kH:=tw.rel C3.fr (eO kd) YV rfl rfl;refine(Im (dH:=[0,1,7,8,9]) (dA:=[]) C3.eG H3 Fx (YW (bU kH)) (aeQ kd l _) Ip g3 (b9 _ (C3.bE.ii 6)) (m9 _ _ (C3.bE.ii 3) (C3.bE.ii 4) (C3.bE.ii 5) (C3.bE.ii 6) (C3.bE.bb 38)) (by cases kd<;>rfl) (YX _)).trans fun m4 T4 hd=>?_;obtain⟨w4,ρ4,zV,A4,H4,Ag4,f4⟩:=hd;have f4':FA d7 117 (.inRegion yo []::ID) [] (fE kd) [(0,cb s.S),(1,cb (Y.th j).T),(7,iV 0),(8,iV 0),(9,.bool false)] zV:=by have r14:ρ4.b 14=(Y.th j).T:=(Ag4.b 14 (by decide)).trans (C3.bE.bb 14);have r40:ρ4.b 40=s.S:=(Ag4.b 40 (by decide)).trans (C3.bE.bb 40);simp only[AV.cf,bF,i64,ff,AV.ev,af,AA.ev,BR.ev,IE.ev,BE.ev,r14,r40]at f4;exact f4
 let ρ8:cn:=gY [(41,1),(42,1)] [(14,(Y.th j).T),(40,s.S)] [(44,.agg s'.xs.toArray)];have km:s'.q.length=4:=hq;have x12:s'.xs[12]?=some (.bool false):=by unfold SS.xs;rw[aE (by omega),km];rfl
 refine(cQ (cC:=[]) (cs:=cs) A4 H4 lM [((a,.app 0 0),40,.cH false 44 (v 41) [(.lit 12,ff)] [] [] fe (v 42))] [((a,.app 0 0),40,.cH false 44 (v 41) [(.lit 12,ff)] [(.lit 12,ff)] [] fe (v 42))] (on8 kd (bU zV)) rfl (by cases kd<;>rfl) (aeS kd _) nU (ρ:=ρ8) (f4'.rel (eO kd) akH rfl rfl) trivial (nofun) (nofun) (fun p hp=>?_) (by simp) (by simp) rfl).trans fun m5 T5 hd=>?_
 ·obtain rfl:=ad.1 hp;refine⟨.fF fe 1 s'.xs,by rw[ct rfl];exact i5,rfl,rfl,fun i hi=>?_,fun q aqM=>?_,rfl⟩
  ·rw[mX i hi,rJ km];rfl
  ·obtain rfl:=ad.1 aqM;exact x12
 obtain⟨w5,ρ5,Uo,axU,C5⟩:=hd;obtain rfl:=C5.none;have CH:ρ5.i 42=1:=C5.bE.ii 42;have r40:ρ5.b 40=s.S:=C5.bE.bb 40;have K2:ρ5.v 44=.agg s'.xs.toArray:=congrFun C5.bE.v 44;have H5:bK aa base w5 (ci x Y (eQ a s' L)):=by
  refine C5.heap.sub (cX [(a,.app 0 0)] (fun r hr=>rfl) (fun r hr=>by simpa using hr) (fun p hp=>?_) fun r hr y hy=>?_)
  ·simp only[cr,ah,ak,ad]at hp;subst hp;simp
  ·simp only[ac,ae,or_false]at hr;subst hr;rw[ct rfl,i5]at hy;rw[<-au hy];refine bX ?_;simp only[cr,ah,ak,aw,decide_true];have ew:s'.xs.set 12 (.bool false)=s'.xs:=by
    obtain⟨hl,he⟩:=aH.1 x12;rw[<-he];exact List.set_getElem_self hl
   simp only[cY,dF,List.foldr_cons,List.foldr_nil,K2,gy,bm,ff,AV.ev,BE.ev,AV.cf,aX,v,IE.ev,CH,r40];rw[show s'.xs.set (Int.toNat 12) (.bool false)=s'.xs from ew];rfl
 refine(xc C5.eG H5 C5.fr).mono fun m6 T6 hd=>?_;obtain⟨w6,fr6,A6,H6,h6⟩:=hd;exact⟨w6,fr6,BX,A6,H6,h6⟩
end
end Go.Proofs.Ythaddgfbohmfoaa
namespace Go.Proofs.Ythaddgfbohmfoaa
open Go.Proofs.Ythaddgfbohmfoaa.SX Go.Conc
open Go.Proofs.Try renaming prog->aa
open _root_.List renaming mem_singleton->ad,map_cons->ah,nodup_nil->ai,map_nil->ak
open _root_.Option renaming map_some->af
noncomputable def nlM:List (AA×AV):=[(⟨.cN 18,.lit 0⟩,.nilFunc)]
theorem nl(st:Nat->Value):c7 (cO [] nlM 8 [] (cJ (kbE st) [] [])) [] (fun _=>[])=some (⟨ed,14,[],zo 16 17,.run,.deferred,[],[],[]⟩,[]):=by kernel_rfl
theorem akL(st:Nat->Value):bR 100 (cJ (kbE st) [] [])=true:=by kernel_rfl
theorem nlO:(OO [] [] nlM).low 100=true:=by kernel_rfl
section
variable {base:Nat}{W0:World}{bJ:Nat->Option Tok.Seat}{h N:Nat}{m:Machine}{T:Trace}{w:World}{x:Nat}{Y:GS}{L0:cg}{cs:List Frame}{fr:Frame}{j:Nat}
theorem YY(A:dD aa base W0 bJ h N m T (G fr cs) w)(H:bK aa base w (ci x Y L0))(hS:cw (ci x Y L0) bJ)(hj:j<Y.n)(hf:Pt (Y.th j) fr)(hfj:Y.f j=.nilFunc):
  cm aa m T fun m' T'=>∃w' bT,dD aa base W0 bJ h N m' T' (G bT cs) w'∧bK aa base w' (ci x Y L0)∧FA ed 14 [] (FY (Y.th j).c2 (Y.th j).c5) .deferred [] bT:=by
 have h3:ci x Y L0 (x,.c3 j)=some ((Y.th j).c3,.obj tFn [.nilFunc]):=by rw[bY rfl,<-hfj];exact if_pos hj
 refine(cQ (cC:=[]) (cs:=cs) A H hS [] [] (nl (bU fr)) rfl rfl (akL _) nlO (ρ:=vE (Y.th j)) (hf.rel (.inr rfl) [(0,bF 16),(1,bF 17),(2,bF 18)] rfl rfl) trivial (nofun) (fun p hp=>?_) (nofun) ai ai rfl).mono fun m1 T1 hd=>?_
 ·obtain rfl:=ad.1 hp;exact .inl ⟨_,_,h3,by simp,rfl⟩
 obtain⟨w',bL,bT,dk,C⟩:=hd;obtain rfl:=C.none;have y16:bL.b 16=(Y.th j).c2:=C.bE.bb 16;have Yi:bL.b 17=(Y.th j).c5:=C.bE.bb 17;refine⟨w',bT,C.eG,cU C.heap,?_⟩;have:=C.fr;simp only[zo,ah,ak,AD.ev,iy.ev,AV.cf,bF,AV.ev,af,AA.ev,BR.ev,IE.ev,y16,Yi]at this;exact this
end
noncomputable def gwL:List (Nat×AV):=[(0,bF 14),(1,.ez 59),(5,bF 25)]
noncomputable def Gc(st:Nat->Value):bH:=⟨wU,63,bZ 63 st gwL,Nr,[],.run,.normal⟩
noncomputable def zw(kd:Bool)(st:Nat->Value):bH:=⟨d7,117,bZ 117 st [(0,bF 40),(1,bF 14)],yX,[],.run,fE kd⟩
noncomputable def Up(jn:Bool):IE:=match jn with
 |true=>.lit (-1)
 |false=>.tn (v 1)
noncomputable def abZ:List AV:=[i64 (v 2),i8 (.lit 7),i64 (.lit (-1)),i64 (.lit 0),i64 (.lit 0),i64 (.lit 0),i64 (.lit 0),ff]
noncomputable def qf(jn:Bool):List AV:=[i64 (v 2),i8 (.lit 7),i64 (.lit (-1)),i64 (.lit 0),i64 (.lit 0),i64 (.lit 0),i64 (Up jn),ff]
noncomputable def EA(l:AV):List AV:=[Q1 20 (v 1) (v 22),.ez 64,l,.ez 61,.ez 62,.ez 63,ff]
noncomputable def YZ(lg:Bool):List (Nat×bM):=(match lg with
 |true=>[(39,.cH false 49 (v 36) [] [] [] dQ (v 38))]
 |false=>[])++[(25,.cells abZ dQ),(10,.cells (EA (Em lg)) gK)]
noncomputable def PT(lg jn:Bool):bM:=match lg with
 |true=>.cH false 49 (v 36) [] [] (qf jn) dQ (v 101)
 |false=>.row (qf jn) dQ (v 101)
noncomputable def IG(lg jn:Bool):List (Nat×bM):=[(101,PT lg jn),(100,.cells (qf jn) dQ),(25,.cells (qf jn) dQ),(10,.cells (EA (rE lg)) gK)]
noncomputable def Ge(lg jn:Bool):List (BE×Bool):=[(.cmp .eql (.tn (v 1)) (.lit 64),jn),(.cmp .geq (.tn (v 1)) (.lit 0),true)]++match lg with
 |true=>[(.cmp .leq (.plus (.tn (v 36)) (.lit 1)) (.lit 1048576),true)]
 |false=>[]
noncomputable def IH:List Item:=[.inRegion (fP (pc (bQ Fn.XL) [1,1,1,1,1,1,0,1,0])) [5],.code (pc (bQ Fn.XL) [1,1,1,1,1,1,1])]
noncomputable def II:List Item:=[.code (pc (bQ Fn.one) [1,0,1,0,1,0]),.code .ret,.code (pc (bQ Fn.one) [1,1])]
noncomputable def Y5(f:FuncId):List Nat:=Bool.rec [0,1] [0,5] (Nat.beq f 46)
noncomputable def Gf:List AV:=[bF 10,.ez 59]++List.replicate 37 cx
theorem akM(kd lg:Bool)(Ya Y6 Iy:Nat->Value):c7 (cO (Ge lg false) tB 59 [101,100,25,10] (cJ (BQ Ya) [Gc Y6,zw kd Iy] (YZ lg))) (List.range 39) Y5=some (⟨j5,39,[.code (bQ Fn.begin)],[],.run,.normal,[],IG lg false,Gf⟩,[⟨wU,63,IH,[],.run,.normal,[],[],[bF 14,bF 25]⟩,⟨d7,117,yX,[],.run,fE kd,[],[],[bF 40,bF 14]⟩]):=by cases kd<;>cases lg<;>kernel_rfl
theorem aeU(kd lg:Bool)(Ya Y6 Iy:Nat->Value):c7 (cO (Ge lg true) tB 56 [101,100,25,10] (cJ (BQ Ya) [Gc Y6,zw kd Iy] (YZ lg))) [0,1,6] (fun _=>[])=some (⟨d7,117,II,[],.run,fE kd,[],IG lg true,[bF 40,bF 14,i64 (.lit (-1))]⟩,[]):=by cases kd<;>cases lg<;>kernel_rfl
theorem ab0(kd lg:Bool)(Ya Y6 Iy:Nat->Value):bR 100 (cJ (BQ Ya) [Gc Y6,zw kd Iy] (YZ lg))=true:=by cases kd<;>cases lg<;>kernel_rfl
theorem gnO(lg jn:Bool):(OO (Ge lg jn) [] tB).low 100=true:=by cases lg<;>cases jn<;>kernel_rfl
end Go.Proofs.Ythaddgfbohmfoaa
namespace Go.Proofs.Ythaddgfbohmfoaa
open Go.Proofs.Ythaddgfbohmfoaa.SX Go.Conc
open Go.ConcN (upd upd_ne upd_same)
open Go.Proofs.Try renaming prog->aa
open _root_.List renaming mem_cons->ac,mem_singleton->ad,not_mem_nil->ae,map_cons->ah,map_nil->ak,find?_cons->aw,mem_append->ay,cons_append->az,nil_append->aA,length_append->aD,length_pos_iff->aG
open _root_.Option renaming map_some->af
open _root_.Int renaming toNat_natCast->ap
open _root_.Option.some renaming inj->au
def GY(j:Nat)(oR:Int):List Value:=[iV j,qn 7,iV (-1),iV 0,iV 0,iV 0,iV oR,.bool false]
def GS.jt(Y:GS)(j:Nat)(oR:Int)(AB LA cL:Nat):GS:={Y with db:=Y.db++GY j oR,LA:=LA,cL:=cL,gG:=upd Y.gG j (some (AB,GY j oR))}
abbrev GoB(T AB:Nat)(fr:Frame):Prop:=FA wU 63 IH [] .normal [(0,cb T),(5,cb AB)] fr
noncomputable def lz(x j:Nat)(lg:Bool):List (cD×Nat×bM):=(match lg with
 |true=>[((x,.db),39,.cH false 49 (v 36) [] [] [] dQ (v 38))]
 |false=>[])++[((x,.gG j),25,.cells abZ dQ),((x,.run),10,.cells (EA (Em lg)) gK)]
noncomputable def mw(x j:Nat)(lg jn:Bool):List (cD×Nat×bM):=[((x,.db),101,PT lg jn),((x,.dN),100,.cells (qf jn) dQ),((x,.gG j),25,.cells (qf jn) dQ),((x,.run),10,.cells (EA (rE lg)) gK)]
theorem uk(x j:Nat)(lg:Bool):(lz x j lg).map (·.2)=YZ lg:=by cases lg<;>rfl
theorem Cf(x j:Nat)(lg jn:Bool):(mw x j lg jn).map (·.2)=IG lg jn:=rfl
section
variable {base:Nat}{W0:World}{bJ:Nat->Option Tok.Seat}{h N:Nat}{m:Machine}{T:Trace}{w:World}{x:Nat}{Y:GS}{L0:cg}{cs:List Frame}{fr f46 f80:Frame}{j AB S:Nat}{kd:Bool}{fv:Value}
theorem aeV(A:dD aa base W0 bJ h N m T (G fr (f46::f80::cs)) w)(H:bK aa base w (ci x Y L0))(hS:cw (ci x Y L0) bJ)(hj:j<Y.n)(di:Y.dJ=false)(hf:ye (Y.th j).T fr)(Lh:GoW (Y.th j).T AB fv f46)(tH:yn kd S (Y.th j).T f80)(w9:Y.gG j=some (AB,qc j 7 0 0))(pi:Y.db.length=8*(Y.db.length / 8))(jC:Y.db.length / 8+1≤1048576)(hn:Y.n≠64):
  cm aa m T fun m' T'=>∃w' bT g46 g80 LA cL,dD aa base W0 bJ h N m' T' (G bT (g46::g80::cs)) w'∧bK aa base w' (ci x (Y.jt j Y.n AB LA cL) L0)∧Ep Y.R fv bT∧GoB (Y.th j).T AB g46∧yn kd S (Y.th j).T g80:=by
 obtain⟨lg,jZ⟩:∃b,b=!(Y.db.isEmpty):=⟨_,rfl⟩;have BT:lg=true->Y.db≠[]:=fun e e2=>by rw[e2,e]at jZ;cases jZ
 have kG:lg=false->Y.db=[]:=fun e=>by
  cases hl:Y.db with
  |nil=>rfl
  |cons a b=>rw[hl,e]at jZ;cases jZ
 let ρ:cn:=gY [(1,Y.n),(2,j),(22,Y.cT),(36,(Y.db.length / 8:Nat)),(38,Y.cL)] [(10,Y.R),(14,(Y.th j).T),(20,Y.TA),(25,AB),(39,Y.LA),(40,S)] [(49,.agg Y.db.toArray),(59,fv),(61,c_ Y.cp.length Y.WA Y.cW),(62,c_ Y.ready.length Y.RA Y.cR),(63,c_ Y.n Y.FA Y.cF),(64,.map (some Y.MB))];have hb:∀p∈Ge lg false,p.1.ev ρ=p.2:=fun p hp=>by
  unfold Ge at hp;rcases ay.1 hp with hp|hp
  ·simp only[ac,ae,or_false]at hp;rcases hp with rfl|rfl
   ·show decide ((((Y.n:Nat):Int).toNat:Int)=64)=false;exact decide_eq_false (by omega)
   ·show decide ((((Y.n:Nat):Int).toNat:Int)≥0)=true;exact decide_eq_true (by omega)
  ·cases lg with
   |false=>cases hp
   |true=>obtain rfl:=ad.1 hp;show decide ((((Y.db.length / 8:Nat):Int).toNat:Int)+1≤1048576)=true;exact decide_eq_true (by omega)
 have hm:∀p∈tB,lq (ci x Y L0) ((lz x j lg).map (·.1)) w base ρ p:=fun p hp=>by obtain rfl:=ad.1 hp;refine .inl ⟨(x,.lW j),.obj mU (fA Y.R j (Y.th j) (Y.ts j)),by rw[bY rfl];exact if_pos hj,?_,rfl⟩;cases lg<;>simp[lz]
 have hpre:mo (ci x Y L0) ρ (lz x j lg):=fun p hp=>by
  unfold lz at hp;rcases ay.1 hp with hp|hp
  ·cases lg with
   |false=>cases hp
   |true=>obtain rfl:=ad.1 hp;refine⟨.fF dQ Y.cL Y.db,by rw[bY rfl];exact if_neg (BT rfl),rfl,rfl,fun i hi=>?_,(nofun),rfl⟩;rw[oU i hi];show _=(((Y.db.length / 8:Nat):Int)).toNat*8;rw[ap];omega
  ·simp only[ac,ae,or_false]at hp;rcases hp with rfl|rfl
   ·exact⟨.obj dQ (qc j 7 0 0),by rw[bY rfl];exact congrArg (Option.map _) w9,rfl,rfl⟩
   ·refine⟨.obj gK Y.runV,by rw[bY rfl];rfl,rfl,?_⟩;unfold GS.runV;rw[di,cy (by omega:0<Y.n)];cases lg with
    |true=>rw[cy (by have:=aG.2 (BT rfl);omega:0<Y.db.length / 8)];rfl
    |false=>rw[kG rfl];rfl
 have hv:c7 (cO (Ge lg false) tB 59 [101,100,25,10] (cJ (BQ (bU fr)) [Gc (bU f46),zw kd (bU f80)] ((lz x j lg).map (·.2)))) (List.range 39) Y5=some (⟨j5,39,[.code (bQ Fn.begin)],[],.run,.normal,[],IG lg false,Gf⟩,[⟨wU,63,IH,[],.run,.normal,[],[],[bF 14,bF 25]⟩,⟨d7,117,yX,[],.run,fE kd,[],[],[bF 40,bF 14]⟩]):=by rw[uk];exact akM kd lg _ _ _
 have od:bR 100 (cJ (BQ (bU fr)) [Gc (bU f46),zw kd (bU f80)] ((lz x j lg).map (·.2)))=true:=by rw[uk];exact ab0 kd lg _ _ _
 have iw:c8 aa ρ [Gc (bU f46),zw kd (bU f80)] [f46,f80]:=⟨Lh.rel (.inl rfl) gwL rfl rfl,tH.rel (eO kd) [(0,bF 40),(1,bF 14)] rfl rfl,trivial⟩;refine(cQ (cC:=[f46,f80]) (cs:=cs) A H hS (lz x j lg) (mw x j lg false) hv (Cf x j lg false).symm (by cases kd<;>rfl) od (gnO lg false) (ρ:=ρ) (hf.rel (.inl rfl) [(0,bF 14)] rfl rfl) iw hb hm hpre (by cases lg<;>simp[lz]) (by simp[mw]) (by cases lg<;>rfl)).mono fun m1 T1 hd=>?_;obtain⟨w',bL,bT,dk,C⟩:=hd;obtain⟨g46,g80,rfl,q46,q80⟩:∃g46 g80,dk=[g46,g80]∧FA wU 63 IH [] .normal ((Y5 46).zip (AV.cf bL [bF 14,bF 25])) g46∧FA d7 117 yX [] (fE kd) ((Y5 80).zip (AV.cf bL [bF 40,bF 14])) g80:=by
  have:=C.cC
  match dk,this with
  |[],h=>exact h.elim
  |[_],h=>exact h.2.elim
  |[f,g],h=>exact⟨f,g,rfl,h.1,h.2.1⟩
  |_::_::_::_,h=>exact h.2.2.elim
 have x1:bL.i 1=Y.n:=C.bE.ii 1;have x2:bL.i 2=j:=C.bE.ii 2;have x22:bL.i 22=Y.cT:=C.bE.ii 22;have Ye:bL.i 36=(Y.db.length / 8:Nat):=C.bE.ii 36;have mr:bL.b 10=Y.R:=C.bE.bb 10;have jY:bL.b 14=(Y.th j).T:=C.bE.bb 14;have JE:bL.b 20=Y.TA:=C.bE.bb 20;have y25:bL.b 25=AB:=C.bE.bb 25;have lx:bL.b 40=S:=C.bE.bb 40;have z49:bL.v 49=.agg Y.db.toArray:=congrFun C.bE.v 49;have WB:bL.v 59=fv:=congrFun C.bE.v 59;have Ik:bL.v 61=c_ Y.cp.length Y.WA Y.cW:=congrFun C.bE.v 61;have Pp:bL.v 62=c_ Y.ready.length Y.RA Y.cR:=congrFun C.bE.v 62;have Pq:bL.v 63=c_ Y.n Y.FA Y.cF:=congrFun C.bE.v 63;have To:bL.v 64=.map (some Y.MB):=congrFun C.bE.v 64;have eD:AV.cf bL (qf false)=GY j Y.n:=by simp only[qf,Up,AV.cf,i64,i8,ff,v,AV.ev,IE.ev,BE.ev,x1,x2,ap];rfl
 have dl:(GY j Y.n).length=8:=rfl;refine⟨w',bT,g46,g80,bL.b 101,(bL.i 101).toNat,C.eG,C.heap.sub (cX [(x,.db),(x,.dN),(x,.gG j),(x,.run)] (fz (fun k hk hr=>?_) fun r hr _=>rfl) (fun r hr=>?_) (fun p hp=>?_) fun r hr y hy=>?_),?_,?_,?_⟩
 ·simp only[ac,Prod.mk.injEq,true_and,ae,or_false,not_or]at hr;cases k with
  |db=>exact absurd rfl hr.1
  |run=>exact absurd rfl hr.2.2.2
  |gG i=>have hi:i≠j:=fun e=>hr.2.2.1 (by rw[e]);simp[eo,GS.jt,upd_ne _ _ hi]
  |_=>rfl
 ·cases lg<;>simp only[lz,aA,az,ah,ak,ac,ae,or_false]at hr
  ·rcases hr with rfl|rfl<;>simp
  ·rcases hr with rfl|rfl|rfl<;>simp
 ·simp only[cr,mw,ah,ak,ac,ae,or_false]at hp;rcases hp with rfl|rfl|rfl|rfl<;>simp
 ·simp only[ac,ae,or_false]at hr;rcases hr with rfl|rfl|rfl|rfl
  ·rw[bY rfl]at hy;simp only[eo,GS.jt]at hy;have df:¬(Y.db++GY j Y.n=[]):=by simp[GY]
   simp only[df,if_false]at hy;rw[<-au hy];refine bX ?_;simp only[cr,mw,ah,ak,aw,decide_true];cases lg with
   |true=>simp only[PT,cY,v,IE.ev,z49,eD,gy];rfl
   |false=>rw[kG rfl];simp only[PT,cY,v,IE.ev,eD];rfl
  ·rw[bY rfl]at hy;cases hy
  ·rw[bY rfl]at hy;simp only[eo,GS.jt,upd_same,af,Option.some.injEq]at hy;subst hy;refine bX ?_;simp only[cr,mw,ah,ak,aw,Prod.mk.injEq,reduceCtorEq,and_false,decide_false,true_and,decide_true,RK.gG.injEq];simp only[cY,eD,y25]
  ·rw[bY rfl]at hy;rw[<-au hy];refine bX ?_;simp only[cr,mw,ah,ak,aw,Prod.mk.injEq,reduceCtorEq,and_false,decide_false,decide_true];have hz:(Y.db++GY j Y.n).length / 8=Y.db.length / 8+1:=by
    rw[aD,dl];omega
   simp only[cY,EA,AV.cf,ff,AV.ev,BE.ev,Ik,Pp,Pq,To,mr,GS.jt,GS.runV,runV,hz,di];rw[cy (Nat.succ_pos _),cy (b:=Y.TA) (c:=Y.cT) (by omega:0<Y.n)];cases lg with
   |true=>simp only[rE,Q1,v,AV.ev,IE.ev,af,AA.ev,BR.ev,x1,x22,Ye,JE,ap];rfl
   |false=>rw[kG rfl];simp only[rE,Q1,v,AV.ev,IE.ev,af,AA.ev,BR.ev,x1,x22,Ye,JE,ap];rfl
 ·have:=C.fr;simp only[Gf,az,aA,AV.cf,bF,AV.ev,af,AA.ev,BR.ev,IE.ev,mr,WB]at this;exact this
 ·simp only[AV.cf,bF,AV.ev,af,AA.ev,BR.ev,IE.ev,jY,y25]at q46;exact q46
 ·simp only[AV.cf,bF,AV.ev,af,AA.ev,BR.ev,IE.ev,jY,lx]at q80;exact q80
end
end Go.Proofs.Ythaddgfbohmfoaa
namespace Go.Proofs.Ythaddgfbohmfoaa
open Go.Proofs.Ythaddgfbohmfoaa.SX Go.Conc
open Go.Proofs.Try renaming prog->aa
open _root_.List renaming mem_cons->ac,mem_singleton->ad,not_mem_nil->ae,map_cons->ah,nodup_nil->ai,map_nil->ak,find?_cons->aw,length_append->aD,getElem?_append_right->aE,length_pos_iff->aG,append_nil->aX,toList_toArray->bm
open _root_.Option renaming map_some->af
open _root_.Int renaming toNat_natCast->ap
open _root_.Nat renaming reduceEqDiff->br
open _root_.Option.some renaming inj->au
noncomputable def baF(st:Nat->Value):bH:=⟨j5,39,bZ 39 st [(4,bF 36)],[.code .ret],[],.run,.normal⟩
noncomputable def aeW(st:Nat->Value):bH:=⟨wU,63,bZ 63 st [(0,bF 14),(5,bF 25)],IH,[],.run,.normal⟩
noncomputable def gaM:List (AA×AV):=[(⟨.cN 25,.lit 6⟩,i64 (v 8))]
theorem ga(kd:Bool)(s61 Y6 Iy:Nat->Value):c7 (cO [] gaM 14 [] (cJ (baF s61) [aeW Y6,zw kd Iy] [])) [0,1,6] (fun _=>[])=some (⟨d7,117,II,[],.run,fE kd,[],[],[bF 40,bF 14,i64 (v 8)]⟩,[]):=by cases kd<;>kernel_rfl
theorem akO(kd:Bool)(s61 Y6 Iy:Nat->Value):bR 100 (cJ (baF s61) [aeW Y6,zw kd Iy] [])=true:=by cases kd<;>kernel_rfl
theorem gaO:(OO [] [] gaM).low 100=true:=by kernel_rfl
noncomputable def gkF(kd:Bool)(st:Nat->Value):bH:=⟨d7,117,bZ 117 st [(0,bF 40),(1,bF 14),(6,i64 (v 8))],II,[],.run,fE kd⟩
noncomputable def gkC:List AV:=[i64 (v 2),i8 (.lit 0),i64 (.lit 0),i64 (.lit 0),i64 (.lit 0),i64 (.lit 0),i64 (v 8),ff]
noncomputable def Y7(lg:Bool):bM:=match lg with
 |true=>.cH false 45 (v 46) [] [] gkC dQ (v 101)
 |false=>.row gkC dQ (v 101)
noncomputable def Uq(lg:Bool):List (Nat×bM):=[(101,Y7 lg),(100,.cells gkC dQ),(40,.cH false 44 (v 41) [(.lit 10,xa lg)] [(.lit 10,tG lg)] [] fe (v 42))]
noncomputable def gkK:List Item:=[.code .ret,.code (pc (bQ Fn.one) [1,1])]
theorem gk(kd lg:Bool)(st:Nat->Value):c7 (cO (KW lg) nE 1 [101,100,40] (cJ (gkF kd st) [] (Tz lg))) [] (fun _=>[])=some (⟨d7,117,gkK,[],.run,fE kd,[],Uq lg,[]⟩,[]):=by cases kd<;>cases lg<;>kernel_rfl
theorem akP(kd lg:Bool)(st:Nat->Value):bR 100 (cJ (gkF kd st) [] (Tz lg))=true:=by cases kd<;>cases lg<;>kernel_rfl
abbrev Li(kd:Bool)(S T:Nat)(oR:Int)(fr:Frame):Prop:=FA d7 117 II [] (fE kd) [(0,cb S),(1,cb T),(6,iV oR)] fr
section
variable {base:Nat}{W0:World}{bJ:Nat->Option Tok.Seat}{h N:Nat}{m:Machine}{T:Trace}{w:World}{L:cg}{cs:List Frame}{fr f46 f80:Frame}{AB S Tb T1:Nat}{kd:Bool}{oR:Int}
theorem aeX{r:cD}{k:fK}(A:dD aa base W0 bJ h N m T (G fr (f46::f80::cs)) w)(H:bK aa base w L)(hS:cw L bJ)(hf:BY T1 fr)(Lh:GoB Tb AB f46)(tH:yn kd S Tb f80)(hr:L r=some (AB,k))(hk:k.cell 6=some (iV oR)):
  cm aa m T fun m' T'=>∃w' bT,dD aa base W0 bJ h N m' T' (G bT cs) w'∧bK aa base w' L∧Li kd S Tb oR bT:=by
 let ρ:cn:=gY [(8,oR)] [(14,Tb),(25,AB),(36,T1),(40,S)] [];have iw:c8 aa ρ [aeW (bU f46),zw kd (bU f80)] [f46,f80]:=⟨Lh.rel (.inl rfl) [(0,bF 14),(5,bF 25)] rfl rfl,tH.rel (eO kd) [(0,bF 40),(1,bF 14)] rfl rfl,trivial⟩;refine(cQ (cC:=[f46,f80]) (cs:=cs) A H hS [] [] (ga kd (bU fr) (bU f46) (bU f80)) rfl (by cases kd<;>rfl) (akO kd _ _ _) gaO (ρ:=ρ) (hf.rel (.inl rfl) [(4,bF 36)] rfl rfl) iw (nofun) (fun p hp=>?_) (nofun) ai ai rfl).mono fun m1 T1' hd=>?_
 ·obtain rfl:=ad.1 hp;exact .inl ⟨r,k,hr,by simp,hk⟩
 obtain⟨w',bL,bT,dk,C⟩:=hd;obtain rfl:=C.none;have z8:bL.i 8=oR:=C.bE.ii 8;have jY:bL.b 14=Tb:=C.bE.bb 14;have lx:bL.b 40=S:=C.bE.bb 40;refine⟨w',bT,C.eG,cU C.heap,?_⟩;have:=C.fr;simp only[AV.cf,bF,i64,v,AV.ev,af,AA.ev,BR.ev,IE.ev,z8,jY,lx]at this;exact this
end
def vI(j:Nat)(oR:Int):List Value:=[iV j,qn 0,iV 0,iV 0,iV 0,iV 0,iV oR,.bool false]
noncomputable def yp(x a:Nat)(lg:Bool):List (cD×Nat×bM):=[((a,.app 1 0),101,Y7 lg),((x,.dN),100,.cells gkC dQ),((a,.app 0 0),40,.cH false 44 (v 41) [(.lit 10,xa lg)] [(.lit 10,tG lg)] [] fe (v 42))]
theorem Lj(x a:Nat)(lg:Bool):(yp x a lg).map (·.2)=Uq lg:=rfl
section
variable {base:Nat}{W0:World}{bJ:Nat->Option Tok.Seat}{h N:Nat}{m:Machine}{T:Trace}{w:World}{x a:Nat}{Y:GS}{L:cg}{cs:List Frame}{fr:Frame}{j:Nat}{s:SS}
theorem Ns{kd:Bool}{oR:Int}(A:dD aa base W0 bJ h N m T (G fr cs) w)(H:bK aa base w (ci x Y (eQ a s L)))(hS:cw (ci x Y (eQ a s L)) bJ)(hj:j<Y.n)(he:(Y.ts j).e=false)(dI:(Y.ts j).a.length=8)(hq:s.q.length=4)(Q3:s.tl.length=8*(s.tl.length / 8))(jC:s.tl.length / 8+1≤1048576)
 (hf:Li kd s.S (Y.th j).T oR fr):
  cm aa m T fun m' T'=>∃w' bT TO jI,dD aa base W0 bJ h N m' T' (G bT cs) w'∧bK aa base w' (ci x Y (eQ a (s.dE (vI j oR) TO jI) L))∧mu kd bT:=by
 obtain⟨a0,a1,a2,a3,a4,a5,a6,a7,ha⟩:=r_ dI;obtain⟨lg,jZ⟩:∃b,b=!(s.tl.isEmpty):=⟨_,rfl⟩;have BT:lg=true->s.tl≠[]:=fun e e2=>by rw[e2,e]at jZ;cases jZ
 have kG:lg=false->s.tl=[]:=fun e=>by
  cases hl:s.tl with
  |nil=>rfl
  |cons a b=>rw[hl,e]at jZ;cases jZ
 let ρ:=abM j (Y.th j).T Y.R s.S 0 oR s.TO (s.tl.length / 8) s.jI [(44,.agg s.xs.toArray),(45,.agg s.tl.toArray)];have hb:∀p∈KW lg,p.1.ev ρ=p.2:=fun p hp=>by
  cases lg with
  |false=>cases hp
  |true=>obtain rfl:=ad.1 hp;show decide ((((s.tl.length / 8:Nat):Int).toNat:Int)+1≤1048576)=true;exact decide_eq_true (by omega)
 have iM:ci x Y (eQ a s L) (x,.lW j)=some ((Y.th j).T,.obj mU (fA Y.R j (Y.th j) (Y.ts j))):=by rw[bY rfl];exact if_pos hj
 have hm:∀p∈nE,lq (ci x Y (eQ a s L)) ((kg a lg).map (·.1)) w base ρ p:=fun p hp=>by
  have nd:(x,RK.lW j)∉(kg a lg).map (·.1):=by cases lg<;>simp[kg]
  simp only[nE,ac,ae,or_false]at hp;rcases hp with rfl|rfl|rfl
  ·exact .inl ⟨_,_,iM,nd,rfl⟩
  ·exact .inl ⟨_,_,iM,nd,rfl⟩
  ·refine .inl ⟨_,_,iM,nd,?_⟩;show(fA Y.R j (Y.th j) (Y.ts j))[13]?=some (.bool false);unfold fA;rw[ha,he];rfl
 have x10:s.xs[10]?=some (c_ (s.tl.length / 8) s.TO s.jI):=by unfold SS.xs;rw[aE (by omega),hq];rfl
 have hpre:mo (ci x Y (eQ a s L)) ρ (kg a lg):=by
  have p0:∀Yt,Yt=lg->∃k,ci x Y (eQ a s L) (a,.app 0 0)=some (ρ.b 40,k)∧uQ aa ρ (.cH false 44 (v 41) [(.lit 10,xa Yt)] [] [] fe (v 42)) k:=fun Yt e=>by
   subst e;refine⟨.fF fe 1 s.xs,by rw[ct rfl];exact i5,rfl,rfl,fun i hi=>?_,fun q km=>?_,rfl⟩
   ·rw[mX i hi,rJ hq];rfl
   ·obtain rfl:=ad.1 km;show s.xs[10]?=_;rw[x10];cases Yt with
    |true=>rw[cy (by have:=aG.2 (BT rfl);omega)];rfl
    |false=>rw[kG rfl];rfl
  intro p hp;cases lg with
  |true=>
   simp only[kg,ac,ae,or_false]at hp;rcases hp with rfl|rfl
   ·refine⟨.fF dQ s.jI s.tl,by rw[ct rfl];exact Nd (BT rfl),rfl,rfl,fun i hi=>?_,(nofun),rfl⟩;rw[oU i hi];show _=(((s.tl.length / 8:Nat):Int)).toNat*8;rw[ap];omega
   ·exact p0 _ rfl
  |false=>obtain rfl:=ad.1 hp;exact p0 _ rfl
 have hv:c7 (cO (KW lg) nE 1 [101,100,40] (cJ (gkF kd (bU fr)) [] ((kg a lg).map (·.2)))) [] (fun _=>[])=some (⟨d7,117,gkK,[],.run,fE kd,[],Uq lg,[]⟩,[]):=by rw[ui];exact gk kd lg _
 have od:bR 100 (cJ (gkF kd (bU fr)) [] ((kg a lg).map (·.2)))=true:=by rw[ui];exact akP kd lg _
 refine(cQ (cC:=[]) (cs:=cs) A H hS (kg a lg) (yp x a lg) hv (Lj x a lg).symm (by cases kd<;>rfl) od (abL lg) (ρ:=ρ) (hf.rel (eO kd) [(0,bF 40),(1,bF 14),(6,i64 (v 8))] rfl rfl) trivial hb hm hpre (by cases lg<;>simp[kg]) (by simp[yp]) (by cases lg<;>rfl)).trans fun m1 T1 hd=>?_;obtain⟨w',bL,bT,dk,C⟩:=hd;obtain rfl:=C.none;have z2:bL.i 2=j:=C.bE.ii 2;have z8:bL.i 8=oR:=C.bE.ii 8;have CH:bL.i 42=1:=C.bE.ii 42;have z46:bL.i 46=(s.tl.length / 8:Nat):=C.bE.ii 46;have lx:bL.b 40=s.S:=C.bE.bb 40;have K2:bL.v 44=.agg s.xs.toArray:=congrFun C.bE.v 44;have z45:bL.v 45=.agg s.tl.toArray:=congrFun C.bE.v 45;have eD:AV.cf bL gkC=vI j oR:=by simp only[gkC,AV.cf,i64,i8,ff,v,AV.ev,IE.ev,BE.ev,z2,z8];rfl
 have hz:(s.tl++vI j oR).length / 8=s.tl.length / 8+1:=by rw[aD,show(vI j oR).length=8 from rfl];omega
 have H':bK aa base w' (ci x Y (eQ a (s.dE (vI j oR) (bL.b 101) (bL.i 101).toNat) L)):=by
  refine C.heap.sub (cX [(a,.app 1 0),(x,.dN),(a,.app 0 0)] (fz (fun k hk hr=>rfl) fun r hr _=>TF r (fun e=>hr (by simp[e])) fun e=>hr (by simp[e])) (fun r hr=>?_) (fun p hp=>?_) fun r hr y hy=>?_)
  ·cases lg<;>simp only[kg,ah,ak,ac,ae,or_false]at hr
   ·subst hr;simp
   ·rcases hr with rfl|rfl<;>simp
  ·simp only[cr,yp,ah,ak,ac,ae,or_false]at hp;rcases hp with rfl|rfl|rfl<;>simp
  ·simp only[ac,ae,or_false]at hr;rcases hr with rfl|rfl|rfl
   ·rw[ct rfl,Nd (by simp[SS.dE,vI])]at hy;rw[<-au hy];refine bX ?_;simp only[cr,yp,ah,ak,aw,decide_true];cases lg with
    |true=>simp only[Y7,cY,v,IE.ev,z45,eD,gy];rfl
    |false=>simp only[Y7,cY,v,IE.ev,eD,SS.dE,kG rfl];rfl
   ·rw[bY rfl]at hy;cases hy
   ·rw[ct rfl,i5]at hy;rw[<-au hy];refine bX ?_;simp only[cr,yp,ah,ak,aw,Prod.mk.injEq,reduceCtorEq,and_false,decide_false,decide_true,RK.app.injEq,br,false_and];have ew:s.xs.set 10 (c_ (s.tl.length / 8+1) (bL.b 101) (bL.i 101).toNat)=(s.dE (vI j oR) (bL.b 101) (bL.i 101).toNat).xs:=by
     unfold SS.xs SS.dE;dsimp only;rw[hz,List.set_append_right _ _ (by omega),hq];rfl
    have et:(tG lg).ev bL=c_ (s.tl.length / 8+1) (bL.b 101) (bL.i 101).toNat:=by
     rw[cy (Nat.succ_pos _)];cases lg with
     |true=>simp only[tG,v,AV.ev,IE.ev,af,AA.ev,BR.ev,z46,ap];rfl
     |false=>rw[kG rfl];rfl
    simp only[cY,dF,List.foldr_cons,List.foldr_nil,K2,gy,bm,et,AV.cf,aX,v,IE.ev,CH,lx];rw[<-ew];rfl
 refine(xc C.eG H' C.fr).mono fun m2 T2 hd=>?_;obtain⟨w2,iE,A2,H2,h2⟩:=hd;exact⟨w2,iE,_,_,A2,H2,h2⟩
end
end Go.Proofs.Ythaddgfbohmfoaa
