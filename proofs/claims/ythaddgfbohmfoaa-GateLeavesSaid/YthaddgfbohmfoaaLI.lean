/-
  A symbolic run of the model, proved sound, and the walk of the code: a text of its parts. Conditions: none.
-/
import Derived.Test.YthaddgfbohmfoaaLH
set_option linter.unusedSectionVars false
set_option maxRecDepth 100000
set_option linter.unusedVariables false
set_option linter.unusedSimpArgs false
namespace Go.Proofs.Ythaddgfbohmfoaa
open Go.Proofs.Ythaddgfbohmfoaa.SX Go.Conc
open Go.ConcN (upd upd_ne upd_same)
open Go.Proofs.Try renaming prog->aa
open _root_.List renaming mem_cons->ac,mem_singleton->ad,not_mem_nil->ae,map_cons->ah,nodup_nil->ai,map_nil->ak,mem_cons_of_mem->am,mem_cons_self->an,find?_cons->aw,mem_append->ay,cons_append->az,length_append->aD,mem_map->aJ,mem_filter->aU,getElem?_map->aZ,length_range->bh,length_map->bj,getElem?_range->bn
open _root_.Option renaming map_some->af,map_none->bu
open _root_.Int renaming toNat_natCast->ap
open _root_.Nat renaming le_refl->aq,eq_of_beq_eq_true->aI,lt_succ_self->a_,reduceEqDiff->br
open _root_.Bool renaming and_eq_true->ax,false_eq_true->aR
open _root_.Array renaming getElem?_eq_getElem->aT
def eY(f:Nat->Bool)(n:Nat):List Nat:=(List.range n).filter f
theorem I9(f:Nat->Bool)(n:Nat):eY f (n+1)=if f n then eY f n++[n]else eY f n:=by
 unfold eY;rw[List.range_succ,List.filter_append];by_cases h:f n=true
 ·simp[h]
 ·simp[h]
theorem Cu(f:Nat->Bool)(n:Nat):(eY f n).length≤n:=by unfold eY;have:=List.length_filter_le f (List.range n);rw[bh]at this;exact this
def uY(F:List Nat)(AB cA:Nat):Option (Nat×fK):=if F=[]then none else some (AB,.fF ke cA (fH F))
abbrev LL(R:Nat)(e:Int)(RB:Nat)(lv:Value)(F:List Nat)(AB cA n FA cF i:Nat)(fr:Frame):Prop:=Go.Proofs.Ythaddgfbohmfoaa.FA mH 48 feT [] .normal [(0,cb R),(1,qn e),(4,cb RB),(5,lv),(6,c_ F.length AB cA),(14,.slice (some ⟨FA,0,none⟩) n cF),(15,iV n),(16,iV i)] fr
noncomputable def acr(Y:GS)(e:Int)(RB k AB cA i:Nat)(F:List Nat)(FB ig:Nat):cn:=gY [(1,Y.n),(5,i),(22,Y.cT),(23,Y.cF),(70,k),(71,cA),(72,F.length),(73,ig),(81,e)] [(10,Y.R),(20,Y.TA),(21,Y.FA),(34,AB),(35,FB),(82,RB)] [(43,.agg (fH F).toArray)]
section
variable {E:Wd}{PB nb fI:Nat}{bJ:Nat->Option Tok.Seat}{h N:Nat}{Y:GS}{X:XS}{cs:List Frame}{fr f39 f12:Frame}{m:Machine}{T:Trace}{i:Nat}{L:List Value}{AB cA RB FB ig:Nat}{e:Int}{F:List Nat}
theorem Aa{ρ:cn}{ie:IE}{sl:AV}{lv:Value}(zY:ρ.b 10=Y.R)(h82:ρ.b 82=RB)(Nn:ρ.i 81=e)(h21:ρ.b 21=Y.FA)(h1:ρ.i 1=Y.n)(h23:ρ.i 23=Y.cF){z:AV}(hz:z.ev ρ=lv){sv:Value}(hs:sl.ev ρ=sv){i:Nat}(hi:ie.ev ρ=i):AV.cf ρ [bF 10,i8 (v 81),bF 82,z,sl,nq 21 1 23,i64 (.tn (v 1)),i64 ie]=[cb Y.R,qn e,cb RB,lv,sv,.slice (some ⟨Y.FA,0,none⟩) Y.n Y.cF,iV Y.n,iV i]:=by simp only[AV.cf,hz,hs,bF,i8,nq,i64,v,AV.ev,af,AA.ev,BR.ev,IE.ev,zY,h82,Nn,h21,h1,h23,hi,ap];rfl
theorem Vj(o:On E bJ h N Y X (G fr (f39::cs)) m T)(hf:Z4 Y.R L AB cA Y.n fr)(h39:W39 Y.R e RB f39)(h0:0<Y.n):
  cm aa m T fun m' T'=>∃bT,On E bJ h N Y X (G bT cs) m' T'∧LL Y.R e RB (c_ (L.length / 8) AB cA) [] 0 0 Y.n Y.FA Y.cF 0 bT:=by
 obtain⟨w,A,H,hS⟩:=o;let ρ:=acr Y e RB (L.length / 8) AB cA Y.n [] 0 0;have kI:dj aa ρ (l2H (decide (L.length / 8=0)) (bU fr)) fr:=by refine hf.rel (.inl rfl) (LH (decide (L.length / 8=0)) (v 5)) ?_ rfl;have:=um (Y:=Y) (L:=L) (AB:=AB) (cA:=cA) (i:=Y.n) (ρ:=ρ) (ie:=v 5) rfl rfl rfl rfl rfl;simp only[LH,gz,ah,ak,AV.cf]at this⊢;simp only[List.cons.injEq,and_true]at this;rw[this.1,this.2.1,this.2.2]
 have iw:c8 aa ρ [afR (bU f39)] [f39]:=⟨h39.rel (.inl rfl) (ZM 82) rfl rfl,trivial⟩;refine(cQ (cC:=[f39]) (cs:=cs) A H hS [] [] (ar5 (decide (L.length / 8=0)) (bU fr) (bU f39)) rfl rfl (ZR _ _ _) al3 (ρ:=ρ) kI iw (fun p hp=>?_) (fun p hp=>?_) (nofun) ai ai rfl).mono fun m1 T1 hd=>?_
 ·obtain rfl:=ad.1 hp;show decide ((Y.n:Int)<(((Y.n:Nat):Int).toNat:Int))=false;exact decide_eq_false (by omega)
 ·simp only[afT,ac,ae,or_false]at hp;rcases hp with rfl|rfl
  ·refine .inl ⟨_,_,lD,by simp,?_⟩;show some (c_ Y.n Y.TA Y.cT)=_;rw[cy h0];rfl
  ·refine .inl ⟨_,_,lD,by simp,?_⟩;show some (c_ Y.n Y.FA Y.cF)=_;rw[cy h0];rfl
 obtain⟨w1,bW,c9,d9,C⟩:=hd;obtain rfl:=C.none;refine⟨c9,On.of C.eG (cU C.heap) hS,?_⟩;have:=C.fr;simp only[feL,ah,ak]at this;rw[Aa (Y:=Y) (e:=e) (RB:=RB) (i:=0) (C.bE.bb 10) (C.bE.bb 82) (C.bE.ii 81) (C.bE.bb 21) (C.bE.ii 1) (C.bE.ii 23) (dC (B:=AB) (k:=L.length / 8) (q:=cA) (C.bE.bb 34) (C.bE.ii 70) (C.bE.ii 71)) (sv:=fO) rfl rfl]at this;exact this
noncomputable def y6(x:Nat)(zf k:Bool):List (cD×Nat×bM):=if k&&!zf then[((x,RK.app 1 2),35,.cH false 43 (v 72) [] [] [] ke (v 73))]else[]
noncomputable def Vk(zf:Bool):bM:=match zf with
 |true=>.row [i64 (v 5)] ke (v 101)
 |false=>.cH false 43 (v 72) [] [] [i64 (v 5)] ke (v 101)
noncomputable def Cv(x:Nat)(zf k:Bool):List (cD×Nat×bM):=if k then[((x,RK.app 1 2),101,Vk zf),((x,.dN),100,.cells [i64 (v 5)] ke)]else[]
theorem EN(x:Nat)(zf k:Bool):(y6 x zf k).map (·.2)=afV zf k:=by cases zf<;>cases k<;>rfl
theorem LM(x:Nat)(zf k:Bool):(Cv x zf k).map (·.2)=acm zf k:=by cases zf<;>cases k<;>rfl
theorem Z8(df:E.x≠E.a){kL:Nat}(o:On (E.put 2 (uY F FB ig)) bJ h N Y X (G fr cs) m T)(hf:LL Y.R e RB (c_ kL AB cA) F FB ig Y.n Y.FA Y.cF i fr)(hi:i<Y.n)(hl:F.length≤64)(vS:i≤1000000):
  cm aa m T fun m' T'=>∃bT G1 GC,On (E.put 2 (uY (if Y.dz i then F++[i]else F) G1 GC)) bJ h N Y X (G bT cs) m' T'∧LL Y.R e RB (c_ kL AB cA) (if Y.dz i then F++[i]else F) G1 GC Y.n Y.FA Y.cF (i+1) bT:=by
 obtain⟨w,A,H,hS⟩:=o;obtain⟨k,hk⟩:∃b,Y.dz i=b:=⟨_,rfl⟩;let zf:Bool:=decide (F.length=0);have yf:zf=true->F=[]:=fun e=>List.length_eq_zero_iff.1 (of_decide_eq_true e);have zI:zf=false->F≠[]:=fun e e2=>by have:=of_decide_eq_false e;rw[e2]at this;exact this rfl
 let ρ:=acr Y e RB kL AB cA i F FB ig;have hfa:(E.put 2 (uY F FB ig)).de Y X (E.x,.rZ)=some (Y.FA,.fF lV Y.cF (yQ Y)):=by unfold Wd.de;refine(bY (x:=E.x) rfl).trans ?_;show(if Y.n=0 then _ else _)=_;rw[if_neg (by omega)]
 have kI:dj aa ρ (feH (decide (kL=0)) zf (bU fr)) fr:=by refine hf.rel (.inl rfl) (feL (decide (kL=0)) zf (v 5)) ?_ rfl;have:=Aa (Y:=Y) (e:=e) (RB:=RB) (i:=i) (ρ:=ρ) (ie:=v 5) rfl rfl rfl rfl rfl rfl (dC (ρ:=ρ) (b:=34) (n:=70) (c:=71) (B:=AB) (k:=kL) (q:=cA) rfl rfl rfl) (dC (ρ:=ρ) (b:=35) (n:=72) (c:=73) (B:=FB) (k:=F.length) (q:=ig) rfl rfl rfl) rfl;simp only[feL,gz,ah,ak,AV.cf]at this⊢;simp only[List.cons.injEq,and_true]at this;obtain⟨t1,t2,t3,t4,t5,t6,t7,t8⟩:=this;rw[t1,t2,t3,t4,t6,t7,t8];show _::_::_::_::(6,(iL zf 35 72 73).ev ρ)::_=_;rw[t5]
 have hpre:mo ((E.put 2 (uY F FB ig)).de Y X) ρ (y6 E.x zf k):=fun p hp=>by
  unfold y6 at hp;split at hp
  ·rename_i hc;obtain rfl:=ad.1 hp;have hzf:zf=false:=by
    rw[ax,Bool.not_eq_true']at hc;exact hc.2
   refine⟨.fF ke ig (fH F),(yy df).trans (if_neg (zI hzf)),rfl,rfl,fun i hi=>?_,(nofun),rfl⟩;rw[Cp i hi];show(fH F).length=(((F.length:Nat):Int)).toNat*1;unfold fH;rw[bj];omega
  ·cases hp
 have hv:=ar6 (decide (kL=0)) zf k (bU fr);rw[<-EN E.x]at hv;have od:=ZT (decide (kL=0)) zf k (bU fr);rw[<-EN E.x]at od;refine(cQ (cC:=[]) (cs:=cs) A H hS (y6 E.x zf k) (Cv E.x zf k) hv (LM _ _ _).symm rfl od (al4 zf k) (ρ:=ρ) kI trivial (fun p hp=>?_) (fun p hp=>?_) hpre (by unfold y6;split<;>simp) (by unfold Cv;split<;>simp) (by unfold y6;split<;>rfl)).mono fun m1 T1 hd=>?_
 ·unfold afU at hp;rcases ay.1 hp with hp|hp
  ·simp only[LI,ac,ae,or_false]at hp;rcases hp with rfl|rfl
   ·show decide ((i:Int)<(((Y.n:Nat):Int).toNat:Int))=true;exact decide_eq_true (by omega)
   ·show decide ((0:Int)≤(i:Int))=true;exact decide_eq_true (by omega)
  ·generalize zf=zz at hp;cases zz<;>cases k<;>first|(cases hp;done)|skip
   obtain rfl:=ad.1 hp;show decide ((((F.length:Nat):Int).toNat:Int)+1≤1048576)=true;exact decide_eq_true (by omega)
 ·obtain rfl:=ad.1 hp;refine .inl ⟨_,_,hfa,by unfold y6;split<;>simp,?_⟩;show(yQ Y)[(((i:Nat):Int).toNat:Int).toNat]?=some (.bool k);rw[ap,ap];unfold yQ;rw[aZ,bn hi,<-hk];rfl
 obtain⟨w1,bW,c9,d9,C⟩:=hd;obtain rfl:=C.none;have z5:bW.i 5=i:=C.bE.ii 5;have z43:bW.v 43=.agg (fH F).toArray:=congrFun C.bE.v 43;have z72:bW.i 72=F.length:=C.bE.ii 72;have ky:∀{F':List Nat} {G1 GC:Nat},(ZS zf k).ev bW=c_ F'.length G1 GC->LL Y.R e RB (c_ kL AB cA) F' G1 GC Y.n Y.FA Y.cF (i+1) c9:=fun{F' G1 GC} he=>by have:=C.fr;dsimp only at this;rw[Aa (Y:=Y) (e:=e) (RB:=RB) (i:=i+1) (C.bE.bb 10) (C.bE.bb 82) (C.bE.ii 81) (C.bE.bb 21) (C.bE.ii 1) (C.bE.ii 23) (dC (B:=AB) (k:=kL) (q:=cA) (C.bE.bb 34) (C.bE.ii 70) (C.bE.ii 71)) he (by show o0 .add .i64 (bW.i 5) 1=_;rw[z5];exact add_one vS)]at this;exact this
 cases k with
 |false=>rw[hk];refine⟨c9,FB,ig,.of C.eG (cU C.heap) hS,ky ?_⟩;exact dC (B:=FB) (k:=F.length) (q:=ig) (C.bE.bb 35) z72 (C.bE.ii 73)
 |true=>
  rw[hk];refine⟨c9,bW.b 101,(bW.i 101).toNat,.of C.eG (C.heap.sub (cX [(E.x,.app 1 2),(E.x,.dN)] (fun r hr=>?_) (fun r hr=>?_) (fun p hp=>?_) fun r hr y hy=>?_)) (EK hS),ky ?_⟩
  ·have h1:r≠(E.x,.app 1 2):=fun e=>hr (by simp[e]);exact(mJ h1).trans (mJ h1).symm
  ·unfold y6 at hr;split at hr
   ·simp only[ah,ak,ad]at hr;subst hr;simp
   ·cases hr
  ·simp only[Cv,if_true,cr,ah,ak,ac,ae,or_false]at hp;rcases hp with rfl|rfl<;>simp
  ·simp only[ac,ae,or_false]at hr;rcases hr with rfl|rfl
   ·have e0:(E.put 2 (uY (F++[i]) (bW.b 101) (bW.i 101).toNat)).de Y X (E.x,.app 1 2)=some (bW.b 101,.fF ke (bW.i 101).toNat (fH (F++[i]))):=(yy df).trans (if_neg (by simp));cases e0.symm.trans hy;refine bX ?_;simp only[Cv,if_true,cr,ah,ak,aw,decide_true];have e1:fH (F++[i])=fH F++[iV i]:=by simp[fH]
    rw[e1];cases hzf:zf with
    |true=>simp only[Vk,cY,v,IE.ev,AV.cf,i64,AV.ev,z5,yf hzf];rfl
    |false=>simp only[Vk,cY,v,IE.ev,AV.cf,i64,AV.ev,z5,z43,gy];rfl
   ·cases(tM (E:=E.put 2 (uY (F++[i]) (bW.b 101) (bW.i 101).toNat)) (Y:=Y) (X:=X)).symm.trans hy
  ·rw[if_pos rfl,aD,show[i].length=1 from rfl,cy (Nat.succ_pos _)];cases hzf:zf with
   |true=>simp only[ZS,v,AV.ev,af,AA.ev,BR.ev,IE.ev,yf hzf];rfl
   |false=>simp only[ZS,v,AV.ev,af,AA.ev,BR.ev,IE.ev,z72];rfl
theorem Z9(df:E.x≠E.a){kL:Nat}(hn:Y.n≤64):∀(d i:Nat) {fr:Frame} {m:Machine} {T:Trace} {FB ig:Nat},i+d=Y.n->On (E.put 2 (uY (eY Y.dz i) FB ig)) bJ h N Y X (G fr cs) m T->LL Y.R e RB (c_ kL AB cA) (eY Y.dz i) FB ig Y.n Y.FA Y.cF i fr->
  cm aa m T fun m' T'=>∃bT G1 GC,On (E.put 2 (uY (eY Y.dz Y.n) G1 GC)) bJ h N Y X (G bT cs) m' T'∧LL Y.R e RB (c_ kL AB cA) (eY Y.dz Y.n) G1 GC Y.n Y.FA Y.cF Y.n bT:=by
 intro d
 induction d with
 |zero=>
  intro i fr m T FB ig hd o hf;obtain rfl:i=Y.n:=by omega
  exact cm.refl ⟨fr,FB,ig,o,hf⟩
 |succ d ih=>intro i fr m T FB ig hd o hf;have hl:=Cu Y.dz i;refine(Z8 df o hf (by omega) (by omega) (by omega)).trans fun m1 T1 xy=>?_;obtain⟨c9,FB1,azw,o1,h1⟩:=xy;rw[<-I9]at o1 h1;exact ih (i+1) (by omega) o1 h1
def Wd.lb(E:Wd)(L:cg):Wd:={E with LB:=L}
abbrev X12(B:Nat)(fr:Frame):Prop:=FA wT 30 afW [] .normal [(6,cb B)] fr
abbrev Cw(B:Nat)(fr:Frame):Prop:=FA wT 30 [.code .ret] [] .normal [(6,cb B)] fr
def fb(e:Int)(Y:GS)(kL AB cA kF FB ig:Nat):List Value:=[qn e,iV Y.cp.length,c_ (Y.db.length / 8) Y.LA Y.cL,c_ Y.cp.length Y.WA Y.cW,c_ Y.ready.length Y.RA Y.cR,c_ kL AB cA,c_ kF FB ig]
theorem LN{E:Wd}{L:cg}{Y:GS}{X:XS}{r:cD}(h:L r=E.LB r):(E.lb L).de Y X r=E.de Y X r:=by unfold Wd.de;show ci E.x Y (dM E.a X L) r=ci E.x Y (dM E.a X E.LB) r;have e:dM E.a X L r=dM E.a X E.LB r:=my h;unfold ci;rw[e]
theorem sk{E:Wd}{Y:GS}{X:XS}{k i:Nat}(df:E.x≠E.a):E.de Y X (E.x,.app k i)=E.LB (E.x,.app k i):=by unfold Wd.de;rw[ct rfl,lC df]
theorem Z_(df:E.x≠E.a){kL B:Nat}(o:On E bJ h N Y X (G fr (f12::cs)) m T)(hf:LL Y.R e RB (c_ kL AB cA) F FB ig Y.n Y.FA Y.cF Y.n fr)(Pd:X12 B f12)(xA:Y.ready.length=Y.cp.length)(e3:E.LB (E.x,.app 1 3)=some (RB,.obj ft l8))(e4:E.LB (E.x,.app 1 4)=some (B,.obj ft l8)):
  cm aa m T fun m' T'=>∃bT,On (E.lb (cg.set (cg.set E.LB (E.x,.app 1 3) (RB,.obj ft (fb e Y kL AB cA F.length FB ig))) (E.x,.app 1 4) (B,.obj ft (fb e Y kL AB cA F.length FB ig)))) bJ h N Y X (G bT cs) m' T'∧Cw B bT:=by
 obtain⟨w,A,H,hS⟩:=o;let ρ:cn:=gY [(1,Y.n),(5,Y.n),(6,Y.cp.length),(23,Y.cF),(25,Y.cW),(26,Y.cR),(36,(Y.db.length / 8:Nat)),(38,Y.cL),(70,kL),(71,cA),(72,F.length),(73,ig),(81,e)] [(10,Y.R),(21,Y.FA),(23,Y.WA),(24,Y.RA),(34,AB),(35,FB),(39,Y.LA),(82,RB),(84,B)] [];have kI:dj aa ρ (feH (decide (kL=0)) (decide (F.length=0)) (bU fr)) fr:=by refine hf.rel (.inl rfl) (feL (decide (kL=0)) (decide (F.length=0)) (v 5)) ?_ rfl;have:=Aa (Y:=Y) (e:=e) (RB:=RB) (i:=Y.n) (ρ:=ρ) (ie:=v 5) rfl rfl rfl rfl rfl rfl (dC (ρ:=ρ) (b:=34) (n:=70) (c:=71) (B:=AB) (k:=kL) (q:=cA) rfl rfl rfl) (dC (ρ:=ρ) (b:=35) (n:=72) (c:=73) (B:=FB) (k:=F.length) (q:=ig) rfl rfl rfl) rfl;simp only[feL,gz,ah,ak,AV.cf]at this⊢;simp only[List.cons.injEq,and_true]at this;obtain⟨t1,t2,t3,t4,t5,t6,t7,t8⟩:=this;rw[t1,t2,t3,t4,t5,t6,t7,t8]
 have iw:c8 aa ρ [Qg (bU f12)] [f12]:=⟨Pd.rel (.inl rfl) [(6,bF 84)] rfl rfl,trivial⟩;have q3:E.de Y X (E.x,.app 1 3)=some (RB,.obj ft l8):=(sk df).trans e3;have q4:E.de Y X (E.x,.app 1 4)=some (B,.obj ft l8):=(sk df).trans e4;let y:Bool:=decide (Y.cp.length=0);let lg:Bool:=decide (Y.db.length / 8=0);refine(cQ (cC:=[f12]) (cs:=cs) A H hS [((E.x,.app 1 4),84,.cells tN ft),((E.x,.app 1 3),82,.cells tN ft)] [((E.x,.app 1 4),84,.cells (LJ (decide (kL=0)) (decide (F.length=0)) y lg) ft),((E.x,.app 1 3),82,.cells (LJ (decide (kL=0)) (decide (F.length=0)) y lg) ft)] (ar8 (decide (kL=0)) (decide (F.length=0)) y lg (bU fr) (bU f12)) rfl rfl (ZU _ _ _ _) (al7 y lg) (ρ:=ρ) kI iw (fun p hp=>?_) (fun p hp=>?_) (fun p hp=>?_) (by simp) (by simp) rfl).mono fun m1 T1 hd=>?_
 ·obtain rfl:=ad.1 hp;show decide ((Y.n:Int)<(((Y.n:Nat):Int).toNat:Int))=false;exact decide_eq_false (by omega)
 ·simp only[reM,ac,ae,or_false]at hp;rcases hp with rfl|rfl|rfl
  ·refine .inl ⟨_,_,lD,by simp,?_⟩;show some (c_ (Y.db.length / 8) Y.LA Y.cL)=some ((iL lg 39 36 38).ev ρ);rw[dC (ρ:=ρ) (B:=Y.LA) (k:=Y.db.length / 8) (q:=Y.cL) rfl rfl rfl]
  ·refine .inl ⟨_,_,lD,by simp,?_⟩;show some (c_ Y.cp.length Y.WA Y.cW)=some ((iL y 23 6 25).ev ρ);rw[dC (ρ:=ρ) (B:=Y.WA) (k:=Y.cp.length) (q:=Y.cW) rfl rfl rfl]
  ·refine .inl ⟨_,_,lD,by simp,?_⟩;show some (c_ Y.ready.length Y.RA Y.cR)=some ((iL y 24 6 26).ev ρ);rw[dC (ρ:=ρ) (B:=Y.RA) (k:=Y.cp.length) (q:=Y.cR) rfl rfl rfl,xA]
 ·simp only[ac,ae,or_false]at hp;rcases hp with rfl|rfl
  ·exact⟨_,q4,rfl,rfl⟩
  ·exact⟨_,q3,rfl,rfl⟩
 obtain⟨w1,bW,c9,d9,C⟩:=hd;obtain rfl:=C.none;have y82:bW.b 82=RB:=C.bE.bb 82;have y84:bW.b 84=B:=C.bE.bb 84;have eV:AV.cf bW (LJ (decide (kL=0)) (decide (F.length=0)) y lg)=fb e Y kL AB cA F.length FB ig:=by
  have z6:bW.i 6=Y.cp.length:=C.bE.ii 6;have Z1:bW.i 81=e:=C.bE.ii 81;simp only[LJ,AV.cf];rw[dC (ρ:=bW) (B:=Y.LA) (k:=Y.db.length / 8) (q:=Y.cL) (C.bE.bb 39) (C.bE.ii 36) (C.bE.ii 38),dC (ρ:=bW) (B:=Y.WA) (k:=Y.cp.length) (q:=Y.cW) (C.bE.bb 23) z6 (C.bE.ii 25),dC (ρ:=bW) (B:=Y.RA) (k:=Y.cp.length) (q:=Y.cR) (C.bE.bb 24) z6 (C.bE.ii 26),dC (ρ:=bW) (B:=AB) (k:=kL) (q:=cA) (C.bE.bb 34) (C.bE.ii 70) (C.bE.ii 71),dC (ρ:=bW) (B:=FB) (k:=F.length) (q:=ig) (C.bE.bb 35) (C.bE.ii 72) (C.bE.ii 73)];unfold fb;rw[xA];have ew:(Gq y).ev bW=Y.cp.length:=by
   by_cases hw:Y.cp.length=0
   ·have:y=true:=decide_eq_true hw;rw[this,hw];rfl
   ·have:y=false:=decide_eq_false hw;rw[this];simp only[Gq,v,IE.ev,z6,ap]
  simp only[i8,i64,AV.ev,ew,v,IE.ev,Z1];rfl
 have di:∀b n,ny bJ b n->∃r k,(E.lb (cg.set (cg.set E.LB (E.x,.app 1 3) (RB,.obj ft (fb e Y kL AB cA F.length FB ig))) (E.x,.app 1 4) (B,.obj ft (fb e Y kL AB cA F.length FB ig)))).de Y X r=some (b,k)∧((Ek r=true∧(n=2∨n=3))∨Pf r=true):=fun b n hs=>by
  obtain⟨r,q,h1,h2⟩:=hS b n hs;have hr:r≠(E.x,.app 1 4)∧r≠(E.x,.app 1 3):=by constructor<;>(intro e;subst e;rcases h2 with h2|h2;cases h2.1;cases h2)
  exact⟨r,q,by rw[LN (by rw[cg.b7 hr.1,cg.b7 hr.2])];exact h1,h2⟩
 refine⟨c9,.of C.eG (C.heap.sub (cX [(E.x,.app 1 4),(E.x,.app 1 3)] (fun r hr=>?_) (fun r hr=>?_) (fun p hp=>?_) fun r hr q hq=>?_)) di,?_⟩
 ·refine LN ?_;rw[cg.b7 fun e=>hr (by simp[e]),cg.b7 fun e=>hr (by simp[e])]
 ·simp only[ah,ak,ac,ae,or_false]at hr;rcases hr with rfl|rfl<;>simp
 ·simp only[cr,ah,ak,ac,ae,or_false]at hp;rcases hp with rfl|rfl<;>simp
 ·simp only[ac,ae,or_false]at hr;rcases hr with rfl|rfl
  ·have e0:=(sk (E:=E.lb (cg.set (cg.set E.LB (E.x,.app 1 3) (RB,.obj ft (fb e Y kL AB cA F.length FB ig))) (E.x,.app 1 4) (B,.obj ft (fb e Y kL AB cA F.length FB ig)))) (Y:=Y) (X:=X) (k:=1) (i:=4) df).trans (cg.cj);cases e0.symm.trans hq;refine bX ?_;simp only[cr,ah,ak,aw,decide_true];simp only[cY,eV,y84]
  ·have e0:=(sk (E:=E.lb (cg.set (cg.set E.LB (E.x,.app 1 3) (RB,.obj ft (fb e Y kL AB cA F.length FB ig))) (E.x,.app 1 4) (B,.obj ft (fb e Y kL AB cA F.length FB ig)))) (Y:=Y) (X:=X) (k:=1) (i:=3) df).trans ((cg.b7 (by simp)).trans cg.cj);cases e0.symm.trans hq;refine bX ?_;simp only[cr,ah,ak,aw,Prod.mk.injEq,RK.app.injEq,and_false,decide_false,decide_true,true_and,reduceCtorEq,br];simp only[cY,eV,y82]
 ·have:=C.fr;simp only[AV.cf,bF,AV.ev,af,AA.ev,BR.ev,IE.ev,y84]at this;exact this
end
def GS.start(R MB:Nat):GS:={n:=0,th:=fun _=>⟨0,0,0,0,0,0,0⟩,ts:=fun _=>Pg,f:=fun _=>.nilFunc,dz:=fun _=>false,db:=[],cp:=[],ready:=[],mp:=[],dJ:=false,gG:=fun _=>none,R:=R,MB:=MB,TA:=0,cT:=0,FA:=0,cF:=0,LA:=0,cL:=0,WA:=0,cW:=0,RA:=0,cR:=0}
theorem LO(R MB:Nat):(GS.start R MB).runV=[fO,.map (some MB),fO,fO,fO,fO,.bool false]:=by
 have e:∀a b:Nat,c_ (([]:List Value).length / 8) a b=fO:=fun a b=>by rw[show([]:List Value).length / 8=0 from by simp];rfl
 unfold GS.runV runV GS.start;dsimp only;rw[e];rfl
def On0(E:Wd)(bJ:Nat->Option Tok.Seat)(h N:Nat)(X:XS)(g:Goroutine)(m:Machine)(T:Trace):Prop:=∃w,dD aa E.base E.W0 bJ h N m T g w∧bK aa E.base w (dM E.a X E.LB)∧cw (dM E.a X E.LB) bJ
def WK(n:Int):Int:=if n<0 then 0 else if 65536<n then 65536 else n
theorem EO(n:Int):0≤WK n∧WK n≤65536:=by
 unfold WK;split
 ·omega
 ·split<;>omega
abbrev Vl(pv bv:Value)(cd:Int)(fr:Frame):Prop:=FA wT 30 [.code (bQ Fn.run)] [] .normal [(0,pv),(1,iV cd),(2,bv)] fr
abbrev W12(B nH:Nat)(fr:Frame):Prop:=FA wT 30 afY [] .normal [(6,cb B),(7,cb nH)] fr
def lE(E:Wd)(pv:Value)(R qg nH B:Nat):cg:=cg.set (cg.set (cg.set E.LB (E.x,.app 2 1) (qg,.obj 37 [pv])) (E.x,.app 2 2) (nH,.obj wW [cb R])) (E.x,.app 1 4) (B,.obj ft l8)
theorem Cq.trans{E:Wd}{nb:Nat}{bI:List (List Sp)}{Y Y1 Y2:GS}{X X1 X2:XS}{st iO WI:dX}(a:Cq E nb bI Y X st Y1 X1 iO)(b:Cq E nb bI Y1 X1 iO Y2 X2 WI):Cq E nb bI Y X st Y2 X2 WI:=by
 induction b with
 |refl=>exact a
 |step _ m ih=>exact .step ih m
theorem P5.af6{E:Wd}{nb:Nat}{bI:List (List Sp)}{bJ fS:Nat->Option Tok.Seat}{h N N1 j:Nat}{Y Y1:GS}{X X1:XS}{x:Sp}{st iO:dX}(d:oX E nb bI bJ h N Y X j x st fS N1 Y1 X1 iO):Y.n≤Y1.n:=by
 rcases d with⟨_,_,_,_,e⟩|⟨AB,LA,cL,TO,jI,X2,nw,_,_,g,_⟩
 ·omega
 ·have:Y1.n=Y.n+1:=g.to.n;omega
theorem Cq.af6{E:Wd}{nb:Nat}{bI:List (List Sp)}{Y Y1:GS}{X X1:XS}{st iO:dX}(a:Cq E nb bI Y X st Y1 X1 iO):Y.n≤Y1.n:=by
 induction a with
 |refl=>exact aq _
 |step _ m ih=>
  cases m with
  |beg _ g=>have:=g.to.n;omega
  |HN hj hs d w k=>have h1:=P5.af6 d;have h2:=k.n;have h3:∀(Z:GS) (j r a b c d:Nat),(Z.lZ j r a b c d).n=Z.n:=fun _ _ _ _ _ _ _=>rfl;rw[h3]at h1;omega
section
variable {E:Wd}{PB nb fI N:Nat}{bI:List (List Sp)}{X:XS}{bJ:Nat->Option Tok.Seat}{cs:List Frame}{fr f12:Frame}{m:Machine}{T:Trace}{cd:Int}{FB nf cF PA cP:Nat}{cK:List Int}
noncomputable def Vm(cd:Int)(np PA cP nf FB cF:Nat):cn:=gY [(1,nf),(29,cF),(61,np),(62,cP),(86,cd)] [(28,FB),(60,PA)] []
theorem af7(df:E.x≠E.a)(pF:∀k,fm k=false->E.LB (E.x,k)=none)(o:On0 E bJ 0 N X (G fr cs) m T)(hf:Vl (c_ cK.length PA cP) (c_ nf FB cF) cd fr)(WJ:nf≤64):
  cm aa m T fun m' T'=>∃bT f12 R MB qg nH B,On (E.lb (lE E (c_ cK.length PA cP) R qg nH B)) bJ 0 N (GS.start R MB) X (G bT (f12::cs)) m' T'∧U_ R (WK cd) (c_ nf FB cF) (Lw qg nH) bT∧W12 B nH f12:=by
 obtain⟨w,A,H,hS⟩:=o;obtain⟨k,hk⟩:∃k:MoK,(∀p∈ZV k,p.1.ev (Vm cd cK.length PA cP nf FB cF)=p.2)∧(moA k).ev (Vm cd cK.length PA cP nf FB cF)=WK cd:=by
  unfold WK;by_cases h1:cd<0
  ·refine⟨.low,fun p hp=>?_,by rw[if_pos h1];rfl⟩;obtain rfl:=ad.1 hp;exact decide_eq_true h1
  ·by_cases h2:65536<cd
   ·refine⟨.high,fun p hp=>?_,by rw[if_neg h1,if_pos h2];rfl⟩;simp only[ZV,ac,ae,or_false]at hp;rcases hp with rfl|rfl
    ·exact decide_eq_false h1
    ·exact decide_eq_true h2
   ·refine⟨.is,fun p hp=>?_,by rw[if_neg h1,if_neg h2];rfl⟩;simp only[ZV,ac,ae,or_false]at hp;rcases hp with rfl|rfl
    ·exact decide_eq_false h1
    ·exact decide_eq_false h2
 let ρ:=Vm cd cK.length PA cP nf FB cF;let zp:Bool:=decide (cK.length=0);let zb:Bool:=decide (nf=0);have ep:(iL zp 60 61 62).ev ρ=c_ cK.length PA cP:=dC rfl rfl rfl;have eb:(iL zb 28 1 29).ev ρ=c_ nf FB cF:=dC rfl rfl rfl;have kI:dj aa ρ (ruE zp zb (bU fr)) fr:=by refine hf.rel (.inl rfl) [(0,iL zp 60 61 62),(1,i64 (v 86)),(2,iL zb 28 1 29)] ?_ rfl;simp only[gz,ah,ak,ep,eb];rfl
 have hbs:∀p∈ZW zb k,p.1.ev ρ=p.2:=fun p hp=>by
  unfold ZW at hp;rcases ay.1 hp with hp|hp
  ·exact hk.1 p hp
  ·generalize zb=z at hp;cases z with
   |true=>cases hp
   |false=>obtain rfl:=ad.1 hp;show decide ((((nf:Nat):Int).toNat:Int)>64)=false;exact decide_eq_false (by omega)
 refine(cQ (cC:=[]) (cs:=cs) A H hS [] [((E.x,.app 2 2),104,.cells [bF 103] wW),((E.x,.run),103,.cells (afX 102) gK),((E.x,.map),102,.map []),((E.x,.app 1 4),101,.cells tN ft),((E.x,.app 2 1),100,.cells [iL zp 60 61 62] 37)] (asa zp zb k (bU fr)) rfl rfl (ZX _ _ _) (al9 zb k) (ρ:=ρ) kI trivial hbs (nofun) (nofun) ai (by simp) rfl).mono fun m1 T1 hd=>?_;obtain⟨w1,bW,c9,d9,C⟩:=hd;obtain⟨g12,rfl,q12⟩:=C.one;have ep1:(iL zp 60 61 62).ev bW=c_ cK.length PA cP:=dC (C.bE.bb 60) (C.bE.ii 61) (C.bE.ii 62);have eb1:(iL zb 28 1 29).ev bW=c_ nf FB cF:=dC (C.bE.bb 28) (C.bE.ii 1) (C.bE.ii 29);have em1:(moA k).ev bW=WK cd:=by
  rw[<-hk.2];cases k with
  |low=>rfl
  |is=>exact C.bE.ii 86
  |high=>rfl
 let E1:Wd:=E.lb (lE E (c_ cK.length PA cP) (bW.b 103) (bW.b 100) (bW.b 104) (bW.b 101));have hx:∀r:cD,r≠(E.x,.app 2 2)->r≠(E.x,.app 1 4)->r≠(E.x,.app 2 1)->E1.LB r=E.LB r:=fun r h1 h2 h3=>by show lE E _ _ _ _ _ r=_;unfold lE;rw[cg.b7 h2,cg.b7 h1,cg.b7 h3]
 have hxl:∀r:cD,r≠(E.x,.app 2 2)->r≠(E.x,.app 1 4)->r≠(E.x,.app 2 1)->dM E.a X E1.LB r=dM E.a X E.LB r:=fun r h1 h2 h3=>my (hx r h1 h2 h3);have asi:∀r y,E1.de (GS.start (bW.b 103) (bW.b 102)) X r=some y->r≠(E.x,.app 2 2)->r≠(E.x,.run)->r≠(E.x,.map)->r≠(E.x,.app 1 4)->r≠(E.x,.app 2 1)->dM E.a X E.LB r=some y:=fun r y e h1 h2 h3 h4 h5=>by
  obtain⟨z,kk⟩:=r;unfold Wd.de at e;by_cases ha:fm kk=true
  ·rw[ct ha]at e;rw[<-hxl _ h1 h4 h5];exact e
  ·have sJ:fm kk=false:=by
    cases e:fm kk
    ·rfl
    ·exact absurd e ha
   by_cases hz:z=E.x
   ·subst hz;rw[show ci E1.x (GS.start (bW.b 103) (bW.b 102)) (dM E1.a X E1.LB) (E.x,kk)=eo (GS.start (bW.b 103) (bW.b 102)) kk from bY (x:=E.x) sJ]at e;cases kk with
    |run=>exact absurd rfl h2
    |map=>exact absurd rfl h3
    |app i i'=>cases sJ
    |_=>
     simp only[eo,GS.start]at e
     first|(cases e;done)|(simp at e;done)|(split at e<;>first|(cases e;done)|omega)
   ·rw[show ci E1.x (GS.start (bW.b 103) (bW.b 102)) (dM E1.a X E1.LB) (z,kk)=dM E.a X E1.LB (z,kk)from lu hz]at e;rw[<-hxl _ h1 h4 h5];exact e
 have lM:cw (E1.de (GS.start (bW.b 103) (bW.b 102)) X) bJ:=fun b n hs=>by
  obtain⟨r,q,h1,h2⟩:=hS b n hs;obtain⟨z,kk⟩:=r;have sJ:fm kk=false:=by
   rcases h2 with h2|h2
   ·cases kk<;>first|rfl|cases h2.1
   ·cases kk<;>first|rfl|cases h2
  have hz:z≠E.x:=fun e=>by subst e;rw[kJ sJ,pF kk sJ]at h1;cases h1
  refine⟨(z,kk),q,?_,h2⟩;unfold Wd.de;rw[show ci E1.x (GS.start (bW.b 103) (bW.b 102)) (dM E1.a X E1.LB) (z,kk)=dM E.a X E1.LB (z,kk)from lu hz,hxl _ (fun e=>hz (by cases e;rfl)) (fun e=>hz (by cases e;rfl)) (fun e=>hz (by cases e;rfl))];exact h1
 refine⟨c9,g12,bW.b 103,bW.b 102,bW.b 100,bW.b 104,bW.b 101,.of C.eG (C.heap.sub fun r y hy=>?_) lM,?_,?_⟩
 ·by_cases h1:r=(E.x,.app 2 2)
  ·subst h1;have e0:E1.de (GS.start (bW.b 103) (bW.b 102)) X (E.x,.app 2 2)=some (bW.b 104,.obj wW [cb (bW.b 103)]):=(sk (E:=E1) df).trans (by show lE E (c_ cK.length PA cP) (bW.b 103) (bW.b 100) (bW.b 104) (bW.b 101) (E.x,.app 2 2)=_;unfold lE;rw[cg.b7 (by simp),cg.cj]);cases e0.symm.trans hy;refine bX ?_;simp only[cr,ah,ak,aw,decide_true];rfl
  by_cases h2:r=(E.x,.run)
  ·subst h2;cases(lD (E:=E1) (X:=X)).symm.trans hy;refine bX ?_;simp only[cr,ah,ak,aw,Prod.mk.injEq,reduceCtorEq,and_false,decide_false,decide_true];rw[LO];simp only[cY,afX,eU,Pk,ff,AV.cf,AV.ev,bu,af,BR.ev,IE.ev,BE.ev];rfl
  by_cases h3:r=(E.x,.map)
  ·subst h3;have e0:E1.de (GS.start (bW.b 103) (bW.b 102)) X (E.x,.map)=some (bW.b 102,.map []):=by
    unfold Wd.de;exact(bY (x:=E.x) rfl).trans rfl
   cases e0.symm.trans hy;refine bX ?_;simp only[cr,ah,ak,aw,Prod.mk.injEq,reduceCtorEq,and_false,decide_false,decide_true];rfl
  by_cases h4:r=(E.x,.app 1 4)
  ·subst h4;have e0:E1.de (GS.start (bW.b 103) (bW.b 102)) X (E.x,.app 1 4)=some (bW.b 101,.obj ft l8):=(sk (E:=E1) df).trans (by show lE E (c_ cK.length PA cP) (bW.b 103) (bW.b 100) (bW.b 104) (bW.b 101) (E.x,.app 1 4)=_;unfold lE;rw[cg.cj]);cases e0.symm.trans hy;refine bX ?_;simp only[cr,ah,ak,aw,Prod.mk.injEq,RK.app.injEq,reduceCtorEq,br,and_false,and_true,true_and,decide_false,decide_true];rfl
  by_cases h5:r=(E.x,.app 2 1)
  ·subst h5;have e0:E1.de (GS.start (bW.b 103) (bW.b 102)) X (E.x,.app 2 1)=some (bW.b 100,.obj 37 [c_ cK.length PA cP]):=(sk (E:=E1) df).trans (by show lE E (c_ cK.length PA cP) (bW.b 103) (bW.b 100) (bW.b 104) (bW.b 101) (E.x,.app 2 1)=_;unfold lE;rw[cg.b7 (by simp),cg.b7 (by simp),cg.cj]);cases e0.symm.trans hy;refine bX ?_;simp only[cr,ah,ak,aw,Prod.mk.injEq,RK.app.injEq,reduceCtorEq,br,and_false,and_true,true_and,decide_false,decide_true];simp only[cY,AV.cf,ep1]
  rw[jj (by simp) fun p hp e=>?_]
  ·exact asi r y hy h1 h2 h3 h4 h5
  ·simp only[cr,ah,ak,ac,ae,or_false]at hp;rcases hp with rfl|rfl|rfl|rfl|rfl
   ·exact h1 e.symm
   ·exact h2 e.symm
   ·exact h3 e.symm
   ·exact h4 e.symm
   ·exact h5 e.symm
 ·have:=C.fr;simp only[AV.cf,eb1,bF,acn,i64,AV.ev,em1,af,AA.ev,BR.ev,IE.ev]at this;exact this
 ·simp only[AV.cf,bF,AV.ev,af,AA.ev,BR.ev,IE.ev]at q12;exact q12
theorem NO{Y:GS}{B nH:Nat}{e:Int}{r31:cD}{k31:fK}(o:On E bJ 0 N Y X (G fr (f12::cs)) m T)(hf:yw e true fr)(Pd:W12 B nH f12)(e31:E.de Y X r31=some (nH,k31))(g31:k31.cell 0=some (cb Y.R)):
  cm aa m T fun m' T'=>∃bT f12,On E bJ 0 N Y X (G bT (f12::cs)) m' T'∧Vf Y.R e bT∧X12 B f12:=by
 obtain⟨w,A,H,hS⟩:=o;obtain⟨k,hf⟩:=hf;let ρ:cn:=gY [(81,e)] [(10,Y.R),(83,nH),(84,B)] [];have iw:c8 aa ρ [afZ (bU f12)] [f12]:=⟨Pd.rel (.inl rfl) [(6,bF 84),(7,bF 83)] rfl rfl,trivial⟩;refine(cQ (cC:=[f12]) (cs:=cs) A H hS [] [] (asb (bU fr) (bU f12) k) rfl rfl (ZY _ _ _) al' (ρ:=ρ) (hf.rel (.inl rfl) [(8,i8 (v 81)),(9,TB)] rfl rfl) iw (nofun) (fun p hp=>?_) (nofun) ai ai rfl).mono fun m1 T1 hd=>?_
 ·obtain rfl:=ad.1 hp;exact .inl ⟨_,_,e31,by simp,g31⟩
 obtain⟨w1,bW,c9,d9,C⟩:=hd;obtain⟨g12,rfl,q12⟩:=C.one;have Z1:bW.i 81=e:=C.bE.ii 81;have mr:bW.b 10=Y.R:=C.bE.bb 10;have y84:bW.b 84=B:=C.bE.bb 84;refine⟨c9,g12,On.of C.eG (cU C.heap) hS,?_,?_⟩
 ·have:=C.fr;simp only[AV.cf,bF,i8,v,AV.ev,af,AA.ev,BR.ev,IE.ev,mr,Z1]at this;exact this
 ·simp only[AV.cf,bF,AV.ev,af,AA.ev,BR.ev,IE.ev,y84]at q12;exact q12
end
theorem qM.to{LB LB':cg}{a:Nat}{bv:Value}{i:Nat}{l:List Sp}(hl:∀r,LB' (a,.app 3 r)=LB (a,.app 3 r))(h:qM LB a bv i l):qM LB' a bv i l:=by
 rcases h with h|⟨SB,off,n,cap,r,kk,h1,h2,h3,h4,h5,h6⟩
 ·exact .inl h
 ·exact .inr ⟨SB,off,n,cap,r,kk,h1,h2,h3,h4,(hl r).trans h5,h6⟩
theorem JH.to{E:Wd}{L:cg}{PB nb fI:Nat}{bI:List (List Sp)}(B:JH E PB nb fI bI)(hl:∀r:cD,r.1=E.a->L r=E.LB r):JH (E.lb L) PB nb fI bI:=by obtain⟨kB,h1,h2⟩:=B.arr;refine⟨⟨kB,(hl _ rfl).trans h1,fun i l e=>?_⟩,B.ok,B.len,B.size,B.ne⟩;obtain⟨bv,g1,g2⟩:=h2 i l e;exact⟨bv,g1,g2.to fun r=>hl _ rfl⟩
theorem Crew.halt{E:Wd}{nb N:Nat}{Y:GS}{X:XS}{bJ:Nat->Option Tok.Seat}{st:dX}(C:Crew E nb N Y X bJ st):Crew E nb N (Y.halt Y.ts) X bJ st:=
 ⟨fun i hi=>(C.on i hi).eL ⟨rfl,rfl,rfl,rfl,rfl,rfl,rfl,rfl,rfl,rfl,rfl⟩ rfl,C.gn,C.inj,C.only⟩
section
variable {E:Wd}{PB nb fI N:Nat}{bI:List (List Sp)}{Y:GS}{X:XS}{bJ:Nat->Option Tok.Seat}{cs:List Frame}{fr f12:Frame}{m:Machine}{T:Trace}{cd:Int}{FB nf cF PA cP:Nat}{cK:List Int}{e:Int}
theorem NP{h:Nat}{g:Goroutine}(df:E.x≠E.a)(k:Nat)(o:On E bJ h N Y X g m T):On (E.put k none) bJ h N Y X g m T:=by
 obtain⟨w,A,H,hS⟩:=o;refine⟨w,A,H.sub fun r y hy=>?_,EL hS⟩;by_cases h:r=(E.x,.app 1 k)
 ·subst h;rw[yy df]at hy;cases hy
 ·rw[mJ h]at hy;exact hy
theorem LP(df:E.x≠E.a){B:Nat}(o:On E bJ 0 N Y X (G fr (f12::cs)) m T)(hf:Vf Y.R e fr)(Pd:X12 B f12)(h0:Y.n=0)(pi:Y.db=[])(hw:Y.cp=[])(xA:Y.ready=[])(di:Y.dJ=false)(e4:E.LB (E.x,.app 1 4)=some (B,.obj ft l8)):
  cm aa m T fun m' T'=>∃bT,On (E.lb (cg.set E.LB (E.x,.app 1 4) (B,.obj ft (fb e Y 0 0 0 0 0 0)))) bJ 0 N (Y.halt Y.ts) X (G bT cs) m' T'∧Cw B bT:=by
 obtain⟨w,A,H,hS⟩:=o;let ρ:cn:=gY [(81,e)] [(10,Y.R),(15,Y.MB),(84,B)] [];have iw:c8 aa ρ [Qg (bU f12)] [f12]:=⟨Pd.rel (.inl rfl) [(6,bF 84)] rfl rfl,trivial⟩;have q4:E.de Y X (E.x,.app 1 4)=some (B,.obj ft l8):=(sk df).trans e4;have hz:∀a b:Nat,c_ (([]:List Value).length / 8) a b=fO:=fun a b=>by rw[show([]:List Value).length / 8=0 from by simp];rfl
 have fJ:∀s:Bool,[c_ Y.n Y.TA Y.cT,.map (some Y.MB),c_ (Y.db.length / 8) Y.LA Y.cL,c_ Y.cp.length Y.WA Y.cW,c_ Y.ready.length Y.RA Y.cR,c_ Y.n Y.FA Y.cF,.bool s]=[fO,.map (some Y.MB),fO,fO,fO,fO,.bool s]:=fun s=>by rw[h0,pi,hw,xA,hz];rfl
 have Jw:∀(bL:cn) (s:Bool),bL.b 15=Y.MB->AV.cf bL [eU,Pk 15,eU,eU,eU,eU,tr s]=[fO,.map (some Y.MB),fO,fO,fO,fO,.bool s]:=fun bL s h=>by simp only[eU,Pk,tr,AV.cf,AV.ev,bu,af,BR.ev,IE.ev,BE.ev,h];rfl
 refine(cQ (cC:=[f12]) (cs:=cs) A H hS [((E.x,.app 1 4),84,.cells tN ft),((E.x,.run),10,.cells [eU,Pk 15,eU,eU,eU,eU,tr false] gK)] [((E.x,.dN),100,.cells nbV ft),((E.x,.app 1 4),84,.cells nbV ft),((E.x,.run),10,.cells [eU,Pk 15,eU,eU,eU,eU,tr true] gK)] (asc (bU fr) (bU f12)) rfl rfl (ZZ _ _) nU (ρ:=ρ) (hf.rel (.inl rfl) [(0,bF 10),(1,i8 (v 81))] rfl rfl) iw (nofun) (nofun) (fun p hp=>?_) (by simp) (by simp) rfl).mono fun m1 T1 hd=>?_
 ·simp only[ac,ae,or_false]at hp;rcases hp with rfl|rfl
  ·exact⟨_,q4,rfl,rfl⟩
  ·refine⟨.obj gK Y.runV,lD,rfl,?_⟩;show AV.cf ρ _=Y.runV;rw[Jw ρ false rfl,<-fJ false];show _=[c_ Y.n Y.TA Y.cT,.map (some Y.MB),c_ (Y.db.length / 8) Y.LA Y.cL,c_ Y.cp.length Y.WA Y.cW,c_ Y.ready.length Y.RA Y.cR,c_ Y.n Y.FA Y.cF,.bool Y.dJ];rw[di]
 obtain⟨w1,bW,c9,d9,C⟩:=hd;obtain rfl:=C.none;have mr:bW.b 10=Y.R:=C.bE.bb 10;have Wz:bW.b 15=Y.MB:=C.bE.bb 15;have y84:bW.b 84=B:=C.bE.bb 84;have Z1:bW.i 81=e:=C.bE.ii 81;have eV:AV.cf bW nbV=fb e Y 0 0 0 0 0 0:=by unfold fb;rw[pi,hw,xA,hz];simp only[nbV,i8,i64,eU,AV.cf,AV.ev,bu,v,IE.ev,Z1];rfl
 let E':Wd:=E.lb (cg.set E.LB (E.x,.app 1 4) (B,.obj ft (fb e Y 0 0 0 0 0 0)));have S0:∀{r:cD},r≠(E.x,.app 1 4)->E'.de Y X r=E.de Y X r:=fun{r} h=>LN (cg.b7 h);have ck:gD (E'.de Y X) (E'.de (Y.halt Y.ts) X):=d4 (aq _) fun _ _=>rfl;have af4:cw (E'.de Y X) bJ:=fun b n hs=>by
  obtain⟨r,q,h1,h2⟩:=hS b n hs;have hr:r≠(E.x,.app 1 4):=by
   intro e;subst e;rcases h2 with h2|h2
   ·cases h2.1
   ·cases h2
  exact⟨r,q,(S0 hr).trans h1,h2⟩
 have hlh:∀{r:cD},r≠(E.x,.run)->E'.de (Y.halt Y.ts) X r=E'.de Y X r:=fun{r} h=>by
  obtain⟨z,k⟩:=r;unfold Wd.de ci;dsimp only;cases k<;>first|rfl|skip
  by_cases hz:z=E'.x
  ·subst hz;exact absurd rfl h
  ·show(if z=E'.x then _ else _)=(if z=E'.x then _ else _);rw[if_neg hz,if_neg hz]
 refine⟨c9,.of C.eG (C.heap.sub (cX [(E.x,.app 1 4),(E.x,.dN),(E.x,.run)] (fun r hr=>?_) (fun r hr=>?_) (fun p hp=>?_) fun r hr q hq=>?_)) (ck.still af4),?_⟩
 ·exact(hlh fun e=>hr (by simp[e])).trans (S0 fun e=>hr (by simp[e]))
 ·simp only[ah,ak,ac,ae,or_false]at hr;rcases hr with rfl|rfl<;>simp
 ·simp only[cr,ah,ak,ac,ae,or_false]at hp;rcases hp with rfl|rfl|rfl<;>simp
 ·simp only[ac,ae,or_false]at hr;rcases hr with rfl|rfl|rfl
  ·have e0:=(sk (E:=E') (Y:=Y.halt Y.ts) (X:=X) (k:=1) (i:=4) df).trans (cg.cj);cases e0.symm.trans hq;refine bX ?_;simp only[cr,ah,ak,aw,Prod.mk.injEq,reduceCtorEq,and_false,decide_false,decide_true];simp only[cY,eV,y84]
  ·cases(tM (E:=E') (Y:=Y.halt Y.ts) (X:=X)).symm.trans hq
  ·cases(lD (E:=E') (X:=X) (Y:=Y.halt Y.ts)).symm.trans hq;refine bX ?_;simp only[cr,ah,ak,aw,Prod.mk.injEq,reduceCtorEq,and_false,decide_false,decide_true];have e1:AV.cf bW [eU,Pk 15,eU,eU,eU,eU,tr true]=(Y.halt Y.ts).runV:=by
    rw[Jw bW true Wz,<-fJ true];rfl
   simp only[cY,e1,mr];rfl
 ·have:=C.fr;simp only[AV.cf,bF,AV.ev,af,AA.ev,BR.ev,IE.ev,y84]at this;exact this
structure Vn(E:Wd)(PB nb fI:Nat)(bI:List (List Sp))(X:XS)(cd:Int)(E':Wd)(c6:Nat->Option Tok.Seat)(Y1:GS)(X1:XS)(iO:dX)(cl:List Nat)(Y':GS)(X':XS)(B:Nat)(e:Int)(L:List Value)(AB cA FB ig:Nat):Prop where
 lb:∃LB,E'=E.lb LB∧∀r:cD,r.1≠E.x->LB r=E.LB r
 Vo:E'.LB (E.x,.app 1 4)=some (B,.obj ft (fb e Y' (L.length / 8) AB cA (eY Y'.dz Y'.n).length FB ig))
 left:E'.LB (E.x,.app 1 1)=kh L AB cA
 dz:E'.LB (E.x,.app 1 2)=uY (eY Y'.dz Y'.n) FB ig
 mvs:∃E1 R MB,Cq E1 nb bI (GS.start R MB) X (fun _=>none) Y1 X1 iO
 amh:U8 X1 iO Y1.n Y1.cp.length cd e
 nI:iP cl X1 iO Y1.n L
 halt:∃ts,Y'=Y1.halt ts
 eL:uX X1 X'
 inv:Inv PB nb fI Y1 X1 iO cl
 done:∀j,j<Y1.n->(Y'.ts j).e=true∧(Y'.ts j).a.length=8
 count:X'.s.ended=X'.s.f0.length
 k7:(∀j,j<Y1.n->iO j=none)->X'=X1
 only:∀i s,c6 i=some s->∃z k,z≠E.x∧fm k=false∧E'.LB (z,k)=some (s.c,.chan)
 cp:(Y1.cp.length:Int)≤cd
theorem Z'(B:JH E PB nb fI bI)(F:ZH E X FB nf)(JA:cK≠[]->∃k,E.LB (E.x,.app 2 0)=some (PA,k)∧∀i n,cK[i]?=some n->k.cell i=some (iV n))(j_:∀i,E.LB (E.x,.app 1 i)=none)(pF:∀k,fm k=false->E.LB (E.x,k)=none)(Q3:X.s.tl=[])(xi:X.s.f0=[])(vL:X.s.ended=0)(hq:X.s.q.length=4)(vB:nf≠0->X.s.q[0]?=some (.slice (some ⟨PB,0,none⟩) nb fI))(WJ:nf≤nb)(afC:nf≤64)(ami:∀i s,bJ i=some s->∃z k,z≠E.x∧fm k=false∧E.LB (z,k)=some (s.c,.chan))(o:On0 E bJ 0 N X (G fr cs) m T)(hf:Vl (c_ cK.length PA cP) (c_ nf FB cF) cd fr):
  cm aa m T fun m' T'=>∃E' c6 N' Y1 X1 iO cl Y' X' Bk e L AB cA FBk ig bT,On E' c6 0 N' Y' X' (G bT cs) m' T'∧Cw Bk bT∧Vn E PB nb fI bI X (WK cd) E' c6 Y1 X1 iO cl Y' X' Bk e L AB cA FBk ig:=by
 have df:=B.ne;refine(af7 df pF o hf afC).trans fun m1 T1 hd=>?_;obtain⟨c9,f12,R,MB,qg,nH,Bk,o1,h1,Pd⟩:=hd;let Q7:cg:=lE E (c_ cK.length PA cP) R qg nH Bk;let E1:Wd:=E.lb Q7;have hE1:∀r:cD,r≠(E.x,.app 2 2)->r≠(E.x,.app 1 4)->r≠(E.x,.app 2 1)->Q7 r=E.LB r:=fun r g1 g2 g3=>by show lE E _ _ _ _ _ r=_;unfold lE;rw[cg.b7 g2,cg.b7 g1,cg.b7 g3]
 have l1:Q7 (E.x,.app 2 2)=some (nH,.obj wW [cb R]):=by show lE E (c_ cK.length PA cP) R qg nH Bk (E.x,.app 2 2)=_;unfold lE;rw[cg.b7 (by simp),cg.cj]
 have l2:Q7 (E.x,.app 1 4)=some (Bk,.obj ft l8):=by show lE E (c_ cK.length PA cP) R qg nH Bk (E.x,.app 1 4)=_;unfold lE;rw[cg.cj]
 have l3:Q7 (E.x,.app 2 1)=some (qg,.obj 37 [c_ cK.length PA cP]):=by show lE E (c_ cK.length PA cP) R qg nH Bk (E.x,.app 2 1)=_;unfold lE;rw[cg.b7 (by simp),cg.b7 (by simp),cg.cj]
 have pU:∀r:cD,r.1≠E.x->Q7 r=E.LB r:=fun r hr=>hE1 r (fun e=>hr (by rw[e])) (fun e=>hr (by rw[e])) (fun e=>hr (by rw[e]));have B1:JH E1 PB nb fI bI:=B.to fun r hr=>pU r (by rw[hr];exact df.symm);have P1:Zy E1 R qg nH PA cP cK:=⟨⟨_,l3,rfl⟩,⟨_,l1,rfl⟩,fun h=>by obtain⟨k,g1,g2⟩:=JA h;exact⟨k,(hE1 _ (by simp) (by simp) (by simp)).trans g1,g2⟩⟩
 have F1:ZH E1 X FB nf:=⟨fun h=>by obtain⟨k,g1,g2⟩:=F.arr h;exact⟨k,(hE1 _ (by simp) (by simp) (by simp)).trans g1,g2⟩⟩
 have af9:E1.LB (E1.x,.app 1 0)=none:=(hE1 _ (by simp) (by simp) (by simp)).trans (j_ 0);have hmr:=EO cd;have Vp:∀i s,bJ i=some s->∃z k,z≠E1.x∧fm k=false∧E1.LB (z,k)=some (s.c,.chan):=fun i s e=>by obtain⟨z,k,g1,g2,g3⟩:=ami i s e;exact⟨z,k,g1,g2,(pU _ g1).trans g3⟩
 have C0:Crew E1 nb N (GS.start R MB) X bJ (fun _=>none):=⟨fun j hj=>absurd hj (Nat.not_lt_zero _),fun j hj=>absurd hj (Nat.not_lt_zero _),fun i j hi=>absurd hi (Nat.not_lt_zero _),fun i s e=>.inr (Vp i s e)⟩;have I0:Inv PB nb fI (GS.start R MB) X (fun _=>none) []:=⟨Nat.zero_le _,rfl,by show([]:List Value).length=8*(([]:List Value).length / 8);simp,by show([]:List Value).length / 8+0≤0+6002*0;simp,by rw[Q3];simp,by rw[Q3];simp,by rw[xi];simp,⟨0,vL,by rw[xi];rfl⟩,hq,(fun h=>absurd rfl h),rfl,rfl,ai,(fun c hc=>by cases hc),fun _ _=>rfl⟩;by_cases h0:nf=0
 ·
  subst h0;refine(ZI o1 h1).trans fun m2 T2 hd=>?_;obtain⟨iE,o2,h2⟩:=hd;refine(IX o2 h2 rfl).trans fun m3 T3 hd=>?_;obtain⟨kH,o3,h3⟩:=hd;refine(NO o3 h3 Pd ((sk (E:=E1) (Y:=GS.start R MB) (X:=X) df).trans l1) rfl).trans fun m4 T4 hd=>?_;obtain⟨zV,g12,o4,h4,af_⟩:=hd;refine(LP (E:=E1) df o4 h4 af_ rfl rfl rfl rfl rfl l2).mono fun m5 T5 hd=>?_;obtain⟨Uo,o5,h5⟩:=hd;refine⟨_,bJ,N,GS.start R MB,X,fun _=>none,[],_,X,Bk,1,[],0,0,0,0,Uo,o5,h5,?_⟩;refine⟨⟨_,rfl,fun r hr=>?_⟩,?_,?_,?_,⟨E1,R,MB,.refl⟩,.inl ⟨rfl,fun _ _=>rfl⟩,.zero,⟨_,rfl⟩,.refl,I0,fun j hj=>absurd hj (Nat.not_lt_zero _),by rw[vL,xi];rfl,fun _=>rfl,fun i s e=>?_,hmr.1⟩
  ·exact(cg.b7 fun e=>hr (by rw[e];rfl)).trans (pU r hr)
  ·exact cg.cj.trans (by simp[fb,eY,GS.halt,GS.start])
  ·exact(cg.b7 (by simp)).trans ((hE1 _ (by simp) (by simp) (by simp)).trans (j_ 1))
  ·exact(cg.b7 (by simp)).trans ((hE1 _ (by simp) (by simp) (by simp)).trans (j_ 2))
  ·obtain⟨z,k,g1,g2,g3⟩:=Vp i s e;exact⟨z,k,g1,g2,(cg.b7 fun e=>g1 (by cases e;rfl)).trans g3⟩
 ·refine(afA o1 h1 h0).trans fun m2 T2 hd=>?_;obtain⟨iE,o2,h2⟩:=hd;refine(ZK B1 (fun h X' e=>by rw[e];exact vB h) WJ afC F1 nf 0 (by omega) rfl rfl rfl rfl (fun _ _=>⟨rfl,rfl⟩) C0 I0 o2 h2).trans fun m3 T3 hd=>?_;obtain⟨azB,N3,Y3,X3,st3,kH,o3,h3,C3,I3,mv3,hR3,hw3,hn3⟩:=hd;refine(afy B1 af9 hmr.2 (WK cd).toNat (by rw[hw3];simp) (by rw[hR3];exact P1) C3 I3 o3 (by rw[hR3];exact h3) (by rw[hw3];exact hmr.1)).trans fun m4 T4 hd=>?_;obtain⟨e,ZL,N4,Y4,X4,st4,cl4,zV,o4,h4,he4,C4,I4,mv4,hR4,asm⟩:=hd;have hn4:0<Y4.n:=by have:=mv4.af6;omega
  have hRR:Y4.R=R:=hR4.trans hR3;refine(NO o4 h4 Pd ((sk (E:=E1) (Y:=Y4) (X:=X4) df).trans l1) (by rw[hRR];rfl)).trans fun m5 T5 hd=>?_;obtain⟨Uo,g12,o5,h5,af_⟩:=hd;refine(af2 (E:=E1) df o5 h5 hn4 ((hE1 _ (by simp) (by simp) (by simp)).trans (j_ 3))).trans fun m6 T6 hd=>?_;obtain⟨fr6,f39,RB,o6,h6,h39⟩:=hd;let E2:Wd:=E1.put 3 (some (RB,.obj ft l8));have C5:Crew E2 nb N4 Y4 X4 ZL st4:=C4.put df;refine(Z5 (E:=E2) df I4.q I4.mp C5.on I4.n Y4.n 0 (by omega) (L:=[]) (AB:=0) (cA:=0) (NP (E:=E2) df 1 o6) h6 .zero).trans fun m7 T7 hd=>?_;obtain⟨fr7,L,AB,cA,o7,h7,hL⟩:=hd;let E3:Wd:=E2.put 1 (kh L AB cA);refine(af3 (E:=E3) df o7 h7 I4.dJ hn4).trans fun m8 T8 hd=>?_;obtain⟨fr8,o8,h8⟩:=hd;have C6:Crew E3 nb N4 (Y4.halt Y4.ts) X4 ZL st4:=(Crew.put (E:=E2) (k:=1) (o:=kh L AB cA) df C5).halt;have hIn:=I4.n;have ZF:=I4.pot;refine(Qk (E:=E3) (PB:=PB) (fI:=fI) (Y0:=Y4) (X0:=X4) (st0:=st4) df I4.n I4.q (I4.q0 (by omega)) I4.db (fun j x c hj di=>?_) (by have:=I4.f0;omega) Y4.n 0 (by omega) .refl C6 I4.ended (fun j hj=>absurd hj (Nat.not_lt_zero _)) (fun _ _=>rfl) o8 h8).trans fun m9 T9 hd=>?_
  ·have:=I7 (f:=I6) (st:=st4) hj;rw[di]at this;simp only[I6]at this;omega
  obtain⟨asn,ts9,X9,st9,fr9,o9,h9,hX9,C9,he9,hd9,hq9⟩:=hd;refine(Vj (E:=E3) (Y:=Y4.halt ts9) o9 h9 h39 hn4).trans fun m10 T10 hd=>?_;obtain⟨af',o10,zY⟩:=hd;refine(Z9 (E:=E3) (Y:=Y4.halt ts9) df I4.n Y4.n 0 (by show 0+Y4.n=Y4.n;omega) (NP (E:=E3) df 2 o10) zY).trans fun m11 T11 hd=>?_;obtain⟨amj,FBk,ig,o11,Dj⟩:=hd;let E4:Wd:=E3.put 2 (uY (eY (Y4.halt ts9).dz (Y4.halt ts9).n) FBk ig);have e3:E4.LB (E4.x,.app 1 3)=some (RB,.obj ft l8):=by show(if _ then _ else if _ then _ else if _ then _ else _)=_;rw[if_neg (by simp),if_neg (by simp)];exact if_pos rfl
  have e4:E4.LB (E4.x,.app 1 4)=some (Bk,.obj ft l8):=by show(if _ then _ else if _ then _ else if _ then _ else Q7 (E.x,.app 1 4))=_;rw[if_neg (by simp),if_neg (by simp),if_neg (by simp)];exact l2
  refine(Z_ (E:=E4) (Y:=Y4.halt ts9) df o11 Dj af_ I4.rd e3 e4).mono fun m12 T12 hd=>?_;obtain⟨asq,o12,asr⟩:=hd;have ass:∀r:cD,r.1≠E.x->E4.LB r=E.LB r:=fun r hr=>by show(if _ then _ else if _ then _ else if _ then _ else Q7 r)=_;rw[if_neg (fun e=>hr (by rw[e];rfl)),if_neg (fun e=>hr (by rw[e];rfl)),if_neg (fun e=>hr (by rw[e];rfl))];exact pU r hr
  refine⟨_,asn,N4,Y4,X4,st4,cl4,Y4.halt ts9,X9,Bk,e,L,AB,cA,FBk,ig,asq,o12,asr,?_⟩;refine⟨⟨_,rfl,fun r hr=>?_⟩,cg.cj,?_,?_,⟨E1,R,MB,mv3.trans mv4⟩,he4,hL,⟨_,rfl⟩,hX9,I4,fun j hj=>?_,?_,fun jc=>hq9 jc,fun i s es=>?_,asm⟩
  ·exact(cg.b7 fun e=>hr (by rw[e];rfl)).trans ((cg.b7 fun e=>hr (by rw[e];rfl)).trans (ass r hr))
  ·refine(cg.b7 (by simp)).trans ((cg.b7 (by simp)).trans ?_);show(if _ then _ else if _ then _ else _)=_;rw[if_neg (by simp)];exact if_pos rfl
  ·refine(cg.b7 (by simp)).trans ((cg.b7 (by simp)).trans ?_);exact if_pos rfl
  ·have a:=C9.on j hj;rw[hd9 j hj]at a;exact a
  ·obtain⟨en,zh,Df⟩:=he9;have hz:wt xm st9 Y4.n=0:=by
    have:∀n,n≤Y4.n->wt xm st9 n=0:=by
     intro n
     induction n with
     |zero=>exact fun _=>rfl
     |succ n ih=>intro hn;unfold wt;rw[ih (by omega),hd9 n (by omega)];rfl
    exact this _ (aq _)
   rw[zh];omega
  ·rcases C9.only i s es with⟨j,hj,hi,hs,_⟩|⟨z,k,g1,g2,g3⟩
   ·exact absurd (hd9 j hj) hs
   ·refine⟨z,k,g1,g2,(cg.b7 fun e=>g1 (by cases e;rfl)).trans ((cg.b7 fun e=>g1 (by cases e;rfl)).trans ?_)⟩;show(if _ then _ else _)=_;rw[if_neg (fun e=>by cases e;cases g2)];exact g3
end
section
variable {E:Wd}{nb:Nat}{bI:List (List Sp)}{Y Y':GS}{X X':XS}{st fZ:dX}
theorem gV.uz{bJ c6:Nat->Option Tok.Seat}{h N:Nat}{k:Option Nat}{nw:Option (Sp×Ct)}(g:gV E nb bI bJ h N Y X k c6 Y' X' nw):X'.s.S=X.s.S∧X'.s.q=X.s.q∧X'.s.holds=X.s.holds∧X'.s.cells=X.s.cells:=by
 obtain⟨t,fv,TA,cT,FA,cF,p,_,g⟩:=g;cases k with
 |none=>obtain⟨_,_,_,rfl,_⟩:=g;exact⟨rfl,rfl,rfl,rfl⟩
 |some i=>obtain⟨body,B5,TH,kt,l,r,_,_,_,k,_⟩:=g;have:=k.whole;exact⟨this.S,this.q,this.holds,this.cells⟩
theorem oX.uz{bJ fS:Nat->Option Tok.Seat}{h N N1 j:Nat}{x:Sp}{iO:dX}(g:oX E nb bI bJ h N Y X j x st fS N1 Y' X' iO):X'.s.S=X.s.S∧X'.s.q=X.s.q∧X'.s.holds=X.s.holds:=by
 rcases g with⟨d,_⟩|⟨AB,LA,cL,TO,jI,X2,nw,_,_,g,rfl,_⟩
 ·cases d with
  |gG=>exact⟨rfl,rfl,rfl⟩
  |jn=>exact⟨rfl,rfl,rfl⟩
  |go _ _ g=>obtain⟨nw,g⟩:=g.Qd;have:=g.uz;exact⟨this.1,this.2.1,this.2.2.1⟩
 ·have:=g.uz;exact⟨this.1,this.2.1,this.2.2.1⟩
theorem Mv.uz(a:Mv E nb bI Y X st Y' X' fZ):X'.s.S=X.s.S∧X'.s.q=X.s.q∧X'.s.holds=X.s.holds:=by
 cases a with
 |beg _ g=>exact⟨g.uz.1,g.uz.2.1,g.uz.2.2.1⟩
 |HN _ _ d _ k=>have h1:=d.uz;have h2:=k.whole;exact⟨h2.S.trans h1.1,h2.q.trans h1.2.1,h2.holds.trans h1.2.2⟩
theorem Cq.uz(a:Cq E nb bI Y X st Y' X' fZ):X'.s.S=X.s.S∧X'.s.q=X.s.q∧X'.s.holds=X.s.holds:=by
 induction a with
 |refl=>exact⟨rfl,rfl,rfl⟩
 |step _ m ih=>exact⟨m.uz.1.trans ih.1,m.uz.2.1.trans ih.2.1,m.uz.2.2.trans ih.2.2⟩
end
def qN(Y:GS)(X:XS):Prop:=∀v∈X.s.f0,∃j,j<Y.n∧v=cb (Y.th j).T
section
variable {E:Wd}{nb:Nat}{bI:List (List Sp)}{Y Y':GS}{X X':XS}{st fZ:dX}
theorem I_{bJ c6:Nat->Option Tok.Seat}{h p j b:Nat}{l:List (Int×Int)}{r:(Sp×Ct)⊕Bool}(k:dV E nb bJ h p Y X j b l r c6 Y' X'):X'.s.f0=X.s.f0:=by cases k<;>rfl
theorem qN.lr(o:qN Y X)(hn:Y.n≤Y'.n)(ht:∀j,j<Y.n->(Y'.th j).T=(Y.th j).T)(hs:X'.s.f0=X.s.f0):qN Y' X':=fun v hv=>by rw[hs]at hv;obtain⟨j,h1,h2⟩:=o v hv;exact⟨j,by omega,by rw[ht j h1];exact h2⟩
theorem gV.f0{bJ c6:Nat->Option Tok.Seat}{h N:Nat}{k:Option Nat}{nw:Option (Sp×Ct)}(g:gV E nb bI bJ h N Y X k c6 Y' X' nw)(o:qN Y X):qN Y' X':=by
 obtain⟨t,fv,TA,cT,FA,cF,p,_,g⟩:=g;cases k with
 |none=>obtain⟨_,_,rfl,rfl,_⟩:=g;exact o.lr (Nat.le_succ _) (fun j hj=>by show(upd Y.th Y.n t j).T=_;rw[upd_ne _ _ (by omega)]) rfl
 |some i=>
  obtain⟨body,B5,TH,kt,l,r,_,_,_,k,_⟩:=g;have h1:qN (Y.begun t fv TA cT FA cF) {X with s:=X.s.yj t.T TH kt}:=fun v hv=>by
   have Xe:v∈X.s.f0++[cb t.T]:=hv;rcases ay.1 Xe with Xe|Xe
   ·obtain⟨j,a,b⟩:=o v Xe;exact⟨j,Nat.lt_succ_of_lt a,by show v=cb (upd Y.th Y.n t j).T;rw[upd_ne _ _ (by omega)];exact b⟩
   ·obtain rfl:=ad.1 Xe;exact⟨Y.n,a_ _,by show cb t.T=cb (upd Y.th Y.n t Y.n).T;rw[upd_same]⟩
  exact h1.lr (by rw[k.n];exact aq _) (fun j _=>by rw[k.th]) (I_ k)
theorem oX.f0{bJ fS:Nat->Option Tok.Seat}{h N N1 j:Nat}{x:Sp}{iO:dX}(g:oX E nb bI bJ h N Y X j x st fS N1 Y' X' iO)(o:qN Y X):qN Y' X':=by
 rcases g with⟨d,_⟩|⟨AB,LA,cL,TO,jI,X2,nw,_,_,g,rfl,_⟩
 ·cases d with
  |gG=>exact o.lr (aq _) (fun _ _=>rfl) rfl
  |jn=>exact o.lr (aq _) (fun _ _=>rfl) rfl
  |go _ _ g=>obtain⟨nw,g⟩:=g.Qd;exact g.f0 (o.lr (aq _) (fun _ _=>rfl) rfl)
 ·exact g.f0 (o.lr (aq _) (fun _ _=>rfl) rfl)
theorem Mv.f0(a:Mv E nb bI Y X st Y' X' fZ)(o:qN Y X):qN Y' X':=by
 cases a with
 |beg _ g=>exact g.f0 o
 |HN _ _ d _ k=>refine(d.f0 ?_).lr (by rw[k.n];exact aq _) (fun j _=>by rw[k.th]) (I_ k);exact o.lr (aq _) (fun _ _=>rfl) rfl
theorem Cq.f0(a:Cq E nb bI Y X st Y' X' fZ)(o:qN Y X):qN Y' X':=by
 induction a with
 |refl=>exact o
 |step _ m ih=>exact m.f0 ih
end
def qh(Y:GS)(st:dX):Prop:=∀j,j<Y.n->Y.dz j=true->st j=none
section
variable {E:Wd}{nb:Nat}{bI:List (List Sp)}{Y Y' Y1:GS}{X X' X1:XS}{st fZ:dX}
theorem EP{bJ c6:Nat->Option Tok.Seat}{h p j b:Nat}{l:List (Int×Int)}{r:(Sp×Ct)⊕Bool}(k:dV E nb bJ h p Y X j b l r c6 Y' X')(hf:Y.dz j=false):Y'.dz j=true->l0 r=none:=fun e=>by
 cases k with
 |Lo=>have:Y.dz j=true:=e;rw[hf]at this;cases this
 |off=>rfl
theorem gV.tP{bJ c6:Nat->Option Tok.Seat}{h N:Nat}{k:Option Nat}{nw:Option (Sp×Ct)}(g:gV E nb bI bJ h N Y X k c6 Y' X' nw)(o:qh Y st):qh Y' (upd st Y.n nw):=by
 obtain⟨t,fv,TA,cT,FA,cF,p,_,g⟩:=g;cases k with
 |none=>
  obtain⟨_,_,rfl,rfl,rfl⟩:=g;intro j hj hf;by_cases y0:j=Y.n
  ·rw[y0,upd_same]
  ·rw[upd_ne _ _ y0];refine o j (by have:j<Y.n+1:=hj;omega) ?_;simp only[GS.gone,GS.begun,upd_ne _ _ y0,aR,if_false]at hf;exact hf
 |some i=>
  obtain⟨body,B5,TH,kt,l,r,_,_,_,k,rfl⟩:=g;intro j hj hf;by_cases y0:j=Y.n
  ·subst y0;rw[upd_same];exact EP k (upd_same _ _ _) hf
  ·rw[upd_ne _ _ y0];have h2:=(k.eL y0).dz;rw[h2]at hf;have h3:upd Y.dz Y.n false j=true:=hf;rw[upd_ne _ _ y0]at h3;have hn:=k.n;have:j<Y.n+1:=by rw[hn]at hj;exact hj
   exact o j (by omega) h3
theorem oX.tP{bJ fS:Nat->Option Tok.Seat}{h N N1 j:Nat}{x:Sp}{iO:dX}(g:oX E nb bI bJ h N Y X j x st fS N1 Y1 X1 iO)(o:qh Y st):qh Y1 iO:=by
 rcases g with⟨d,_,_,rfl,e⟩|⟨AB,LA,cL,TO,jI,X2,nw,_,_,g,rfl,_,rfl⟩
 ·cases d with
  |gG=>exact o
  |jn=>exact o
  |@go AB LA cL TO jI _ _ _ _ _ g=>have:=g.n;have e5:(Y.jt j Y.n AB LA cL).n=Y.n:=rfl;omega
 ·exact g.tP (Y:=Y.jt j Y.n AB LA cL) o
theorem oX.ast{bJ fS:Nat->Option Tok.Seat}{h N N1 j:Nat}{x:Sp}{iO:dX}(g:oX E nb bI bJ h N Y X j x st fS N1 Y1 X1 iO):Y.n≤Y1.n∧∀i,i<Y.n->iO i=st i:=by
 rcases g with⟨d,_,_,rfl,e⟩|⟨AB,LA,cL,TO,jI,X2,nw,_,_,g,rfl,_,rfl⟩
 ·exact⟨by omega,fun _ _=>rfl⟩
 ·have:Y1.n=Y.n+1:=g.to.n;exact⟨by omega,fun i hi=>upd_ne _ _ (by omega)⟩
theorem Mv.tP(a:Mv E nb bI Y X st Y' X' fZ)(o:qh Y st):qh Y' fZ:=by
 cases a with
 |beg _ g=>exact g.tP o
 |@HN j x c b r0 WA cW RA cR h p N N1 Gz fS c6 Y1 X1 iO l r Y' X' hj di d _ k=>
  have o1:qh Y1 iO:=d.tP o;obtain⟨hn,hs⟩:=d.ast;have MU:Y.n≤Y1.n:=hn;have QV:Y1.dz j=false:=by
   cases e:Y1.dz j with
   |false=>rfl
   |true=>have:=o1 j (by omega) e;rw[hs j hj,di]at this;cases this
  intro i hi hf;rw[k.n]at hi;by_cases hij:i=j
  ·subst hij;rw[upd_same];exact EP k QV hf
  ·rw[upd_ne _ _ hij];rw[(k.eL hij).dz]at hf;exact o1 i hi hf
theorem Cq.tP(a:Cq E nb bI Y X st Y' X' fZ)(o:qh Y st):qh Y' fZ:=by
 induction a with
 |refl=>exact o
 |step _ m ih=>exact m.tP ih
end
def g_(base:Nat)(W0:World)(bJ:Nat->Option Tok.Seat)(h N:Nat)(L:cg)(g:Goroutine)(m:Machine)(T:Trace):Prop:=∃w,dD aa base W0 bJ h N m T g w∧bK aa base w L∧cw L bJ
def zD(L:cg)(drop:List cD)(base:Nat)(W0:World)(ρ:cn)(p:AA×AV):Prop:=(∃r k,L r=some ((p.1.ev ρ).block,k)∧r∉drop∧k.cell (p.1.ev ρ).off=some (p.2.ev ρ))∨((p.1.ev ρ).block<base∧W0.cell? (p.1.ev ρ)=some (p.2.ev ρ))
section
variable {base:Nat}{W0:World}{bJ:Nat->Option Tok.Seat}{h N:Nat}{m:Machine}{T:Trace}{w:World}{L L':cg}{cs:List Frame}{fr:Frame}{g:Goroutine}
theorem qO{w:World}{a:Addr}{v:Value}(kp:cE (fun n=>base≤n) W0 w)(hb:a.block<base)(hc:W0.cell? a=some v):w.cell? a=some v:=by obtain⟨b,o,s⟩:=a;simp only[World.cell?]at hc⊢;rw[kp.heap b (Nat.not_le.2 hb)];exact hc
theorem zD.to{drop:List cD}{ρ:cn}{p:AA×AV}(hm:zD L drop base W0 ρ p)(A:dD aa base W0 bJ h N m T g w):lq L drop w base ρ p:=by
 rcases hm with hm|⟨h1,h2⟩
 ·exact .inl hm
 ·exact .inr ⟨h1,qO A.gX h1 h2⟩
theorem g_.sub(o:g_ base W0 bJ h N L g m T)(hl:∀r x,L' r=some x->L r=some x)(hS:cw L' bJ):g_ base W0 bJ h N L' g m T:=by obtain⟨w,A,H,_⟩:=o;exact⟨w,A,H.sub hl,hS⟩
theorem dc:cw L (fun _=>none):=by rintro b n ⟨i,s,e,_⟩;cases e
noncomputable def qv(lA:List (Nat×AV))(st:Nat->Value)(n:Nat):AV:=(Go.Proofs.Ythaddgfbohmfoaa.SX.look (fun a b=>Nat.beq a b) n lA).getD (.CM (st n))
noncomputable def qw(d:Nat)(val:AV)(lA:List (Nat×AV))(st:Nat->Value)(n:Nat):AV:=Bool.rec (qv lA st n) val (Nat.beq n d)
theorem mK{ρ:cn}{f:Nat->AV}:∀{ns:List Nat} {n:Nat},n∈ns->(n,(f n).ev ρ)∈ns.zip (AV.cf ρ (ns.map f))
 |a::l,n,h=>by
  simp only[ah,AV.cf,List.zip_cons_cons,ac];rcases ac.1 h with rfl|h
  ·exact .inl rfl
  ·exact .inr (mK h)
theorem Ja{ρ bL:cn}(Ag:cz (dR 100) ρ bL){fn nt:Nat}{todo:List Item}{ds:List Deferred}{kind:CallKind}{lv:List (Nat×Value)}(hf:FA fn nt todo ds kind lv fr){lA:List (Nat×AV)}(jG:AV.lp 100 (lA.map (·.2))=true)(hA:∀p∈gz ρ lA,p∈lv){n:Nat}{x:Value}(hx:(n,x)∈lv):(qv lA (bU fr) n).ev bL=x:=by
 obtain⟨⟨tm,rfl,h2,h3⟩,h4,h5⟩:=hf;have mE:tm.getD n undef=x:=h3 _ hx;unfold qv;cases e:Go.Proofs.Ythaddgfbohmfoaa.SX.look (fun a b=>Nat.beq a b) n lA with
 |none=>exact mE
 |some a=>
  obtain⟨y,hy,he⟩:=iv e;obtain rfl:=aI he;have e1:a.ev bL=a.ev ρ:=AV.cu Ag a (AV.du a (by
   have:=AV.gJ _ jG;clear e he hx mE hA
   induction lA with
   |nil=>cases hy
   |cons z l ih=>
    simp only[ah,AV.lp,ax]at jG;rcases ac.1 hy with rfl|hy
    ·exact jG.1
    ·exact ih jG.2 hy (AV.gJ _ jG.2)))
  have:=h3 _ (hA (n,a.ev ρ) (aJ.2 ⟨(n,a),hy,rfl⟩));show a.ev bL=x;rw[e1];exact this.symm.trans mE
def xo(d:Nat)(x:Value)(lv:List (Nat×Value)):List (Nat×Value):=(d,x)::lv.filter fun p=>!(Nat.beq p.1 d)
theorem xp{d:Nat}{x:Value}{lv:List (Nat×Value)}:(d,x)∈xo d x lv:=an ..
theorem m_{d:Nat}{x:Value}{lv:List (Nat×Value)}{p:Nat×Value}(hp:p∈lv)(hd:p.1≠d):p∈xo d x lv:=am _ (aU.2 ⟨hp,by
 cases e:Nat.beq p.1 d with
 |false=>rfl
 |true=>exact absurd (aI e) hd⟩)
theorem aga{n fn nt:Nat}{todo todo':List Item}{kind:CallKind}{lv:List (Nat×Value)}{lA:List (Nat×AV)}{d:Nat}{val:AV}{ns:List Nat}{bs:List (BE×Bool)}{mem:List (AA×AV)}{ρ:cn}(o:g_ base W0 bJ h N L (G fr cs) m T)(hf:FA fn nt todo [] kind lv fr)(hk:kr kind=true)
 (hv:∀st,c7 (cO bs mem n [] (cJ ⟨fn,nt,bZ nt st lA,todo,[],.run,kind⟩ [] [])) ns (fun _=>[])=some (⟨fn,nt,todo',[],.run,kind,[],[],ns.map (qw d val lA st)⟩,[]))
 (hl:∀st,bR 100 (cJ ⟨fn,nt,bZ nt st lA,todo,[],.run,kind⟩ [] [])=true)(hO:(OO bs [] mem).low 100=true)
 (hb:∀p∈bs,p.1.ev ρ=p.2)(hm:∀p∈mem,zD L [] base W0 ρ p)(jG:AV.lp 100 (val::lA.map (·.2))=true)(hA:∀p∈gz ρ lA,p∈lv)(xw:∀p∈lv,p.1∈ns)(hd:d∈ns):
  cm aa m T fun m' T'=>∃bT,g_ base W0 bJ h N L (G bT cs) m' T'∧FA fn nt todo' [] kind (xo d (val.ev ρ) lv) bT:=by
 obtain⟨w,A,H,hS⟩:=o;simp only[AV.lp,ax]at jG;have xx:FA fn nt todo [] kind (gz ρ lA) fr:=hf.sub hA;refine(cQ (cC:=[]) (cs:=cs) A H hS [] [] (hv (bU fr)) rfl (by show((true&&kr kind)&&true)=true;rw[hk];rfl) (hl (bU fr)) hO (ρ:=ρ) (xx.rel (mV hk) lA rfl rfl) trivial hb (fun p hp=>(hm p hp).to A) (nofun) ai ai rfl).mono fun m1 T1 xy=>?_;obtain⟨w1,bW,c9,d9,C⟩:=xy;obtain rfl:=C.none;refine⟨c9,⟨w1,C.eG,C.heap.sub fun r x e=>?_,hS⟩,?_⟩
 ·unfold i0;simp only[cr,ak,List.find?_nil,ae,if_false];exact e
 ·refine tw.sub C.fr fun p hp=>?_;dsimp only;rcases ac.1 hp with rfl|hp
  ·have:=mK (ρ:=bW) (f:=qw d val lA (bU fr)) hd;have e:(qw d val lA (bU fr) d).ev bW=val.ev ρ:=by
    unfold qw;rw[show Nat.beq d d=true from Nat.beq_refl d];exact AV.cu C.bE val (AV.du val jG.1)
   rw[e]at this;exact this
  ·obtain⟨h1,h2⟩:=aU.1 hp;have:=mK (ρ:=bW) (f:=qw d val lA (bU fr)) (xw p h1);have e:(qw d val lA (bU fr) p.1).ev bW=p.2:=by
    unfold qw;rw[show Nat.beq p.1 d=false from by simpa using h2];exact Ja C.bE hf jG.2 hA (n:=p.1) (x:=p.2) h1
   rw[e]at this;exact this
theorem NQ{n fn nt gn gt:Nat}{todo todo' acs:List Item}{kind:CallKind}{lv:List (Nat×Value)}{lA:List (Nat×AV)}{ns gs:List Nat}{gv:List AV}{bs:List (BE×Bool)}{mem:List (AA×AV)}{ρ:cn}(o:g_ base W0 bJ h N L (G fr cs) m T)(hf:FA fn nt todo [] kind lv fr)(hk:kr kind=true)
 (hv:∀st,c7 (cO bs mem n [] (cJ ⟨fn,nt,bZ nt st lA,todo,[],.run,kind⟩ [] [])) gs (fun _=>ns)=some (⟨gn,gt,acs,[],.run,.normal,[],[],gv⟩,[⟨fn,nt,todo',[],.run,kind,[],[],ns.map (qv lA st)⟩]))
 (hl:∀st,bR 100 (cJ ⟨fn,nt,bZ nt st lA,todo,[],.run,kind⟩ [] [])=true)(hO:(OO bs [] mem).low 100=true)
 (hb:∀p∈bs,p.1.ev ρ=p.2)(hm:∀p∈mem,zD L [] base W0 ρ p)(jG:AV.lp 100 (gv++lA.map (·.2))=true)(hA:∀p∈gz ρ lA,p∈lv)(xw:∀p∈lv,p.1∈ns):
  cm aa m T fun m' T'=>∃bT f,g_ base W0 bJ h N L (G bT (f::cs)) m' T'∧FA gn gt acs [] .normal (gs.zip (AV.cf ρ gv)) bT∧FA fn nt todo' [] kind lv f:=by
 obtain⟨w,A,H,hS⟩:=o;have acu:AV.lp 100 gv=true∧AV.lp 100 (lA.map (·.2))=true:=by
  clear hv hm
  induction gv with
  |nil=>exact⟨rfl,jG⟩
  |cons a l ih=>simp only[az,AV.lp,ax]at jG⊢;obtain⟨q1,q2⟩:=ih jG.2;exact⟨⟨jG.1,q1⟩,q2⟩
 have xx:FA fn nt todo [] kind (gz ρ lA) fr:=hf.sub hA;refine(cQ (cC:=[]) (cs:=cs) A H hS [] [] (hv (bU fr)) rfl (by show((true&&kr .normal)&&((true&&kr kind)&&true))=true;rw[hk];rfl) (hl (bU fr)) hO (ρ:=ρ) (xx.rel (mV hk) lA rfl rfl) trivial hb (fun p hp=>(hm p hp).to A) (nofun) ai ai rfl).mono fun m1 T1 xy=>?_;obtain⟨w1,bW,c9,d9,C⟩:=xy;obtain⟨f,rfl,q⟩:=C.one;refine⟨c9,f,⟨w1,C.eG,C.heap.sub fun r x e=>?_,hS⟩,?_,?_⟩
 ·unfold i0;simp only[cr,ak,List.find?_nil,ae,if_false];exact e
 ·have:=C.fr;dsimp only at this;rw[apP C.bE acu.1]at this;exact this
 ·refine tw.sub q fun p hp=>?_;dsimp only;have:=mK (ρ:=bW) (f:=qv lA (bU fr)) (xw p hp);rw[Ja C.bE hf acu.2 hA (n:=p.1) (x:=p.2) hp]at this;exact this
theorem NR{n fn nt gn gt:Nat}{todo todo':List Item}{kind:CallKind}{lv gl:List (Nat×Value)}{gA:List (Nat×AV)}{d:Nat}{val:AV}{ns:List Nat}{bs:List (BE×Bool)}{mem:List (AA×AV)}{ρ:cn}{f:Frame}(o:g_ base W0 bJ h N L (G fr (f::cs)) m T)(hg:FA gn gt [.code .ret] [] .normal gl fr)(hf:FA fn nt todo [] kind lv f)(hk:kr kind=true)
 (hv:∀st fZ,c7 (cO bs mem n [] (cJ ⟨gn,gt,bZ gt fZ gA,[.code .ret],[],.run,.normal⟩ [⟨fn,nt,bZ nt st [],todo,[],.run,kind⟩] [])) ns (fun _=>[])=some (⟨fn,nt,todo',[],.run,kind,[],[],ns.map (qw d val [] st)⟩,[]))
 (hl:∀st fZ,bR 100 (cJ ⟨gn,gt,bZ gt fZ gA,[.code .ret],[],.run,.normal⟩ [⟨fn,nt,bZ nt st [],todo,[],.run,kind⟩] [])=true)(hO:(OO bs [] mem).low 100=true)
 (hb:∀p∈bs,p.1.ev ρ=p.2)(hm:∀p∈mem,zD L [] base W0 ρ p)(jG:AV.lp 100 [val]=true)(hA:gz ρ gA=gl)(xw:∀p∈lv,p.1∈ns)(hd:d∈ns):
  cm aa m T fun m' T'=>∃bT,g_ base W0 bJ h N L (G bT cs) m' T'∧FA fn nt todo' [] kind (xo d (val.ev ρ) lv) bT:=by
 obtain⟨w,A,H,hS⟩:=o;simp only[AV.lp,ax]at jG;have xx:FA fn nt todo [] kind (gz ρ []) f:=hf.sub fun p hp=>by cases hp
 refine(cQ (cC:=[f]) (cs:=cs) A H hS [] [] (hv (bU f) (bU fr)) rfl (by show((true&&kr kind)&&true)=true;rw[hk];rfl) (hl (bU f) (bU fr)) hO (ρ:=ρ) (hg.rel (.inl rfl) gA hA rfl) ⟨xx.rel (mV hk) [] rfl rfl,trivial⟩ hb (fun p hp=>(hm p hp).to A) (nofun) ai ai rfl).mono fun m1 T1 xy=>?_;obtain⟨w1,bW,c9,d9,C⟩:=xy;obtain rfl:=C.none;refine⟨c9,⟨w1,C.eG,C.heap.sub fun r x e=>?_,hS⟩,?_⟩
 ·unfold i0;simp only[cr,ak,List.find?_nil,ae,if_false];exact e
 ·refine tw.sub C.fr fun p hp=>?_;dsimp only;rcases ac.1 hp with rfl|hp
  ·have:=mK (ρ:=bW) (f:=qw d val [] (bU f)) hd;have e:(qw d val [] (bU f) d).ev bW=val.ev ρ:=by
    unfold qw;rw[show Nat.beq d d=true from Nat.beq_refl d];exact AV.cu C.bE val (AV.du val jG.1)
   rw[e]at this;exact this
  ·obtain⟨h1,h2⟩:=aU.1 hp;have:=mK (ρ:=bW) (f:=qw d val [] (bU f)) (xw p h1);have e:(qw d val [] (bU f) p.1).ev bW=p.2:=by
    unfold qw;rw[show Nat.beq p.1 d=false from by simpa using h2];exact Ja C.bE hf (lA:=[]) rfl (nofun) (n:=p.1) (x:=p.2) h1
   rw[e]at this;exact this
theorem NS{fn nt id:Nat}{ops:Array Oper}{k:List Item}{ds:List Deferred}{kind:CallKind}{lv:List (Nat×Value)}(o:g_ base W0 bJ h N L (G fr cs) m T)(hf:FA fn nt (.code (.region id ops true)::k) ds kind lv fr):
  cm aa m T fun m' T'=>∃l bT,iq ops [] l∧g_ base W0 bJ h N L (G bT cs) m' T'∧FA fn nt (.inRegion ops l::k) ds kind lv bT:=by
 obtain⟨w,A,H,hS⟩:=o;obtain⟨⟨tm,rfl,h2,h3⟩,h4,h5⟩:=hf;have W:dy aa (h==0) (DK (SK aa base bJ)) (fun g' w'=>∃t d,g'=G ((iD fn kind).at ⟨tm,ds⟩ (.inRegion ops (Region.schedule true ops t)::k)) cs∧w'=cM w d) 1 (G ((iD fn kind).at ⟨tm,ds⟩ (.code (.region id ops true)::k)) cs) w:=dy.one rfl fun d=>by obtain⟨d',t,e⟩:=DP (P:=aa) (main:=(h==0)) (ops:=ops) (b:=iD fn kind) (a:=⟨tm,ds⟩) (k:=k) (cs:=cs) (w:=cM w d) (id:=id) mixed;have e':stepG aa (h==0) (G ((iD fn kind).at ⟨tm,ds⟩ (.code (.region id ops true)::k)) cs) (cM w d)=.go (G ((iD fn kind).at ⟨tm,ds⟩ (.inRegion ops (Region.schedule true ops t)::k)) cs) (cM (cM w d) d') #[]:=e;rw[e'];exact⟨⟨⟨fun _ _=>rfl,aq _,rfl,rfl,rfl⟩,fun e he=>(by simp at he),fun _ _ _ _ x=>x⟩,t,d',rfl,rfl⟩
 refine(A.uu W fun a1 w1 hd=>?_).mono fun m1 T1 hd=>?_
 ·obtain⟨t,d,_,rfl⟩:=hd;exact fw _ _ _
 ·obtain⟨a1,w1,A1,t,d,rfl,rfl⟩:=hd;exact⟨_,_,jE ops t,⟨_,A1,H.Eg (fw _ _ _),hS⟩,⟨tm,rfl,h2,h3⟩,h4,h5⟩
def ni(ops:Array Oper)(i:Nat):List Nat:=match ops[i]? with
 |some o=>(o.after.toList.filter fun e=>Region.binds .any e).map (·.on)
 |none=>[]
theorem dK{ops:Array Oper}{r:List Nat}{i:Nat}(h:i∈cZ ops r):i<ops.size∧i∉r∧∀p∈ni ops i,p∈r:=by refine⟨(dL h).1,(dL h).2,fun p hp=>?_⟩;obtain⟨_,o,ho,hq⟩:=fL.1 h;unfold ni at hp;rw[ho]at hp;obtain⟨e,he,rfl⟩:=aJ.1 hp;obtain⟨h1,h2⟩:=aU.1 he;exact hq e h1 h2
theorem Ql{ops:Array Oper}{r:List Nat}(h:iq ops r []){i:Nat}(hi:i<ops.size)(hr:i∉r)(hp:∀p∈ni ops i,p∈r):False:=by
 have h':cZ ops r=[]:=h;have:i∈cZ ops r:=fL.2 ⟨hr,ops[i],aT hi,fun e he hb=>hp _ (by unfold ni;rw[aT hi];exact aJ.2 ⟨e,aU.2 ⟨he,hb⟩,rfl⟩)⟩
 rw[h']at this;cases this
theorem qP{ops:Array Oper}{S:List Nat}{I:List Nat->List Nat->Machine->Trace->Prop}
 (hI:∀i∈S,∀r l m T,i∈cZ ops r->iq ops (i::r) l->I r (i::l) m T->cm aa m T (I (i::r) l)):
  ∀{l r:List Nat} {m:Machine} {T:Trace},iq ops r l->I r l m T->cm aa m T fun m' T'=>∃r' l',iq ops r' l'∧(∀a∈r,a∈r')∧(∀a∈r',a∈r∨a∈S)∧I r' l' m' T'∧(l'=[]∨∃j l2,l'=j::l2∧j∉S)
 |[],r,m,T,hs,hi=>cm.refl ⟨r,[],hs,fun _ h=>h,fun _ h=>.inl h,hi,.inl rfl⟩
 |i::l,r,m,T,hs,hi=>by
  by_cases hS:i∈S
  ·refine(hI i hS r l m T hs.1 hs.2 hi).trans fun m1 T1 h1=>?_;refine(qP hI hs.2 h1).mono fun m2 T2 hd=>?_;obtain⟨r',l',q1,q2,q3,q4,q5⟩:=hd;refine⟨r',l',q1,fun a ha=>q2 a (am _ ha),fun a ha=>?_,q4,q5⟩;rcases q3 a ha with h|h
   ·rcases ac.1 h with rfl|h
    ·exact .inr hS
    ·exact .inl h
   ·exact .inr h
  ·exact cm.refl ⟨r,i::l,hs,fun _ h=>h,fun _ h=>.inl h,hi,.inr ⟨i,l,rfl,hS⟩⟩
end
end Go.Proofs.Ythaddgfbohmfoaa
namespace Go.Proofs.Ythaddgfbohmfoaa
open Go.Proofs.Ythaddgfbohmfoaa.SX Go.Conc
abbrev uZ:Nat:=15
abbrev dY:Nat:=46
noncomputable abbrev Fn.Cx:Func:=Try.f15
noncomputable def Jb(z:Bool)(b o n c:Nat):AV:=Bool.rec (.slice (some ⟨.cN b,v o⟩) (v n) (v c)) eU z
noncomputable def xB(z:Bool)(n:Nat):IE:=Bool.rec (.tn (v n)) (.lit 0) z
noncomputable def Ab(zB zP:Bool):List AV:=[Jb zB 9 8 1 7,i64 (v 31),Jb zP 29 28 21 27,i64 (v 32)]
noncomputable def loE(zB zP:Bool)(st:Nat->Value):bH:=⟨uZ,35,bZ 35 st [(0,.agg (Ab zB zP))],[.code (bQ Fn.Cx)],[],.run,.normal⟩
noncomputable def loB:Code:=pc (bQ Fn.Cx) [1,1,0,1,0,0]
noncomputable def loT:List Item:=[.code loB,.inLoop loB,.inBlock 0,.code (pc (bQ Fn.Cx) [1,1,1])]
noncomputable def loL(n i:IE):List (Nat×AV):=[(1,bF 12),(3,i64 n),(4,i64 i)]
noncomputable def loH(st:Nat->Value):bH:=⟨uZ,35,bZ 35 st (loL (v 40) (v 41)),loT,[],.run,.normal⟩
theorem asv(zB zP:Bool)(st:Nat->Value):c7 (cO [] [] 19 [100] (cJ (loE zB zP st) [] [])) [1,3,4] (fun _=>[])=some (⟨uZ,35,loT,[],.run,.normal,[],[(100,.cells (Ab zB zP) dY)],[bF 100,i64 (xB zB 1),i64 (.lit 0)]⟩,[]):=by cases zB<;>cases zP<;>kernel_rfl
theorem aaa(zB zP:Bool)(st:Nat->Value):bR 100 (cJ (loE zB zP st) [] [])=true:=by cases zB<;>cases zP<;>kernel_rfl
noncomputable def agb:List (BE×Bool):=[(.cmp .lss (v 41) (.tn (v 1)),true),(.cmp .leq (v 40) (.lit 2000),true),(.cmp .leq (.lit 0) (v 41),true)]
noncomputable def slr(z:Bool)(a:Option Addr)(c:Nat):AV:=Bool.rec (.slice (some ⟨.cN 19,v 18⟩) (v 11) (v 17)) (.CM (.slice a 0 c)) z
noncomputable def loM(z:Bool)(a:Option Addr)(c:Nat):List (AA×AV):=[(⟨.cN 12,.lit 0⟩,Jb false 9 8 1 7),(⟨.cN 9,.plus (.tn (v 8)) (.tn (v 41))⟩,slr z a c)]
theorem agc(z:Bool)(a:Option Addr)(c:Nat)(st:Nat->Value):c7 (cO agb (loM z a c) 35 [] (cJ (loH st) [] [])) [1,3,4] (fun _=>[])=some (⟨uZ,35,loT,[],.run,.normal,[],[],(loL (.op .add .i64 (v 40) (xB z 11)) (.op .add .i64 (v 41) (.lit 1))).map (·.2)⟩,[]):=by cases z<;>kernel_rfl
theorem yz(st:Nat->Value):bR 100 (cJ (loH st) [] [])=true:=by kernel_rfl
theorem aab(z:Bool)(a:Option Addr)(c:Nat):(OO agb [] (loM z a c)).low 100=true:=by cases z<;>kernel_rfl
inductive Q8 where
 |way|amk|cK|agd
noncomputable def LQ(zB zP:Bool):Q8->List (BE×Bool)
 |.way=>[(.cmp .lss (v 41) (xB zB 1),true),(.cmp .leq (v 40) (.lit 2000),false),(.cmp .gtr (v 40) (.lit 2000),true)]
 |.amk=>[(.cmp .lss (v 41) (xB zB 1),false),(.cmp .gtr (v 40) (.lit 2000),true)]
 |.cK=>[(.cmp .lss (v 41) (xB zB 1),false),(.cmp .gtr (v 40) (.lit 2000),false),(.cmp .gtr (xB zP 21) (.lit 4000),true)]
 |.agd=>[(.cmp .lss (v 41) (xB zB 1),false),(.cmp .gtr (v 40) (.lit 2000),false),(.cmp .gtr (xB zP 21) (.lit 4000),false)]
noncomputable def aac(zB zP:Bool):List (AA×AV):=[(⟨.cN 12,.lit 0⟩,Jb zB 9 8 1 7),(⟨.cN 12,.lit 2⟩,Jb zP 29 28 21 27)]
def Q8.may(zB zP:Bool):Q8->Bool
 |.cK=>!zP
 |_=>true
def Q8.Zl:Q8->Bool
 |.agd=>false
 |_=>true
noncomputable def brV(k:Q8):AV:=Bool.rec ff (.bool (.lit true)) k.Zl
theorem acv(zB zP:Bool)(k:Q8)(h:k.may zB zP=true)(st:Nat->Value):c7 (cO (LQ zB zP k) (aac zB zP) 27 [] (cJ (loH st) [] [])) [2] (fun _=>[])=some (⟨uZ,35,[.code .ret],[],.run,.normal,[],[],[brV k]⟩,[]):=by cases zB<;>cases zP<;>cases k<;>first|(cases h;done)|kernel_rfl
theorem Vq(zB zP:Bool)(k:Q8):(OO (LQ zB zP k) [] (aac zB zP)).low 100=true:=by cases zB<;>cases zP<;>cases k<;>kernel_rfl
end Go.Proofs.Ythaddgfbohmfoaa
namespace Go.Proofs.Ythaddgfbohmfoaa
open Go.Proofs.Ythaddgfbohmfoaa.SX Go.Conc
open Go.ConcN (upd upd_ne upd_same)
open Go.Proofs.Try renaming prog->aa
open _root_.List renaming mem_cons->ac,mem_singleton->ad,not_mem_nil->ae,map_cons->ah,nodup_nil->ai,map_nil->ak,find?_cons->aw,getElem?_eq_getElem->aF,length_pos_iff->aG,getElem?_eq_some_iff->aH,map_congr_left->aY,mem_of_getElem?->bf,length_range->bh,length_map->bj,getElem?_toArray->bw,getD_eq_getElem?_getD->bA
open _root_.Option renaming map_some->af
open _root_.Int renaming toNat_natCast->ap
open _root_.Nat renaming le_refl->aq,le_trans->bp
open _root_.Option.some renaming inj->au
open _root_.Bool renaming false_eq_true->aR
structure Rp where
 op:Int
 c:Int
 arg:Int
 nw:Int
def GD(z:Bool)(b o n c:Nat):Value:=match z with
 |true=>fO
 |false=>.slice (some ⟨b,o,none⟩) n c
def hdR(z:Bool)(a:Option Addr)(b o n c:Nat):Value:=match z with
 |true=>.slice a 0 c
 |false=>.slice (some ⟨b,o,none⟩) n c
def pO(base:Nat)(W0:World)(b i:Nat)(v:Value):Prop:=b<base∧W0.cell? ⟨b,i,none⟩=some v
def age(base:Nat)(W0:World)(bv:Value)(l:List Rp):Prop:=∃z a b o c,bv=hdR z a b o l.length c∧(z=true->l=[])∧∀k r,l[k]?=some r->pO base W0 b (o+k*4) (qn r.op)∧pO base W0 b (o+k*4+1) (iV r.c)∧pO base W0 b (o+k*4+2) (iV r.arg)∧pO base W0 b (o+k*4+3) (iV r.nw)
def Jc(base:Nat)(W0:World)(bv:Value)(L:List (List Rp)):Prop:=∃z b o c,bv=GD z b o L.length c∧(z=true->L=[])∧∀i l,L[i]?=some l->∃x,pO base W0 b (o+i) x∧age base W0 x l
def Vr(base:Nat)(W0:World)(pv:Value)(P:List Int):Prop:=∃z b o c,pv=GD z b o P.length c∧(z=true->P=[])∧∀i n,P[i]?=some n->pO base W0 b (o+i) (iV n)
structure Pl where
 bI:List (List Rp)
 first:Int
 cK:List Int
 cd:Int
def Dt(base:Nat)(W0:World)(bv pv:Value)(p:Pl):Prop:=Jc base W0 bv p.bI∧Vr base W0 pv p.cK
def sA(bv:Value)(first:Int)(pv:Value)(cd:Int):List Value:=[bv,iV first,pv,iV cd]
def kN(L:List (List Rp)):Nat:=(L.map List.length).sum
def Pl.Cx(p:Pl):Bool:=decide (2000<p.bI.length+kN p.bI)||decide (4000<p.cK.length)
def Pl.Jd(p:Pl):Prop:=(∀l∈p.bI,l.length≤4611686018427387904)∧p.bI.length≤4611686018427387904∧p.cK.length≤4611686018427387904
theorem j7{z:Bool}{b o n c:Nat}{ρ:cn}:(Jb z b o n c).ev ρ=GD z (ρ.b b) (ρ.i o).toNat (ρ.i n).toNat (ρ.i c).toNat:=by cases z<;>rfl
theorem Vt{z:Bool}{a:Option Addr}{c:Nat}{ρ:cn}(h:ρ.i 17=(c:Nat)):(slr z a c).ev ρ=hdR z a (ρ.b 19) (ρ.i 18).toNat (ρ.i 11).toNat c:=by
 cases z with
 |true=>rfl
 |false=>show Value.slice (some ⟨ρ.b 19,(ρ.i 18).toNat,none⟩) (ρ.i 11).toNat (ρ.i 17).toNat=_;rw[h];rfl
theorem tQ{z:Bool}{n:Nat}{ρ:cn}(h:z=true->ρ.i n=0)(h0:0≤ρ.i n):(xB z n).ev ρ=ρ.i n:=by
 cases z with
 |true=>exact(h rfl).symm
 |false=>exact Int.toNat_of_nonneg h0
section
variable {base:Nat}{W0:World}{bJ:Nat->Option Tok.Seat}{h N:Nat}{m:Machine}{T:Trace}{L:cg}{cs:List Frame}{fr:Frame}{p:Pl}{bv pv:Value}
abbrev Vu(bv pv:Value)(p:Pl)(fr:Frame):Prop:=FA uZ 35 [.code (bQ Fn.Cx)] [] .normal [(0,.agg (sA bv p.first pv p.cd).toArray)] fr
abbrev agf(B n i:Nat)(fr:Frame):Prop:=FA uZ 35 loT [] .normal [(1,cb B),(3,iV n),(4,iV i)] fr
abbrev NT(b:Bool)(fr:Frame):Prop:=FA uZ 35 [.code .ret] [] .normal [(2,.bool b)] fr
theorem Je{L:List (List Rp)}{i:Nat}{l:List Rp}(h:L[i]?=some l):kN (L.drop i)=l.length+kN (L.drop (i+1)):=by obtain⟨h1,rfl⟩:=aH.1 h;rw[List.drop_eq_getElem_cons h1];simp only[kN,ah,List.sum_cons]
theorem Qm{rj:cD}{B:Nat}(hI:Dt base W0 bv pv p)(hs:p.Jd)(hj:L rj=some (B,.obj dY (sA bv p.first pv p.cd))):∀(k i n:Nat),i+k=p.bI.length->n≤4611686018427387904+2000->∀{m:Machine} {T:Trace} {fr:Frame},g_ base W0 bJ h N L (G fr cs) m T->agf B n i fr->
  cm aa m T fun m' T'=>∃bT,g_ base W0 bJ h N L (G bT cs) m' T'∧NT (decide (2000<n+kN (p.bI.drop i))||decide (4000<p.cK.length)) bT:=by
 intro k
 induction k with
 |zero=>
  intro i n hi hn m T fr o hf;have hd:p.bI.drop i=[]:=List.drop_eq_nil_of_le (by omega);rw[hd,show kN []=0 from rfl,Nat.add_zero];obtain⟨⟨zB,bB,oB,cB,rfl,eB,_⟩,zP,bP,oP,cP,rfl,eP,_⟩:=hI;obtain⟨w,A,H,hS⟩:=o;let ρ:cn:=gY [(1,p.bI.length),(8,oB),(7,cB),(21,p.cK.length),(28,oP),(27,cP),(40,n),(41,i)] [(9,bB),(29,bP),(12,B)] [];have lB:(xB zB 1).ev ρ=p.bI.length:=tQ (ρ:=ρ) (fun e=>by show((p.bI.length:Nat):Int)=0;rw[eB e];rfl) (by show(0:Int)≤((p.bI.length:Nat):Int);omega);have lP:(xB zP 21).ev ρ=p.cK.length:=tQ (ρ:=ρ) (fun e=>by show((p.cK.length:Nat):Int)=0;rw[eP e];rfl) (by show(0:Int)≤((p.cK.length:Nat):Int);omega);obtain⟨q,hq,hb,ha⟩:∃q:Q8,q.may zB zP=true∧(∀x∈LQ zB zP q,x.1.ev ρ=x.2)∧q.Zl=(decide (2000<n)||decide (4000<p.cK.length)):=by
   have b1:(BE.cmp .lss (v 41) (xB zB 1)).ev ρ=false:=by show decide (((i:Nat):Int)<(xB zB 1).ev ρ)=false;rw[lB];exact decide_eq_false (by omega)
   have b2:(BE.cmp .gtr (v 40) (.lit 2000)).ev ρ=decide (2000<n):=by show decide (((n:Nat):Int)>2000)=_;exact decide_eq_decide.2 (by omega)
   have b3:(BE.cmp .gtr (xB zP 21) (.lit 4000)).ev ρ=decide (4000<p.cK.length):=by show decide ((xB zP 21).ev ρ>4000)=_;rw[lP];exact decide_eq_decide.2 (by omega)
   by_cases h1:2000<n
   ·refine⟨.amk,rfl,fun x hx=>?_,by simp[Q8.Zl,h1]⟩;simp only[LQ,ac,ae,or_false]at hx;rcases hx with rfl|rfl
    ·exact b1
    ·exact b2.trans (decide_eq_true h1)
   ·by_cases h2:4000<p.cK.length
    ·refine⟨.cK,?_,fun x hx=>?_,by simp[Q8.Zl,h2]⟩
     ·cases hz:zP with
      |false=>rfl
      |true=>rw[eP hz]at h2;exact absurd h2 (by simp)
     ·simp only[LQ,ac,ae,or_false]at hx;rcases hx with rfl|rfl|rfl
      ·exact b1
      ·exact b2.trans (decide_eq_false h1)
      ·exact b3.trans (decide_eq_true h2)
    ·refine⟨.agd,rfl,fun x hx=>?_,by simp[Q8.Zl,h1,h2]⟩;simp only[LQ,ac,ae,or_false]at hx;rcases hx with rfl|rfl|rfl
     ·exact b1
     ·exact b2.trans (decide_eq_false h1)
     ·exact b3.trans (decide_eq_false h2)
  refine(cQ (cC:=[]) (cs:=cs) A H hS [] [] (acv zB zP q hq (bU fr)) rfl rfl (yz _) (Vq zB zP q) (ρ:=ρ) (hf.rel (.inl rfl) (loL (v 40) (v 41)) rfl rfl) trivial hb (fun x hx=>?_) (nofun) ai ai rfl).mono fun m1 T1 hd=>?_
  ·simp only[aac,ac,ae,or_false]at hx;rcases hx with rfl|rfl
   ·refine .inl ⟨rj,_,hj,by simp,?_⟩;dsimp only;rw[j7];rfl
   ·refine .inl ⟨rj,_,hj,by simp,?_⟩;dsimp only;rw[j7];rfl
  ·obtain⟨w1,bW,c9,d9,C⟩:=hd;obtain rfl:=C.none;refine⟨c9,⟨w1,C.eG,C.heap.sub fun r x e=>e,hS⟩,?_⟩;have:=C.fr;rw[<-ha];have e:(brV q).ev bW=.bool q.Zl:=by cases q<;>rfl
   simp only[AV.cf,e]at this;exact this
 |succ k ih=>
  intro i n hi hn m T fr o hf;obtain⟨l,hl⟩:∃l,p.bI[i]?=some l:=⟨p.bI[i]'(by omega),aF _⟩;have hI0:=hI;obtain⟨⟨zB,bB,oB,cB,eb0,eB,gB⟩,zP,bP,oP,cP,ep0,eP,_⟩:=hI;have hzB:zB=false:=by
   cases hz:zB with
   |false=>rfl
   |true=>rw[eB hz]at hl;cases hl
  subst hzB;obtain⟨x,hx,zS,aS,bS,oS,cS,rfl,eS,_⟩:=gB i l hl;have S0:=hs.1 l (bf hl);by_cases h2:n≤2000
  ·obtain⟨w,A,H,hS⟩:=o;let ρ:cn:=gY [(1,p.bI.length),(8,oB),(7,cB),(11,l.length),(18,oS),(17,cS),(40,n),(41,i)] [(9,bB),(19,bS),(12,B)] [];have lS:(xB zS 11).ev ρ=l.length:=tQ (ρ:=ρ) (fun e=>by show((l.length:Nat):Int)=0;rw[eS e];rfl) (by show(0:Int)≤((l.length:Nat):Int);omega);refine(cQ (cC:=[]) (cs:=cs) A H hS [] [] (agc zS aS cS (bU fr)) rfl rfl (yz _) (aab zS aS cS) (ρ:=ρ) (hf.rel (.inl rfl) (loL (v 40) (v 41)) rfl rfl) trivial (fun x hx=>?_) (fun x hx=>?_) (nofun) ai ai rfl).trans fun m1 T1 hd=>?_
   ·simp only[agb,ac,ae,or_false]at hx;rcases hx with rfl|rfl|rfl
    ·show decide (((i:Nat):Int)<(((p.bI.length:Nat):Int).toNat:Int))=true;exact decide_eq_true (by omega)
    ·show decide (((n:Nat):Int)≤2000)=true;exact decide_eq_true (by omega)
    ·show decide ((0:Int)≤((i:Nat):Int))=true;exact decide_eq_true (by omega)
   ·simp only[loM,ac,ae,or_false]at hx;rcases hx with rfl|rfl
    ·refine .inl ⟨rj,_,hj,by simp,?_⟩;dsimp only;rw[j7,eb0];rfl
    ·refine .inr ⟨hx.1,qO A.gX hx.1 ?_⟩;dsimp only;rw[Vt (c:=cS) rfl];exact hx.2
   ·obtain⟨w1,bW,c9,d9,C⟩:=hd;obtain rfl:=C.none;have f1:=C.fr;have z1:bW.i 11=l.length:=C.bE.ii 11;have Yg:bW.i 40=n:=C.bE.ii 40;have zU:bW.i 41=i:=C.bE.ii 41;have z12:bW.b 12=B:=C.bE.bb 12;have lS1:(xB zS 11).ev bW=l.length:=(tQ (ρ:=bW) (fun e=>by rw[z1,eS e];rfl) (by rw[z1];omega)).trans z1;simp only[loL,ah,ak,AV.cf,bF,i64,AV.ev,af,AA.ev,BR.ev,IE.ev,v,z12,Yg,zU,lS1]at f1;rw[show o0 .add .i64 (n:Int) (l.length:Int)=((n+l.length:Nat):Int)from by show IntKind.wrap .i64 ((n:Int)+(l.length:Int))=_;rw[Ie (by omega)];omega,show o0 .add .i64 (i:Int) 1=((i+1:Nat):Int)from by show IntKind.wrap .i64 ((i:Int)+1)=_;rw[Ie (by have:=hs.2.1;omega)];omega]at f1;have e:=Je hl;rw[e,<-Nat.add_assoc];exact ih (i+1) (n+l.length) (by omega) (by omega) ⟨w1,C.eG,C.heap.sub fun r x e=>e,hS⟩ f1
  ·
   obtain⟨w,A,H,hS⟩:=o;let ρ:cn:=gY [(1,p.bI.length),(8,oB),(7,cB),(21,p.cK.length),(28,oP),(27,cP),(40,n),(41,i)] [(9,bB),(29,bP),(12,B)] [];refine(cQ (cC:=[]) (cs:=cs) A H hS [] [] (acv false zP .way rfl (bU fr)) rfl rfl (yz _) (Vq false zP .way) (ρ:=ρ) (hf.rel (.inl rfl) (loL (v 40) (v 41)) rfl rfl) trivial (fun x hx=>?_) (fun x hx=>?_) (nofun) ai ai rfl).mono fun m1 T1 hd=>?_
   ·simp only[LQ,ac,ae,or_false]at hx;rcases hx with rfl|rfl|rfl
    ·show decide (((i:Nat):Int)<(((p.bI.length:Nat):Int).toNat:Int))=true;exact decide_eq_true (by omega)
    ·show decide (((n:Nat):Int)≤2000)=false;exact decide_eq_false (by omega)
    ·show decide (((n:Nat):Int)>2000)=true;exact decide_eq_true (by omega)
   ·simp only[aac,ac,ae,or_false]at hx;rcases hx with rfl|rfl
    ·refine .inl ⟨rj,_,hj,by simp,?_⟩;dsimp only;rw[j7,eb0];rfl
    ·refine .inl ⟨rj,_,hj,by simp,?_⟩;dsimp only;rw[j7,ep0];rfl
   ·obtain⟨w1,bW,c9,d9,C⟩:=hd;obtain rfl:=C.none;refine⟨c9,⟨w1,C.eG,C.heap.sub fun r x e=>e,hS⟩,?_⟩;have:=C.fr;rw[show(decide (2000<n+kN (p.bI.drop i))||decide (4000<p.cK.length))=true from by rw[decide_eq_true (by omega)];rfl];exact this
theorem Vv{rj:cD}(hI:Dt base W0 bv pv p)(hs:p.Jd)(hj:L rj=none)(o:g_ base W0 bJ h N L (G fr cs) m T)(hf:Vu bv pv p fr):
  cm aa m T fun m' T'=>∃bT,g_ base W0 bJ h N L (G bT cs) m' T'∧NT p.Cx bT:=by
 have hI0:=hI;obtain⟨⟨zB,bB,oB,cB,eb0,eB,gB⟩,zP,bP,oP,cP,ep0,eP,_⟩:=hI;obtain⟨w,A,H,hS⟩:=o;let ρ:cn:=gY [(1,p.bI.length),(8,oB),(7,cB),(21,p.cK.length),(28,oP),(27,cP),(31,p.first),(32,p.cd)] [(9,bB),(29,bP)] [];have ea:∀bL:cn,bL.i 1=p.bI.length->bL.i 8=oB->bL.i 7=cB->bL.i 21=p.cK.length->bL.i 28=oP->bL.i 27=cP->bL.i 31=p.first->bL.i 32=p.cd->bL.b 9=bB->bL.b 29=bP->AV.cf bL (Ab zB zP)=sA bv p.first pv p.cd:=fun bL h1 h2 h3 h4 h5 h6 h7 h8 h9 zY=>by simp only[Ab,AV.cf,j7,h1,h2,h3,h4,h5,h6,h9,zY,ap,i64,v,AV.ev,IE.ev,h7,h8,eb0,ep0];rfl
 have ea0:=ea ρ rfl rfl rfl rfl rfl rfl rfl rfl rfl rfl;refine(cQ (cC:=[]) (cs:=cs) A H hS [] [(rj,100,.cells (Ab zB zP) dY)] (asv zB zP (bU fr)) rfl rfl (aaa zB zP _) nU (ρ:=ρ) (hf.rel (.inl rfl) [(0,.agg (Ab zB zP))] ?_ rfl) trivial (nofun) (nofun) (nofun) ai (by simp) rfl).trans fun m1 T1 hd=>?_
 ·simp only[gz,ah,ak,AV.ev,ea0]
 obtain⟨w1,bW,c9,d9,C⟩:=hd;obtain rfl:=C.none;have ea1:=ea bW (C.bE.ii 1) (C.bE.ii 8) (C.bE.ii 7) (C.bE.ii 21) (C.bE.ii 28) (C.bE.ii 27) (C.bE.ii 31) (C.bE.ii 32) (C.bE.bb 9) (C.bE.bb 29);let L1:cg:=cg.set L rj (bW.b 100,.obj dY (sA bv p.first pv p.cd));have f1:=C.fr;have z1:bW.i 1=p.bI.length:=C.bE.ii 1;have lB:(xB zB 1).ev bW=p.bI.length:=(tQ (ρ:=bW) (fun e=>by rw[z1,eB e];rfl) (by rw[z1];omega)).trans z1;simp only[AV.cf,bF,i64,AV.ev,af,AA.ev,BR.ev,IE.ev,lB]at f1;have o1:g_ base W0 bJ h N L1 (G c9 cs) m1 T1:=by
  refine⟨w1,C.eG,C.heap.sub fun r x e=>?_,fun b n di=>?_⟩
  ·by_cases hr:r=rj
   ·subst hr;rw[show L1 r=_ from cg.cj]at e;cases e;refine bX ?_;simp only[cr,ah,ak,aw,decide_true];simp only[cY,ea1]
   ·rw[show L1 r=L r from cg.b7 hr]at e;refine(jj (by simp) fun y hy=>?_).trans e;simp only[cr,ah,ak,ac,ae,or_false]at hy;rw[hy];exact fun e=>hr e.symm
  ·obtain⟨r,q,h1,h2⟩:=hS b n di;exact⟨r,q,(cg.b7 fun e=>by rw[e,hj]at h1;cases h1).trans h1,h2⟩
 refine(Qm (p:=p) (rj:=rj) (B:=bW.b 100) (L:=L1) hI0 hs cg.cj p.bI.length 0 p.bI.length (by omega) (by have:=hs.2.1;omega) o1 f1).mono fun m2 T2 hd=>?_;obtain⟨iE,o2,h2⟩:=hd;refine⟨iE,o2.sub (fun r x e=>(cg.b7 fun e'=>by rw[e',hj]at e;cases e).trans e) hS,?_⟩;unfold Pl.Cx;rw[List.drop_zero]at h2;exact h2
end
abbrev nj:Nat:=17
noncomputable abbrev Fn.copy:Func:=Try.f17
noncomputable def Q9:Array Oper:=fP (pc (bQ Fn.copy) [1,1,0])
theorem agh:(Q9[2]?).isSome=true:=by kernel_rfl
noncomputable def Cy:Oper:=(Q9[2]?).get agh
theorem asA:Q9[2]?=some Cy:=(Option.some_get _).symm
theorem asB:Cy.op=.call {callee:=.builtin .append,args:=#[.tmp 4,.tmp 5],argTypes:=#[37,37]}:=by kernel_rfl
theorem cpG:Cy.guard=none:=by kernel_rfl
theorem cpD:Cy.dst=some 6:=by kernel_rfl
theorem asC:Cy.type=37:=by kernel_rfl
theorem aae:under? aa 37=.ok (.slice 3):=by kernel_rfl
theorem agi:sizeOf? aa 3=.ok 1:=by kernel_rfl
noncomputable def amn:List Item:=[.inRegion Q9 [2,3],.code .ret]
noncomputable def cpE(z:Bool)(st:Nat->Value):bH:=⟨nj,7,bZ 7 st [(0,Jb z 29 28 21 27)],[.code (bQ Fn.copy)],[],.run,.normal⟩
theorem asD(z:Bool)(st:Nat->Value):c7 (cO [] [] 12 [] (cJ (cpE z st) [] [])) [4,5] (fun _=>[])=some (⟨nj,7,amn,[],.run,.normal,[],[],[eU,Jb z 29 28 21 27]⟩,[]):=by cases z<;>kernel_rfl
theorem aaf(z:Bool)(st:Nat->Value):bR 100 (cJ (cpE z st) [] [])=true:=by cases z<;>kernel_rfl
noncomputable def cpR(st:Nat->Value):bH:=⟨nj,7,bZ 7 st [(6,.ez 59)],[.inRegion Q9 [3],.code .ret],[],.run,.normal⟩
theorem amo(st:Nat->Value):c7 (cO [] [] 2 [] (cJ (cpR st) [] [])) [2] (fun _=>[])=some (⟨nj,7,[.code .ret],[],.run,.normal,[],[],[.ez 59]⟩,[]):=by kernel_rfl
theorem Vw(st:Nat->Value):bR 100 (cJ (cpR st) [] [])=true:=by kernel_rfl
theorem agj{b o i:Nat}:(⟨b,o,none⟩:Addr).add i=⟨b,o+i,none⟩:=by unfold Addr.add;split<;>simp_all
theorem Cz{P:Program}{Ev:Event->Prop}{E:Value->World->Prop}{w:World}{b o:Nat}{f:Nat->Value}(rd:∀a,Ev ⟨.cell a,false,false⟩):∀(n j:Nat) (gG:Array Value),(∀i,i<n->w.cell? ⟨b,o+(j+i),none⟩=some (f (j+i)))->∀{Q:Array Value->World->Prop},
  Q (gG++((List.range n).map fun i=>f (j+i)).toArray) w->wq P Ev E (loadCellsFrom ⟨b,o,none⟩ j n gG) Q w
 |0,j,gG,h,Q,hq=>by simpa[loadCellsFrom] using hq
 |n+1,j,gG,h,Q,hq=>by
  simp only[loadCellsFrom,bG];rw[v9,agj];refine⟨f j,h 0 (Nat.succ_pos n),rd _,Cz (f:=f) rd n (j+1) (gG.push (f j)) (fun i hi=>?_) ?_⟩
  ·have:=h (i+1) (by omega);rw[show j+(i+1)=j+1+i by omega]at this;exact this
  ·have e:gG.push (f j)++((List.range n).map fun i=>f (j+1+i)).toArray=gG++((List.range (n+1)).map fun i=>f (j+i)).toArray:=by
    rw[List.range_succ_eq_map];simp only[ah,List.map_map,Nat.add_zero];refine Array.ext' ?_;simp only[Array.toList_append,Array.toList_push,List.append_assoc,List.singleton_append];congr 2;refine aY fun i _=>?_;show f (j+1+i)=f (j+(i+1));rw[show j+1+i=j+(i+1) by omega]
   rw[e];exact hq
theorem NU:(Try.prog.info? 3).map (fun i=>(i.size,i.bytes))=some (1,8):=by kernel_rfl
theorem agk:(zero? aa 3).toOption.map AV.cells?=some (.ok [.int .i64 (.lit 0)]):=by kernel_rfl
theorem aag{Ev:Event->Prop}{E:Value->World->Prop}{w:World}{z:Bool}{b o c:Nat}{P:List Int}(rd:∀a,Ev ⟨.cell a,false,false⟩)(nr:Ev ⟨.mark .noRoom,false,true⟩)(hz:z=true->P=[])(hc:∀i n,P[i]?=some n->w.cell? ⟨b,o+i,none⟩=some (iV n))(hn:P.length≤1048576){Q:Value->World->Prop}
 (h0:P=[]->Q fO w)(h1:P≠[]->∀(cap:Nat) (w0:World) (arr:Array Value) (rest:List Value),w0.heap=w.heap->w0.tape=w.tape->w0.os=w.os->w0.output=w.output->arr.toList=P.map iV++rest->arr.size=cap->P.length≤cap->
   Q (.slice (some ⟨w.heap.size,0,none⟩) P.length cap) {w0 with heap:=w0.heap.push (.cells arr 3 (0,0))}):
  wq aa Ev E (Builtin.append_ #[37,37] 37 #[fO,GD z b o P.length c]) Q w:=by
 obtain⟨o_,j0,hsz,hby⟩:∃i,Try.prog.info? 3=some i∧i.size=1∧i.bytes=8:=by
  have:=NU;cases e:Try.prog.info? 3 with
  |none=>rw[e]at this;cases this
  |some i=>rw[e]at this;simp only[af,Option.some.injEq,Prod.mk.injEq]at this;exact⟨i,rfl,this.1,this.2⟩
 obtain⟨zv,hzv,hzc⟩:∃z,zero? aa 3=.ok z∧z.cells?=.ok [.int .i64 (.lit 0)]:=by
  have:=agk;cases e:zero? aa 3 with
  |error x=>rw[e]at this;cases this
  |ok i=>rw[e]at this;have h2:some i.cells?=some (.ok [.int .i64 (.lit 0)]):=this;exact⟨i,rfl,au h2⟩
 have Kt:∀{Q':Nat->World->Prop} {w':World},Q' P.length w'->wq aa Ev E (Builtin.lenOf (GD z b o P.length c)) Q' w':=fun{Q' w'} hq=>by
  cases z with
  |true=>rw[hz rfl]at hq⊢;exact hq
  |false=>exact hq
 have Vx:∀{Q':Array Value->World->Prop} {w':World},w'.heap=w.heap->Q' (P.map iV).toArray w'->wq aa Ev E (Builtin.firstCells 1 P.length (GD z b o P.length c)) Q' w':=fun{Q' w'} hw hq=>by
  cases z with
  |true=>rw[hz rfl]at hq⊢;exact hq
  |false=>
   show wq aa Ev E (loadCells ⟨b,o,none⟩ (P.length*1)) Q' w';rw[Nat.mul_one];refine Cz (f:=fun i=>iV (P.getD i 0)) rd P.length 0 #[] (fun i hi=>?_) ?_
   ·rw[Nat.zero_add];have:=hc i P[i] (aF hi);simp only[World.cell?]at this⊢;rw[hw,this];simp[bA,aF hi]
   ·have e:((List.range P.length).map fun i=>iV (P.getD (0+i) 0))=P.map iV:=by
     refine List.ext_getElem (by simp) fun i h2 h3=>?_;simp only[bj,bh]at h2;simp[bA,aF h2]
    rw[e];simpa using hq
 unfold Builtin.append_;simp only[bw,List.getElem?_cons_zero,List.getElem?_cons_succ,bG,b_ (dT aae),d3 agi,bO,fO];simp only[aR,if_false];rw[bG];refine Kt ?_;simp only[Bool.not_false,if_true,Nat.zero_add];by_cases hp:P=[]
 ·have e0:P.length≤0:=by rw[hp];exact aq _
  rw[if_pos e0,bG];refine Vx rfl ?_;show Q (.slice none P.length 0) w;rw[hp];exact h0 hp
 ·have kY:0<P.length:=aG.2 hp;rw[if_neg (by omega),bG,dZ j0,if_neg (by rw[hby];intro hh;exact hh.2.elim id (fun h3=>by omega)),bG,dZ j0,if_neg (by rw[hby];exact nv (by omega) hn (by omega))];rw[bG,tV,if_neg (by simp[Question.forced])];intro nn;rw[bG,dZ j0];have ask:∀{m:Nat} {Q':Unit->World->Prop} {w':World},Q' () w'->wq aa Ev E (askRoom m) Q' w':=by
   intro m Q' w' km;unfold askRoom;simp only[iF,pp,bO];split
   ·exact⟨nr,km⟩
   ·exact km
  rw[bG];refine ask ?_;simp only[bG];show wq aa Ev E (Builtin.firstCells 1 P.length (GD z b o P.length c)) _ _;refine Vx rfl ?_;simp only[fR (ρ:=(gY [] [] [])) hzv,newRow,jV,bO];have AC:P.length≤Question.cut (.appendCap P.length 0 3) nn:=by simp only[Question.cut];omega
  generalize W5:Question.cut (.appendCap P.length 0 3) nn=d8 at AC;refine h1 hp d8 {w with drawn:=w.drawn+1} _ (Builtin.zeroCells (zv.ev (gY [] [] [])).cells (d8-P.length)).toList rfl rfl rfl rfl ?_ ?_ AC
  ·simp
  ·have e1:(zv.ev (gY [] [] [])).cells.size=1:=by rw[iR hzc _];simp[dt]
   simp only[Array.size_append,Builtin.zeroCells,Array.size_map,Array.size_range,List.size_toArray,e1,bj];simp;omega
section
variable {base:Nat}{W0:World}{bJ:Nat->Option Tok.Seat}{h N:Nat}{m:Machine}{T:Trace}{L:cg}{cs:List Frame}{fr:Frame}{pv:Value}{P:List Int}{rc:cD}
def cpL(L:cg)(rc:cD)(PA cP:Nat):List Int->cg
 |[]=>L
 |P=>cg.set L rc (PA,.fF 3 cP (P.map iV))
theorem LR{PA cP:Nat}{r:cD}(hr:r≠rc):cpL L rc PA cP P r=L r:=by
 cases P with
 |nil=>rfl
 |cons a l=>exact cg.b7 hr
theorem Vy{PA cP:Nat}(hp:P≠[]):cpL L rc PA cP P rc=some (PA,.fF 3 cP (P.map iV)):=by
 cases P with
 |nil=>exact absurd rfl hp
 |cons a l=>exact cg.cj
theorem LS{PA cP:Nat}{r:cD}{y:Nat×fK}(hc:L rc=none)(e:L r=some y):cpL L rc PA cP P r=some y:=(LR fun hr=>by rw[hr,hc]at e;cases e).trans e
theorem Qn(hI:Vr base W0 pv P)(hn:P.length≤1048576)(hc:L rc=none)(o:g_ base W0 bJ h N L (G fr cs) m T)(hf:FA nj 7 amn [] .normal [(4,fO),(5,pv)] fr):
  cm aa m T fun m' T'=>∃PA cP bT,g_ base W0 bJ h N (cpL L rc PA cP P) (G bT cs) m' T'∧FA nj 7 [.inRegion Q9 [3],.code .ret] [] .normal [(6,c_ P.length PA cP)] bT:=by
 obtain⟨w,A,H,hS⟩:=o;obtain⟨z,b,oo,c,rfl,hz,hP⟩:=hI;obtain⟨⟨tm,rfl,h2,h3⟩,h4,h5⟩:=hf;have hw:Region.wanted Cy (yielded Q9 (⟨tm,[]⟩:Act).tmps)=true:=by unfold Region.wanted;rw[cpG]
 have rm:(iD nj .normal).kind≠.early:=by simp[iD]
 let S:Goroutine->World->Prop:=fun g' w'=>∃v,g'=G ((iD nj .normal).at ((⟨tm,[]⟩:Act).put Cy.dst v) (.inRegion Q9 [3]::[.code .ret])) cs∧w'.os=w.os∧w'.output=w.output∧w'.tape=w.tape∧
  ((P=[]∧v=fO∧w'.heap=w.heap)∨(P≠[]∧∃cap arr rest,v=.slice (some ⟨w.heap.size,0,none⟩) P.length cap∧w'.heap=w.heap.push (.cells arr 3 (0,0))∧arr.toList=P.map iV++rest∧arr.size=cap))
 have kpS:∀{own:Nat->Prop} {g':Goroutine} {w':World},S g' w'->(∀b,w.heap.size≤b->own b)->cE own w w':=fun{own g' w'} hs ho=>by
  obtain⟨v,_,e1,e2,e3,hh⟩:=hs;rcases hh with⟨_,_,e4⟩|⟨_,cap,arr,rest,_,e4,_,_⟩
  ·exact⟨fun n _=>by rw[e4],by rw[e4];exact aq _,e3,e1,e2⟩
  ·refine⟨fun n hn=>?_,by rw[e4,Array.size_push];omega,e3,e1,e2⟩;rw[e4,Array.getElem?_push];have:n≠w.heap.size:=fun e=>hn (ho n (by omega));simp[this]
 have W:dy aa (h==0) (DK (SK aa base bJ)) S 1 (G ((iD nj .normal).at ⟨tm,[]⟩ (.inRegion Q9 [2,3]::[.code .ret])) cs) w:=dy.one rfl fun d=>by
  let Qx:Go.Next->World->Prop:=fun nx w'=>∃v,nx=.value v∧S (G ((iD nj .normal).at ((⟨tm,[]⟩:Act).put Cy.dst v) (.inRegion Q9 [3]::[.code .ret])) cs) w';have hwq:wq aa (SK aa base bJ).Ev (fun _ _=>False) (execOp (⟨tm,[]⟩:Act).eval Cy) Qx (cM w d):=by
   unfold execOp;simp only[asB,asC,resolve,bG,bO,invoke,builtin];rw[show Array.map (⟨tm,[]⟩:Act).eval #[Operand.tmp 4,Operand.tmp 5]=#[(⟨tm,[]⟩:Act).eval (.tmp 4),(⟨tm,[]⟩:Act).eval (.tmp 5)]from by simp];rw[show(⟨tm,[]⟩:Act).eval (.tmp 4)=fO from h3 (4,fO) (by simp),show(⟨tm,[]⟩:Act).eval (.tmp 5)=GD z b oo P.length c from h3 (5,GD z b oo P.length c) (by simp)];refine aag (fun a=>nT _ a false) (ik.Good.noRoom (pJ (P:=aa) (base:=base) (bJ:=bJ))) hz (fun i n e=>?_) hn (fun hp=>?_) fun hp cap w0 arr rest e1 e2 e3 e4 e5 e6 e7=>?_
   ·have:=hP i n e;exact qO (w:=cM w d) (A.gX.trans (fw _ _ _)) this.1 this.2
   ·exact⟨fO,rfl,fO,rfl,rfl,rfl,rfl,.inl ⟨hp,rfl,rfl⟩⟩
   ·refine⟨_,rfl,_,rfl,e3,e4,e2,.inr ⟨hp,cap,arr,rest,rfl,?_,e5,e6⟩⟩;show w0.heap.push _=_;rw[e1];rfl
  obtain⟨q1,q2⟩:=ou hwq;cases e:(execOp (⟨tm,[]⟩:Act).eval Cy).run aa (cM w d)with
  |halt x w'=>rw[e]at q1;cases x<;>exact q1.elim
  |ok nx w'=>rw[e]at q1;obtain⟨v,rfl,hs⟩:=q1;rw[stepG_value asA hw rm e];have kp:=kpS (own:=(SK aa base bJ).own) hs A.new;refine⟨⟨⟨fun n hn=>kp.heap n hn,kp.size,kp.tape,kp.os,kp.output⟩,fun x hx=>q2 _ (mem_listed hx),fun b' n v' di Q0=>?_⟩,hs⟩;have R5:=kpS (own:=fun b=>w.heap.size≤b) hs fun _ x=>x;have dU:b'<w.heap.size:=FL Q0;simp only[World.cell?]at Q0⊢;rw[R5.heap b' (Nat.not_le.2 dU)];exact Q0
 refine(A.uu W fun a1 w1 hd=>kpS hd fun b hb=>bp A.size hb).mono fun m1 T1 hd=>?_;obtain⟨a1,w1,A1,hs⟩:=hd;have kp:=kpS (own:=fun b=>w.heap.size≤b) hs fun _ x=>x;obtain⟨v,rfl,_,_,_,hh⟩:=hs;have acx:∀x,FA nj 7 [.inRegion Q9 [3],.code .ret] [] .normal [(6,x)] ((iD nj .normal).at ((⟨tm,[]⟩:Act).put Cy.dst x) (.inRegion Q9 [3]::[.code .ret])):=fun x=>by rw[cpD];refine⟨⟨tm.setIfInBounds 6 x,rfl,by rw[Array.size_setIfInBounds];exact h2,fun p hp=>?_⟩,h4,h5⟩;obtain rfl:=ad.1 hp;rw[B7,if_pos ⟨rfl,by omega⟩]
 rcases hh with⟨hp,rfl,e4⟩|⟨hp,cap,arr,rest,rfl,e4,e5,e6⟩
 ·subst hp;exact⟨0,0,_,⟨w1,A1,H.Eg kp,hS⟩,acx _⟩
 ·refine⟨w.heap.size,cap,_,⟨w1,A1,?_,fun b n di=>?_⟩,?_⟩
  ·have hR:=H.i0 (own:=fun b=>w.heap.size≤b) kp (drop:=[]) (fun r b k e _=>Nat.not_le.2 (H.lt e)) (new:=[(rc,w.heap.size,.fF 3 cap (P.map iV))]) (fun x hx=>by
    obtain rfl:=ad.1 hx;refine⟨?_,aq _,A.size⟩;obtain⟨i,hi,h1⟩:∃i,Try.prog.info? 3=some i∧i.size=1:=by
     have:=NU;cases e:Try.prog.info? 3 with
     |none=>rw[e]at this;cases this
     |some i=>rw[e]at this;simp only[af,Option.some.injEq,Prod.mk.injEq]at this;exact⟨i,rfl,this.1⟩
    exact⟨arr,rest,i,by rw[e4];simp,hi,e5,by rw[h1,e6];omega⟩) (by simp)
   refine hR.sub fun r x e=>?_;by_cases hr:r=rc
   ·subst hr;rw[Vy hp]at e;cases e;exact bX (by simp)
   ·rw[LR hr]at e;refine(jj (by simp) fun y hy=>?_).trans e;obtain rfl:=ad.1 hy;exact fun e=>hr e.symm
  ·obtain⟨r,q,g1,g2⟩:=hS b n di;exact⟨r,q,LS hc g1,g2⟩
  ·rw[cy (aG.2 hp)];exact acx _
abbrev agl(pv:Value)(fr:Frame):Prop:=FA nj 7 [.code (bQ Fn.copy)] [] .normal [(0,pv)] fr
abbrev aah(v:Value)(fr:Frame):Prop:=FA nj 7 [.code .ret] [] .normal [(2,v)] fr
theorem Vz(hI:Vr base W0 pv P)(hn:P.length≤1048576)(hc:L rc=none)(o:g_ base W0 bJ h N L (G fr cs) m T)(hf:agl pv fr):
  cm aa m T fun m' T'=>∃PA cP bT,g_ base W0 bJ h N (cpL L rc PA cP P) (G bT cs) m' T'∧aah (c_ P.length PA cP) bT:=by
 have hI0:=hI;obtain⟨z,b,oo,c,e0,hz,_⟩:=hI;obtain⟨w,A,H,hS⟩:=o;let ρ:cn:=gY [(21,P.length),(28,oo),(27,c)] [(29,b)] [];refine(cQ (cC:=[]) (cs:=cs) A H hS [] [] (asD z (bU fr)) rfl rfl (aaf z _) nU (ρ:=ρ) (hf.rel (.inl rfl) [(0,Jb z 29 28 21 27)] ?_ rfl) trivial (nofun) (nofun) (nofun) ai ai rfl).trans fun m1 T1 hd=>?_
 ·simp only[gz,ah,ak,j7,e0];rfl
 obtain⟨w1,bW,c9,d9,C⟩:=hd;obtain rfl:=C.none;have f1:=C.fr;have ev:(Jb z 29 28 21 27).ev bW=pv:=by rw[j7,C.bE.bb 29,C.bE.ii 28,C.bE.ii 21,C.bE.ii 27,e0];rfl
 simp only[AV.cf,ev]at f1;refine(Qn (fr:=c9) hI0 hn hc ⟨w1,C.eG,C.heap.sub fun r x e=>e,hS⟩ f1).trans fun m2 T2 hd=>?_;obtain⟨PA,cP,iE,⟨w2,A2,H2,Q2⟩,f2⟩:=hd;refine(cQ (cC:=[]) (cs:=cs) A2 H2 Q2 [] [] (amo (bU iE)) rfl rfl (Vw _) nU (ρ:=gY [] [] [(59,c_ P.length PA cP)]) (f2.rel (.inl rfl) [(6,.ez 59)] rfl rfl) trivial (nofun) (nofun) (nofun) ai ai rfl).mono fun m3 T3 hd=>?_;obtain⟨w3,qm,kH,KX,C3⟩:=hd;obtain rfl:=C3.none;refine⟨PA,cP,kH,⟨w3,C3.eG,C3.heap.sub fun r x e=>e,Q2⟩,?_⟩;have f3:=C3.fr;have WB:qm.v 59=c_ P.length PA cP:=congrFun C3.bE.v 59;simp only[AV.cf,AV.ev,WB]at f3;exact f3
end
end Go.Proofs.Ythaddgfbohmfoaa
namespace Go.Proofs.Ythaddgfbohmfoaa
open Go.Proofs.Ythaddgfbohmfoaa.SX Go.Conc
abbrev i7:Nat:=16
abbrev jM:Nat:=94
noncomputable abbrev Fn.ki:Func:=Try.f16
noncomputable def tdB:Code:=pc (bQ Fn.ki) [1,1,0,1,0,0]
noncomputable def tdU:Code:=pc (bQ Fn.ki) [1,1,0,1,0,0,1,0,0,1,0,1,0,0]
noncomputable def tdT:List Item:=[.code tdB,.inLoop tdB,.inBlock 0,.code (pc (bQ Fn.ki) [1,1,1])]
noncomputable def aai:List Item:=[.code tdU,.inLoop tdU,.inBlock 2,.code (pc (bQ Fn.ki) [1,1,0,1,0,0,1,0,0,1,1]),.inBlock 1,.code (pc (bQ Fn.ki) [1,1,0,1,0,0,1,1]),.inLoop tdB,.inBlock 0,.code (pc (bQ Fn.ki) [1,1,1])]
noncomputable def tdZ:List Item:=[.code (pc (bQ Fn.ki) [1,1,1,0]),.code .ret]
noncomputable def tdE(zB zP:Bool)(st:Nat->Value):bH:=⟨i7,58,bZ 58 st [(0,.agg (Ab zB zP))],[.code (bQ Fn.ki)],[],.run,.normal⟩
noncomputable def pl0:List AV:=[eU,i64 (.lit 0),eU,i64 (.lit 0)]
theorem asG(zB zP:Bool)(st:Nat->Value):c7 (cO [] [] 16 [101,100] (cJ (tdE zB zP st) [] [])) [1,2,3,4] (fun _=>[])=some (⟨i7,58,tdT,[],.run,.normal,[],[(101,.cells pl0 dY),(100,.cells (Ab zB zP) dY)],[bF 100,bF 101,eU,i64 (.lit 0)]⟩,[]):=by cases zB<;>cases zP<;>kernel_rfl
theorem aaj(zB zP:Bool)(st:Nat->Value):bR 100 (cJ (tdE zB zP st) [] [])=true:=by cases zB<;>cases zP<;>kernel_rfl
noncomputable def tdL(l:AV):List (Nat×AV):=[(1,bF 12),(2,bF 13),(3,l),(4,i64 (v 41))]
noncomputable def tdH(l:AV)(st:Nat->Value):bH:=⟨i7,58,bZ 58 st (tdL l),tdT,[],.run,.normal⟩
noncomputable def LU:List (BE×Bool):=[(.cmp .lss (v 41) (.tn (v 1)),true),(.cmp .leq (.lit 0) (v 41),true)]
noncomputable def VA:List (AA×AV):=[(⟨.cN 12,.lit 0⟩,Jb false 9 8 1 7)]
noncomputable def VB(x:Bool)(a:Option Addr)(c:Nat):List (AA×AV):=VA++[(⟨.cN 9,.plus (.tn (v 8)) (.tn (v 41))⟩,slr x a c)]
theorem asI(st:Nat->Value):c7 (cO LU VA 24 [] (cJ (tdH (.ez 70) st) [] [])) [1,2,3,4,5,6] (fun _=>[])=some (⟨i7,58,aai,[],.run,.normal,[],[],[bF 12,bF 13,.ez 70,i64 (v 41),eU,i64 (.lit 0)]⟩,[]):=by kernel_rfl
theorem VC(st:Nat->Value):bR 100 (cJ (tdH (.ez 70) st) [] [])=true:=by kernel_rfl
theorem amq:(OO LU [] VA).low 100=true:=by kernel_rfl
noncomputable def tuL(l b:AV):List (Nat×AV):=tdL l++[(5,b),(6,i64 (v 42))]
noncomputable def tuH(l b:AV)(st:Nat->Value):bH:=⟨i7,58,bZ 58 st (tuL l b),aai,[],.run,.normal⟩
noncomputable def tuI:IE:=.plus (.tn (v 18)) (.times (.tn (v 42)) (.lit 4))
noncomputable def tuM:List (AA×AV):=VB false none 0++[(⟨.cN 19,tuI⟩,i8 (v 43)),(⟨.cN 19,nJ tuI 1⟩,i64 (v 44)),(⟨.cN 19,nJ tuI 2⟩,i64 (v 45)),(⟨.cN 19,nJ tuI 3⟩,i64 (v 46))]
noncomputable def agm:IE:=.op .rem .i64 (v 44) (.lit 6)
noncomputable def plE(s:Bool):IE:=Bool.rec agm (.op .add .i64 agm (.lit 6)) s
noncomputable def agn(y s:Bool):List (BE×Bool):=LU++[(.cmp .lss (v 42) (.tn (v 11)),true),(.cmp .leq (.lit 0) (v 42),true),(.cmp .lss agm (.lit 0),s)]++Bool.rec [(.cmp .leq (.plus (.tn (v 61)) (.lit 1)) (.lit 1048576),true)] [] y
noncomputable def WL(s:Bool):List AV:=[i8 (v 43),i64 (plE s),i64 (v 45),i64 (v 46)]
noncomputable def ago(y:Bool):List (Nat×bM):=Bool.rec [(60,.cH false 63 (v 61) [] [] [] 96 (v 62))] [] y
noncomputable def tuA(y s:Bool):bM:=Bool.rec (.cH false 63 (v 61) [] [] (WL s) 96 (v 102)) (.row (WL s) 96 (v 102)) y
noncomputable def ams(y s:Bool):List (Nat×bM):=[(102,tuA y s),(101,.cells (WL s) 96),(100,.cells (WL s) 96)]
noncomputable def amt(y:Bool):AV:=.slice (some ⟨.cN 102,.lit 0⟩) (Bool.rec (.plus (.tn (v 61)) (.lit 1)) (.lit 1) y) (v 102)
noncomputable def tuN(s:Bool):Nat:=Bool.rec 77 82 s
theorem agp(y s:Bool)(st:Nat->Value):c7 (cO (agn y s) tuM (tuN s) [102,101,100] (cJ (tuH (.ez 70) (iL y 60 61 62) st) [] (ago y))) [1,2,3,4,5,6] (fun _=>[])=some (⟨i7,58,aai,[],.run,.normal,[],ams y s,[bF 12,bF 13,.ez 70,i64 (v 41),amt y,i64 (.op .add .i64 (v 42) (.lit 1))]⟩,[]):=by cases y<;>cases s<;>kernel_rfl
theorem amu(y:Bool)(st:Nat->Value):bR 100 (cJ (tuH (.ez 70) (iL y 60 61 62) st) [] (ago y))=true:=by cases y<;>kernel_rfl
theorem tuO(y s:Bool):(OO (agn y s) [] tuM).low 100=true:=by cases y<;>cases s<;>kernel_rfl
noncomputable def agq(x z:Bool):List (BE×Bool):=LU++[(.cmp .lss (v 42) (xB x 11),false)]++Bool.rec [(.cmp .leq (.plus (.tn (v 51)) (.lit 1)) (.lit 1048576),true)] [] z
noncomputable def agr(z:Bool):List (Nat×bM):=Bool.rec [(50,.cH false 53 (v 51) [] [] [] jM (v 52))] [] z
noncomputable def tnA(y z:Bool):bM:=Bool.rec (.cH false 53 (v 51) [] [] [iL y 60 61 62] jM (v 101)) (.row [iL y 60 61 62] jM (v 101)) z
noncomputable def amv(y z:Bool):List (Nat×bM):=[(101,tnA y z),(100,.cells [iL y 60 61 62] jM)]
noncomputable def amw(z:Bool):AV:=.slice (some ⟨.cN 101,.lit 0⟩) (Bool.rec (.plus (.tn (v 51)) (.lit 1)) (.lit 1) z) (v 101)
theorem ags(x y z:Bool)(a:Option Addr)(c:Nat)(st:Nat->Value):c7 (cO (agq x z) (VB x a c) 28 [101,100] (cJ (tuH (iL z 50 51 52) (iL y 60 61 62) st) [] (agr z))) [1,2,3,4] (fun _=>[])=some (⟨i7,58,tdT,[],.run,.normal,[],amv y z,[bF 12,bF 13,amw z,i64 (.op .add .i64 (v 41) (.lit 1))]⟩,[]):=by cases x<;>cases y<;>cases z<;>kernel_rfl
theorem Qo(y z:Bool)(st:Nat->Value):bR 100 (cJ (tuH (iL z 50 51 52) (iL y 60 61 62) st) [] (agr z))=true:=by cases y<;>cases z<;>kernel_rfl
theorem aal(x z:Bool)(a:Option Addr)(c:Nat):(OO (agq x z) [] (VB x a c)).low 100=true:=by cases x<;>cases z<;>kernel_rfl
noncomputable def amx(zB:Bool):List (BE×Bool):=[(.cmp .lss (v 41) (xB zB 1),false)]
noncomputable def tzM(zB:Bool):List (AA×AV):=[(⟨.cN 12,.lit 0⟩,Jb zB 9 8 1 7)]
theorem amy(zB:Bool)(st:Nat->Value):c7 (cO (amx zB) (tzM zB) 12 [] (cJ (tdH (.ez 70) st) [] [])) [1,2,3,4] (fun _=>[])=some (⟨i7,58,tdZ,[],.run,.normal,[],[],[bF 12,bF 13,.ez 70,i64 (v 41)]⟩,[]):=by cases zB<;>kernel_rfl
theorem agt(zB:Bool):(OO (amx zB) [] (tzM zB)).low 100=true:=by cases zB<;>kernel_rfl
end Go.Proofs.Ythaddgfbohmfoaa
namespace Go.Proofs.Ythaddgfbohmfoaa
open Go.Proofs.Ythaddgfbohmfoaa.SX Go.Conc
open Go.ConcN (upd upd_ne upd_same)
open Go.Proofs.Try renaming prog->aa
open _root_.List renaming mem_cons->ac,mem_singleton->ad,not_mem_nil->ae,map_cons->ah,nodup_nil->ai,map_nil->ak,mem_cons_of_mem->am,mem_cons_self->an,find?_cons->aw,mem_append->ay,cons_append->az,nil_append->aA,length_append->aD,getElem?_append_right->aE,getElem?_eq_getElem->aF,getElem?_eq_some_iff->aH,all_eq_true->aO,getElem?_append_left->aP,mem_filter->aU,append_nil->aX,length_cons->bd,mem_of_getElem?->bf
open _root_.Option renaming map_some->af
open _root_.Nat renaming le_refl->aq,lt_or_ge->bo
open _root_.Option.some renaming inj->au
def fX(n m:Int):Int:=if n.tmod m<0 then n.tmod m+m else n.tmod m
theorem qQ{n m:Int}(h:0<m):0≤fX n m∧fX n m<m:=by have h1:=Int.tmod_lt_of_pos n h;have h2:=Int.lt_tmod_of_pos n h;unfold fX;split<;>omega
def Rp.ki(r:Rp):Sp:=⟨r.op,(fX r.c 6).toNat,r.arg,r.nw⟩
theorem Rp.aam(r:Rp):r.ki.ok:=by have:=qQ (n:=r.c) (m:=6) (by decide);show(fX r.c 6).toNat<6;omega
theorem Rp.EQ(r:Rp):r.ki.dx=[qn r.op,iV (fX r.c 6),iV r.arg,iV r.nw]:=by have:=qQ (n:=r.c) (m:=6) (by decide);show[qn r.op,iV (((fX r.c 6).toNat:Nat):Int),iV r.arg,iV r.nw]=_;rw[Int.toNat_of_nonneg this.1]
def kZ:List Rp->List Value
 |[]=>[]
 |r::l=>r.ki.dx++kZ l
theorem CA:∀l:List Rp,(kZ l).length=4*l.length
 |[]=>rfl
 |r::l=>by show(r.ki.dx++kZ l).length=_;rw[aD,CA l,bd];show 4+_=_;omega
theorem Jf:∀l l':List Rp,kZ (l++l')=kZ l++kZ l'
 |[],l'=>rfl
 |r::l,l'=>by show r.ki.dx++kZ (l++l')=(r.ki.dx++kZ l)++kZ l';rw[Jf l l',List.append_assoc]
theorem NV:∀{l:List Rp} {k:Nat} {r:Rp},l[k]?=some r->(kZ l)[k*4]?=some (qn r.op)∧(kZ l)[k*4+1]?=some (iV (fX r.c 6))∧(kZ l)[k*4+2]?=some (iV r.arg)∧(kZ l)[k*4+3]?=some (iV r.nw)
 |[],k,r,h=>by cases h
 |x::l,0,r,h=>by cases h;show(x.ki.dx++kZ l)[0*4]?=_∧(x.ki.dx++kZ l)[0*4+1]?=_∧(x.ki.dx++kZ l)[0*4+2]?=_∧(x.ki.dx++kZ l)[0*4+3]?=_;rw[Rp.EQ];exact⟨rfl,rfl,rfl,rfl⟩
 |x::l,k+1,r,h=>by
  have:=NV (l:=l) (k:=k) (r:=r) (by simpa using h);have e:∀j,(kZ (x::l))[(k+1)*4+j]?=(kZ l)[k*4+j]?:=fun j=>by show(x.ki.dx++kZ l)[(k+1)*4+j]?=_;have hl:x.ki.dx.length=4:=rfl;rw[aE (by omega),hl,show(k+1)*4+j-4=k*4+j by omega]
  exact⟨(e 0).trans this.1,(e 1).trans this.2.1,(e 2).trans this.2.2.1,(e 3).trans this.2.2.2⟩
def qT(a LA cL:Nat)(dx:List Value)(arr:Nat->Option (Nat×fK))(L:cg):cg:=fun r=>if r.1=a then(match r.2 with
 |.app 3 j=>arr j
 |.app 4 _=>if r.2=.app 4 0 then(if dx=[]then none else some (LA,.fF jM cL dx))else L r
 |_=>L r)else L r
def u0(l:List Rp)(IA cI:Nat):Option (Nat×fK):=if l=[]then none else some (IA,.fF 96 cI (kZ l))
section
variable {a LA cL:Nat}{dx:List Value}{arr:Nat->Option (Nat×fK)}{L:cg}
theorem VD{j:Nat}:qT a LA cL dx arr L (a,.app 3 j)=arr j:=by simp[qT]
theorem VE:qT a LA cL dx arr L (a,.app 4 0)=if dx=[]then none else some (LA,.fF jM cL dx):=by simp[qT]
theorem vN{j:Nat}:qT a LA cL dx arr L (a,.app 12 j)=L (a,.app 12 j):=by simp[qT]
theorem Jg:qT a LA cL dx arr L (a,.dN)=L (a,.dN):=by simp[qT]
theorem aan{ja:Nat->Option (Nat×fK)}{i:Nat}{r:cD}(hr:r≠(a,.app 3 i))(h:∀j,j≠i->ja j=arr j):qT a LA cL dx ja L r=qT a LA cL dx arr L r:=by
 obtain⟨z,k⟩:=r;unfold qT;dsimp only;split
 ·rename_i hz;subst hz;split
  ·rename_i j;exact h j fun e=>hr (by rw[e])
  ·rfl
  ·rfl
 ·rfl
theorem aao{Lp Lq:Nat}{NW:List Value}{r:cD}(hr:r≠(a,.app 4 0)):qT a Lp Lq NW arr L r=qT a LA cL dx arr L r:=by
 obtain⟨z,k⟩:=r;unfold qT;dsimp only;split
 ·rename_i hz;subst hz;split
  ·rfl
  ·rename_i j;have:¬(RK.app 4 j=RK.app 4 0):=fun e=>hr (by rw[e]);rw[if_neg this,if_neg this]
  ·rfl
 ·rfl
end
theorem Jh(no:TypeInfo)(hi:Try.prog.info? 96=some no):no.size=4:=by
 have e2:(Try.prog.info? 96).map (fun x=>x.size)=some 4:=by kernel_rfl
 rw[hi]at e2;exact au e2
theorem VF(no:TypeInfo)(hi:Try.prog.info? jM=some no):no.size=1:=by
 have e2:(Try.prog.info? jM).map (fun x=>x.size)=some 1:=by kernel_rfl
 rw[hi]at e2;exact au e2
section
variable {base:Nat}{W0:World}{h N:Nat}{m:Machine}{T:Trace}{L:cg}{cs:List Frame}{fr:Frame}{p:Pl}{bv pv lv:Value}{a B RB LA cL:Nat}{dx:List Value}{arr:Nat->Option (Nat×fK)}{i:Nat}{l:List Rp}
abbrev eZ:Nat->Option Tok.Seat:=fun _=>none
abbrev Qp(B RB:Nat)(lv:Value)(i:Nat)(bv:Value)(k:Nat)(fr:Frame):Prop:=FA i7 58 aai [] .normal [(1,cb B),(2,cb RB),(3,lv),(4,iV i),(5,bv),(6,iV k)] fr
theorem Qq{k IA cI:Nat}{r:Rp}(hI:Jc base W0 bv p.bI)(hB:L (a,.app 12 0)=some (B,.obj dY (sA bv p.first pv p.cd)))(hJ:L (a,.dN)=none)(hl:p.bI[i]?=some l)(hr:l[k]?=some r)(hn:l.length≤2000)(vS:i≤1000000)
 (o:g_ base W0 eZ h N (qT a LA cL dx (upd arr i (u0 (l.take k) IA cI)) L) (G fr cs) m T)(hf:Qp B RB lv i (c_ k IA cI) k fr):
  cm aa m T fun m' T'=>∃IA' cI' bT,g_ base W0 eZ h N (qT a LA cL dx (upd arr i (u0 (l.take (k+1)) IA' cI')) L) (G bT cs) m' T'∧Qp B RB lv i (c_ (k+1) IA' cI') (k+1) bT:=by
 obtain⟨w,A,H,hS⟩:=o;obtain⟨zB,bB,oB,cB,rfl,eB,gB⟩:=hI;have hzB:zB=false:=by
  cases hz:zB with
  |false=>rfl
  |true=>rw[eB hz]at hl;cases hl
 subst hzB;obtain⟨x,hx,zS,aS,bS,oS,cS,rfl,eS,gS⟩:=gB i l hl;have hzS:zS=false:=by
  cases hz:zS with
  |false=>rfl
  |true=>rw[eS hz]at hr;cases hr
 subst hzS;obtain⟨g0,g1,g2,g3⟩:=gS k r hr;have hkl:k<l.length:=(aH.1 hr).1;have hil:i<p.bI.length:=(aH.1 hl).1;have htk:(l.take k).length=k:=by rw[List.length_take];omega
 have amz:l.take (k+1)=l.take k++[r]:=by rw[List.take_add_one,hr];rfl
 have Qr:l.take (k+1)≠[]:=by rw[amz];simp
 let y:Bool:=decide (k=0);let s:Bool:=decide (r.c.tmod 6<0);have NH:y=true->k=0:=fun e=>of_decide_eq_true e;have U4:y=false->k≠0:=fun e=>of_decide_eq_false e;let ρ:cn:=gY [(1,p.bI.length),(8,oB),(7,cB),(11,l.length),(18,oS),(17,cS),(41,i),(42,k),(43,r.op),(44,r.c),(45,r.arg),(46,r.nw),(61,k),(62,cI)] [(9,bB),(19,bS),(12,B),(13,RB),(60,IA)] [(63,.agg (kZ (l.take k)).toArray),(70,lv)];have asM:=qQ (n:=r.c) (m:=6) (by decide);have plv:∀bL:cn,bL.i 44=r.c->(plE s).ev bL=fX r.c 6:=fun bL e=>by
  unfold fX;by_cases hs:r.c.tmod 6<0
  ·rw[if_pos hs,show s=true from decide_eq_true hs];show o0 .add .i64 (o0 .rem .i64 (bL.i 44) 6) 6=_;rw[e];have:=Int.lt_tmod_of_pos r.c (show(0:Int)<6 by decide);show IntKind.wrap .i64 (r.c.tmod 6+6)=_;rw[Ie (by omega)]
  ·rw[if_neg hs,show s=false from decide_eq_false hs];show o0 .rem .i64 (bL.i 44) 6=_;rw[e];rfl
 have hpre:∀pr∈(if y then[]else[((a,RK.app 3 i),60,bM.cH false 63 (v 61) [] [] [] 96 (v 62))]:List (cD×Nat×bM)),∃kk,qT a LA cL dx (upd arr i (u0 (l.take k) IA cI)) L pr.1=some (ρ.b pr.2.1,kk)∧uQ aa ρ pr.2.2 kk:=fun pr hp=>by
  split at hp
  ·cases hp
  ·rename_i hc;obtain rfl:=ad.1 hp;have hk0:k≠0:=U4 (by simpa using hc);refine⟨.fF 96 cI (kZ (l.take k)),?_,rfl,rfl,fun no hi=>?_,(nofun),rfl⟩
   ·rw[VD,upd_same];exact if_neg fun e=>by rw[e]at htk;exact hk0 htk.symm
   ·rw[Jh no hi,CA,htk];show 4*k=(((k:Nat):Int)).toNat*4;omega
 have hv:=agp y s (bU fr);have od:=amu y (bU fr);have e1:ago y=(if y then[]else[((a,RK.app 3 i),60,bM.cH false 63 (v 61) [] [] [] 96 (v 62))]:List (cD×Nat×bM)).map (·.2):=by cases y<;>rfl
 rw[e1]at hv od;refine(cQ (cC:=[]) (cs:=cs) A H hS _ [((a,.app 3 i),102,tuA y s),((a,.dN),101,.cells (WL s) 96),((a,.dN),100,.cells (WL s) 96)] hv rfl rfl od (tuO y s) (ρ:=ρ) (hf.rel (.inl rfl) (tuL (.ez 70) (iL y 60 61 62)) ?_ rfl) trivial (fun q hq=>?_) (fun q hq=>?_) hpre (by split<;>simp) (by simp) (by split<;>rfl)).mono fun m1 T1 hd=>?_
 ·simp only[tuL,tdL,gz,az,aA,ah,ak];rw[dC (ρ:=ρ) (b:=60) (n:=61) (c:=62) (B:=IA) (k:=k) (q:=cI) rfl rfl rfl];rfl
 ·unfold agn at hq;rcases ay.1 hq with hq|hq
  ·simp only[LU,az,aA,ac,ae,or_false]at hq;rcases hq with rfl|rfl|rfl|rfl|rfl
   ·show decide (((i:Nat):Int)<(((p.bI.length:Nat):Int).toNat:Int))=true;exact decide_eq_true (by omega)
   ·show decide ((0:Int)≤((i:Nat):Int))=true;exact decide_eq_true (by omega)
   ·show decide (((k:Nat):Int)<(((l.length:Nat):Int).toNat:Int))=true;exact decide_eq_true (by omega)
   ·show decide ((0:Int)≤((k:Nat):Int))=true;exact decide_eq_true (by omega)
   ·rfl
  ·cases hy:y with
   |true=>rw[hy]at hq;cases hq
   |false=>rw[hy]at hq;obtain rfl:=ad.1 hq;show decide ((((k:Nat):Int).toNat:Int)+1≤1048576)=true;exact decide_eq_true (by omega)
 ·have hdr:(a,RK.app 12 0)∉(if y then[]else[((a,RK.app 3 i),60,bM.cH false 63 (v 61) [] [] [] 96 (v 62))]:List (cD×Nat×bM)).map (·.1):=by split<;>simp
  have eI:(tuI.ev ρ).toNat=oS+k*4:=by show((((oS:Nat):Int).toNat:Int)+(((k:Nat):Int).toNat:Int)*4).toNat=_;omega
  have eN:∀j:Nat,j≠0->((nJ tuI j).ev ρ).toNat=oS+k*4+j:=fun j hj=>by rw[show nJ tuI j=.plus (.tn tuI) (.lit (.ofNat j))from if_neg hj];show(((tuI.ev ρ).toNat:Int)+(j:Int)).toNat=_;rw[eI];omega
  have old:∀(e:IE) (v':Value) (n:Nat) (vA:AV),(e.ev ρ).toNat=n->vA.ev ρ=v'->pO base W0 bS n v'->lq (qT a LA cL dx (upd arr i (u0 (l.take k) IA cI)) L) ((if y then[]else[((a,RK.app 3 i),60,bM.cH false 63 (v 61) [] [] [] 96 (v 62))]:List (cD×Nat×bM)).map (·.1)) w base ρ (⟨.cN 19,e⟩,vA):=fun e v' n vA h1 h2 h3=>by refine .inr ⟨h3.1,?_⟩;show w.cell? ⟨bS,(e.ev ρ).toNat,none⟩=some (vA.ev ρ);rw[h1,h2];exact qO A.gX h3.1 h3.2
  simp only[tuM,VB,VA,az,aA,ac,ae,or_false]at hq;rcases hq with rfl|rfl|rfl|rfl|rfl|rfl
  ·refine .inl ⟨(a,.app 12 0),_,vN.trans hB,hdr,?_⟩;dsimp only;rw[j7];rfl
  ·refine .inr ⟨hx.1,qO A.gX hx.1 ?_⟩;exact hx.2
  ·exact old _ _ _ _ eI rfl g0
  ·exact old _ _ _ _ (eN 1 (by decide)) rfl g1
  ·exact old _ _ _ _ (eN 2 (by decide)) rfl g2
  ·exact old _ _ _ _ (eN 3 (by decide)) rfl g3
 obtain⟨w1,bW,c9,d9,C⟩:=hd;obtain rfl:=C.none;have zU:bW.i 41=i:=C.bE.ii 41;have CH:bW.i 42=k:=C.bE.ii 42;have z43:bW.i 43=r.op:=C.bE.ii 43;have K2:bW.i 44=r.c:=C.bE.ii 44;have z45:bW.i 45=r.arg:=C.bE.ii 45;have z46:bW.i 46=r.nw:=C.bE.ii 46;have Ik:bW.i 61=k:=C.bE.ii 61;have y12:bW.b 12=B:=C.bE.bb 12;have KQ:bW.b 13=RB:=C.bE.bb 13;have x63:bW.v 63=.agg (kZ (l.take k)).toArray:=congrFun C.bE.v 63;have x70:bW.v 70=lv:=congrFun C.bE.v 70;have eV:AV.cf bW (WL s)=r.ki.dx:=by rw[Rp.EQ];simp only[WL,AV.cf,i8,i64,AV.ev,IE.ev,v,plv bW K2,z43,z45,z46];rfl
 have eS:(amt y).ev bW=c_ (k+1) (bW.b 102) (bW.i 102).toNat:=by
  cases hy:y with
  |true=>rw[NH hy];rfl
  |false=>show Value.slice (some ⟨bW.b 102,0,none⟩) ((((bW.i 61).toNat:Int)+1).toNat) (bW.i 102).toNat=_;rw[Ik];rw[show((((k:Nat):Int).toNat:Int)+1).toNat=k+1 by omega];rfl
 have eA:cY bW (tuA y s)=.fF 96 (bW.i 102).toNat (kZ (l.take (k+1))):=by
  rw[amz,Jf];cases hy:y with
  |true=>show fK.fF 96 (bW.i 102).toNat (AV.cf bW (WL s))=_;rw[eV,NH hy];show _=fK.fF 96 _ ([]++(r.ki.dx++[]));rw[aX,aA]
  |false=>show fK.fF 96 (bW.i 102).toNat (dF bW (gy (bW.v 63)) []++AV.cf bW (WL s))=_;rw[eV,x63];show fK.fF 96 _ (kZ (l.take k)++r.ki.dx)=fK.fF 96 _ (kZ (l.take k)++(r.ki.dx++[]));rw[aX]
 refine⟨bW.b 102,(bW.i 102).toNat,c9,⟨w1,C.eG,C.heap.sub (cX [(a,.app 3 i),(a,.dN)] (fun q hq=>?_) (fun q hq=>?_) (fun q hq=>?_) fun q hq z hz=>?_),dc⟩,?_⟩
 ·exact aan (i:=i) (fun e=>hq (by simp[e])) fun j hj=>by rw[upd_ne _ _ hj,upd_ne _ _ hj]
 ·split at hq
  ·cases hq
  ·obtain rfl:=ad.1 hq;simp
 ·simp only[cr,ah,ak,ac,ae,or_false]at hq;rcases hq with rfl|rfl|rfl<;>simp
 ·simp only[ac,ae,or_false]at hq;rcases hq with rfl|rfl
  ·rw[VD,upd_same]at hz;rw[show u0 (l.take (k+1)) (bW.b 102) (bW.i 102).toNat=some (bW.b 102,.fF 96 (bW.i 102).toNat (kZ (l.take (k+1))))from if_neg Qr]at hz;cases hz;refine bX ?_;simp only[cr,ah,ak,aw,decide_true];rw[eA]
  ·rw[Jg,hJ]at hz;cases hz
 ·have f1:=C.fr;dsimp only at f1;simp only[AV.cf,eS,bF,i64,AV.ev,af,AA.ev,BR.ev,IE.ev,v,y12,KQ,x70,zU,CH]at f1;rw[show o0 .add .i64 (k:Int) 1=((k+1:Nat):Int)from add_one (by omega)]at f1;exact f1
end
section
variable {base:Nat}{W0:World}{h N:Nat}{m:Machine}{T:Trace}{L:cg}{cs:List Frame}{fr:Frame}{p:Pl}{bv pv lv:Value}{a B RB LA cL:Nat}{dx:List Value}{arr:Nat->Option (Nat×fK)}{i:Nat}{l:List Rp}
abbrev Qs(B RB:Nat)(lv:Value)(i:Nat)(fr:Frame):Prop:=FA i7 58 tdT [] .normal [(1,cb B),(2,cb RB),(3,lv),(4,iV i)] fr
theorem aap(hI:Jc base W0 bv p.bI)(hB:L (a,.app 12 0)=some (B,.obj dY (sA bv p.first pv p.cd)))(hJ:L (a,.dN)=none)(hl:p.bI[i]?=some l)(hn:l.length≤2000)(vS:i≤1000000):∀(d k:Nat),k+d=l.length->∀{IA cI:Nat} {m:Machine} {T:Trace} {fr:Frame},
  g_ base W0 eZ h N (qT a LA cL dx (upd arr i (u0 (l.take k) IA cI)) L) (G fr cs) m T->Qp B RB lv i (c_ k IA cI) k fr->
  cm aa m T fun m' T'=>∃IA' cI' bT,g_ base W0 eZ h N (qT a LA cL dx (upd arr i (u0 l IA' cI')) L) (G bT cs) m' T'∧Qp B RB lv i (c_ l.length IA' cI') l.length bT:=by
 intro d
 induction d with
 |zero=>
  intro k hk IA cI m T fr o hf;obtain rfl:k=l.length:=by omega
  rw[List.take_length]at o;exact cm.refl ⟨IA,cI,fr,o,hf⟩
 |succ d ih=>intro k hk IA cI m T fr o hf;obtain⟨r,hr⟩:∃r,l[k]?=some r:=⟨l[k]'(by omega),aF _⟩;refine(Qq hI hB hJ hl hr hn vS o hf).trans fun m1 T1 hd=>?_;obtain⟨IA',cI',bT,o',h'⟩:=hd;exact ih (k+1) (by omega) o' h'
theorem aaq(hI:Jc base W0 bv p.bI)(hB:L (a,.app 12 0)=some (B,.obj dY (sA bv p.first pv p.cd)))(hl:i<p.bI.length)(o:g_ base W0 eZ h N (qT a LA cL dx arr L) (G fr cs) m T)(hf:Qs B RB lv i fr):
  cm aa m T fun m' T'=>∃bT,g_ base W0 eZ h N (qT a LA cL dx arr L) (G bT cs) m' T'∧Qp B RB lv i fO 0 bT:=by
 obtain⟨w,A,H,hS⟩:=o;obtain⟨zB,bB,oB,cB,rfl,eB,gB⟩:=hI;have hzB:zB=false:=by
  cases hz:zB with
  |false=>rfl
  |true=>rw[eB hz]at hl;cases hl
 subst hzB;let ρ:cn:=gY [(1,p.bI.length),(8,oB),(7,cB),(41,i)] [(9,bB),(12,B),(13,RB)] [(70,lv)];refine(cQ (cC:=[]) (cs:=cs) A H hS [] [] (asI (bU fr)) rfl rfl (VC _) amq (ρ:=ρ) (hf.rel (.inl rfl) (tdL (.ez 70)) rfl rfl) trivial (fun q hq=>?_) (fun q hq=>?_) (nofun) ai ai rfl).mono fun m1 T1 hd=>?_
 ·simp only[LU,ac,ae,or_false]at hq;rcases hq with rfl|rfl
  ·show decide (((i:Nat):Int)<(((p.bI.length:Nat):Int).toNat:Int))=true;exact decide_eq_true (by omega)
  ·show decide ((0:Int)≤((i:Nat):Int))=true;exact decide_eq_true (by omega)
 ·obtain rfl:=ad.1 hq;refine .inl ⟨(a,.app 12 0),_,vN.trans hB,by simp,?_⟩;dsimp only;rw[j7];rfl
 ·obtain⟨w1,bW,c9,d9,C⟩:=hd;obtain rfl:=C.none;refine⟨c9,⟨w1,C.eG,C.heap.sub fun r x e=>e,dc⟩,?_⟩;have f1:=C.fr;have zU:bW.i 41=i:=C.bE.ii 41;have y12:bW.b 12=B:=C.bE.bb 12;have KQ:bW.b 13=RB:=C.bE.bb 13;have x70:bW.v 70=lv:=congrFun C.bE.v 70;simp only[AV.cf,bF,i64,AV.ev,af,AA.ev,BR.ev,IE.ev,v,y12,KQ,x70,zU]at f1;exact f1
theorem Qt{IA cI:Nat}(hI:Jc base W0 bv p.bI)(hB:L (a,.app 12 0)=some (B,.obj dY (sA bv p.first pv p.cd)))(hJ:L (a,.dN)=none)(hl:p.bI[i]?=some l)(vS:i≤1000000)(hv:dx.length=i)
 (o:g_ base W0 eZ h N (qT a LA cL dx arr L) (G fr cs) m T)(hf:Qp B RB (c_ i LA cL) i (c_ l.length IA cI) l.length fr):
  cm aa m T fun m' T'=>∃Lp Lq bT,g_ base W0 eZ h N (qT a Lp Lq (dx++[c_ l.length IA cI]) arr L) (G bT cs) m' T'∧Qs B RB (c_ (i+1) Lp Lq) (i+1) bT:=by
 obtain⟨w,A,H,hS⟩:=o;obtain⟨zB,bB,oB,cB,rfl,eB,gB⟩:=hI;have hzB:zB=false:=by
  cases hz:zB with
  |false=>rfl
  |true=>rw[eB hz]at hl;cases hl
 subst hzB;obtain⟨x,hx,zS,aS,bS,oS,cS,rfl,eS,gS⟩:=gB i l hl;have hil:i<p.bI.length:=(aH.1 hl).1;have Qr:dx++[c_ l.length IA cI]≠[]:=by simp
 let y:Bool:=decide (l.length=0);let z:Bool:=decide (i=0);have yf:z=true->i=0:=fun e=>of_decide_eq_true e;have zI:z=false->i≠0:=fun e=>of_decide_eq_false e;let ρ:cn:=gY [(1,p.bI.length),(8,oB),(7,cB),(11,l.length),(18,oS),(17,cS),(41,i),(42,l.length),(51,i),(52,cL),(61,l.length),(62,cI)] [(9,bB),(19,bS),(12,B),(13,RB),(50,LA),(60,IA)] [(53,.agg dx.toArray)];have lS:(xB zS 11).ev ρ=l.length:=tQ (ρ:=ρ) (fun e=>by show((l.length:Nat):Int)=0;rw[eS e];rfl) (by show(0:Int)≤((l.length:Nat):Int);omega);have hpre:∀pr∈(if z then[]else[((a,RK.app 4 0),50,bM.cH false 53 (v 51) [] [] [] jM (v 52))]:List (cD×Nat×bM)),∃kk,qT a LA cL dx arr L pr.1=some (ρ.b pr.2.1,kk)∧uQ aa ρ pr.2.2 kk:=fun pr hp=>by
  split at hp
  ·cases hp
  ·rename_i hc;obtain rfl:=ad.1 hp;have hk0:i≠0:=zI (by simpa using hc);refine⟨.fF jM cL dx,?_,rfl,rfl,fun no hi=>?_,(nofun),rfl⟩
   ·rw[VE];exact if_neg fun e=>by rw[e]at hv;exact hk0 hv.symm
   ·rw[VF no hi,hv];show i=(((i:Nat):Int)).toNat*1;omega
 have hvv:=ags zS y z aS cS (bU fr);have od:=Qo y z (bU fr);have e1:agr z=(if z then[]else[((a,RK.app 4 0),50,bM.cH false 53 (v 51) [] [] [] jM (v 52))]:List (cD×Nat×bM)).map (·.2):=by cases z<;>rfl
 rw[e1]at hvv od;refine(cQ (cC:=[]) (cs:=cs) A H hS _ [((a,.app 4 0),101,tnA y z),((a,.dN),100,.cells [iL y 60 61 62] jM)] hvv rfl rfl od (aal zS z aS cS) (ρ:=ρ) (hf.rel (.inl rfl) (tuL (iL z 50 51 52) (iL y 60 61 62)) ?_ rfl) trivial (fun q hq=>?_) (fun q hq=>?_) hpre (by split<;>simp) (by simp) (by split<;>rfl)).mono fun m1 T1 hd=>?_
 ·simp only[tuL,tdL,gz,az,aA,ah,ak];rw[dC (ρ:=ρ) (b:=60) (n:=61) (c:=62) (B:=IA) (k:=l.length) (q:=cI) rfl rfl rfl,dC (ρ:=ρ) (b:=50) (n:=51) (c:=52) (B:=LA) (k:=i) (q:=cL) rfl rfl rfl];rfl
 ·unfold agq at hq;rcases ay.1 hq with hq|hq
  ·simp only[LU,az,aA,ac,ae,or_false]at hq;rcases hq with rfl|rfl|rfl
   ·show decide (((i:Nat):Int)<(((p.bI.length:Nat):Int).toNat:Int))=true;exact decide_eq_true (by omega)
   ·show decide ((0:Int)≤((i:Nat):Int))=true;exact decide_eq_true (by omega)
   ·show decide (((l.length:Nat):Int)<(xB zS 11).ev ρ)=false;rw[lS];exact decide_eq_false (by omega)
  ·cases hy:z with
   |true=>rw[hy]at hq;cases hq
   |false=>rw[hy]at hq;obtain rfl:=ad.1 hq;show decide ((((i:Nat):Int).toNat:Int)+1≤1048576)=true;exact decide_eq_true (by omega)
 ·have hdr:(a,RK.app 12 0)∉(if z then[]else[((a,RK.app 4 0),50,bM.cH false 53 (v 51) [] [] [] jM (v 52))]:List (cD×Nat×bM)).map (·.1):=by split<;>simp
  simp only[VB,VA,az,aA,ac,ae,or_false]at hq;rcases hq with rfl|rfl
  ·refine .inl ⟨(a,.app 12 0),_,vN.trans hB,hdr,?_⟩;dsimp only;rw[j7];rfl
  ·refine .inr ⟨hx.1,qO A.gX hx.1 ?_⟩;dsimp only;rw[Vt (c:=cS) rfl];exact hx.2
 obtain⟨w1,bW,c9,d9,C⟩:=hd;obtain rfl:=C.none;have zU:bW.i 41=i:=C.bE.ii 41;have z51:bW.i 51=i:=C.bE.ii 51;have y12:bW.b 12=B:=C.bE.bb 12;have KQ:bW.b 13=RB:=C.bE.bb 13;have x53:bW.v 53=.agg dx.toArray:=congrFun C.bE.v 53;have eb:(iL y 60 61 62).ev bW=c_ l.length IA cI:=dC (C.bE.bb 60) (C.bE.ii 61) (C.bE.ii 62);have eSl:(amw z).ev bW=c_ (i+1) (bW.b 101) (bW.i 101).toNat:=by
  cases hy:z with
  |true=>rw[yf hy];rfl
  |false=>show Value.slice (some ⟨bW.b 101,0,none⟩) ((((bW.i 51).toNat:Int)+1).toNat) (bW.i 101).toNat=_;rw[z51];rw[show((((i:Nat):Int).toNat:Int)+1).toNat=i+1 by omega];rfl
 have eA:cY bW (tnA y z)=.fF jM (bW.i 101).toNat (dx++[c_ l.length IA cI]):=by
  cases hy:z with
  |true=>show fK.fF jM (bW.i 101).toNat (AV.cf bW [iL y 60 61 62])=_;simp only[AV.cf,eb];rw[List.length_eq_zero_iff.1 (hv.trans (yf hy))];rfl
  |false=>show fK.fF jM (bW.i 101).toNat (dF bW (gy (bW.v 53)) []++AV.cf bW [iL y 60 61 62])=_;simp only[AV.cf,eb,x53];rfl
 refine⟨bW.b 101,(bW.i 101).toNat,c9,⟨w1,C.eG,C.heap.sub (cX [(a,.app 4 0),(a,.dN)] (fun q hq=>?_) (fun q hq=>?_) (fun q hq=>?_) fun q hq zz hz=>?_),dc⟩,?_⟩
 ·exact aao fun e=>hq (by simp[e])
 ·split at hq
  ·cases hq
  ·obtain rfl:=ad.1 hq;simp
 ·simp only[cr,ah,ak,ac,ae,or_false]at hq;rcases hq with rfl|rfl<;>simp
 ·simp only[ac,ae,or_false]at hq;rcases hq with rfl|rfl
  ·rw[VE,if_neg Qr]at hz;cases hz;refine bX ?_;simp only[cr,ah,ak,aw,decide_true];rw[eA]
  ·rw[Jg,hJ]at hz;cases hz
 ·have f1:=C.fr;dsimp only at f1;simp only[AV.cf,eSl,bF,i64,AV.ev,af,AA.ev,BR.ev,IE.ev,v,y12,KQ,zU]at f1;rw[show o0 .add .i64 (i:Int) 1=((i+1:Nat):Int)from add_one (by omega)]at f1;exact f1
def amB(p:Pl)(i:Nat)(dx:List Value)(arr:Nat->Option (Nat×fK)):Prop:=dx.length=i∧(∀j,i≤j->arr j=none)∧∀j l,j<i->p.bI[j]?=some l->∃IA cI,dx[j]?=some (c_ l.length IA cI)∧arr j=u0 l IA cI
theorem Qu(hI:Jc base W0 bv p.bI)(hB:L (a,.app 12 0)=some (B,.obj dY (sA bv p.first pv p.cd)))(hJ:L (a,.dN)=none)(hn:∀l∈p.bI,l.length≤2000)(hb:p.bI.length≤1000000):∀(d i:Nat),i+d=p.bI.length->∀{LA cL:Nat} {dx:List Value} {arr:Nat->Option (Nat×fK)} {m:Machine} {T:Trace} {fr:Frame},amB p i dx arr->
  g_ base W0 eZ h N (qT a LA cL dx arr L) (G fr cs) m T->Qs B RB (c_ i LA cL) i fr->
  cm aa m T fun m' T'=>∃Lp Lq NW ja bT,amB p p.bI.length NW ja∧g_ base W0 eZ h N (qT a Lp Lq NW ja L) (G bT cs) m' T'∧Qs B RB (c_ p.bI.length Lp Lq) p.bI.length bT:=by
 intro d
 induction d with
 |zero=>
  intro i hi LA cL dx arr m T fr k o hf;obtain rfl:i=p.bI.length:=by omega
  exact cm.refl ⟨LA,cL,dx,arr,fr,k,o,hf⟩
 |succ d ih=>
  intro i hi LA cL dx arr m T fr k o hf;obtain⟨l,hl⟩:∃l,p.bI[i]?=some l:=⟨p.bI[i]'(by omega),aF _⟩;refine(aaq hI hB (by omega) o hf).trans fun m1 T1 hd=>?_;obtain⟨c9,o1,h1⟩:=hd;have o1':g_ base W0 eZ h N (qT a LA cL dx (upd arr i (u0 (l.take 0) 0 0)) L) (G c9 cs) m1 T1:=o1.sub (fun r x e=>by
   have:upd arr i (u0 (l.take 0) 0 0)=arr:=by
    funext j;by_cases hj:j=i
    ·rw[hj,upd_same,k.2.1 i (aq _)];rfl
    ·exact upd_ne _ _ hj
   rw[this]at e;exact e) dc
  refine(aap (lv:=c_ i LA cL) hI hB hJ hl (hn l (bf hl)) (by omega) l.length 0 (by omega) o1' h1).trans fun m2 T2 hd=>?_;obtain⟨IA,cI,iE,o2,h2⟩:=hd;refine(Qt hI hB hJ hl (by omega) k.1 o2 h2).trans fun m3 T3 hd=>?_;obtain⟨Lp,Lq,kH,o3,h3⟩:=hd;refine ih (i+1) (by omega) ⟨?_,fun j hj=>?_,fun j l' hj we=>?_⟩ o3 h3
  ·rw[aD,k.1];rfl
  ·rw[upd_ne _ _ (by omega)];exact k.2.1 j (by omega)
  ·by_cases hji:j=i
   ·subst hji;rw[hl]at we;cases we;refine⟨IA,cI,?_,upd_same _ _ _⟩;rw[aE (by rw[k.1];exact aq _),k.1,Nat.sub_self];rfl
   ·obtain⟨IA',cI',q1,q2⟩:=k.2.2 j l' (by omega) we;refine⟨IA',cI',?_,(upd_ne _ _ hji).trans q2⟩;rw[aP (by rw[k.1];omega)];exact q1
end
abbrev vO:Nat:=30
noncomputable abbrev Fn.place:Func:=Try.f30
noncomputable def poE(st:Nat->Value):bH:=⟨vO,15,bZ 15 st [(0,i64 (v 31)),(1,i64 (v 74))],[.code (bQ Fn.place)],[],.run,.normal⟩
noncomputable def poR:IE:=.op .rem .i64 (v 31) (v 74)
noncomputable def poA(s:Bool):IE:=Bool.rec poR (.op .add .i64 poR (v 74)) s
noncomputable def agw(s:Bool):List (BE×Bool):=[(.cmp .eql (v 74) (.lit 0),false),(.cmp .lss poR (.lit 0),s)]
theorem amD(s:Bool)(st:Nat->Value):c7 (cO (agw s) [] (Bool.rec 24 29 s) [] (cJ (poE st) [] [])) [4] (fun _=>[])=some (⟨vO,15,[.code .ret],[],.run,.normal,[],[],[i64 (poA s)]⟩,[]):=by cases s<;>kernel_rfl
theorem amE(st:Nat->Value):bR 100 (cJ (poE st) [] [])=true:=by kernel_rfl
theorem poO(s:Bool):(OO (agw s) [] []).low 100=true:=by cases s<;>kernel_rfl
noncomputable def xC:Array Oper:=fP (pc (bQ Fn.ki) [1,1,1,0])
theorem tzC:pc (bQ Fn.ki) [1,1,1,0]=.region 13 xC true:=by kernel_rfl
theorem LV:xC.size=14:=by kernel_rfl
noncomputable def NX:List Nat:=[1,2,3,45,46,47,48,49,50,51,52,53,54,55,56,57]
noncomputable def ER(lA:List (Nat×AV))(i:Nat)(l:List Nat)(st:Nat->Value):bH:=⟨i7,58,bZ 58 st lA,.inRegion xC (i::l)::[.code .ret],[],.run,.normal⟩
def VG(lA:List (Nat×AV))(i d:Nat)(val:AV)(mem:List (AA×AV)):Prop:=∀(l:List Nat) (st:Nat->Value),c7 (cO [] mem 1 [] (cJ (ER lA i l st) [] [])) NX (fun _=>[])=some (⟨i7,58,.inRegion xC l::[.code .ret],[],.run,.normal,[],[],NX.map (qw d val lA st)⟩,[])
noncomputable def GF(n:Nat):AV:=.ptr (some ⟨.cN 12,.lit (.ofNat n)⟩)
theorem tz0:VG [(3,.ez 70)] 0 45 (.ez 70) []:=fun l st=>by kernel_rfl
theorem tz1:VG [(1,bF 12)] 1 46 (GF 1) []:=fun l st=>by kernel_rfl
theorem tz2:VG [(46,GF 1)] 2 47 (i64 (v 31)) [(⟨.cN 12,.lit 1⟩,i64 (v 31))]:=fun l st=>by kernel_rfl
theorem tz3:VG [(3,.ez 70)] 3 48 (.ez 70) []:=fun l st=>by kernel_rfl
noncomputable def GG(z:Bool)(n:Nat):IE:=Bool.rec (.tn (v n)) (.lit 0) z
theorem tz4(z:Bool):VG [(48,iL z 50 51 52)] 4 49 (i64 (GG z 51)) []:=fun l st=>by cases z<;>kernel_rfl
theorem tz5:VG [(49,i64 (v 74))] 5 50 (i64 (.op .add .i64 (v 74) (.lit 1))) []:=fun l st=>by kernel_rfl
theorem tz7:VG [(1,bF 12)] 7 52 (GF 2) []:=fun l st=>by kernel_rfl
theorem tz8:VG [(52,GF 2)] 8 53 (.ez 71) [(⟨.cN 12,.lit 2⟩,.ez 71)]:=fun l st=>by kernel_rfl
theorem asQ:VG [(1,bF 12)] 10 55 (GF 3) []:=fun l st=>by kernel_rfl
theorem asR:VG [(55,GF 3)] 11 56 (i64 (v 32)) [(⟨.cN 12,.lit 3⟩,i64 (v 32))]:=fun l st=>by kernel_rfl
noncomputable def GH(z y:Bool):List AV:=[iL z 50 51 52,i64 (v 31),iL y 60 61 62,i64 (v 32)]
theorem asS(z y:Bool):VG [(45,iL z 50 51 52),(51,i64 (v 31)),(54,iL y 60 61 62),(56,i64 (v 32))] 12 57 (.agg (GH z y)) []:=fun l st=>by cases z<;>cases y<;>kernel_rfl
theorem asT(z y:Bool)(l:List Nat)(st:Nat->Value):c7 (cO [] [] 2 [13] (cJ (ER [(2,bF 13),(57,.agg (GH z y))] 13 [] st) [] [(13,.cells pl0 dY)])) [2] (fun _=>[])=some (⟨i7,58,[.code .ret],[],.run,.normal,[],[(13,.cells (GH z y) dY)],[bF 13]⟩,[]):=by cases z<;>cases y<;>kernel_rfl
theorem aar(l:List Nat)(st:Nat->Value):c7 (cO [] [] 1 [] (cJ (ER [(47,i64 (v 31)),(50,i64 (v 74))] 6 l st) [] [])) [0,1] (fun _=>NX)=some (⟨vO,15,[.code (bQ Fn.place)],[],.run,.normal,[],[],[i64 (v 31),i64 (v 74)]⟩,[⟨i7,58,.inRegion xC (6::l)::[.code .ret],[],.run,.normal,[],[],NX.map (qv [(47,i64 (v 31)),(50,i64 (v 74))] st)⟩]):=by kernel_rfl
theorem aas(l:List Nat)(st fZ:Nat->Value):c7 (cO [] [] 2 [] (cJ ⟨vO,15,bZ 15 fZ [(4,i64 (v 31))],[.code .ret],[],.run,.normal⟩ [ER [] 6 l st] [])) NX (fun _=>[])=some (⟨i7,58,.inRegion xC l::[.code .ret],[],.run,.normal,[],[],NX.map (qw 51 (i64 (v 31)) [] st)⟩,[]):=by kernel_rfl
theorem aat(l:List Nat)(st:Nat->Value):c7 (cO [] [] 1 [] (cJ (ER [(53,.ez 71)] 9 l st) [] [])) [0] (fun _=>NX)=some (⟨nj,7,[.code (bQ Fn.copy)],[],.run,.normal,[],[],[.ez 71]⟩,[⟨i7,58,.inRegion xC (9::l)::[.code .ret],[],.run,.normal,[],[],NX.map (qv [(53,.ez 71)] st)⟩]):=by kernel_rfl
theorem aau(l:List Nat)(st fZ:Nat->Value):c7 (cO [] [] 2 [] (cJ ⟨nj,7,bZ 7 fZ [(2,.ez 71)],[.code .ret],[],.run,.normal⟩ [ER [] 9 l st] [])) NX (fun _=>[])=some (⟨i7,58,.inRegion xC l::[.code .ret],[],.run,.normal,[],[],NX.map (qw 54 (.ez 71) [] st)⟩,[]):=by kernel_rfl
theorem kO{ops:Array Oper}(hp:∀i,i<ops.size->∀p∈ni ops i,p<i){r:List Nat}(hs:iq ops r []):∀i,i<ops.size->i∈r:=by
 intro i
 induction i using Nat.strongRecOn with
 |ind i ih=>intro hi;refine Classical.byContradiction fun hr=>Ql hs hi hr fun p hpp=>ih p (hp i hi p hpp) (Nat.lt_trans (hp i hi p hpp) hi)
structure DrI(base:Nat)(W0:World)(h N:Nat)(L:cg)(fn nt:Nat)(ops:Array Oper)(k:List Item)(ns:List Nat)(b:List (Nat×Value))(f:Nat->Option (Nat×Value))(cs:List Frame)(r l:List Nat)(m:Machine)(T:Trace):Prop where
 ex:∃lv fr,g_ base W0 (fun _=>none) h N L (G fr cs) m T∧FA fn nt (.inRegion ops l::k) [] .normal lv fr∧(∀x∈lv,x.1∈ns)∧(∀x∈b,x∈lv)∧∀i∈r,∀x,f i=some x->x∈lv
section
variable {base:Nat}{W0:World}{h N:Nat}{m:Machine}{T:Trace}{L L':cg}{fn nt i d:Nat}{ops:Array Oper}{k:List Item}{ns:List Nat}{b:List (Nat×Value)}{f:Nat->Option (Nat×Value)}{cs:List Frame}{r l:List Nat}{fr:Frame}
theorem CB{x:Value}{lv:List (Nat×Value)}(o:g_ base W0 (fun _=>none) h N L (G fr cs) m T)(hf:FA fn nt (.inRegion ops l::k) [] .normal (xo d x lv) fr)(hr:i∉r)(hx:∀y,f i=some y->y=(d,x))(hd:d∈ns)(GV:∀x∈b,x.1≠d)(Yh:∀j∈r,∀y,f j=some y->y.1≠d)(h3:∀x∈lv,x.1∈ns)(h4:∀x∈b,x∈lv)(h5:∀i∈r,∀x,f i=some x->x∈lv):
  DrI base W0 h N L fn nt ops k ns b f cs (i::r) l m T:=by
 refine⟨_,fr,o,hf,fun y hy=>?_,fun y hy=>m_ (h4 y hy) (GV y hy),fun j hj y hy=>?_⟩
 ·rcases ac.1 hy with rfl|hy
  ·exact hd
  ·exact h3 y (aU.1 hy).1
 ·rcases ac.1 hj with rfl|hj
  ·rw[hx y hy];exact xp
  ·exact m_ (h5 j hj y hy) (Yh j hj y hy)
theorem gE{lA:List (Nat×AV)}{val:AV}{bs:List (BE×Bool)}{mem:List (AA×AV)}{ρ:cn}
 (q:∀(l:List Nat) (st:Nat->Value),c7 (cO bs mem 1 [] (cJ ⟨fn,nt,bZ nt st lA,.inRegion ops (i::l)::k,[],.run,.normal⟩ [] [])) ns (fun _=>[])=some (⟨fn,nt,.inRegion ops l::k,[],.run,.normal,[],[],ns.map (qw d val lA st)⟩,[]))
 (hl:∀(l:List Nat) (st:Nat->Value),bR 100 (cJ ⟨fn,nt,bZ nt st lA,.inRegion ops (i::l)::k,[],.run,.normal⟩ [] [])=true)(hO:(OO bs [] mem).low 100=true)(hb:∀p∈bs,p.1.ev ρ=p.2)(hm:∀p∈mem,zD L [] base W0 ρ p)(jG:AV.lp 100 (val::lA.map (·.2))=true)
 (hA:∀p∈gz ρ lA,p∈b∨∃j∈ni ops i,f j=some p)(hx:f i=some (d,val.ev ρ))(hd:d∈ns)(GV:∀x∈b,x.1≠d)(Yh:∀j,j≠i->∀y,f j=some y->y.1≠d)(hi:i∈cZ ops r)(D:DrI base W0 h N L fn nt ops k ns b f cs r (i::l) m T):
  cm aa m T (DrI base W0 h N L fn nt ops k ns b f cs (i::r) l):=by
 obtain⟨lv,fr,o,hf,h3,h4,h5⟩:=D.ex;obtain⟨_,hr,hp⟩:=dK hi;refine(aga o hf rfl (q l) (hl l) hO hb hm jG (fun p hpp=>?_) h3 hd).mono fun m1 T1 xy=>?_
 ·rcases hA p hpp with h|⟨j,hj,hj2⟩
  ·exact h4 p h
  ·exact h5 j (hp j hj) p hj2
 ·obtain⟨bT,o',xx⟩:=xy;exact CB o' xx hr (fun y hy=>by rw[hx]at hy;exact(au hy).symm) hd GV (fun j hj y hy=>Yh j (fun e=>hr (e▸hj)) y hy) h3 h4 h5
end
section
variable {base:Nat}{W0:World}{bJ:Nat->Option Tok.Seat}{h N:Nat}{m:Machine}{T:Trace}{L:cg}{cs:List Frame}{fr:Frame}
theorem Qv{n:Int}{M:Nat}(hM:0<M)(hM2:M≤4611686018427387904)(o:g_ base W0 bJ h N L (G fr cs) m T)(hf:FA vO 15 [.code (bQ Fn.place)] [] .normal [(0,iV n),(1,iV M)] fr):
  cm aa m T fun m' T'=>∃bT,g_ base W0 bJ h N L (G bT cs) m' T'∧FA vO 15 [.code .ret] [] .normal [(4,iV (fX n M))] bT:=by
 obtain⟨w,A,H,hS⟩:=o;let s:Bool:=decide (n.tmod M<0);let ρ:cn:=gY [(31,n),(74,M)] [] [];refine(cQ (cC:=[]) (cs:=cs) A H hS [] [] (amD s (bU fr)) rfl rfl (amE _) (poO s) (ρ:=ρ) (hf.rel (.inl rfl) [(0,i64 (v 31)),(1,i64 (v 74))] rfl rfl) trivial (fun q hq=>?_) (nofun) (nofun) ai ai rfl).mono fun m1 T1 hd=>?_
 ·simp only[agw,ac,ae,or_false]at hq;rcases hq with rfl|rfl
  ·show decide (((M:Nat):Int)=0)=false;exact decide_eq_false (by omega)
  ·rfl
 ·obtain⟨w1,bW,c9,d9,C⟩:=hd;obtain rfl:=C.none;refine⟨c9,⟨w1,C.eG,C.heap.sub fun r x e=>e,hS⟩,?_⟩;have f1:=C.fr;have z31:bW.i 31=n:=C.bE.ii 31;have z74:bW.i 74=M:=C.bE.ii 74;have e:(poA s).ev bW=fX n M:=by
   unfold fX;by_cases hs:n.tmod M<0
   ·rw[if_pos hs,show s=true from decide_eq_true hs];show o0 .add .i64 (o0 .rem .i64 (bW.i 31) (bW.i 74)) (bW.i 74)=_;rw[z31,z74];have:=Int.lt_tmod_of_pos n (show(0:Int)<M by omega);show IntKind.wrap .i64 (n.tmod M+M)=_;rw[Ie (by omega)]
   ·rw[if_neg hs,show s=false from decide_eq_false hs];show o0 .rem .i64 (bW.i 31) (bW.i 74)=_;rw[z31,z74];rfl
  simp only[AV.cf,i64,AV.ev,e]at f1;exact f1
end
def ptB(B n:Nat):Value:=.pointer (some ⟨B,n,none⟩)
def Q_(lv:Value)(first:Int)(n:Nat)(w:Value)(cd:Int):List Value:=[lv,iV (fX first ((n+1:Nat):Int)),w,iV cd]
def LW(B:Nat)(lv:Value)(n:Nat)(first cd:Int)(pv w:Value):Nat->Option (Nat×Value)
 |0=>some (45,lv)
 |1=>some (46,ptB B 1)
 |2=>some (47,iV first)
 |3=>some (48,lv)
 |4=>some (49,iV n)
 |5=>some (50,iV ((n+1:Nat):Int))
 |6=>some (51,iV (fX first ((n+1:Nat):Int)))
 |7=>some (52,ptB B 2)
 |8=>some (53,pv)
 |9=>some (54,w)
 |10=>some (55,ptB B 3)
 |11=>some (56,iV cd)
 |12=>some (57,.agg (Q_ lv first n w cd).toArray)
 |_=>none
theorem VH{B:Nat}{lv:Value}{n:Nat}{first cd:Int}{pv w:Value}{j:Nat}{y:Nat×Value}(h:LW B lv n first cd pv w j=some y):y.1=45+j:=by unfold LW at h;split at h<;>first|(cases h;rfl)|cases h
theorem agx{B:Nat}{lv:Value}{n:Nat}{first cd:Int}{pv w w':Value}{j:Nat}(h9:j≠9)(Pd:j≠12):LW B lv n first cd pv w j=LW B lv n first cd pv w' j:=by unfold LW;split<;>first|rfl|(exact absurd rfl h9)|(exact absurd rfl Pd)
def tzB(B RB:Nat)(lv:Value):List (Nat×Value):=[(1,cb B),(2,cb RB),(3,lv)]
def LY:List Nat:=[0,1,2,3,4,5,7,8,10,11]
theorem asU:((List.range 14).all fun i=>(ni xC i).all fun p=>Nat.blt p i)=true:=by kernel_rfl
theorem LZ:∀i,i<xC.size->∀p∈ni xC i,p<i:=fun i hi p hp=>by rw[LV]at hi;have h1:=aO.1 asU i (List.mem_range.2 hi);have h2:=aO.1 h1 p hp;exact Nat.blt_eq.mp h2
theorem asV:ni xC 2=[1]:=by kernel_rfl
theorem asW:ni xC 4=[3]:=by kernel_rfl
theorem asX:ni xC 5=[4]:=by kernel_rfl
theorem asY:ni xC 6=[2,5]:=by kernel_rfl
theorem asZ:ni xC 8=[7]:=by kernel_rfl
theorem amH:ni xC 9=[8,6]:=by kernel_rfl
theorem amI:ni xC 11=[10]:=by kernel_rfl
theorem acB:ni xC 12=[0,6,9,11]:=by kernel_rfl
theorem VI:ni xC 13=[12,9,0,1,2,3,4,5,6,7,8,9,10,11,12]:=by kernel_rfl
theorem as0(l:List Nat)(st:Nat->Value):bR 100 (cJ (ER [(3,.ez 70)] 0 l st) [] [])=true:=by kernel_rfl
theorem agy(i:Nat)(l:List Nat)(st:Nat->Value):bR 100 (cJ (ER [(1,bF 12)] i l st) [] [])=true:=by kernel_rfl
theorem as1(l:List Nat)(st:Nat->Value):bR 100 (cJ (ER [(46,GF 1)] 2 l st) [] [])=true:=by kernel_rfl
theorem as2(l:List Nat)(st:Nat->Value):bR 100 (cJ (ER [(3,.ez 70)] 3 l st) [] [])=true:=by kernel_rfl
theorem as3(z:Bool)(l:List Nat)(st:Nat->Value):bR 100 (cJ (ER [(48,iL z 50 51 52)] 4 l st) [] [])=true:=by cases z<;>kernel_rfl
theorem as4(l:List Nat)(st:Nat->Value):bR 100 (cJ (ER [(49,i64 (v 74))] 5 l st) [] [])=true:=by kernel_rfl
theorem as5(l:List Nat)(st:Nat->Value):bR 100 (cJ (ER [(47,i64 (v 31)),(50,i64 (v 74))] 6 l st) [] [])=true:=by kernel_rfl
theorem as6(l:List Nat)(st:Nat->Value):bR 100 (cJ (ER [(52,GF 2)] 8 l st) [] [])=true:=by kernel_rfl
theorem as7(l:List Nat)(st:Nat->Value):bR 100 (cJ (ER [(53,.ez 71)] 9 l st) [] [])=true:=by kernel_rfl
theorem amJ(l:List Nat)(st:Nat->Value):bR 100 (cJ (ER [(55,GF 3)] 11 l st) [] [])=true:=by kernel_rfl
theorem amK(z y:Bool)(l:List Nat)(st:Nat->Value):bR 100 (cJ (ER [(45,iL z 50 51 52),(51,i64 (v 31)),(54,iL y 60 61 62),(56,i64 (v 32))] 12 l st) [] [])=true:=by cases z<;>cases y<;>kernel_rfl
theorem amL(z y:Bool)(st:Nat->Value):bR 100 (cJ (ER [(2,bF 13),(57,.agg (GH z y))] 13 [] st) [] [(13,.cells pl0 dY)])=true:=by cases z<;>cases y<;>kernel_rfl
theorem amM(l:List Nat)(st fZ:Nat->Value):bR 100 (cJ ⟨vO,15,bZ 15 fZ [(4,i64 (v 31))],[.code .ret],[],.run,.normal⟩ [ER [] 6 l st] [])=true:=by kernel_rfl
theorem amN(l:List Nat)(st fZ:Nat->Value):bR 100 (cJ ⟨nj,7,bZ 7 fZ [(2,.ez 71)],[.code .ret],[],.run,.normal⟩ [ER [] 9 l st] [])=true:=by kernel_rfl
theorem as8:(OO [] [] [(⟨.cN 12,.lit 1⟩,i64 (v 31))]).low 100=true:=by kernel_rfl
theorem as9:(OO [] [] [(⟨.cN 12,.lit 2⟩,.ez 71)]).low 100=true:=by kernel_rfl
theorem as_:(OO [] [] [(⟨.cN 12,.lit 3⟩,i64 (v 32))]).low 100=true:=by kernel_rfl
theorem agz(z y:Bool):AV.lp 100 (.agg (GH z y)::[iL z 50 51 52,i64 (v 31),iL y 60 61 62,i64 (v 32)])=true:=by cases z<;>cases y<;>kernel_rfl
theorem agA(z:Bool):AV.lp 100 [i64 (GG z 51),iL z 50 51 52]=true:=by cases z<;>kernel_rfl
theorem vP{z:Bool}{n:Nat}{ρ:cn}(h:z=true->ρ.i n=0)(h0:0≤ρ.i n):(GG z n).ev ρ=ρ.i n:=by
 cases z with
 |true=>exact(h rfl).symm
 |false=>exact Int.toNat_of_nonneg h0
section
variable {base:Nat}{W0:World}{h N:Nat}{m:Machine}{T:Trace}{L:cg}{cs:List Frame}{r l:List Nat}{fr:Frame}{B RB n LA cL:Nat}{first cd:Int}{bv pv w:Value}{rB rR rc:cD}
abbrev TzD(base:Nat)(W0:World)(h N:Nat)(L:cg)(B RB:Nat)(lv:Value)(n:Nat)(first cd:Int)(pv w:Value)(cs:List Frame)(r l:List Nat)(m:Machine)(T:Trace):Prop:=DrI base W0 h N L i7 58 xC [.code .ret] NX (tzB B RB lv) (LW B lv n first cd pv w) cs r l m T
theorem qR{lv:Value}{i j:Nat}{y:Nat×Value}(hj:j≠i)(h:LW B lv n first cd pv w j=some y):y.1≠45+i:=by rw[VH h];omega
theorem mB{lv:Value}{i:Nat}:∀x∈tzB B RB lv,x.1≠45+i:=fun x hx=>by simp only[tzB,ac,ae,or_false]at hx;rcases hx with rfl|rfl|rfl<;>(dsimp only;omega)
theorem CC(hB:L rB=some (B,.obj dY (sA bv first pv cd)))(hn:n≤4611686018427387904):∀i∈LY,∀r l m T,i∈cZ xC r->iq xC (i::r) l->TzD base W0 h N L B RB (c_ n LA cL) n first cd pv w cs r (i::l) m T->cm aa m T (TzD base W0 h N L B RB (c_ n LA cL) n first cd pv w cs (i::r) l):=by
 intro i hi r l m T hr _ D;let ρ:cn:=gY [(31,first),(32,cd),(51,n),(52,cL),(74,n)] [(12,B),(50,LA)] [(70,c_ n LA cL),(71,pv)];have Qw:(iL (decide (n=0)) 50 51 52).ev ρ=c_ n LA cL:=dC rfl rfl rfl;have mem:∀(j:Nat) (x:AV),(sA bv first pv cd)[j]?=some (x.ev ρ)->zD L [] base W0 ρ (⟨.cN 12,.lit (.ofNat j)⟩,x):=fun j x hx=>.inl ⟨rB,_,hB,by simp,hx⟩;simp only[LY,ac,ae,or_false]at hi;rcases hi with rfl|rfl|rfl|rfl|rfl|rfl|rfl|rfl|rfl|rfl
 ·exact gE (ρ:=ρ) tz0 as0 nU (nofun) (nofun) rfl (fun p hp=>.inl (by obtain rfl:=ad.1 hp;exact am _ (am _ (an ..)))) rfl (by decide) (mB (i:=0)) (fun j hj y hy=>qR (i:=0) hj hy) hr D
 ·exact gE (ρ:=ρ) tz1 (agy 1) nU (nofun) (nofun) rfl (fun p hp=>.inl (by obtain rfl:=ad.1 hp;exact an ..)) rfl (by decide) (mB (i:=1)) (fun j hj y hy=>qR (i:=1) hj hy) hr D
 ·exact gE (ρ:=ρ) tz2 as1 as8 (nofun) (fun p hp=>by obtain rfl:=ad.1 hp;exact mem 1 _ rfl) rfl (fun p hp=>.inr ⟨1,by rw[asV];simp,by obtain rfl:=ad.1 hp;rfl⟩) rfl (by decide) (mB (i:=2)) (fun j hj y hy=>qR (i:=2) hj hy) hr D
 ·exact gE (ρ:=ρ) tz3 as2 nU (nofun) (nofun) rfl (fun p hp=>.inl (by obtain rfl:=ad.1 hp;exact am _ (am _ (an ..)))) rfl (by decide) (mB (i:=3)) (fun j hj y hy=>qR (i:=3) hj hy) hr D
 ·refine gE (ρ:=ρ) (tz4 (decide (n=0))) (as3 _) nU (nofun) (nofun) (agA _) (fun p hp=>.inr ⟨3,by rw[asW];simp,?_⟩) ?_ (by decide) (mB (i:=4)) (fun j hj y hy=>qR (i:=4) hj hy) hr D
  ·obtain rfl:=ad.1 hp;show some (48,c_ n LA cL)=some (48,(iL (decide (n=0)) 50 51 52).ev ρ);rw[Qw]
  ·show some (49,iV n)=some (49,Value.int .i64 ((GG (decide (n=0)) 51).ev ρ));rw[vP (ρ:=ρ) (fun e=>by show((n:Nat):Int)=0;rw[of_decide_eq_true e];rfl) (by show(0:Int)≤((n:Nat):Int);omega)];rfl
 ·refine gE (ρ:=ρ) tz5 as4 nU (nofun) (nofun) rfl (fun p hp=>.inr ⟨4,by rw[asX];simp,by obtain rfl:=ad.1 hp;rfl⟩) ?_ (by decide) (mB (i:=5)) (fun j hj y hy=>qR (i:=5) hj hy) hr D;show some (50,iV ((n+1:Nat):Int))=some (50,Value.int .i64 (o0 .add .i64 (n:Int) 1));rw[show o0 .add .i64 (n:Int) 1=((n+1:Nat):Int)from by show IntKind.wrap .i64 ((n:Int)+1)=_;rw[Ie (by omega)];omega];rfl
 ·exact gE (ρ:=ρ) tz7 (agy 7) nU (nofun) (nofun) rfl (fun p hp=>.inl (by obtain rfl:=ad.1 hp;exact an ..)) rfl (by decide) (mB (i:=7)) (fun j hj y hy=>qR (i:=7) hj hy) hr D
 ·exact gE (ρ:=ρ) tz8 as6 as9 (nofun) (fun p hp=>by obtain rfl:=ad.1 hp;exact mem 2 _ rfl) rfl (fun p hp=>.inr ⟨7,by rw[asZ];simp,by obtain rfl:=ad.1 hp;rfl⟩) rfl (by decide) (mB (i:=8)) (fun j hj y hy=>qR (i:=8) hj hy) hr D
 ·exact gE (ρ:=ρ) asQ (agy 10) nU (nofun) (nofun) rfl (fun p hp=>.inl (by obtain rfl:=ad.1 hp;exact an ..)) rfl (by decide) (mB (i:=10)) (fun j hj y hy=>qR (i:=10) hj hy) hr D
 ·exact gE (ρ:=ρ) asR amJ as_ (nofun) (fun p hp=>by obtain rfl:=ad.1 hp;exact mem 3 _ rfl) rfl (fun p hp=>.inr ⟨10,by rw[amI];simp,by obtain rfl:=ad.1 hp;rfl⟩) rfl (by decide) (mB (i:=11)) (fun j hj y hy=>qR (i:=11) hj hy) hr D
end
section
variable {base:Nat}{W0:World}{h N:Nat}{m:Machine}{T:Trace}{L:cg}{cs:List Frame}{r l:List Nat}{fr:Frame}{B RB n LA cL:Nat}{first cd:Int}{bv pv w:Value}{rB rR rc:cD}{P:List Int}
theorem NY{j:Nat}{S:List Nat}(hj:j∈cZ xC r)(hr:∀a∈r,a∈S)(hS:∀a∈S,a<13∧(a∈LY∨a=6∨a=9∨a=12))(agC:j∉LY)(hd:j≠12∨9∉S):j=6∨(j=9∧6∈S)∨(j=12∧9∈S)∨(j=13∧12∈S):=by
 obtain⟨h1,h2,h3⟩:=dK hj;rw[LV]at h1;have:j=6∨j=9∨j=12∨j=13:=by simp only[LY,ac,ae,or_false,not_or]at agC;omega
 rcases this with rfl|rfl|rfl|rfl
 ·exact .inl rfl
 ·exact .inr (.inl ⟨rfl,hr 6 (h3 6 (by rw[amH];simp))⟩)
 ·exact .inr (.inr (.inl ⟨rfl,hr 9 (h3 9 (by rw[acB];simp))⟩))
 ·exact .inr (.inr (.inr ⟨rfl,hr 12 (h3 12 (by rw[VI];simp))⟩))
abbrev GI(RB:Nat)(fr:Frame):Prop:=FA i7 58 [.code .ret] [] .normal [(2,cb RB)] fr
theorem Qy{a:Nat}(hB:L rB=some (B,.obj dY (sA bv first pv cd)))(hR:L (a,.app 12 1)=some (RB,.obj dY [fO,iV 0,fO,iV 0]))(hc:L rc=none)(hcR:rc≠(a,.app 12 1))(hI:Vr base W0 pv P)(hP:P.length≤1048576)(hn:n≤4611686018427387000)
 (o:g_ base W0 eZ h N L (G fr cs) m T)(hf:FA i7 58 tdZ [] .normal (tzB B RB (c_ n LA cL)) fr):
  cm aa m T fun m' T'=>∃PA cP bT,g_ base W0 eZ h N (cg.set (cpL L rc PA cP P) (a,.app 12 1) (RB,.obj dY (Q_ (c_ n LA cL) first n (c_ P.length PA cP) cd))) (G bT cs) m' T'∧GI RB bT:=by
 have Yh:FA i7 58 (.code (.region 13 xC true)::[.code .ret]) [] .normal (tzB B RB (c_ n LA cL)) fr:=by rw[<-tzC];exact hf
 refine(NS o Yh).trans fun m1 T1 hd=>?_;obtain⟨l,c9,hs,o1,f1⟩:=hd;have D0:TzD base W0 h N L B RB (c_ n LA cL) n first cd pv fO cs [] l m1 T1:=⟨_,c9,o1,f1,fun x hx=>by
  simp only[tzB,ac,ae,or_false]at hx;rcases hx with rfl|rfl|rfl
  ·exact(by decide:1∈NX)
  ·exact(by decide:2∈NX)
  ·exact(by decide:3∈NX),fun x hx=>hx,fun i hi=>by cases hi⟩
 refine(qP (CC hB (by omega)) hs D0).trans fun m2 T2 hd=>?_;obtain⟨r2,l2,q_,_,hr2,D2,Fx⟩:=hd;have L3:∀a∈r2,a∈LY:=fun a ha=>(hr2 a ha).elim (fun h=>by cases h) id;have hj6:∃l3,l2=6::l3:=by
  rcases Fx with rfl|⟨j,l3,rfl,hj⟩
  ·exact absurd (L3 6 (kO LZ q_ 6 (by rw[LV];decide))) (by decide)
  ·rcases NY (S:=LY) q_.1 L3 (fun a ha=>⟨by simp only[LY,ac,ae,or_false]at ha;omega,.inl ha⟩) hj (.inr (by decide))with rfl|⟨_,h⟩|⟨_,h⟩|⟨_,h⟩
   ·exact⟨l3,rfl⟩
   ·exact absurd h (by decide)
   ·exact absurd h (by decide)
   ·exact absurd h (by decide)
 obtain⟨l3,rfl⟩:=hj6;obtain⟨lv2,iE,o2,f2,g3,g4,g5⟩:=D2.ex;have p6:=(dK q_.1).2.2;rw[asY]at p6;refine(NQ (ρ:=gY [(31,first),(74,((n+1:Nat):Int))] [] []) o2 f2 rfl (aar l3) (as5 l3) nU (nofun) (nofun) rfl (fun p hp=>?_) g3).trans fun m3 T3 hd=>?_
 ·simp only[gz,ah,ak,ac,ae,or_false]at hp;rcases hp with rfl|rfl
  ·exact g5 2 (p6 2 (by simp)) _ rfl
  ·exact g5 5 (p6 5 (by simp)) _ rfl
 obtain⟨kH,f3,o3,h3,w3⟩:=hd;refine(Qv (n:=first) (M:=n+1) (by omega) (by omega) o3 h3).trans fun m4 T4 hd=>?_;obtain⟨zV,o4,h4⟩:=hd;refine(NR (ρ:=gY [(31,fX first ((n+1:Nat):Int))] [] []) o4 h4 w3 rfl (fun st fZ=>aas l3 st fZ) (fun st fZ=>amM l3 st fZ) nU (nofun) (nofun) rfl rfl g3 (by decide)).trans fun m5 T5 hd=>?_;obtain⟨Uo,o5,h5⟩:=hd;have D5:TzD base W0 h N L B RB (c_ n LA cL) n first cd pv fO cs (6::r2) l3 m5 T5:=CB o5 h5 (dK q_.1).2.1 (fun y hy=>(au hy).symm) (by decide) (mB (i:=6)) (fun j hj y hy=>qR (i:=6) (fun e=>(dK q_.1).2.1 (e▸hj)) hy) g3 g4 g5
 refine(qP (CC hB (by omega)) q_.2 D5).trans fun m6 T6 hd=>?_;obtain⟨r6,l6,Qe,hk6,hr6,D6,hl6⟩:=hd;have Ji:∀a∈r6,a∈6::LY:=fun a ha=>by
  rcases hr6 a ha with h|h
  ·rcases ac.1 h with rfl|h
   ·exact an ..
   ·exact am _ (L3 a h)
  ·exact am _ h
 have amP:6∈r6:=hk6 6 (an ..);have hj9:∃l7,l6=9::l7:=by
  rcases hl6 with rfl|⟨j,l7,rfl,hj⟩
  ·exact absurd (Ji 9 (kO LZ Qe 9 (by rw[LV];decide))) (by decide)
  ·rcases NY (S:=6::LY) Qe.1 Ji (fun a ha=>by
    rcases ac.1 ha with rfl|ha
    ·exact⟨by decide,.inr (.inl rfl)⟩
    ·exact⟨by simp only[LY,ac,ae,or_false]at ha;omega,.inl ha⟩) hj (.inr (by decide))with rfl|⟨rfl,_⟩|⟨_,h⟩|⟨_,h⟩
   ·exact absurd amP (dK Qe.1).2.1
   ·exact⟨l7,rfl⟩
   ·exact absurd h (by decide)
   ·exact absurd h (by decide)
 obtain⟨l7,rfl⟩:=hj9;obtain⟨lv6,fr6,o6,f6,q3,q4,q5⟩:=D6.ex;have p9:=(dK Qe.1).2.2;rw[amH]at p9;refine(NQ (ρ:=gY [] [] [(71,pv)]) o6 f6 rfl (aat l7) (as7 l7) nU (nofun) (nofun) rfl (fun p hp=>?_) q3).trans fun m7 T7 hd=>?_
 ·obtain rfl:=ad.1 hp;exact q5 8 (p9 8 (by simp)) _ rfl
 obtain⟨fr7,f7,o7,h7,w7⟩:=hd;refine(Vz (pv:=pv) (P:=P) (rc:=rc) hI hP hc o7 h7).trans fun m8 T8 hd=>?_;obtain⟨PA,cP,fr8,o8,h8⟩:=hd;let L1:cg:=cpL L rc PA cP P;have hB1:L1 rB=some (B,.obj dY (sA bv first pv cd)):=LS hc hB;have hR1:L1 (a,.app 12 1)=some (RB,.obj dY [fO,iV 0,fO,iV 0]):=LS hc hR;refine(NR (ρ:=gY [] [] [(71,c_ P.length PA cP)]) o8 h8 w7 rfl (fun st fZ=>aau l7 st fZ) (fun st fZ=>amN l7 st fZ) nU (nofun) (nofun) rfl rfl q3 (by decide)).trans fun m9 T9 hd=>?_;obtain⟨fr9,o9,h9⟩:=hd;have atd:12∉r6:=fun h=>absurd (Ji 12 h) (by decide);have hn9:9∉r6:=(dK Qe.1).2.1;have D9:TzD base W0 h N L1 B RB (c_ n LA cL) n first cd pv (c_ P.length PA cP) cs (9::r6) l7 m9 T9:=CB o9 h9 hn9 (fun y hy=>(au hy).symm) (by decide) (mB (i:=9)) (fun j hj y hy=>qR (i:=9) (fun e=>hn9 (e▸hj)) hy) q3 q4 (fun i hi x hx=>q5 i hi x ((agx (fun e=>hn9 (e▸hi)) (fun e=>atd (e▸hi))).trans hx))
 have aav:∀i∈12::LY,∀r l m T,i∈cZ xC r->iq xC (i::r) l->TzD base W0 h N L1 B RB (c_ n LA cL) n first cd pv (c_ P.length PA cP) cs r (i::l) m T->cm aa m T (TzD base W0 h N L1 B RB (c_ n LA cL) n first cd pv (c_ P.length PA cP) cs (i::r) l):=by
  intro i hi r l m T hr hsr D;rcases ac.1 hi with rfl|hi
  ·let ρ:cn:=gY [(31,fX first ((n+1:Nat):Int)),(32,cd),(51,n),(52,cL),(61,P.length),(62,cP)] [(50,LA),(60,PA)] [];have Qw:(iL (decide (n=0)) 50 51 52).ev ρ=c_ n LA cL:=dC rfl rfl rfl;have e60:(iL (decide (P.length=0)) 60 61 62).ev ρ=c_ P.length PA cP:=dC rfl rfl rfl;refine gE (ρ:=ρ) (asS (decide (n=0)) (decide (P.length=0))) (amK _ _) nU (nofun) (nofun) (agz _ _) (fun p hp=>.inr ?_) ?_ (by decide) (mB (i:=12)) (fun j hj y hy=>qR (i:=12) hj hy) hr D
   ·simp only[gz,ah,ak,ac,ae,or_false,Qw,e60]at hp;rw[acB];rcases hp with rfl|rfl|rfl|rfl
    ·exact⟨0,by simp,rfl⟩
    ·exact⟨6,by simp,rfl⟩
    ·exact⟨9,by simp,rfl⟩
    ·exact⟨11,by simp,rfl⟩
   ·show some (57,Value.agg (Q_ (c_ n LA cL) first n (c_ P.length PA cP) cd).toArray)=some (57,Value.agg (AV.cf ρ (GH (decide (n=0)) (decide (P.length=0)))).toArray);simp only[GH,AV.cf,Qw,e60];rfl
  ·exact CC hB1 (by omega) i hi r l m T hr hsr D
 refine(qP aav Qe.2 D9).trans fun m10 T10 hd=>?_;obtain⟨r10,l10,VJ,amR,atf,D10,atg⟩:=hd;have amS:∀a∈r10,a∈12::9::6::LY:=fun a ha=>by
  rcases atf a ha with h|h
  ·rcases ac.1 h with rfl|h
   ·simp
   ·exact am _ (am _ (Ji a h))
  ·rcases ac.1 h with rfl|h
   ·simp
   ·exact am _ (am _ (am _ h))
 have ath:9∈r10:=amR 9 (an ..);have amT:6∈r10:=amR 6 (am _ amP);have agD:l10=[13]:=by
  rcases atg with rfl|⟨j,l11,rfl,hj⟩
  ·exact absurd (amS 13 (kO LZ VJ 13 (by rw[LV];decide))) (by decide)
  ·have ZE:j∉LY:=fun h=>hj (am _ h);have agD:j=13:=by
    obtain⟨x1,x2,x3⟩:=dK VJ.1;rw[LV]at x1;have a6:j≠6:=fun e=>x2 (e▸amT);have a9:j≠9:=fun e=>x2 (e▸ath);have a12:j≠12:=fun e=>hj (by rw[e];simp);simp only[LY,ac,ae,or_false,not_or]at ZE;omega
   subst agD;cases l11 with
   |nil=>rfl
   |cons j2 l12=>
    have hx:=VJ.2.1;obtain⟨x1,x2,_⟩:=dK hx;rw[LV]at x1;have x3:=(dK VJ.1).2.2;rw[VI]at x3;refine absurd ?_ x2;rcases bo j2 13 with dU|qB
    ·refine am _ (x3 j2 ?_);simp only[ac,ae,or_false];omega
    ·rw[show j2=13 by omega];simp
 subst agD;obtain⟨aAg,af',⟨w10,A10,H10,S10⟩,f10,u3,u4,u5⟩:=D10.ex;have p13:=(dK VJ.1).2.2;rw[VI]at p13;let ρ:cn:=gY [(31,fX first ((n+1:Nat):Int)),(32,cd),(51,n),(52,cL),(61,P.length),(62,cP)] [(13,RB),(50,LA),(60,PA)] [];have Qw:(iL (decide (n=0)) 50 51 52).ev ρ=c_ n LA cL:=dC rfl rfl rfl;have e60:(iL (decide (P.length=0)) 60 61 62).ev ρ=c_ P.length PA cP:=dC rfl rfl rfl;have eV:∀bL,cz (dR 100) ρ bL->AV.cf bL (GH (decide (n=0)) (decide (P.length=0)))=Q_ (c_ n LA cL) first n (c_ P.length PA cP) cd:=fun bL Ag=>by
  have e1:(iL (decide (n=0)) 50 51 52).ev bL=c_ n LA cL:=dC (Ag.b 50 (by decide)) (Ag.i 51 (by decide)) (Ag.i 52 (by decide));have e2:(iL (decide (P.length=0)) 60 61 62).ev bL=c_ P.length PA cP:=dC (Ag.b 60 (by decide)) (Ag.i 61 (by decide)) (Ag.i 62 (by decide));have z31:bL.i 31=fX first ((n+1:Nat):Int):=Ag.i 31 (by decide)
  have z32:bL.i 32=cd:=Ag.i 32 (by decide);simp only[GH,AV.cf,e1,e2,i64,v,AV.ev,IE.ev,z31,z32];rfl
 have atj:FA i7 58 (.inRegion xC [13]::[.code .ret]) [] .normal (gz ρ [(2,bF 13),(57,.agg (GH (decide (n=0)) (decide (P.length=0))))]) af':=f10.sub fun x hx=>by
  simp only[gz,ah,ak,ac,ae,or_false]at hx;rcases hx with rfl|rfl
  ·exact u4 _ (am _ (an ..))
  ·refine u5 12 (p13 12 (by simp)) _ ?_;show some (57,Value.agg (Q_ (c_ n LA cL) first n (c_ P.length PA cP) cd).toArray)=some (57,Value.agg (AV.cf ρ (GH (decide (n=0)) (decide (P.length=0)))).toArray);rw[eV ρ (cz.refl _ _)]
 refine(cQ (cC:=[]) (cs:=cs) A10 H10 S10 [((a,.app 12 1),13,.cells pl0 dY)] [((a,.app 12 1),13,.cells (GH (decide (n=0)) (decide (P.length=0))) dY)] (asT _ _ [] (bU af')) rfl rfl (amL _ _ _) nU (ρ:=ρ) (atj.rel (.inl rfl) _ rfl rfl) trivial (nofun) (nofun) (fun p hp=>?_) (by simp) (by simp) rfl).mono fun m11 T11 hd=>?_
 ·obtain rfl:=ad.1 hp;exact⟨_,hR1,rfl,rfl⟩
 obtain⟨w11,amU,amj,av3,C⟩:=hd;obtain rfl:=C.none;have KQ:amU.b 13=RB:=C.bE.bb 13;refine⟨PA,cP,amj,⟨w11,C.eG,C.heap.sub (cX [(a,.app 12 1)] (fun q hq=>?_) (fun q hq=>by simpa using hq) (fun q hq=>?_) fun q hq zz hz=>?_),dc⟩,?_⟩
 ·exact cg.b7 (by simpa using hq)
 ·simp only[cr,ah,ak]at hq;rw[ad.1 hq];simp
 ·obtain rfl:=ad.1 hq;rw[cg.cj]at hz;cases hz;refine bX ?_;simp only[cr,ah,ak,aw,decide_true,cY,eV amU C.bE,KQ]
 ·have f11:=C.fr;simp only[AV.cf,bF,AV.ev,af,AA.ev,BR.ev,IE.ev,KQ]at f11;exact f11
end
end Go.Proofs.Ythaddgfbohmfoaa
