/-
  A symbolic run of the model, proved sound, and the walk of the code: a text of its parts. Conditions: none.
-/
import Derived.Test.YthaddgfbohmfoaaLG
set_option linter.unusedSectionVars false
set_option maxRecDepth 100000
set_option linter.unusedVariables false
set_option linter.unusedSimpArgs false
namespace Go.Proofs.Ythaddgfbohmfoaa
open Go.Proofs.Ythaddgfbohmfoaa.SX Go.Conc
open Go.ConcN (upd upd_ne upd_same)
open Go.Proofs.Try renaming prog->aa
open _root_.List renaming mem_cons->ac,mem_singleton->ad,not_mem_nil->ae,map_cons->ah,nodup_nil->ai,map_nil->ak,mem_cons_of_mem->am,mem_cons_self->an,find?_cons->aw,mem_append->ay,cons_append->az,nil_append->aA,length_append->aD,getElem?_eq_getElem->aF,length_pos_iff->aG,getElem?_eq_some_iff->aH,mem_filter->aU,append_nil->aX,getElem?_map->aZ,mem_of_getElem?->bf,length_range->bh,length_map->bj,getElem?_range->bn,getD_eq_getElem?_getD->bA
open _root_.Option renaming map_some->af
open _root_.Int renaming toNat_natCast->ap
open _root_.Nat renaming le_refl->aq,lt_succ_iff_lt_or_eq->aV,lt_succ_self->a_
open _root_.Option.some renaming inj->au
def Wd.oe(E:Wd)(l:List Value)(AB cA:Nat):Wd:={E with LB:=fun r=>if r=(E.x,.app 1 0)then(if l=[]then none else some (AB,.fF g9 cA l))else E.LB r}
theorem my{a:Nat}{X:XS}{L L':cg}{r:cD}(h:L r=L' r):dM a X L r=dM a X L' r:=by unfold dM eQ iK;obtain⟨z,k⟩:=r;dsimp only;rw[h]
theorem lC{a:Nat}{X:XS}{L:cg}{r:cD}(h:r.1≠a):dM a X L r=L r:=by unfold dM eQ iK;simp only[h,if_false]
theorem mI{E:Wd}{l:List Value}{AB cA:Nat}{Y:GS}{X:XS}{r:cD}(h:r≠(E.x,.app 1 0)):(E.oe l AB cA).de Y X r=E.de Y X r:=by unfold Wd.de;show ci E.x Y (dM E.a X (E.oe l AB cA).LB) r=ci E.x Y (dM E.a X E.LB) r;have e:dM E.a X (E.oe l AB cA).LB r=dM E.a X E.LB r:=my (if_neg h);unfold ci;rw[e]
theorem Gs{E:Wd}{l:List Value}{AB cA:Nat}{Y:GS}{X:XS}(df:E.x≠E.a)(h:l≠[]):(E.oe l AB cA).de Y X (E.x,.app 1 0)=some (AB,.fF g9 cA l):=by unfold Wd.de;rw[ct rfl];show dM E.a X (E.oe l AB cA).LB _=_;rw[lC df];show(if _ then _ else _)=_;rw[if_pos rfl,if_neg h]
theorem Zt{E:Wd}{AB cA:Nat}{Y:GS}{X:XS}(df:E.x≠E.a):(E.oe [] AB cA).de Y X (E.x,.app 1 0)=none:=by unfold Wd.de;rw[ct rfl];show dM E.a X (E.oe [] AB cA).LB _=_;rw[lC df];show(if _ then _ else _)=_;rw[if_pos rfl,if_pos rfl]
theorem Zu{E:Wd}{l:List Value}{AB cA:Nat}{Y:GS}{X:XS}(df:E.x≠E.a)(hf:E.LB (E.x,.app 1 0)=none):∀r y,E.de Y X r=some y->(E.oe l AB cA).de Y X r=some y:=fun r y e=>by
 by_cases h:r=(E.x,.app 1 0)
 ·subst h;unfold Wd.de at e;rw[ct rfl,lC df,hf]at e;cases e
 ·rw[mI h];exact e
theorem IS{E:Wd}{AB cA:Nat}{Y:GS}{X:XS}(df:E.x≠E.a):∀r y,(E.oe [] AB cA).de Y X r=some y->E.de Y X r=some y:=fun r y e=>by
 by_cases h:r=(E.x,.app 1 0)
 ·subst h;rw[Zt df]at e;cases e
 ·rw[mI h]at e;exact e
theorem P7{E:Wd}{l l':List Value}{AB cA IT IU:Nat}{Y:GS}{X:XS}{bJ:Nat->Option Tok.Seat}(hS:cw ((E.oe l AB cA).de Y X) bJ):cw ((E.oe l' IT IU).de Y X) bJ:=fun b n hs=>by
 obtain⟨r,k,h1,h2⟩:=hS b n hs;have hr:r≠(E.x,.app 1 0):=fun e=>by
  subst e;rcases h2 with h2|h2
  ·cases h2.1
  ·cases h2
 refine⟨r,k,?_,h2⟩;rw[mI hr]at h1⊢;exact h1
theorem Lv{E:Wd}{l:List Value}{AB cA:Nat}{Y:GS}{X:XS}{bJ:Nat->Option Tok.Seat}(hS:cw (E.de Y X) bJ):cw ((E.oe l AB cA).de Y X) bJ:=fun b n hs=>by
 obtain⟨r,k,h1,h2⟩:=hS b n hs;have hr:r≠(E.x,.app 1 0):=fun e=>by
  subst e;rcases h2 with h2|h2
  ·cases h2.1
  ·cases h2
 exact⟨r,k,by rw[mI hr];exact h1,h2⟩
theorem IV{E:Wd}{l:List Value}{AB cA:Nat}{Y:GS}{X:XS}{bJ:Nat->Option Tok.Seat}(hS:cw ((E.oe l AB cA).de Y X) bJ):cw (E.de Y X) bJ:=fun b n hs=>by
 obtain⟨r,k,h1,h2⟩:=hS b n hs;have hr:r≠(E.x,.app 1 0):=fun e=>by
  subst e;rcases h2 with h2|h2
  ·cases h2.1
  ·cases h2
 exact⟨r,k,by rw[mI hr]at h1;exact h1,h2⟩
def Ck(E:Wd)(Y:GS)(X:XS)(j:Nat):sr->Prop
 |.ended=>(Y.ts j).e=true
 |.ready=>(Y.ts j).e=false∧∃op:Int,(Y.ts j).a[1]?=some (qn op)∧op≠6
 |.EG=>(Y.ts j).e=false∧(Y.ts j).a[1]?=some (qn 6)∧∃ca co arg val r k,(Y.ts j).v=cv ca co∧(Y.ts j).a[3]?=some (iV arg)∧E.de Y X r=some (ca,k)∧k.cell co=some (iV val)∧r≠(E.x,.app 1 0)∧val=arg
 |.Cj=>(Y.ts j).e=false∧(Y.ts j).a[1]?=some (qn 6)∧∃ca co arg val r k,(Y.ts j).v=cv ca co∧(Y.ts j).a[3]?=some (iV arg)∧E.de Y X r=some (ca,k)∧k.cell co=some (iV val)∧r≠(E.x,.app 1 0)∧val≠arg
abbrev Gt(l:List Value)(AB cA:Nat)(ov:Bool)(n TA cT i:Nat)(fr:Frame):Prop:=FA M1 31 aTd [] .normal [(2,c_ l.length AB cA),(3,.bool ov),(9,.slice (some ⟨TA,0,none⟩) n cT),(10,iV n),(11,iV i)] fr
abbrev Gu(R:Nat)(cd:Int)(jL:Value)(fr:Frame):Prop:=FA kc 80 (.code rdB::IR) [] .normal [(0,cb R),(1,iV cd),(3,jL)] fr
abbrev WaF(R:Nat)(cd:Int)(jL:Value)(fr:Frame):Prop:=FA kc 80 waT [] .normal [(0,cb R),(1,iV cd),(3,jL)] fr
noncomputable def alG(n TA cT i AB cA k:Nat)(op arg val:Int)(ca co Tj:Nat)(l:List Value):cn:=gY [(1,n),(3,op),(4,arg),(5,i),(7,k),(8,val),(9,co),(22,cT),(33,cA)] [(13,ca),(14,Tj),(20,TA),(32,AB)] [(42,.agg l.toArray)]
noncomputable def Cl(x:Nat)(z:Bool)(k:sr):List (cD×Nat×bM):=match z,k.y3 with
 |false,true=>[((x,.app 1 0),32,.cH false 42 (v 7) [] [] [] g9 (v 33))]
 |_,_=>[]
noncomputable def EH(x:Nat)(z:Bool)(k:sr):List (cD×Nat×bM):=match k.y3,z with
 |true,true=>[((x,.app 1 0),101,.row [bF 14] g9 (v 101)),((x,.dN),100,.cells [bF 14] g9)]
 |true,false=>[((x,.app 1 0),101,.cH false 42 (v 7) [] [] [bF 14] g9 (v 101)),((x,.dN),100,.cells [bF 14] g9)]
 |false,_=>[]
theorem IW(x:Nat)(z:Bool)(k:sr):(Cl x z k).map (·.2)=aHp z k:=by cases z<;>cases k<;>rfl
theorem P8(x:Nat)(z:Bool)(k:sr):(EH x z k).map (·.2)=alw z k:=by cases z<;>cases k<;>rfl
section
variable {E:Wd}{bJ:Nat->Option Tok.Seat}{h N:Nat}{Y:GS}{X:XS}{cs:List Frame}{fr:Frame}{m:Machine}{T:Trace}{i:Nat}{l:List Value}{AB cA:Nat}{ov:Bool}
theorem Gv(hj:0<Y.n):E.de Y X (E.x,.XM)=some (Y.TA,.fF g9 Y.cT (zT Y)):=by unfold Wd.de;rw[bY rfl];show(if Y.n=0 then _ else _)=_;rw[if_neg (by omega)]
theorem tM:E.de Y X (E.x,.dN)=none:=by unfold Wd.de;exact bY (x:=E.x) rfl
theorem lD:E.de Y X (E.x,.run)=some (Y.R,.obj gK Y.runV):=by unfold Wd.de;rw[bY rfl];rfl
theorem yu{j:Nat}(dI:(Y.ts j).a.length=8):(fA Y.R j (Y.th j) (Y.ts j))[13]?=some (.bool (Y.ts j).e)∧(fA Y.R j (Y.th j) (Y.ts j))[6]?=(Y.ts j).a[1]?∧(fA Y.R j (Y.th j) (Y.ts j))[8]?=(Y.ts j).a[3]?∧(fA Y.R j (Y.th j) (Y.ts j))[4]?=some (Y.ts j).v:=by obtain⟨a0,a1,a2,a3,a4,a5,a6,a7,ha⟩:=r_ dI;unfold fA;rw[ha];exact⟨rfl,rfl,rfl,rfl⟩
theorem P9(df:E.x≠E.a)(k:sr)(o:On (E.oe l AB cA) bJ h N Y X (G fr cs) m T)(hf:Gt l AB cA ov Y.n Y.TA Y.cT i fr)(hi:i<Y.n)(dI:(Y.ts i).a.length=8)(hk:Ck E Y X i k)(hl:l.length≤64)(vS:i≤1000000):
  cm aa m T fun m' T'=>∃bT IT IU,On (E.oe (if k.y3 then l++[cb (Y.th i).T]else l) IT IU) bJ h N Y X (G bT cs) m' T'∧Gt (if k.y3 then l++[cb (Y.th i).T]else l) IT IU (aOv ov k) Y.n Y.TA Y.cT (i+1) bT:=by
 obtain⟨w,A,H,hS⟩:=o;obtain⟨z,hz⟩:∃b,b=l.isEmpty:=⟨_,rfl⟩;have yf:z=true->l=[]:=fun e=>by rw[e]at hz;exact List.isEmpty_iff.1 hz.symm
 have zI:z=false->l≠[]:=fun e e2=>by rw[e,e2]at hz;cases hz
 have iM:(E.oe l AB cA).de Y X (E.x,.lW i)=some ((Y.th i).T,.obj mU (fA Y.R i (Y.th i) (Y.ts i))):=ku hi;have hta:(E.oe l AB cA).de Y X (E.x,.XM)=some (Y.TA,.fF g9 Y.cT (zT Y)):=Gv (E:=E.oe l AB cA) (by omega);obtain⟨g13,g6,g8,g4⟩:=yu dI;have hpa:(zT Y)[i]?=some (cb (Y.th i).T):=by unfold zT;rw[aZ,bn hi];rfl
 obtain⟨op,arg,val,ca,co,fY⟩:∃(op arg val:Int) (ca co:Nat),(∀p∈aM k,∀ρ:cn,ρ.i 3=op->ρ.i 4=arg->ρ.i 8=val->ρ.b 13=ca->ρ.i 9=co->ρ.b 14=(Y.th i).T->ρ.b 20=Y.TA->ρ.i 5=i->lq ((E.oe l AB cA).de Y X) ((Cl E.x z k).map (·.1)) w E.base ρ p)∧(match k with
   |.ended=>True
   |.ready=>op≠6
   |.EG=>op=6∧val=arg
   |.Cj=>op=6∧val≠arg):=by
  have nd:∀r:cD,r≠(E.x,.app 1 0)->r∉(Cl E.x z k).map (·.1):=fun r hr=>by cases z<;>cases k<;>simp[Cl,sr.y3,hr]
  have m0:∀ρ:cn,ρ.b 14=(Y.th i).T->ρ.b 20=Y.TA->ρ.i 5=i->lq ((E.oe l AB cA).de Y X) ((Cl E.x z k).map (·.1)) w E.base ρ (⟨.cN 20,.tn (v 5)⟩,bF 14):=fun ρ CJ Zv q5=>by refine .inl ⟨_,_,by rw[show((⟨.cN 20,.tn (v 5)⟩:AA).ev ρ).block=Y.TA from Zv];exact hta,nd _ (by simp),?_⟩;show(zT Y)[((ρ.i 5).toNat:Int).toNat]?=some ((bF 14).ev ρ);rw[q5,ap,ap,hpa];simp only[bF,AV.ev,af,AA.ev,BR.ev,IE.ev,CJ];rfl
  have mt:∀(ρ:cn) (c:Nat) (a:AV),ρ.b 14=(Y.th i).T->(fA Y.R i (Y.th i) (Y.ts i))[c]?=some (a.ev ρ)->lq ((E.oe l AB cA).de Y X) ((Cl E.x z k).map (·.1)) w E.base ρ (⟨.cN 14,.lit c⟩,a):=fun ρ c a CJ hc=>.inl ⟨_,_,by rw[show((⟨.cN 14,.lit c⟩:AA).ev ρ).block=(Y.th i).T from CJ];exact iM,nd _ (by simp),by show(fA Y.R i (Y.th i) (Y.ts i))[((c:Nat):Int).toNat]?=_;rw[ap];exact hc⟩
  cases k with
  |ended=>
   refine⟨0,0,0,0,0,fun p hp ρ q3 q4 q8 q13 q9 CJ Zv q5=>?_,trivial⟩;unfold aM at hp;simp only[aX,ac,ae,or_false]at hp;rcases hp with rfl|rfl
   ·exact m0 ρ CJ Zv q5
   ·refine mt ρ 13 _ CJ ?_;rw[g13,show(Y.ts i).e=true from hk];rfl
  |ready=>
   obtain⟨he,op,ho,hn⟩:=hk;refine⟨op,0,0,0,0,fun p hp ρ q3 q4 q8 q13 q9 CJ Zv q5=>?_,hn⟩;unfold aM at hp;simp only[az,aA,ac,ae,or_false]at hp;rcases hp with rfl|rfl|rfl
   ·exact m0 ρ CJ Zv q5
   ·refine mt ρ 13 _ CJ ?_;rw[g13,he];rfl
   ·refine mt ρ 6 _ CJ ?_;rw[g6,ho];simp only[i8,v,AV.ev,IE.ev,q3];rfl
  |EG=>
   obtain⟨he,ho,ca,co,arg,val,r,bk,hv,h3,hr,hc,Dh,hva⟩:=hk;refine⟨6,arg,val,ca,co,fun p hp ρ q3 q4 q8 q13 q9 CJ Zv q5=>?_,rfl,hva⟩;unfold aM at hp;simp only[az,aA,ac,ae,or_false]at hp;rcases hp with rfl|rfl|rfl|rfl|rfl|rfl
   ·exact m0 ρ CJ Zv q5
   ·refine mt ρ 13 _ CJ ?_;rw[g13,he];rfl
   ·refine mt ρ 6 _ CJ ?_;rw[g6,ho];simp only[i8,v,AV.ev,IE.ev,q3];rfl
   ·refine mt ρ 4 _ CJ ?_;rw[g4,hv];simp only[Gn,v,AV.ev,af,AA.ev,BR.ev,IE.ev,q13,q9];rfl
   ·refine mt ρ 8 _ CJ ?_;rw[g8,h3];simp only[i64,v,AV.ev,IE.ev,q4];rfl
   ·refine .inl ⟨r,bk,?_,nd r Dh,?_⟩
    ·rw[show((⟨.cN 13,v 9⟩:AA).ev ρ).block=ca from q13];exact(mI (E:=E) Dh).trans hr
    ·show bk.cell (ρ.i 9).toNat=some (.int .i64 (ρ.i 8));rw[q9,q8,ap];exact hc
  |Cj=>
   obtain⟨he,ho,ca,co,arg,val,r,bk,hv,h3,hr,hc,Dh,hva⟩:=hk;refine⟨6,arg,val,ca,co,fun p hp ρ q3 q4 q8 q13 q9 CJ Zv q5=>?_,rfl,hva⟩;unfold aM at hp;simp only[az,aA,ac,ae,or_false]at hp;rcases hp with rfl|rfl|rfl|rfl|rfl|rfl
   ·exact m0 ρ CJ Zv q5
   ·refine mt ρ 13 _ CJ ?_;rw[g13,he];rfl
   ·refine mt ρ 6 _ CJ ?_;rw[g6,ho];simp only[i8,v,AV.ev,IE.ev,q3];rfl
   ·refine mt ρ 4 _ CJ ?_;rw[g4,hv];simp only[Gn,v,AV.ev,af,AA.ev,BR.ev,IE.ev,q13,q9];rfl
   ·refine mt ρ 8 _ CJ ?_;rw[g8,h3];simp only[i64,v,AV.ev,IE.ev,q4];rfl
   ·refine .inl ⟨r,bk,?_,nd r Dh,?_⟩
    ·rw[show((⟨.cN 13,v 9⟩:AA).ev ρ).block=ca from q13];exact(mI (E:=E) Dh).trans hr
    ·show bk.cell (ρ.i 9).toNat=some (.int .i64 (ρ.i 8));rw[q9,q8,ap];exact hc
 obtain⟨qX,BF⟩:=fY;let ρ:=alG Y.n Y.TA Y.cT i AB cA l.length op arg val ca co (Y.th i).T l;have kI:dj aa ρ (UL z ov (bU fr)) fr:=by
  refine hf.rel (.inl rfl) (aL z ov (v 5)) ?_ rfl;simp only[aL,gz,ah,ak];have e1:(aLs z).ev ρ=c_ l.length AB cA:=by
   cases z with
   |true=>rw[yf rfl];rfl
   |false=>rw[cy (aG.2 (zI rfl))];rfl
  rw[e1];cases ov<;>rfl
 have hbs:∀p∈aBs z k,p.1.ev ρ=p.2:=fun p hp=>by
  unfold aBs at hp;rcases ay.1 hp with hp|hp
  ·rcases ay.1 hp with hp|hp
   ·simp only[ac,ae,or_false]at hp;rcases hp with rfl|rfl
    ·show decide ((i:Int)<(((Y.n:Nat):Int).toNat:Int))=true;exact decide_eq_true (by omega)
    ·show decide ((0:Int)≤(i:Int))=true;exact decide_eq_true (by omega)
   ·cases k with
    |ended=>cases hp
    |ready=>obtain rfl:=ad.1 hp;show(!decide (op=6))=true;simpa using BF
    |EG=>
     simp only[ac,ae,or_false]at hp;rcases hp with rfl|rfl
     ·show(!decide (op=6))=false;simpa using BF.1
     ·show(!decide (val=arg))=false;simpa using BF.2
    |Cj=>
     simp only[ac,ae,or_false]at hp;rcases hp with rfl|rfl
     ·show(!decide (op=6))=false;simpa using BF.1
     ·show(!decide (val=arg))=true;simpa using BF.2
  ·cases z with
   |true=>cases k<;>cases hp
   |false=>
    cases k<;>first|(cases hp;done)|skip
    all_goals
     obtain rfl:=ad.1 hp;show decide ((((l.length:Nat):Int).toNat:Int)+1≤1048576)=true;exact decide_eq_true (by omega)
 have hpre:mo ((E.oe l AB cA).de Y X) ρ (Cl E.x z k):=fun p hp=>by
  cases z with
  |true=>cases k<;>cases hp
  |false=>
   cases k<;>first|(cases hp;done)|skip
   all_goals
    obtain rfl:=ad.1 hp;refine⟨.fF g9 cA l,Gs df (zI rfl),rfl,rfl,fun i hi=>?_,(nofun),rfl⟩;rw[BV i hi];show _=(((l.length:Nat):Int)).toNat*1;omega
 have hv:=aIt z ov k (bU fr);rw[<-IW E.x]at hv;have od:=aff z ov k (bU fr);rw[<-IW E.x]at od;refine(cQ (cC:=[]) (cs:=cs) A H hS (Cl E.x z k) (EH E.x z k) hv (P8 _ _ _).symm rfl od (arm z k) (ρ:=ρ) kI trivial hbs (fun p hp=>qX p hp ρ rfl rfl rfl rfl rfl rfl rfl rfl) hpre (by cases z<;>cases k<;>simp[Cl,sr.y3]) (by cases z<;>cases k<;>simp[EH,sr.y3]) (by cases z<;>cases k<;>rfl)).mono fun m1 T1 hd=>?_;obtain⟨w1,bW,c9,d9,C⟩:=hd;obtain rfl:=C.none;have z1:bW.i 1=Y.n:=C.bE.ii 1;have z5:bW.i 5=i:=C.bE.ii 5;have z7:bW.i 7=l.length:=C.bE.ii 7;have WH:bW.i 22=Y.cT:=C.bE.ii 22;have z33:bW.i 33=cA:=C.bE.ii 33;have jY:bW.b 14=(Y.th i).T:=C.bE.bb 14;have JE:bW.b 20=Y.TA:=C.bE.bb 20;have y32:bW.b 32=AB:=C.bE.bb 32;have CH:bW.v 42=.agg l.toArray:=congrFun C.bE.v 42;have ei:o0 .add .i64 (i:Int) 1=((i+1:Nat):Int):=add_one vS;have eP:(bF 14).ev bW=cb (Y.th i).T:=by simp only[bF,AV.ev,af,AA.ev,BR.ev,IE.ev,jY];rfl
 cases Ba:k.y3 with
 |false=>
  refine⟨c9,AB,cA,.of C.eG ?_ hS,?_⟩
  ·refine C.heap.sub fun r y hy=>?_;rw[jj (by cases z<;>cases k<;>first|(simp[Cl,sr.y3];done)|cases Ba) (by cases z<;>cases k<;>first|(simp[EH,sr.y3,cr];done)|cases Ba)];exact hy
  ·have:=C.fr;have e1:(UO z k).ev bW=c_ l.length AB cA:=by
    unfold UO;rw[Ba];cases z with
    |true=>rw[yf rfl];rfl
    |false=>rw[cy (aG.2 (zI rfl))];simp only[aLs,nq,v,AV.ev,af,AA.ev,BR.ev,IE.ev,y32,z7,z33];rfl
   simp only[AV.cf,e1,tr,nq,i64,v,AV.ev,af,AA.ev,BR.ev,IE.ev,BE.ev,JE,z1,WH,z5,ei,ap]at this;exact this
 |true=>
  refine⟨c9,bW.b 101,(bW.i 101).toNat,.of C.eG ?_ (P7 hS),?_⟩
  ·refine C.heap.sub (cX [(E.x,.app 1 0),(E.x,.dN)] (fun r hr=>?_) (fun r hr=>?_) (fun p hp=>?_) fun r hr y hy=>?_)
   ·have h1:r≠(E.x,.app 1 0):=fun e=>hr (by simp[e]);exact(mI h1).trans (mI h1).symm
   ·cases z<;>cases k<;>simp only[Cl,sr.y3,ah,ak,ac,ae,or_false]at hr<;>first|(subst hr;simp;done)|exact hr.elim
   ·cases z<;>cases k<;>first|(cases Ba;done)|skip
    all_goals
     simp only[EH,sr.y3,cr,ah,ak,ac,ae,or_false]at hp;rcases hp with rfl|rfl<;>simp
   ·simp only[ac,ae,or_false]at hr;rcases hr with rfl|rfl
    ·have e0:(E.oe (l++[cb (Y.th i).T]) (bW.b 101) (bW.i 101).toNat).de Y X (E.x,.app 1 0)=some (bW.b 101,.fF g9 (bW.i 101).toNat (l++[cb (Y.th i).T])):=Gs df (by simp);have D4:=e0.symm.trans hy;cases D4;refine bX ?_;cases z<;>cases k<;>first|(cases Ba;done)|skip
     all_goals
      simp only[EH,sr.y3,cr,ah,ak,aw,decide_true]
     ·simp only[cY,v,IE.ev,CH,gy,AV.cf,eP];rfl
     ·simp only[cY,v,IE.ev,CH,gy,AV.cf,eP];rfl
     ·simp only[cY,v,IE.ev,AV.cf,eP,yf rfl];rfl
     ·simp only[cY,v,IE.ev,AV.cf,eP,yf rfl];rfl
    ·have hn:=tM (E:=E.oe (l++[cb (Y.th i).T]) (bW.b 101) (bW.i 101).toNat) (Y:=Y) (X:=X);cases hn.symm.trans hy
  ·have:=C.fr;have e1:(UO z k).ev bW=c_ (l++[cb (Y.th i).T]).length (bW.b 101) (bW.i 101).toNat:=by
    unfold UO;rw[Ba,aD,cy (by simp)];cases z with
    |true=>rw[yf rfl];rfl
    |false=>simp only[v,AV.ev,af,AA.ev,BR.ev,IE.ev,z7];rfl
   simp only[AV.cf,e1,tr,nq,i64,v,AV.ev,af,AA.ev,BR.ev,IE.ev,BE.ev,JE,z1,WH,z5,ei,ap]at this;exact this
end
def yv(kd:Nat->sr)(n:Nat):List Nat:=(List.range n).filter fun j=>(kd j).y3
def zA(kd:Nat->sr):Nat->Bool
 |0=>true
 |n+1=>aOv (zA kd n) (kd n)
theorem UU(kd:Nat->sr)(n:Nat):yv kd (n+1)=if(kd n).y3 then yv kd n++[n]else yv kd n:=by
 unfold yv;rw[List.range_succ,List.filter_append];by_cases h:(kd n).y3=true
 ·simp[h]
 ·simp[h]
theorem NF(kd:Nat->sr)(n:Nat):(yv kd n).length≤n:=by unfold yv;have:=List.length_filter_le (fun j=>(kd j).y3) (List.range n);rw[bh]at this;exact this
theorem Gw{kd:Nat->sr}{n j:Nat}:j∈yv kd n↔j<n∧(kd j).y3=true:=by unfold yv;rw[aU,List.mem_range]
theorem z0{kd:Nat->sr}:∀{n:Nat},zA kd n=true↔∀j,j<n->kd j=.ended
 |0=>by simp[zA]
 |n+1=>by
  have ih:=z0 (kd:=kd) (n:=n);constructor
  ·intro h j hj;unfold zA aOv at h;cases e:kd n<;>rw[e]at h
   ·rcases aV.1 hj with hj|rfl
    ·exact ih.1 h j hj
    ·exact e
   ·cases h
   ·cases h
   ·cases h
  ·intro h;unfold zA;rw[h n (a_ n)];exact ih.2 fun j hj=>h j (by omega)
theorem UV{kd:Nat->sr}{n:Nat}(h:zA kd n=true):yv kd n=[]:=by rw[List.eq_nil_iff_forall_not_mem];intro j hj;obtain⟨h1,h2⟩:=Gw.1 hj;rw[z0.1 h j h1]at h2;cases h2
def gU(Y:GS)(l:List Nat):List Value:=l.map fun j=>cb (Y.th j).T
abbrev yw(e:Int)(ok:Bool)(fr:Frame):Prop:=∃k,FA kc 80 (.code .ret::k) [] .normal [(8,qn e),(9,.bool ok)] fr
section
variable {E:Wd}{bJ:Nat->Option Tok.Seat}{h N:Nat}{Y:GS}{X:XS}{cs:List Frame}{fr f37:Frame}{m:Machine}{T:Trace}{kd:Nat->sr}{cd:Int}{jL:Value}
theorem afq(o:On E bJ h N Y X (G fr cs) m T)(df:E.x≠E.a):On (E.oe [] 0 0) bJ h N Y X (G fr cs) m T:=by obtain⟨w,A,H,hS⟩:=o;exact⟨w,A,H.sub (IS df),Lv hS⟩
theorem Gx{l:List Value}{AB cA:Nat}(o:On (E.oe l AB cA) bJ h N Y X (G fr cs) m T)(df:E.x≠E.a)(hf:E.LB (E.x,.app 1 0)=none):On E bJ h N Y X (G fr cs) m T:=by obtain⟨w,A,H,hS⟩:=o;exact⟨w,A,H.sub (Zu df hf),IV hS⟩
theorem P_(df:E.x≠E.a)(dI:∀j,j<Y.n->(Y.ts j).a.length=8)(hk:∀j,j<Y.n->Ck E Y X j (kd j))(hn:Y.n≤64):∀(d i:Nat) {fr:Frame} {m:Machine} {T:Trace} {AB cA:Nat},i+d=Y.n->On (E.oe (gU Y (yv kd i)) AB cA) bJ h N Y X (G fr cs) m T->Gt (gU Y (yv kd i)) AB cA (zA kd i) Y.n Y.TA Y.cT i fr->
  cm aa m T fun m' T'=>∃bT IT IU,On (E.oe (gU Y (yv kd Y.n)) IT IU) bJ h N Y X (G bT cs) m' T'∧Gt (gU Y (yv kd Y.n)) IT IU (zA kd Y.n) Y.n Y.TA Y.cT Y.n bT:=by
 intro d
 induction d with
 |zero=>
  intro i fr m T AB cA hd o hf;obtain rfl:i=Y.n:=by omega
  exact cm.refl ⟨fr,AB,cA,o,hf⟩
 |succ d ih=>
  intro i fr m T AB cA hd o hf;have hl:(gU Y (yv kd i)).length≤64:=by unfold gU;rw[bj];have:=NF kd i;omega
  refine(P9 df (kd i) o hf (by omega) (dI i (by omega)) (hk i (by omega)) hl (by omega)).trans fun m1 T1 xy=>?_;obtain⟨c9,AB1,cA1,o1,h1⟩:=xy;have e:(if(kd i).y3 then gU Y (yv kd i)++[cb (Y.th i).T]else gU Y (yv kd i))=gU Y (yv kd (i+1)):=by
   rw[UU];cases(kd i).y3
   ·rfl
   ·simp[gU]
  rw[e]at o1 h1;exact ih (i+1) (by omega) o1 h1
theorem UW(df:E.x≠E.a)(o:On E bJ h N Y X (G fr cs) m T)(hf:Gu Y.R cd jL fr)(dI:∀j,j<Y.n->(Y.ts j).a.length=8)(hk:∀j,j<Y.n->Ck E Y X j (kd j))(hn:Y.n≤64)(h0:0<Y.n):
  cm aa m T fun m' T'=>∃bT f37 AB cA,On (E.oe (gU Y (yv kd Y.n)) AB cA) bJ h N Y X (G bT (f37::cs)) m' T'∧Gt (gU Y (yv kd Y.n)) AB cA (zA kd Y.n) Y.n Y.TA Y.cT Y.n bT∧WaF Y.R cd jL f37:=by
 obtain⟨w,A,H,hS⟩:=afq o df;let ρ:cn:=gY [(1,Y.n),(22,Y.cT),(80,cd)] [(10,Y.R),(20,Y.TA)] [(65,jL)];refine(cQ (cC:=[]) (cs:=cs) A H hS [] [] (aIn (bU fr)) rfl rfl (UM _) alu (ρ:=ρ) (hf.rel (.inl rfl) G0 rfl rfl) trivial (nofun) (fun p hp=>?_) (nofun) ai ai rfl).trans fun m1 T1 hd=>?_
 ·obtain rfl:=ad.1 hp;refine .inl ⟨_,_,lD (E:=E.oe [] 0 0),by simp,?_⟩;show some (c_ Y.n Y.TA Y.cT)=_;rw[cy h0];rfl
 obtain⟨w1,bW,c9,d9,C⟩:=hd;obtain⟨f37,rfl,Dr⟩:=C.one;have z1:bW.i 1=Y.n:=C.bE.ii 1;have WH:bW.i 22=Y.cT:=C.bE.ii 22;have UX:bW.i 80=cd:=C.bE.ii 80;have mr:bW.b 10=Y.R:=C.bE.bb 10;have JE:bW.b 20=Y.TA:=C.bE.bb 20;have Q6:bW.v 65=jL:=congrFun C.bE.v 65;have f1:Gt (gU Y (yv kd 0)) 0 0 (zA kd 0) Y.n Y.TA Y.cT 0 c9:=by have:=C.fr;simp only[aL,aLs,ah,ak,AV.cf,tr,nq,i64,v,AV.ev,af,AA.ev,BR.ev,IE.ev,BE.ev,JE,z1,WH,ap]at this;exact this
 have alI:WaF Y.R cd jL f37:=by simp only[G0,ah,ak,AV.cf,bF,i64,v,AV.ev,af,AA.ev,BR.ev,IE.ev,mr,UX,Q6]at Dr;exact Dr
 refine(P_ df dI hk hn Y.n 0 (by omega) (On.of C.eG (cU C.heap) hS) f1).mono fun m2 T2 hd=>?_;obtain⟨iE,AB,cA,o2,h2⟩:=hd;exact⟨iE,f37,AB,cA,o2,h2,alI⟩
theorem IX(o:On E bJ h N Y X (G fr cs) m T)(hf:Gu Y.R cd jL fr)(h0:Y.n=0):
  cm aa m T fun m' T'=>∃bT,On E bJ h N Y X (G bT cs) m' T'∧yw 1 true bT:=by
 obtain⟨w,A,H,hS⟩:=o;let ρ:cn:=gY [(80,cd)] [(10,Y.R)] [(65,jL)];refine(cQ (cC:=[]) (cs:=cs) A H hS [] [] (r0 (bU fr)) rfl rfl (UM _) r0O (ρ:=ρ) (hf.rel (.inl rfl) G0 rfl rfl) trivial (nofun) (fun p hp=>?_) (nofun) ai ai rfl).mono fun m1 T1 hd=>?_
 ·obtain rfl:=ad.1 hp;refine .inl ⟨_,_,lD,by simp,?_⟩;show some (c_ Y.n Y.TA Y.cT)=_;rw[h0];rfl
 obtain⟨w1,bW,c9,d9,C⟩:=hd;obtain rfl:=C.none;exact⟨c9,On.of C.eG (cU C.heap) hS,_,C.fr⟩
theorem IY{l:List Value}{AB cA:Nat}{ov:Bool}(o:On E bJ h N Y X (G fr (f37::cs)) m T)(hf:Gt l AB cA ov Y.n Y.TA Y.cT Y.n fr)(Dr:WaF Y.R cd jL f37)(hl:l=[]):
  cm aa m T fun m' T'=>∃bT,On E bJ h N Y X (G bT cs) m' T'∧yw (if ov then 1 else 3) true bT:=by
 obtain⟨w,A,H,hS⟩:=o;subst hl;let ρ:cn:=gY [(1,Y.n),(5,Y.n),(22,Y.cT),(80,cd)] [(10,Y.R),(20,Y.TA)] [(65,jL)];have iw:c8 aa ρ [waF (bU f37)] [f37]:=⟨Dr.rel (.inl rfl) G0 rfl rfl,trivial⟩;have hb:∀p∈Gp,p.1.ev ρ=p.2:=fun p hp=>by obtain rfl:=ad.1 hp;show decide ((Y.n:Int)<(((Y.n:Nat):Int).toNat:Int))=false;exact decide_eq_false (by omega)
 cases ov with
 |true=>refine(cQ (cC:=[f37]) (cs:=cs) A H hS [] [] (rOv (bU fr) (bU f37)) rfl rfl (Lt _ _ _ _) afg (ρ:=ρ) (hf.rel (.inl rfl) (aL true true (v 5)) rfl rfl) iw hb (nofun) (nofun) ai ai rfl).mono fun m1 T1 hd=>?_;obtain⟨w1,bW,c9,d9,C⟩:=hd;obtain rfl:=C.none;exact⟨c9,On.of C.eG (cU C.heap) hS,_,C.fr⟩
 |false=>refine(cQ (cC:=[f37]) (cs:=cs) A H hS [] [] (rDe (bU fr) (bU f37)) rfl rfl (Lt _ _ _ _) afg (ρ:=ρ) (hf.rel (.inl rfl) (aL true false (v 5)) rfl rfl) iw hb (nofun) (nofun) ai ai rfl).mono fun m1 T1 hd=>?_;obtain⟨w1,bW,c9,d9,C⟩:=hd;obtain rfl:=C.none;exact⟨c9,On.of C.eG (cU C.heap) hS,_,C.fr⟩
noncomputable def NG(n TA cT R AB cA k WA cW w:Nat)(cd:Int)(qg nH:Nat)(jL:Value):cn:=gY [(1,n),(5,n),(6,w),(7,k),(22,cT),(25,cW),(33,cA),(80,cd)] [(10,R),(20,TA),(23,WA),(30,qg),(31,nH),(32,AB)] [(65,jL)]
theorem aci{n k w:Nat}{cd:Int}{y b:Bool}{TA cT R AB cA WA cW qg nH:Nat}{jL:Value}(hk:0<k)(hy:y=true->w=0)(hb:b=decide ((w:Int)=cd)):∀p∈UP y b,p.1.ev (NG n TA cT R AB cA k WA cW w cd qg nH jL)=p.2:=fun p hp=>by
 simp only[UP,ac,ae,or_false]at hp;rcases hp with rfl|rfl|rfl
 ·show decide ((n:Int)<(((n:Nat):Int).toNat:Int))=false;exact decide_eq_false (by omega)
 ·show decide ((((k:Nat):Int).toNat:Int)=0)=false;exact decide_eq_false (by omega)
 ·subst hb;cases y with
  |true=>show decide ((0:Int)=cd)=decide ((w:Int)=cd);rw[hy rfl];rfl
  |false=>show decide ((((w:Nat):Int).toNat:Int)=cd)=decide ((w:Int)=cd);rw[ap]
theorem UY{E':Wd}{y:Bool}{w:World}{cd:Int}{n TA cT AB cA k qg nH:Nat}{jL:Value}(hy:y=Y.cp.isEmpty):∀p∈Zp y,lq (E'.de Y X) [] w E'.base (NG n TA cT Y.R AB cA k Y.WA Y.cW Y.cp.length cd qg nH jL) p:=fun p hp=>by
 obtain rfl:=ad.1 hp;refine .inl ⟨_,_,lD,by simp,?_⟩;show some (c_ Y.cp.length Y.WA Y.cW)=_;cases y with
 |true=>rw[List.isEmpty_iff.1 hy.symm];rfl
 |false=>rw[cy (aG.2 fun e=>by rw[e]at hy;cases hy)];rfl
theorem Zw{l:List Value}{AB cA:Nat}(o:On E bJ h N Y X (G fr (f37::cs)) m T)(hf:Gt l AB cA false Y.n Y.TA Y.cT Y.n fr)(Dr:WaF Y.R cd jL f37)(hl:l≠[])(hm:(Y.cp.length:Int)=cd):
  cm aa m T fun m' T'=>∃bT,On E bJ h N Y X (G bT cs) m' T'∧yw 2 true bT:=by
 obtain⟨w,A,H,hS⟩:=o;obtain⟨y,hy⟩:∃b,b=Y.cp.isEmpty:=⟨_,rfl⟩;let ρ:cn:=NG Y.n Y.TA Y.cT Y.R AB cA l.length Y.WA Y.cW Y.cp.length cd 0 0 jL;have Zx:=aG.2 hl;have kI:dj aa ρ (UL false false (bU fr)) fr:=hf.rel (.inl rfl) (aL false false (v 5)) (by rw[cy Zx];rfl) rfl;have iw:c8 aa ρ [waF (bU f37)] [f37]:=⟨Dr.rel (.inl rfl) G0 rfl rfl,trivial⟩;refine(cQ (cC:=[f37]) (cs:=cs) A H hS [] [] (rCu y (bU fr) (bU f37)) rfl rfl (Lt _ _ _ _) (alx y true) (ρ:=ρ) kI iw (aci Zx (fun e=>by rw[e]at hy;rw[List.isEmpty_iff.1 hy.symm];rfl) (by simp[hm])) (UY hy) (nofun) ai ai rfl).mono fun m1 T1 hd=>?_;obtain⟨w1,bW,c9,d9,C⟩:=hd;obtain rfl:=C.none;exact⟨c9,On.of C.eG (cU C.heap) hS,_,C.fr⟩
end
theorem Cm{E:Wd}{Y:GS}{X:XS}(h:Y.cp≠[]):E.de Y X (E.x,.cp)=some (Y.WA,.fF ke Y.cW (fH Y.cp)):=by unfold Wd.de;rw[bY rfl];show(if Y.cp=[]then _ else _)=_;rw[if_neg h]
theorem EI{E:Wd}{Y:GS}{X:XS}(h:Y.ready≠[]):E.de Y X (E.x,.ready)=some (Y.RA,.fF ke Y.cR (fH Y.ready)):=by unfold Wd.de;rw[bY rfl];show(if Y.ready=[]then _ else _)=_;rw[if_neg h]
def Lw(qg nH:Nat):Value:=.func (.func oO) #[] #[cb qg,cb nH]
abbrev ScF(R:Nat)(cd:Int)(jL:Value)(l:List Value)(AB cA:Nat)(fr:Frame):Prop:=FA kc 80 scT [] .normal [(0,cb R),(1,iV cd),(3,jL),(12,c_ l.length AB cA)] fr
abbrev afr(t:Int)(l:List Value)(AB cA qg nH:Nat)(fr:Frame):Prop:=FA oO 57 [.code (bQ Fn.pick)] [] .normal [(0,iV t),(1,c_ l.length AB cA),(2,cb qg),(3,cb nH)] fr
abbrev UZ(l:List Value)(AB cA:Nat)(la:Int)(i:Nat)(fr:Frame):Prop:=FA oO 57 pTd [] .normal [(1,c_ l.length AB cA),(7,iV la),(40,c_ l.length AB cA),(41,iV l.length),(42,iV i)] fr
def U2(Tb:Nat)(fr:Frame):Prop:=∃k,FA oO 57 (.code .ret::k) [] .normal [(6,cb Tb)] fr
structure Zy(E:Wd)(R qg nH PA cP:Nat)(cK:List Int):Prop where
 b30:∃k,E.LB (E.x,.app 2 1)=some (qg,k)∧k.cell 0=some (c_ cK.length PA cP)
 b31:∃k,E.LB (E.x,.app 2 2)=some (nH,k)∧k.cell 0=some (cb R)
 arr:cK≠[]->∃k,E.LB (E.x,.app 2 0)=some (PA,k)∧∀i n,cK[i]?=some n->k.cell i=some (iV n)
def Cn(cK:List Int)(cp l:List Nat):Nat:=match cK[cp.length]? with
 |some p=>l.getD (((p.tmod l.length+l.length).tmod l.length).toNat) 0
 |none=>match l.find? (fun j=>match cp.getLast? with
   |some k=>decide (k<j)
   |none=>true)with
  |some j=>j
  |none=>l.getD 0 0
theorem Co(p:Int){n:Nat}(h:0<n):0≤(p.tmod n+n).tmod n∧(p.tmod n+n).tmod n<n:=by
 have h1:=Int.tmod_lt_of_pos p (show(0:Int)<n by omega);have h2:-(n:Int)<p.tmod n:=by
  rcases Int.le_total 0 p with hp|hp
  ·have:=Int.tmod_nonneg (n:Int) hp;omega
  ·have e:p.tmod n=-((-p).tmod n):=by rw[Int.neg_tmod,Int.neg_neg]
   have:=Int.tmod_lt_of_pos (-p) (show(0:Int)<n by omega);omega
 exact⟨Int.tmod_nonneg _ (by omega),Int.tmod_lt_of_pos _ (by omega)⟩
noncomputable def IZ(t:Int)(k AB cA qg nH PA np cP:Nat)(p:Int)(Tj R WA w cW:Nat)(la:Int)(i:Nat)(i4:Int):cn:=gY [(5,i),(6,w),(7,k),(11,i4),(12,la),(25,cW),(33,cA),(61,np),(62,cP),(66,t),(67,p)] [(10,R),(14,Tj),(23,WA),(30,qg),(31,nH),(32,AB),(60,PA)] []
def j6(cp:List Nat):Int:=match cp.getLast? with
 |some k=>k
 |none=>-1
def eu(cp:List Nat)(j:Nat):Bool:=match cp.getLast? with
 |some k=>decide (k<j)
 |none=>true
theorem Qa(cp:List Nat)(j:Nat):eu cp j=decide ((j:Int)>j6 cp):=by
 unfold eu j6;cases cp.getLast? with
 |none=>simp;omega
 |some k=>simp
section
variable {E:Wd}{bJ:Nat->Option Tok.Seat}{h N:Nat}{Y:GS}{X:XS}{cs:List Frame}{fr f37:Frame}{m:Machine}{T:Trace}{cd:Int}{qg nH PA cP AB cA:Nat}{cK:List Int}{rl:List Nat}
theorem Lx{l:List Value}{r:cD}{y:Nat×fK}(df:E.x≠E.a)(hr:∃i i',r=(E.x,.app i i'))(h1:r≠(E.x,.app 1 0))(h:E.LB r=some y):(E.oe l AB cA).de Y X r=some y:=by rw[mI h1];obtain⟨i,i',rfl⟩:=hr;unfold Wd.de;rw[ct rfl,lC df];exact h
theorem Zz(df:E.x≠E.a){l:List Value}(o:On (E.oe l AB cA) bJ h N Y X (G fr (f37::cs)) m T)(hf:Gt l AB cA false Y.n Y.TA Y.cT Y.n fr)(Dr:WaF Y.R cd (Lw qg nH) f37)(hl:l≠[])(hm:(Y.cp.length:Int)≠cd):
  cm aa m T fun m' T'=>∃bT f37,On (E.oe l AB cA) bJ h N Y X (G bT (f37::cs)) m' T'∧afr Y.cp.length l AB cA qg nH bT∧ScF Y.R cd (Lw qg nH) l AB cA f37:=by
 obtain⟨w,A,H,hS⟩:=o;obtain⟨y,hy⟩:∃b,b=Y.cp.isEmpty:=⟨_,rfl⟩;have NH:y=true->Y.cp=[]:=fun e=>by rw[e]at hy;exact List.isEmpty_iff.1 hy.symm
 let ρ:cn:=NG Y.n Y.TA Y.cT Y.R AB cA l.length Y.WA Y.cW Y.cp.length cd qg nH (Lw qg nH);have Zx:=aG.2 hl;have kI:dj aa ρ (UL false false (bU fr)) fr:=hf.rel (.inl rfl) (aL false false (v 5)) (by rw[cy Zx];rfl) rfl;have iw:c8 aa ρ [afh (bU f37)] [f37]:=⟨Dr.rel (.inl rfl) [(0,bF 10),(1,i64 (v 80)),(3,Zq)] rfl rfl,trivial⟩;refine(cQ (cC:=[f37]) (cs:=cs) A H hS [] [] (aly y (bU fr) (bU f37)) rfl rfl (UQ _ _) (alx y false) (ρ:=ρ) kI iw (aci Zx (fun e=>by rw[NH e];rfl) (by simp[hm])) (UY (E':=E.oe l AB cA) hy) (nofun) ai ai rfl).mono fun m1 T1 hd=>?_;obtain⟨w1,bW,c9,d9,C⟩:=hd;obtain⟨g37,rfl,ZA⟩:=C.one;have z6:bW.i 6=Y.cp.length:=C.bE.ii 6;have z7:bW.i 7=l.length:=C.bE.ii 7;have z33:bW.i 33=cA:=C.bE.ii 33;have UX:bW.i 80=cd:=C.bE.ii 80;have mr:bW.b 10=Y.R:=C.bE.bb 10;have y30:bW.b 30=qg:=C.bE.bb 30;have y31:bW.b 31=nH:=C.bE.bb 31;have y32:bW.b 32=AB:=C.bE.bb 32;refine⟨c9,g37,On.of C.eG (cU C.heap) hS,?_,?_⟩
 ·have:=C.fr;rw[afr,cy Zx];have ew:(Gq y).ev bW=Y.cp.length:=by
   cases y with
   |true=>rw[NH rfl];rfl
   |false=>simp only[Gq,v,IE.ev,z6,ap]
  simp only[AV.cf,nq,i64,bF,AV.ev,ew,v,af,AA.ev,BR.ev,IE.ev,z7,z33,y30,y31,y32,ap]at this;exact this
 ·rw[ScF,cy Zx];simp only[AV.cf,AV.cf,nq,i64,bF,Zq,AV.ev,v,af,AA.ev,BR.ev,IE.ev,z7,z33,UX,mr,y30,y31,y32,ap]at ZA;exact ZA
theorem Gy{i j:Nat}(hi:rl[i]?=some j):(gU Y rl)[i]?=some (cb (Y.th j).T):=by unfold gU;rw[aZ,hi];rfl
theorem Qb(df:E.x≠E.a)(hrl:∀j∈rl,j<Y.n)(Dh:rl≠[])(dI:rl.length≤64):∀(suf cH:List Nat) {fr:Frame} {m:Machine} {T:Trace},rl=cH++suf->(∀j∈cH,eu Y.cp j=false)->On (E.oe (gU Y rl) AB cA) bJ h N Y X (G fr cs) m T->UZ (gU Y rl) AB cA (j6 Y.cp) cH.length fr->
  cm aa m T fun m' T'=>∃bT,On (E.oe (gU Y rl) AB cA) bJ h N Y X (G bT cs) m' T'∧U2 (Y.th (match rl.find? (eu Y.cp)with|some j=>j|none=>rl.getD 0 0)).T bT:=by
 intro suf;have hL:(gU Y rl).length=rl.length:=by simp[gU]
 have U3:0<(gU Y rl).length:=by rw[hL];exact aG.2 Dh
 have hLn:gU Y rl≠[]:=aG.1 U3;have rel:∀{cH:Nat} {fr:Frame} (Tj:Nat) (i4:Int),UZ (gU Y rl) AB cA (j6 Y.cp) cH fr->dj aa (IZ 0 rl.length AB cA 0 0 0 0 0 0 Tj 0 0 0 0 (j6 Y.cp) cH i4) (pHd (bU fr)) fr:=fun{cH fr} Tj i4 hf=>by refine hf.rel (.inl rfl) (pL (v 12) (v 5)) ?_ rfl;rw[cy U3,hL];rfl
 have di:(E.oe (gU Y rl) AB cA).de Y X (E.x,.app 1 0)=some (AB,.fF g9 cA (gU Y rl)):=Gs df hLn
 induction suf with
 |nil=>
  intro cH fr m T he hpre o hf;rw[aX]at he;obtain⟨w,A,H,hS⟩:=o;have jp:rl.find? (eu Y.cp)=none:=List.find?_eq_none.2 fun j hj=>by rw[he]at hj;rw[hpre j hj];simp
  rw[jp];have h0:rl[0]?=some (rl.getD 0 0):=by
   cases hc:rl with
   |nil=>exact absurd hc Dh
   |cons a t=>rfl
  have hp0:=Gy (Y:=Y) h0;refine(cQ (cC:=[]) (cs:=cs) A H hS [] [] (pFi (bU fr)) rfl rfl (Lu _) arv (rel (Y.th (rl.getD 0 0)).T 0 hf) trivial (fun p hp=>?_) (fun p hp=>?_) (nofun) ai ai rfl).mono fun m1 T1 hd=>?_
  ·simp only[afk,ac,ae,or_false]at hp;rcases hp with rfl|rfl
   ·show decide ((cH.length:Int)<(((rl.length:Nat):Int).toNat:Int))=false;rw[he];exact decide_eq_false (by omega)
   ·show decide ((0:Int)<(((rl.length:Nat):Int).toNat:Int))=true;exact decide_eq_true (by omega)
  ·obtain rfl:=ad.1 hp;exact .inl ⟨_,_,di,by simp,hp0⟩
  obtain⟨w1,bW,c9,d9,C⟩:=hd;obtain rfl:=C.none;have jY:bW.b 14=(Y.th (rl.getD 0 0)).T:=C.bE.bb 14;refine⟨c9,On.of C.eG (cU C.heap) hS,?_⟩;have:=C.fr;simp only[AV.cf,bF,AV.ev,af,AA.ev,BR.ev,IE.ev,jY]at this;exact⟨_,this⟩
 |cons j suf ih=>
  intro cH fr m T he hpre o hf;obtain⟨w,A,H,hS⟩:=o;have hj:rl[cH.length]?=some j:=by rw[he];simp
  have hjm:j∈rl:=by rw[he];simp
  have y0:=hrl j hjm;have hpj:=Gy (Y:=Y) hj;have iM:(E.oe (gU Y rl) AB cA).de Y X (E.x,.lW j)=some ((Y.th j).T,.obj mU (fA Y.R j (Y.th j) (Y.ts j))):=ku y0;have dU:cH.length<rl.length:=by rw[he];simp
  have hb:∀b,eu Y.cp j=b->∀p∈UR b,p.1.ev (IZ 0 rl.length AB cA 0 0 0 0 0 0 (Y.th j).T 0 0 0 0 (j6 Y.cp) cH.length j)=p.2:=fun b hb p hp=>by
   simp only[UR,ac,ae,or_false]at hp;rcases hp with rfl|rfl|rfl
   ·show decide ((cH.length:Int)<(((rl.length:Nat):Int).toNat:Int))=true;exact decide_eq_true (by omega)
   ·show decide ((0:Int)≤(cH.length:Int))=true;exact decide_eq_true (by omega)
   ·show decide ((j:Int)>j6 Y.cp)=b;rw[<-Qa];exact hb
  have hm:∀p∈US,lq ((E.oe (gU Y rl) AB cA).de Y X) [] w E.base (IZ 0 rl.length AB cA 0 0 0 0 0 0 (Y.th j).T 0 0 0 0 (j6 Y.cp) cH.length j) p:=fun p hp=>by
   simp only[US,ac,ae,or_false]at hp;rcases hp with rfl|rfl
   ·refine .inl ⟨_,_,di,by simp,?_⟩;show(gU Y rl)[(((cH.length:Nat):Int).toNat:Int).toNat]?=some (cb (Y.th j).T);rw[ap,ap];exact hpj
   ·exact .inl ⟨_,_,iM,by simp,rfl⟩
  cases hbj:eu Y.cp j with
  |true=>
   have jp:rl.find? (eu Y.cp)=some j:=by rw[he,List.find?_append,List.find?_eq_none.2 fun k hk=>by rw[hpre k hk];simp];simp[aw,hbj]
   rw[jp];refine(cQ (cC:=[]) (cs:=cs) A H hS [] [] (pFo (bU fr)) rfl rfl (Lu _) (alB true) (rel (Y.th j).T j hf) trivial (hb true hbj) hm (nofun) ai ai rfl).mono fun m1 T1 hd=>?_;obtain⟨w1,bW,c9,d9,C⟩:=hd;obtain rfl:=C.none;have jY:bW.b 14=(Y.th j).T:=C.bE.bb 14;refine⟨c9,On.of C.eG (cU C.heap) hS,?_⟩;have:=C.fr;simp only[AV.cf,bF,AV.ev,af,AA.ev,BR.ev,IE.ev,jY]at this;exact⟨_,this⟩
  |false=>
   refine(cQ (cC:=[]) (cs:=cs) A H hS [] [] (pIt (bU fr)) rfl rfl (Lu _) (alB false) (rel (Y.th j).T j hf) trivial (hb false hbj) hm (nofun) ai ai rfl).trans fun m1 T1 hd=>?_;obtain⟨w1,bW,c9,d9,C⟩:=hd;obtain rfl:=C.none;have z5:bW.i 5=cH.length:=C.bE.ii 5;have z7:bW.i 7=rl.length:=C.bE.ii 7;have z12:bW.i 12=j6 Y.cp:=C.bE.ii 12;have z33:bW.i 33=cA:=C.bE.ii 33;have y32:bW.b 32=AB:=C.bE.bb 32;have ei:o0 .add .i64 (cH.length:Int) 1=((cH.length+1:Nat):Int):=add_one (by omega);refine ih (cH++[j]) (by rw[he];simp) (fun k hk=>?_) (On.of C.eG (cU C.heap) hS) ?_
   ·rcases ay.1 hk with hk|hk
    ·exact hpre k hk
    ·obtain rfl:=ad.1 hk;exact hbj
   ·have:=C.fr;rw[UZ,cy U3,hL,aD];simp only[pL,ah,ak,AV.cf,nq,i64,v,AV.ev,af,AA.ev,BR.ev,IE.ev,z5,z7,z12,z33,y32,ei,ap]at this;exact this
theorem ZB(df:E.x≠E.a)(P:Zy E Y.R qg nH PA cP cK)(o:On (E.oe (gU Y rl) AB cA) bJ h N Y X (G fr cs) m T)(hf:afr Y.cp.length (gU Y rl) AB cA qg nH fr)(hrl:∀j∈rl,j<Y.n)(Dh:rl≠[])(dI:rl.length≤64)(hw:Y.cp.length≤1000000):
  cm aa m T fun m' T'=>∃bT,On (E.oe (gU Y rl) AB cA) bJ h N Y X (G bT cs) m' T'∧U2 (Y.th (Cn cK Y.cp rl)).T bT:=by
 obtain⟨w,A,H,hS⟩:=o;have hL:(gU Y rl).length=rl.length:=by simp[gU]
 have U3:0<(gU Y rl).length:=by rw[hL];exact aG.2 Dh
 have hLn:gU Y rl≠[]:=aG.1 U3;have hrp:0<rl.length:=by omega
 have di:(E.oe (gU Y rl) AB cA).de Y X (E.x,.app 1 0)=some (AB,.fF g9 cA (gU Y rl)):=Gs df hLn;obtain⟨k30,e30,g30⟩:=P.b30;obtain⟨k31,e31,g31⟩:=P.b31;have alL:(E.oe (gU Y rl) AB cA).de Y X (E.x,.app 2 1)=some (qg,k30):=Lx df ⟨_,_,rfl⟩ (by simp) e30;have arI:(E.oe (gU Y rl) AB cA).de Y X (E.x,.app 2 2)=some (nH,k31):=Lx df ⟨_,_,rfl⟩ (by simp) e31;unfold Cn;cases hp:cK[Y.cp.length]? with
 |some p=>
  obtain⟨h1,h2⟩:=Co p hrp;have hpl:Y.cp.length<cK.length:=(aH.1 hp).1;have Q5:cK≠[]:=fun e=>by rw[e]at hpl;cases hpl
  obtain⟨kp,ep,gp⟩:=P.arr Q5;have ep':(E.oe (gU Y rl) AB cA).de Y X (E.x,.app 2 0)=some (PA,kp):=Lx df ⟨_,_,rfl⟩ (by simp) ep;let I:Nat:=(((p.tmod rl.length+rl.length).tmod rl.length)).toNat;have hI:((I:Nat):Int)=(p.tmod rl.length+rl.length).tmod rl.length:=Int.toNat_of_nonneg h1;have hIl:I<rl.length:=by omega
  have hIj:rl[I]?=some (rl.getD I 0):=by rw[bA,aF hIl];rfl
  let j:=rl.getD I 0;let ρ:=IZ Y.cp.length rl.length AB cA qg nH PA cK.length cP p (Y.th j).T 0 0 0 0 0 0 0;have JA:pkI.ev ρ=(I:Int):=by
   rw[hI];show o0 .rem .i64 (o0 .add .i64 (o0 .rem .i64 p (((rl.length:Nat):Int).toNat:Int)) (((rl.length:Nat):Int).toNat:Int)) (((rl.length:Nat):Int).toNat:Int)=_;rw[ap];show(IntKind.i64.wrap (p.tmod rl.length+rl.length)).tmod rl.length=_;have J9:=Int.tmod_lt_of_pos p (show(0:Int)<rl.length by omega);have Fj:-(rl.length:Int)<p.tmod rl.length:=by
    rcases Int.le_total 0 p with hp|hp
    ·have:=Int.tmod_nonneg (rl.length:Int) hp;omega
    ·have e:p.tmod rl.length=-((-p).tmod rl.length):=by rw[Int.neg_tmod,Int.neg_neg]
     have:=Int.tmod_lt_of_pos (-p) (show(0:Int)<rl.length by omega);omega
   rw[IntWalk.i64_in _ (by omega)]
  have kI:dj aa ρ (pkE (bU fr)) fr:=by refine hf.rel (.inl rfl) [(0,i64 (v 66)),(1,nq 32 7 33),(2,bF 30),(3,bF 31)] ?_ rfl;rw[cy U3,hL];rfl
  refine(cQ (cC:=[]) (cs:=cs) A H hS [] [] (pk (bU fr)) rfl rfl (ace _) pkO (ρ:=ρ) kI trivial (fun q hq=>?_) (fun q hq=>?_) (nofun) ai ai rfl).mono fun m1 T1 hd=>?_
  ·simp only[pkB,ac,ae,or_false]at hq;rcases hq with rfl|rfl|rfl|rfl|rfl
   ·show decide ((Y.cp.length:Int)<(((cK.length:Nat):Int).toNat:Int))=true;exact decide_eq_true (by omega)
   ·show decide ((0:Int)≤(Y.cp.length:Int))=true;exact decide_eq_true (by omega)
   ·show decide ((((rl.length:Nat):Int).toNat:Int)=0)=false;exact decide_eq_false (by omega)
   ·show decide (pkI.ev ρ<(((rl.length:Nat):Int).toNat:Int))=true;rw[JA];exact decide_eq_true (by omega)
   ·show decide ((0:Int)≤pkI.ev ρ)=true;rw[JA];exact decide_eq_true (by omega)
  ·simp only[pkM,ac,ae,or_false]at hq;rcases hq with rfl|rfl|rfl
   ·refine .inl ⟨_,_,alL,by simp,?_⟩;show k30.cell 0=_;rw[g30,cy (by omega)];rfl
   ·refine .inl ⟨_,_,ep',by simp,?_⟩;show kp.cell (((Y.cp.length:Int).toNat:Int).toNat)=some (iV p);rw[ap,ap];exact gp _ _ hp
   ·refine .inl ⟨_,_,di,by simp,?_⟩;show(gU Y rl)[((pkI.ev ρ).toNat:Int).toNat]?=some (cb (Y.th j).T);rw[JA,ap,ap];exact Gy hIj
  obtain⟨w1,bW,c9,d9,C⟩:=hd;obtain rfl:=C.none;have jY:bW.b 14=(Y.th j).T:=C.bE.bb 14;refine⟨c9,On.of C.eG (cU C.heap) hS,?_⟩;have:=C.fr;simp only[AV.cf,bF,AV.ev,af,AA.ev,BR.ev,IE.ev,jY]at this;exact⟨_,this⟩
 |none=>
  have hpl:cK.length≤Y.cp.length:=List.getElem?_eq_none_iff.1 hp;obtain⟨z,hz⟩:∃b,b=cK.isEmpty:=⟨_,rfl⟩;obtain⟨y,hy⟩:∃b,b=Y.cp.isEmpty:=⟨_,rfl⟩;have yf:z=true->cK=[]:=fun e=>by rw[e]at hz;exact List.isEmpty_iff.1 hz.symm
  have zI:z=false->0<cK.length:=fun e=>aG.2 fun e2=>by rw[e,e2]at hz;cases hz
  have NH:y=true->Y.cp=[]:=fun e=>by rw[e]at hy;exact List.isEmpty_iff.1 hy.symm
  have U4:y=false->Y.cp≠[]:=fun e e2=>by rw[e,e2]at hy;cases hy
  let ρ:=IZ Y.cp.length rl.length AB cA qg nH PA cK.length cP 0 0 Y.R Y.WA Y.cp.length Y.cW (j6 Y.cp) 0 0;have kI:dj aa ρ (pkE (bU fr)) fr:=by refine hf.rel (.inl rfl) [(0,i64 (v 66)),(1,nq 32 7 33),(2,bF 30),(3,bF 31)] ?_ rfl;rw[cy U3,hL];rfl
  have hls:y=false->lsI.ev ρ=((Y.cp.length-1:Nat):Int):=fun e=>by have:=aG.2 (U4 e);show IntKind.wrap .i64 ((Y.cp.length:Int)-1)=_;rw[IntWalk.i64_in _ (by omega)];omega
  refine(cQ (cC:=[]) (cs:=cs) A H hS [] [] (np z y (bU fr)) rfl rfl (ace _) (npO z y) (ρ:=ρ) kI trivial (fun q hq=>?_) (fun q hq=>?_) (nofun) ai ai rfl).trans fun m1 T1 hd=>?_
  ·unfold npB at hq;rcases ay.1 hq with hq|hq
   ·simp only[ac,ae,or_false]at hq;rcases hq with rfl|rfl
    ·cases z with
     |true=>show decide ((Y.cp.length:Int)<0)=false;exact decide_eq_false (by omega)
     |false=>show decide ((Y.cp.length:Int)<(((cK.length:Nat):Int).toNat:Int))=false;exact decide_eq_false (by omega)
    ·show decide ((Y.cp.length:Int)>0)=!y;cases y with
     |true=>rw[NH rfl];rfl
     |false=>have:=aG.2 (U4 rfl);exact decide_eq_true (by omega)
   ·cases y with
    |true=>cases hq
    |false=>
     have hp0:=aG.2 (U4 rfl);simp only[ac,ae,or_false]at hq;rcases hq with rfl|rfl
     ·show decide (lsI.ev ρ<(((Y.cp.length:Nat):Int).toNat:Int))=true;rw[hls rfl];exact decide_eq_true (by omega)
     ·show decide ((0:Int)≤lsI.ev ρ)=true;rw[hls rfl];exact decide_eq_true (by omega)
  ·unfold npM at hq;rcases ay.1 hq with hq|hq
   ·obtain rfl:=ad.1 hq;refine .inl ⟨_,_,alL,by simp,?_⟩;show k30.cell 0=_;rw[g30];cases z with
    |true=>rw[yf rfl];rfl
    |false=>rw[cy (zI rfl)];rfl
   ·cases y with
    |true=>cases hq
    |false=>
     have hwn:=U4 rfl;have hp0:=aG.2 hwn;simp only[ac,ae,or_false]at hq;rcases hq with rfl|rfl|rfl
     ·refine .inl ⟨_,_,arI,by simp,?_⟩;show k31.cell 0=_;rw[g31];rfl
     ·refine .inl ⟨_,_,lD (E:=E.oe (gU Y rl) AB cA),by simp,?_⟩;show some (c_ Y.cp.length Y.WA Y.cW)=_;rw[cy hp0];rfl
     ·have ew:(E.oe (gU Y rl) AB cA).de Y X (E.x,.cp)=some (Y.WA,.fF ke Y.cW (fH Y.cp)):=Cm (E:=E.oe (gU Y rl) AB cA) hwn;refine .inl ⟨_,_,ew,by simp,?_⟩;show(fH Y.cp)[((lsI.ev ρ).toNat:Int).toNat]?=some (iV (j6 Y.cp));rw[hls rfl,ap,ap];unfold fH j6;rw[aZ,<-List.getLast?_eq_getElem?];cases e:Y.cp.getLast? with
      |none=>exact absurd (List.getLast?_eq_none_iff.1 e) hwn
      |some k=>rfl
  obtain⟨w1,bW,c9,d9,C⟩:=hd;obtain rfl:=C.none;have z7:bW.i 7=rl.length:=C.bE.ii 7;have z12:bW.i 12=j6 Y.cp:=C.bE.ii 12;have z33:bW.i 33=cA:=C.bE.ii 33;have y32:bW.b 32=AB:=C.bE.bb 32;have WZ:UZ (gU Y rl) AB cA (j6 Y.cp) ([]:List Nat).length c9:=by
   have:=C.fr;have el:(pLa y).ev bW=j6 Y.cp:=by
    cases y with
    |true=>unfold j6;rw[NH rfl];rfl
    |false=>exact z12
   rw[UZ,cy U3,hL];simp only[pL,ah,ak,AV.cf,nq,i64,AV.ev,el,v,af,AA.ev,BR.ev,IE.ev,z7,z33,y32,ap]at this;exact this
  exact Qb df hrl Dh dI rl [] rfl (fun j hj=>by cases hj) (On.of C.eG (cU C.heap) hS) WZ
end
def GS.lZ(Y:GS)(j r WA cW RA cR:Nat):GS:={Y with cp:=Y.cp++[j],WA:=WA,cW:=cW,ready:=Y.ready++[r],RA:=RA,cR:=cR}
abbrev RdW(R:Nat)(cd:Int)(jL:Value)(fr:Frame):Prop:=FA kc 80 afn [] .normal [(0,cb R),(1,iV cd),(3,jL)] fr
theorem Cp(no:TypeInfo)(hi:Try.prog.info? ke=some no):no.size=1:=by
 have e:(Try.prog.info? ke).map (fun i=>i.size)=some 1:=by kernel_rfl
 rw[hi]at e;exact au e
noncomputable def y5(x:Nat)(y:Bool):List (cD×Nat×bM):=(match y with
 |true=>[]
 |false=>[((x,.ready),24,.cH false 41 (v 6) [] [] [] ke (v 26)),((x,.cp),23,.cH false 40 (v 6) [] [] [] ke (v 25))])++[((x,.run),10,.cells (acf y) gK)]
noncomputable def vM(x:Nat)(y:Bool):List (cD×Nat×bM):=[((x,.ready),103,y4 y 41 (i64 (.tn (v 7))) 103),((x,.dN),102,.cells [i64 (.tn (v 7))] ke),((x,.cp),101,y4 y 40 (i64 (v 11)) 101),((x,.dN),100,.cells [i64 (v 11)] ke),((x,.run),10,.cells (Gr y) gK)]
theorem EJ(x:Nat)(y:Bool):(y5 x y).map (·.2)=afl y:=by cases y<;>rfl
theorem Ly(x:Nat)(y:Bool):(vM x y).map (·.2)=UT y:=by cases y<;>rfl
section
variable {E:Wd}{bJ:Nat->Option Tok.Seat}{h N:Nat}{Y:GS}{X:XS}{cs:List Frame}{fr f37:Frame}{m:Machine}{T:Trace}{cd:Int}{jL:Value}{l:List Value}{AB cA j:Nat}
theorem ZC(o:On E bJ h N Y X (G fr (f37::cs)) m T)(hf:U2 (Y.th j).T fr)(Dr:ScF Y.R cd jL l AB cA f37)(hl:l≠[])(hj:j<Y.n)(hw:Y.ready.length=Y.cp.length)(jC:Y.cp.length+1≤1048576):
  cm aa m T fun m' T'=>∃bT f37 WA cW RA cR,On E bJ h N (Y.lZ j l.length WA cW RA cR) X (G bT (f37::cs)) m' T'∧GsS (Y.th j).T (Y.th j).wk bT∧RdW Y.R cd jL f37:=by
 obtain⟨w,A,H,hS⟩:=o;obtain⟨k,hf⟩:=hf;obtain⟨y,hy⟩:∃b,b=Y.cp.isEmpty:=⟨_,rfl⟩;have NH:y=true->Y.cp=[]∧Y.ready=[]:=fun e=>by rw[e]at hy;have h1:=List.isEmpty_iff.1 hy.symm;exact⟨h1,List.length_eq_zero_iff.1 (by rw[hw,h1];rfl)⟩
 have U4:y=false->Y.cp≠[]∧Y.ready≠[]:=fun e=>by
  have h1:Y.cp≠[]:=fun e2=>by rw[e,e2]at hy;cases hy
  exact⟨h1,aG.1 (by rw[hw];exact aG.2 h1)⟩
 have Zx:=aG.2 hl;let ρ:cn:=gY [(6,Y.cp.length),(7,l.length),(11,j),(25,Y.cW),(26,Y.cR),(33,cA),(80,cd)] [(10,Y.R),(14,(Y.th j).T),(23,Y.WA),(24,Y.RA),(26,(Y.th j).wk),(32,AB)] [(40,.agg (fH Y.cp).toArray),(41,.agg (fH Y.ready).toArray),(60,c_ Y.n Y.TA Y.cT),(61,.map (some Y.MB)),(62,c_ (Y.db.length / 8) Y.LA Y.cL),(63,c_ Y.n Y.FA Y.cF),(64,.bool Y.dJ),(65,jL)];have iw:c8 aa ρ [scF (bU f37)] [f37]:=⟨Dr.rel (.inl rfl) [(0,bF 10),(1,i64 (v 80)),(3,.ez 65),(12,nq 32 7 33)] (by rw[cy Zx];rfl) rfl,trivial⟩;have hpre:mo (E.de Y X) ρ (y5 E.x y):=fun p hp=>by
  unfold y5 at hp;rcases ay.1 hp with hp|hp
  ·cases y with
   |true=>cases hp
   |false=>
    simp only[ac,ae,or_false]at hp;rcases hp with rfl|rfl
    ·refine⟨.fF ke Y.cR (fH Y.ready),EI (U4 rfl).2,rfl,rfl,fun i hi=>?_,(nofun),rfl⟩;rw[Cp i hi];show(fH Y.ready).length=(((Y.cp.length:Nat):Int)).toNat*1;unfold fH;rw[bj,hw];omega
    ·refine⟨.fF ke Y.cW (fH Y.cp),Cm (U4 rfl).1,rfl,rfl,fun i hi=>?_,(nofun),rfl⟩;rw[Cp i hi];show(fH Y.cp).length=(((Y.cp.length:Nat):Int)).toNat*1;unfold fH;rw[bj];omega
  ·obtain rfl:=ad.1 hp;refine⟨.obj gK Y.runV,lD,rfl,?_⟩;cases y with
   |true=>show _=[c_ Y.n Y.TA Y.cT,.map (some Y.MB),c_ (Y.db.length / 8) Y.LA Y.cL,c_ Y.cp.length Y.WA Y.cW,c_ Y.ready.length Y.RA Y.cR,c_ Y.n Y.FA Y.cF,.bool Y.dJ];rw[(NH rfl).1,(NH rfl).2];rfl
   |false=>show _=[c_ Y.n Y.TA Y.cT,.map (some Y.MB),c_ (Y.db.length / 8) Y.LA Y.cL,c_ Y.cp.length Y.WA Y.cW,c_ Y.ready.length Y.RA Y.cR,c_ Y.n Y.FA Y.cF,.bool Y.dJ];rw[hw,cy (aG.2 (U4 rfl).1),cy (aG.2 (U4 rfl).1)];rfl
 have nk:∀r:cD,r=(E.x,.lW j)->r∉(y5 E.x y).map (·.1):=fun r hr=>by subst hr;cases y<;>simp[y5]
 have hv:=arx y (bU fr) (bU f37) k;rw[<-EJ E.x]at hv;have od:=Zr y (bU fr) (bU f37) k;rw[<-EJ E.x]at od;refine(cQ (cC:=[f37]) (cs:=cs) A H hS (y5 E.x y) (vM E.x y) hv (Ly _ _).symm rfl od (alE y) (ρ:=ρ) (hf.rel (.inl rfl) [(6,bF 14)] rfl rfl) iw (fun p hp=>?_) (fun p hp=>?_) hpre (by cases y<;>simp[y5]) (by simp[vM]) (by cases y<;>rfl)).mono fun m1 T1 hd=>?_
 ·cases y with
  |true=>cases hp
  |false=>obtain rfl:=ad.1 hp;show decide ((((Y.cp.length:Nat):Int).toNat:Int)+1≤1048576)=true;exact decide_eq_true (by omega)
 ·simp only[afm,ac,ae,or_false]at hp;rcases hp with rfl|rfl
  ·exact .inl ⟨_,_,ku hj,nk _ rfl,rfl⟩
  ·exact .inl ⟨_,_,ku hj,nk _ rfl,rfl⟩
 obtain⟨w1,bW,c9,d9,C⟩:=hd;obtain⟨g37,rfl,ZA⟩:=C.one;have z6:bW.i 6=Y.cp.length:=C.bE.ii 6;have z7:bW.i 7=l.length:=C.bE.ii 7;have z11:bW.i 11=j:=C.bE.ii 11;have UX:bW.i 80=cd:=C.bE.ii 80;have mr:bW.b 10=Y.R:=C.bE.bb 10;have jY:bW.b 14=(Y.th j).T:=C.bE.bb 14;have Pn:bW.b 26=(Y.th j).wk:=C.bE.bb 26;have hv1:bW.v=ρ.v:=C.bE.v;have Q6:bW.v 65=jL:=congrFun hv1 65;have Yg:bW.v 40=.agg (fH Y.cp).toArray:=congrFun hv1 40;have zU:bW.v 41=.agg (fH Y.ready).toArray:=congrFun hv1 41;let Y1:GS:=Y.lZ j l.length (bW.b 101) (bW.i 101).toNat (bW.b 103) (bW.i 103).toNat;have ck:gD (E.de Y X) (E.de Y1 X):=d4 (aq _) fun _ _=>rfl;have H1:bK aa E.base w1 (E.de Y1 X):=by
  refine C.heap.sub (cX [(E.x,.cp),(E.x,.ready),(E.x,.run),(E.x,.dN)] (fz (fun k hk hr=>?_) fun r hr _=>rfl) (fun r hr=>?_) (fun p hp=>?_) fun r hr q hq=>?_)
  ·cases k with
   |cp=>exact absurd (by simp) hr
   |ready=>exact absurd (by simp) hr
   |run=>exact absurd (by simp) hr
   |_=>rfl
  ·cases y<;>simp only[y5,aA,az,ah,ak,ac,ae,or_false]at hr
   ·rcases hr with rfl|rfl|rfl<;>simp
   ·subst hr;simp
  ·simp only[vM,cr,ah,ak,ac,ae,or_false]at hp;rcases hp with rfl|rfl|rfl|rfl|rfl<;>simp
  ·simp only[ac,ae,or_false]at hr;rcases hr with rfl|rfl|rfl|rfl
   ·cases(Cm (E:=E) (X:=X) (Y:=Y1) (by simp[Y1,GS.lZ])).symm.trans hq;refine bX ?_;simp only[vM,cr,ah,ak,aw,Prod.mk.injEq,reduceCtorEq,and_false,decide_false,decide_true,true_and];have e1:fH Y1.cp=fH Y.cp++[iV j]:=by
     show fH (Y.cp++[j])=_;simp[fH]
    rw[e1];cases y with
    |true=>simp only[y4,cY,v,IE.ev,AV.cf,i64,AV.ev,z11,(NH rfl).1];rfl
    |false=>simp only[y4,cY,v,IE.ev,AV.cf,i64,AV.ev,z11,Yg,gy];rfl
   ·cases(EI (E:=E) (X:=X) (Y:=Y1) (by simp[Y1,GS.lZ])).symm.trans hq;refine bX ?_;simp only[vM,cr,ah,ak,aw,Prod.mk.injEq,reduceCtorEq,and_false,decide_false,decide_true,true_and];have e1:fH Y1.ready=fH Y.ready++[iV l.length]:=by
     show fH (Y.ready++[l.length])=_;simp[fH]
    rw[e1];cases y with
    |true=>simp only[y4,cY,v,IE.ev,AV.cf,i64,AV.ev,z7,(NH rfl).2,ap];rfl
    |false=>simp only[y4,cY,v,IE.ev,AV.cf,i64,AV.ev,z7,zU,gy,ap];rfl
   ·cases(lD (E:=E) (X:=X) (Y:=Y1)).symm.trans hq;refine bX ?_;simp only[vM,cr,ah,ak,aw,Prod.mk.injEq,reduceCtorEq,and_false,decide_false,decide_true,true_and];have e1:AV.cf bW (Gr y)=Y1.runV:=by
     show _=[c_ Y.n Y.TA Y.cT,.map (some Y.MB),c_ (Y.db.length / 8) Y.LA Y.cL,c_ (Y.cp++[j]).length (bW.b 101) (bW.i 101).toNat,c_ (Y.ready++[l.length]).length (bW.b 103) (bW.i 103).toNat,c_ Y.n Y.FA Y.cF,.bool Y.dJ];rw[aD,aD,hw,show[j].length=1 from rfl,show[l.length].length=1 from rfl,cy (Nat.succ_pos _),cy (Nat.succ_pos _)];have el:(NE y).ev bW=((Y.cp.length+1:Nat):Int):=by
      cases y with
      |true=>rw[(NH rfl).1];rfl
      |false=>simp only[NE,v,IE.ev,z6];omega
     simp only[Gr,v,AV.cf,AV.ev,af,AA.ev,BR.ev,IE.ev,el,hv1,ap];rfl
    simp only[cY,e1,mr];rfl
   ·cases tM.symm.trans hq
 refine⟨c9,g37,_,_,_,_,On.of C.eG H1 (ck.still hS),?_,?_⟩
 ·have:=C.fr;simp only[AV.cf,bF,uS,UN,AV.ev,af,AA.ev,BR.ev,IE.ev,jY,Pn]at this;exact this
 ·simp only[G0,ah,ak,AV.cf,bF,i64,v,AV.ev,af,AA.ev,BR.ev,IE.ev,mr,UX,Q6]at ZA;exact ZA
theorem I5{s:Tok.Seat}{z zC:Nat}{BJ:Frame->Prop}{tC:List Frame}{p:Nat}(o:On E bJ h N Y X (G fr cs) m T)(hf:GsS (Y.th j).T (Y.th j).wk fr)(hj:j<Y.n)(hp:bJ p=some s)(W:j4 s (Y.th j).wk z zC BJ tC)(uq:∀i t',bJ i=some t'->t'.c≠(Y.th j).sd):
  cm aa m T fun m' T'=>∃s' iJ,On E (Tok.e_ bJ h p (some s')) p N Y X (G iJ tC) m' T'∧BJ iJ∧j4 s' (Y.th j).sd (Y.th j).T (Y.th j).c5 GsB cs:=by
 obtain⟨w,A,H,hS⟩:=o;refine(Es (C:=(Y.th j).c5) A H hf hp W (H.cell (ku hj) rfl) (H.chan (tK hj)) uq (H.ge _ _ _ (tK hj))).mono fun m1 T1 hd=>?_;obtain⟨w1,s',iJ,A1,H1,hB,hW⟩:=hd;refine⟨s',iJ,.of A1 H1 (kK hS fun s'' e b n di=>?_),hB,hW⟩;cases e;rcases hW.still b n di with⟨rfl,hn⟩|⟨rfl,hn⟩
 ·exact⟨_,_,ku hj,.inl ⟨rfl,hn⟩⟩
 ·exact⟨_,_,Gj hj,.inr rfl⟩
theorem Qc{R:Nat}(o:On E bJ h N Y X (G fr (f37::cs)) m T)(hf:GsB fr)(Dr:RdW R cd jL f37):
  cm aa m T fun m' T'=>∃bT,On E bJ h N Y X (G bT cs) m' T'∧Gu R cd jL bT:=by
 obtain⟨w,A,H,hS⟩:=o;let ρ:cn:=gY [(80,cd)] [(10,R)] [(65,jL)];have iw:c8 aa ρ [gwF (bU f37)] [f37]:=⟨Dr.rel (.inl rfl) G0 rfl rfl,trivial⟩;refine(cQ (cC:=[f37]) (cs:=cs) A H hS [] [] (arz (bU fr) (bU f37)) rfl rfl (Zs _ _) nU (ρ:=ρ) (hf.rel (.inl rfl) [] rfl rfl) iw (nofun) (nofun) (nofun) ai ai rfl).mono fun m1 T1 hd=>?_;obtain⟨w1,bW,c9,d9,C⟩:=hd;obtain rfl:=C.none;have UX:bW.i 80=cd:=C.bE.ii 80;have mr:bW.b 10=R:=C.bE.bb 10;have Q6:bW.v 65=jL:=congrFun C.bE.v 65;refine⟨c9,On.of C.eG (cU C.heap) hS,?_⟩;have:=C.fr;simp only[G0,ah,ak,AV.cf,bF,i64,v,AV.ev,af,AA.ev,BR.ev,IE.ev,mr,UX,Q6]at this;exact this
end
def l0:(Sp×Ct)⊕Bool->Option (Sp×Ct)
 |.inl y=>some y
 |.inr _=>none
abbrev dX:Type:=Nat->Option (Sp×Ct)
def At(E:Wd)(nb:Nat)(Y:GS)(X:XS)(bJ:Nat->Option Tok.Seat)(j:Nat):Option (Sp×Ct)->Prop
 |none=>(Y.ts j).e=true∧(Y.ts j).a.length=8
 |some (x,c)=>∃s cs b,bJ (Y.th j).gn=some s∧j4 s (Y.th j).wk (Y.th j).T (Y.th j).c5 (ye (Y.th j).T) cs∧X.b5 j=some b∧mZ E nb Y X j b x c cs∧c.ok∧Y.dz j=false
structure Crew(E:Wd)(nb N:Nat)(Y:GS)(X:XS)(bJ:Nat->Option Tok.Seat)(st:dX):Prop where
 on:∀j,j<Y.n->At E nb Y X bJ j (st j)
 gn:∀j,j<Y.n->0<(Y.th j).gn∧(Y.th j).gn<N
 inj:∀i j,i<Y.n->j<Y.n->(Y.th i).gn=(Y.th j).gn->i=j
 only:∀i s,bJ i=some s->(∃j,j<Y.n∧i=(Y.th j).gn∧st j≠none∧s.c=(Y.th j).wk)∨∃z k,z≠E.x∧fm k=false∧E.LB (z,k)=some (s.c,.chan)
section
variable {E:Wd}{nb N:Nat}{bI:List (List Sp)}{Y Y':GS}{X X':XS}{bJ c6:Nat->Option Tok.Seat}{st:dX}{j:Nat}
theorem At.eL{o:Option (Sp×Ct)}(a:At E nb Y X bJ j o)(s:jK j Y X Y' X')(hi:c6 (Y.th j).gn=bJ (Y.th j).gn):At E nb Y' X' c6 j o:=by
 cases o with
 |none=>unfold At;rw[s.ts];exact a
 |some y=>
  obtain⟨x,c⟩:=y;obtain⟨sl,cs,b,h1,h2,h3,h4,h5,h6⟩:=a;refine⟨sl,cs,b,?_,?_,?_,h4.eL s,h5,?_⟩
  ·rw[s.th,hi];exact h1
  ·rw[s.th];exact h2
  ·rw[s.b5];exact h3
  ·rw[s.dz];exact h6
theorem dV.at{h p b:Nat}{l:List (Int×Int)}{r:(Sp×Ct)⊕Bool}(k:dV E nb bJ h p Y X j b l r c6 Y' X')(df:h≠p)(hg:(Y.th j).gn=h)(h5:X.b5 j=some b)(hf:Y.dz j=false)(hl:(Y.ts j).a.length=8):At E nb Y' X' c6 j (l0 r):=by
 cases k with
 |@Lo x c s cs LA cL B9 B8 yZ tI v av AB h1 h2 h3=>refine⟨s,cs,b,?_,h1,h5,h2,h3,hf⟩;show Tok.e_ bJ h p (some s) (Y.th j).gn=some s;rw[hg];exact Tok.pZ bJ (Ne.symm df) _
 |off=>
  refine⟨?_,?_⟩
  ·show(upd Y.ts j {Y.ts j with e:=true} j).e=true;rw[upd_same]
  ·show(upd Y.ts j {Y.ts j with e:=true} j).a.length=8;rw[upd_same];exact hl
theorem dV.afs{h p b:Nat}{l:List (Int×Int)}{r:(Sp×Ct)⊕Bool}(k:dV E nb bJ h p Y X j b l r c6 Y' X')(df:h≠p){s:Tok.Seat}(e:c6 h=some s):l0 r≠none∧s.c=(Y.th j).wk:=by
 cases k with
 |Lo h1 h2 h3=>rw[Tok.pZ bJ (Ne.symm df)]at e;cases e;exact⟨by simp[l0],h1.c⟩
 |off=>rw[Tok.pZ bJ (Ne.symm df)]at e;cases e
def gV(E:Wd)(nb:Nat)(bI:List (List Sp))(bJ:Nat->Option Tok.Seat)(h N:Nat)(Y:GS)(X:XS)(k:Option Nat)(c6:Nat->Option Tok.Seat)(Y':GS)(X':XS)(nw:Option (Sp×Ct)):Prop:=∃t fv TA cT FA cF p,t.gn=N∧match k with
 |none=>fv=.nilFunc∧c6=Tok.e_ (upd bJ h (some p)) N h none∧Y'=(Y.begun t fv TA cT FA cF).gone Y.n false∧X'=X∧nw=none
 |some i=>∃body B5 TH kt l r,bI[i]?=some body∧X.b5 Y.n=some B5∧JF (.run body false [] none) l r∧dV E nb (upd bJ h (some p)) N h (Y.begun t fv TA cT FA cF) {X with s:=X.s.yj t.T TH kt} Y.n B5 l r c6 Y' X'∧nw=l0 r
theorem gQ.Qd{h:Nat}{k:Option Nat}(g:gQ E nb bI bJ h N Y X k c6 Y' X'):∃nw,gV E nb bI bJ h N Y X k c6 Y' X' nw:=by
 obtain⟨t,fv,TA,cT,FA,cF,p,hg,g⟩:=g;cases k with
 |none=>obtain⟨h1,h2,h3,h4⟩:=g;exact⟨none,t,fv,TA,cT,FA,cF,p,hg,h1,h2,h3,h4,rfl⟩
 |some i=>obtain⟨body,B5,TH,kt,l,r,h1,h2,h3,h4⟩:=g;exact⟨_,t,fv,TA,cT,FA,cF,p,hg,body,B5,TH,kt,l,r,h1,h2,h3,h4,rfl⟩
theorem gV.to{h:Nat}{k:Option Nat}{nw:Option (Sp×Ct)}(g:gV E nb bI bJ h N Y X k c6 Y' X' nw):gQ E nb bI bJ h N Y X k c6 Y' X':=by
 obtain⟨t,fv,TA,cT,FA,cF,p,hg,g⟩:=g;cases k with
 |none=>obtain⟨h1,h2,h3,h4,_⟩:=g;exact⟨t,fv,TA,cT,FA,cF,p,hg,h1,h2,h3,h4⟩
 |some i=>obtain⟨body,B5,TH,kt,l,r,h1,h2,h3,h4,_⟩:=g;exact⟨t,fv,TA,cT,FA,cF,p,hg,body,B5,TH,kt,l,r,h1,h2,h3,h4⟩
theorem gV.new{h:Nat}{k:Option Nat}{nw:Option (Sp×Ct)}(g:gV E nb bI bJ h N Y X k c6 Y' X' nw)(hh:h≠N):(Y'.th Y.n).gn=N∧At E nb Y' X' c6 Y.n nw∧c6 h=none∧∀s,c6 N=some s->nw≠none∧s.c=(Y'.th Y.n).wk:=by
 obtain⟨t,fv,TA,cT,FA,cF,p,hg,g⟩:=g;have ht:(Y.begun t fv TA cT FA cF).th Y.n=t:=upd_same _ _ _;cases k with
 |none=>
  obtain⟨h1,rfl,rfl,rfl,rfl⟩:=g;refine⟨by rw[show((Y.begun t fv TA cT FA cF).gone Y.n false).th=(Y.begun t fv TA cT FA cF).th from rfl,ht];exact hg,⟨?_,?_⟩,Tok.Bm _ _ _ _,fun s e=>?_⟩
  ·show(upd (Y.begun t fv TA cT FA cF).ts Y.n {(Y.begun t fv TA cT FA cF).ts Y.n with e:=true} Y.n).e=true;rw[upd_same]
  ·show(upd (Y.begun t fv TA cT FA cF).ts Y.n {(Y.begun t fv TA cT FA cF).ts Y.n with e:=true} Y.n).a.length=8;rw[upd_same];show(upd Y.ts Y.n Pg Y.n).a.length=8;rw[upd_same];rfl
  ·rw[Tok.pZ _ hh]at e;cases e
 |some i=>
  obtain⟨body,B5,TH,kt,l,r,h1,h2,h3,h4,rfl⟩:=g;refine⟨by rw[h4.th,ht];exact hg,h4.at (Ne.symm hh) (by rw[ht];exact hg) h2 (upd_same _ _ _) ?_,h4.atp,fun s e=>?_⟩
  ·show(upd Y.ts Y.n Pg Y.n).a.length=8;rw[upd_same];rfl
  ·obtain⟨q1,q2⟩:=h4.afs (Ne.symm hh) e;exact⟨q1,by rw[q2,h4.th]⟩
theorem Crew.begun{h:Nat}{k:Option Nat}{nw:Option (Sp×Ct)}(C:Crew E nb N Y X bJ st)(g:gV E nb bI bJ h N Y X k c6 Y' X' nw)(hh:h<N)(hf:bJ h=none)(hN:∀i s,bJ i=some s->i<N)(hgh:∀j,j<Y.n->(Y.th j).gn=h->st j=none):Crew E nb (N+1) Y' X' c6 (upd st Y.n nw):=by
 obtain⟨g1,g2,g3,g4⟩:=g.new (by omega);have g0:=g.to;have hn:Y'.n=Y.n+1:=g0.n;have old:∀i,i<Y.n->jK i Y X Y' X':=fun i hi=>g0.eL (by omega);refine⟨fun j hj=>?_,fun j hj=>?_,fun i j hi hj e=>?_,fun i s e=>?_⟩
 ·rcases aV.1 (by rw[hn]at hj;exact hj)with hj|rfl
  ·rw[upd_ne _ _ (by omega)];have a:=C.on j hj;have hb:=(C.gn j hj).2;by_cases hgj:(Y.th j).gn=h
   ·have e:=hgh j hj hgj;rw[e]at a⊢;show(Y'.ts j).e=true∧_;rw[(old j hj).ts];exact a
   ·exact a.eL (old j hj) (g0.FF hgj (by omega))
  ·rw[upd_same];exact g2
 ·rcases aV.1 (by rw[hn]at hj;exact hj)with hj|rfl
  ·rw[(old j hj).th];have:=C.gn j hj;omega
  ·rw[g1];omega
 ·rcases aV.1 (by rw[hn]at hi;exact hi)with hi|rfl
  ·rcases aV.1 (by rw[hn]at hj;exact hj)with hj|rfl
   ·rw[(old i hi).th,(old j hj).th]at e;exact C.inj i j hi hj e
   ·rw[(old i hi).th,g1]at e;have:=(C.gn i hi).2;omega
  ·rcases aV.1 (by rw[hn]at hj;exact hj)with hj|rfl
   ·rw[(old j hj).th,g1]at e;have:=(C.gn j hj).2;omega
   ·rfl
 ·by_cases h1:i=h
  ·rw[h1,g3]at e;cases e
  ·by_cases h2:i=N
   ·rw[h2]at e;obtain⟨q1,q2⟩:=g4 s e;exact .inl ⟨Y.n,by omega,by rw[h2,g1],by rw[upd_same];exact q1,q2⟩
   ·rw[g0.FF h1 h2]at e;rcases C.only i s e with⟨k,hk,hi,hs,hc⟩|h3
    ·exact .inl ⟨k,by omega,by rw[(old k hk).th];exact hi,by rw[upd_ne _ _ (by omega)];exact hs,by rw[(old k hk).th];exact hc⟩
    ·exact .inr h3
def oX(E:Wd)(nb:Nat)(bI:List (List Sp))(bJ:Nat->Option Tok.Seat)(h N:Nat)(Y:GS)(X:XS)(j:Nat)(x:Sp)(st:dX)(fS:Nat->Option Tok.Seat)(N1:Nat)(Y1:GS)(X1:XS)(iO:dX):Prop:=
 (P5 E nb bI bJ h N Y X j x fS N1 Y1 X1∧fS=bJ∧N1=N∧iO=st∧Y1.n=Y.n)∨
 (∃AB LA cL TO jI X2 nw,x.op=7∧Y.n<64∧gV E nb bI bJ h N (Y.jt j Y.n AB LA cL) (X.hand Y.n j) (kOf x.arg nb) fS Y1 X2 nw∧X1={X2 with s:=X2.s.dE (vI j Y.n) TO jI}∧N1=N+1∧iO=upd st Y.n nw)
theorem P5.Qd{h:Nat}{x:Sp}{fS:Nat->Option Tok.Seat}{N1:Nat}{Y1:GS}{X1:XS}(d:P5 E nb bI bJ h N Y X j x fS N1 Y1 X1):∃iO,oX E nb bI bJ h N Y X j x st fS N1 Y1 X1 iO:=by
 cases d with
 |gG h1 h2 h3 h4=>exact⟨st,.inl ⟨.gG h1 h2 h3 h4,rfl,rfl,rfl,rfl⟩⟩
 |jn h1 h2=>exact⟨st,.inl ⟨.jn h1 h2,rfl,rfl,rfl,rfl⟩⟩
 |go h1 h2 g=>obtain⟨nw,g⟩:=g.Qd;exact⟨_,.inr ⟨_,_,_,_,_,_,nw,h1,h2,g,rfl,rfl,rfl⟩⟩
theorem P5.eL{h:Nat}{x:Sp}{fS:Nat->Option Tok.Seat}{N1:Nat}{Y1:GS}{X1:XS}(d:P5 E nb bI bJ h N Y X j x fS N1 Y1 X1){i:Nat}(hi:i≠j)(hn:i<Y.n):jK i Y X Y1 X1:=by
 cases d with
 |gG _ _ _ _=>exact⟨rfl,upd_ne _ _ hi,rfl,rfl,rfl,rfl,rfl,rfl,rfl,rfl,rfl⟩
 |jn _ _=>exact⟨rfl,upd_ne _ _ hi,rfl,rfl,rfl,rfl,rfl,rfl,rfl,rfl,rfl⟩
 |@go AB LA cL TO jI fS Y1 X1 _ _ g=>have h1:jK i Y X (Y.jt j Y.n AB LA cL) (X.hand Y.n j):=⟨rfl,upd_ne _ _ hi,rfl,rfl,rfl,upd_ne _ _ (by omega),upd_ne _ _ (by omega),rfl,upd_ne _ _ hi,upd_ne _ _ hi,rfl⟩;have h2:=g.eL (i:=i) (by show i≠Y.n;omega);exact h1.trans (h2.trans ⟨rfl,rfl,rfl,rfl,rfl,rfl,rfl,rfl,rfl,rfl,rfl⟩)
theorem Crew.Lz{x:Sp}{c:Ct}{p b:Nat}{l:List (Int×Int)}{r:(Sp×Ct)⊕Bool}{Gz fS:Nat->Option Tok.Seat}{N1:Nat}{Y1:GS}{X1:XS}{iO:dX}{s0:Tok.Seat}(C:Crew E nb N Y X bJ st)(hj:j<Y.n)(di:st j=some (x,c))(h0:Gz=Tok.e_ bJ 0 (Y.th j).gn (some s0))(d:oX E nb bI Gz (Y.th j).gn N Y X j x st fS N1 Y1 X1 iO)(d':P5 E nb bI Gz (Y.th j).gn N Y X j x fS N1 Y1 X1)(k:dV E nb fS (Y.th j).gn 0 Y1 X1 j b l r c6 Y' X')(hb:X.b5 j=some b)(hf:Y.dz j=false)(hl:(Y.ts j).a.length=8)(hjs:jK j Y X Y1 X1∨(Y1.th j=Y.th j∧Y1.dz j=Y.dz j∧Y1.ts j=Y.ts j∧X1.b5 j=X.b5 j)):Crew E nb N1 Y' X' c6 (upd iO j (l0 r)):=by
 have hg:=C.gn j hj;have QV:Y1.th j=Y.th j∧Y1.dz j=Y.dz j∧Y1.ts j=Y.ts j∧X1.b5 j=X.b5 j:=by
  rcases hjs with h|h
  ·exact⟨h.th,h.dz,h.ts,h.b5⟩
  ·exact h
 have hn1:Y.n≤Y1.n:=by
  rcases d with⟨_,_,_,_,e⟩|⟨AB,LA,cL,TO,jI,X2,nw,_,_,g,_⟩
  ·omega
  ·have:Y1.n=Y.n+1:=g.to.n;omega
 have aj:At E nb Y' X' c6 j (l0 r):=k.at (by omega) (by rw[QV.1]) (by rw[QV.2.2.2];exact hb) (by rw[QV.2.1];exact hf) (by rw[QV.2.2.1];exact hl);have ZD:∀i,i<Y.n->i≠j->jK i Y X Y' X':=fun i hi df=>(d'.eL df hi).trans (k.eL df);have thj:Y'.th j=Y.th j:=by rw[k.th,QV.1]
 have alN:∀i,i≠0->i≠(Y.th j).gn->i<N->c6 i=bJ i:=fun i h1 h2 h3=>by
  rw[k.FF h2 h1];rcases d with⟨_,e,_⟩|⟨AB,LA,cL,TO,jI,X2,nw,_,_,g,_⟩
  ·rw[e,h0];exact Tok.jq _ _ h2 h1
  ·rw[g.to.FF h2 (by omega),h0];exact Tok.jq _ _ h2 h1
 have gne:∀i,i<Y.n->i≠j->(Y.th i).gn≠(Y.th j).gn:=fun i hi df e=>df (C.inj i j hi hj e);rcases d with⟨_,e1,e2,e3,e4⟩|⟨AB,LA,cL,TO,jI,X2,nw,_,_,g,rfl,e2,e3⟩
 ·have MU:Y'.n=Y.n:=by rw[k.n,e4]
  subst e3 e2;refine⟨fun i hi=>?_,fun i hi=>?_,fun i i' hi nN e=>?_,fun i s e=>?_⟩
  ·by_cases hij:i=j
   ·rw[hij,upd_same];exact aj
   ·rw[upd_ne _ _ hij];have nN:i<Y.n:=by omega
    have:=C.gn i nN;exact(C.on i nN).eL (ZD i nN hij) (alN _ (by omega) (gne i nN hij) this.2)
  ·rw[k.th];by_cases hij:i=j
   ·rw[hij,QV.1];exact hg
   ·rw[(d'.eL hij (by omega)).th];exact C.gn i (by omega)
  ·have tt:∀i,i<Y.n->Y'.th i=Y.th i:=fun i hi=>by
    by_cases hij:i=j
    ·rw[hij];exact thj
    ·exact(ZD i hi hij).th
   rw[tt i (by omega),tt i' (by omega)]at e;exact C.inj i i' (by omega) (by omega) e
  ·by_cases Xp:i=0
   ·rw[Xp,k.atp]at e;cases e
   ·by_cases hij:i=(Y.th j).gn
    ·rw[hij]at e;obtain⟨q1,q2⟩:=k.afs (by omega) e;exact .inl ⟨j,by omega,by rw[hij,thj],by rw[upd_same];exact q1,by rw[q2,k.th]⟩
    ·have e':bJ i=some s:=by
      have:=k.FF hij Xp;rw[this,e1,h0,Tok.jq _ _ hij Xp]at e;exact e
     rcases C.only i s e' with⟨k',hk,hi,hs,hc⟩|h3
     ·have hkj:k'≠j:=fun e=>hij (by rw[hi,e]);exact .inl ⟨k',by omega,by rw[(ZD k' hk hkj).th];exact hi,by rw[upd_ne _ _ hkj];exact hs,by rw[(ZD k' hk hkj).th];exact hc⟩
     ·exact .inr h3
 ·have arM:Y1.n=Y.n+1:=g.to.n;have MU:Y'.n=Y.n+1:=by rw[k.n,arM]
  subst e3 e2;obtain⟨g1,g2,g3,g4⟩:=g.new (by omega);have g1':(Y1.th Y.n).gn=N:=g1;have U5:Y'.th Y.n=Y1.th Y.n:=by rw[k.th]
  have sN:jK Y.n Y1 X2 Y' X':=jK.trans (Y':=Y1) (X':={X2 with s:=X2.s.dE (vI j Y.n) TO jI}) ⟨rfl,rfl,rfl,rfl,rfl,rfl,rfl,rfl,rfl,rfl,rfl⟩ (k.eL (by omega));have alO:c6 N=fS N:=k.FF (by omega) (by omega);refine⟨fun i hi=>?_,fun i hi=>?_,fun i i' hi nN e=>?_,fun i s e=>?_⟩
  ·by_cases hij:i=j
   ·rw[hij,upd_same];exact aj
   ·rw[upd_ne _ _ hij];rcases aV.1 (by rw[MU]at hi;exact hi)with nN|rfl
    ·rw[upd_ne _ _ (by omega)];have:=C.gn i nN;exact(C.on i nN).eL (ZD i nN hij) (alN _ (by omega) (gne i nN hij) this.2)
    ·rw[upd_same];exact g2.eL sN (by rw[show((Y1.th (Y.jt j Y.n AB LA cL).n).gn)=N from g1];exact alO)
  ·by_cases hij:i=j
   ·rw[hij,thj];omega
   ·rcases aV.1 (by rw[MU]at hi;exact hi)with nN|rfl
    ·rw[(ZD i nN hij).th];have:=C.gn i nN;omega
    ·rw[U5,g1'];omega
  ·have tt:∀i,i<Y.n->Y'.th i=Y.th i:=fun i hi=>by
    by_cases hij:i=j
    ·rw[hij];exact thj
    ·exact(ZD i hi hij).th
   rcases aV.1 (by rw[MU]at hi;exact hi)with QU|rfl
   ·rcases aV.1 (by rw[MU]at nN;exact nN)with vS|rfl
    ·rw[tt i QU,tt i' vS]at e;exact C.inj i i' QU vS e
    ·rw[tt i QU,U5,g1']at e;have:=(C.gn i QU).2;omega
   ·rcases aV.1 (by rw[MU]at nN;exact nN)with vS|rfl
    ·rw[tt i' vS,U5,g1']at e;have:=(C.gn i' vS).2;omega
    ·rfl
  ·by_cases Xp:i=0
   ·rw[Xp,k.atp]at e;cases e
   ·by_cases hij:i=(Y.th j).gn
    ·rw[hij]at e;obtain⟨q1,q2⟩:=k.afs (by omega) e;exact .inl ⟨j,by omega,by rw[hij,thj],by rw[upd_same];exact q1,by rw[q2,k.th]⟩
    ·by_cases hiN:i=N
     ·rw[hiN,alO]at e;obtain⟨q1,q2⟩:=g4 s e;exact .inl ⟨Y.n,by omega,by rw[hiN,U5,g1'],by rw[upd_ne _ _ (by omega),upd_same];exact q1,by rw[q2,U5];rfl⟩
     ·have e':bJ i=some s:=by
       have q:=k.FF hij Xp;rw[q,g.to.FF hij hiN,h0,Tok.jq _ _ hij Xp]at e;exact e
      rcases C.only i s e' with⟨k',hk,hi,hs,hc⟩|h3
      ·have hkj:k'≠j:=fun e=>hij (by rw[hi,e]);exact .inl ⟨k',by omega,by rw[(ZD k' hk hkj).th];exact hi,by rw[upd_ne _ _ hkj,upd_ne _ _ (by omega)];exact hs,by rw[(ZD k' hk hkj).th];exact hc⟩
      ·exact .inr h3
end
inductive Mv(E:Wd)(nb:Nat)(bI:List (List Sp))(Y:GS)(X:XS)(st:dX):GS->XS->dX->Prop
 |beg {bJ:Nat->Option Tok.Seat} {h N:Nat} {k:Option Nat} {c6:Nat->Option Tok.Seat} {Y':GS} {X':XS} {nw:Option (Sp×Ct)}:Y.n<64->gV E nb bI bJ h N Y X k c6 Y' X' nw->Mv E nb bI Y X st Y' X' (upd st Y.n nw)
 |HN {j:Nat} {x:Sp} {c:Ct} {b r0 WA cW RA cR h p N N1:Nat} {Gz fS c6:Nat->Option Tok.Seat} {Y1:GS} {X1:XS} {iO:dX} {l:List (Int×Int)} {r:(Sp×Ct)⊕Bool} {Y':GS} {X':XS}:j<Y.n->st j=some (x,c)->oX E nb bI Gz h N (Y.lZ j r0 WA cW RA cR) X j x st fS N1 Y1 X1 iO->JF c l r->dV E nb fS h p Y1 X1 j b l r c6 Y' X'->Mv E nb bI Y X st Y' X' (upd iO j (l0 r))
inductive Cq(E:Wd)(nb:Nat)(bI:List (List Sp))(Y:GS)(X:XS)(st:dX):GS->XS->dX->Prop
 |refl:Cq E nb bI Y X st Y X st
 |step {Y1:GS} {X1:XS} {iO:dX} {Y2:GS} {X2:XS} {WI:dX}:Cq E nb bI Y X st Y1 X1 iO->Mv E nb bI Y1 X1 iO Y2 X2 WI->Cq E nb bI Y X st Y2 X2 WI
def I6:Option (Sp×Ct)->Nat
 |none=>0
 |some y=>y.2.sz
theorem NI(r:(Sp×Ct)⊕Bool):I6 (l0 r)=rsz r:=by cases r<;>rfl
def xm:Option (Sp×Ct)->Nat
 |none=>0
 |some _=>1
def wt(f:Option (Sp×Ct)->Nat)(st:dX):Nat->Nat
 |0=>0
 |n+1=>wt f st n+f (st n)
theorem yx{f:Option (Sp×Ct)->Nat}{st:dX}{j:Nat}{o:Option (Sp×Ct)}:∀{n:Nat},n≤j->wt f (upd st j o) n=wt f st n
 |0,_=>rfl
 |n+1,h=>by unfold wt;rw[yx (by omega),upd_ne _ _ (by omega)]
theorem GA{f:Option (Sp×Ct)->Nat}{st:dX}{j:Nat}{o:Option (Sp×Ct)}:∀{n:Nat},j<n->wt f (upd st j o) n+f (st j)=wt f st n+f o
 |0,h=>by omega
 |n+1,h=>by
  unfold wt;rcases aV.1 h with h1|rfl
  ·have:=GA (f:=f) (st:=st) (o:=o) h1;rw[upd_ne _ _ (by omega)];omega
  ·rw[yx (aq _),upd_same];omega
theorem I7{f:Option (Sp×Ct)->Nat}{st:dX}{j:Nat}:∀{n:Nat},j<n->f (st j)≤wt f st n
 |0,h=>by omega
 |n+1,h=>by
  unfold wt;rcases aV.1 h with h1|rfl
  ·have:=I7 (f:=f) (st:=st) h1;omega
  ·omega
structure Inv(PB nb fI:Nat)(Y:GS)(X:XS)(st:dX)(cl:List Nat):Prop where
 n:Y.n≤64
 dJ:Y.dJ=false
 db:Y.db.length=8*(Y.db.length / 8)
 pot:Y.db.length / 8+wt I6 st Y.n≤Y.cp.length+6002*Y.n
 tl:X.s.tl.length=8*(X.s.tl.length / 8)
 tlr:X.s.tl.length / 8≤Y.cp.length
 f0:X.s.f0.length≤Y.n
 ended:∃e:Nat,X.s.ended=e∧e+wt xm st Y.n=X.s.f0.length
 q:X.s.q.length=4
 q0:Y.n≠0->X.s.q[0]?=some (.slice (some ⟨PB,0,none⟩) nb fI)
 rd:Y.ready.length=Y.cp.length
 mp:Y.mp=kM X.s.S cl 0
 nodup:cl.Nodup
 six:∀c∈cl,c<6
 NJ:∀j,Y.n≤j->st j=none
section
variable {E:Wd}{PB nb fI:Nat}{bI:List (List Sp)}{Y Y':GS}{X X':XS}{st fZ:dX}{cl:List Nat}
theorem gV.count{bJ c6:Nat->Option Tok.Seat}{h N:Nat}{k:Option Nat}{nw:Option (Sp×Ct)}(B:JH E PB nb fI bI)(g:gV E nb bI bJ h N Y X k c6 Y' X' nw):∃l d,Y'.db=Y.db++yr Y.n l∧l.length+I6 nw≤6002∧X'.s.ended=X.s.ended+(d:Nat)∧d+xm nw+X.s.f0.length=X'.s.f0.length:=by
 obtain⟨t,fv,TA,cT,FA,cF,p,_,g⟩:=g;cases k with
 |none=>obtain⟨_,_,rfl,rfl,rfl⟩:=g;exact⟨[],0,(aX _).symm,by simp[I6],(Int.add_zero _).symm,by simp[xm]⟩
 |some bi=>
  obtain⟨body,B5,TH,kt,l,r,hb,_,hw,hp,rfl⟩:=g;have h1:=hw.sz;have h2:=B.size body (bf hb);simp only[Ct.sz,zu,List.length_nil]at h1;have e:=hp.ended;refine⟨l,(match r with|.inl _=>0|.inr _=>1),hp.db,by rw[NI];omega,?_,?_⟩
  ·cases r<;>exact e
  ·rw[hp.f0];show _=(X.s.f0++[cb t.T]).length;cases r<;>simp[l0,xm]<;>omega
theorem GB{L:List Value}{j:Nat}{l:List (Int×Int)}(h:L.length=8*(L.length / 8)):(L++yr j l).length=8*((L++yr j l).length / 8)∧(L++yr j l).length / 8=L.length / 8+l.length:=by rw[aD,Nz];omega
theorem NK{nw:Option (Sp×Ct)}{n:Nat}(h:∀j,n≤j->st j=none):∀j,n+1≤j->upd st n nw j=none:=fun j hj=>by rw[upd_ne _ _ (by omega)];exact h j (by omega)
theorem Inv.begun{bJ c6:Nat->Option Tok.Seat}{h N:Nat}{k:Option Nat}{nw:Option (Sp×Ct)}(B:JH E PB nb fI bI)(I:Inv PB nb fI Y X st cl)(hn:Y.n<64)(vB:X.s.q[0]?=some (.slice (some ⟨PB,0,none⟩) nb fI))(g:gV E nb bI bJ h N Y X k c6 Y' X' nw):Inv PB nb fI Y' X' (upd st Y.n nw) cl:=by
 obtain⟨l,d,h1,h2,h3,h4⟩:=g.count B;have w:=g.to.whole;have n':=g.to.n;obtain⟨e,he,Df⟩:=I.ended;obtain⟨q1,q2⟩:=GB (j:=Y.n) (l:=l) I.db;have ht:=g.to.f0;have h5:=I.f0;refine⟨by omega,w.dJ.trans I.dJ,by rw[h1];exact q1,?_,by rw[w.tl];exact I.tl,by rw[w.tl,w.cp];exact I.tlr,by omega,⟨e+d,by rw[h3,he];omega,?_⟩,by rw[w.q];exact I.q,fun _=>by rw[w.q];exact vB,by rw[w.ready,w.cp];exact I.rd,by rw[w.mp,w.S];exact I.mp,I.nodup,I.six,by rw[n'];exact NK I.NJ⟩
 ·rw[h1,q2,n',w.cp];show _+(wt I6 (upd st Y.n nw) Y.n+I6 (upd st Y.n nw Y.n))≤_;rw[yx (aq _),upd_same];have:=I.pot;omega
 ·rw[n',<-h4];show _+(wt xm (upd st Y.n nw) Y.n+xm (upd st Y.n nw Y.n))=_;rw[yx (aq _),upd_same];omega
theorem U6{S c:Nat}{gP:Bool}{i4:Int}(hm:Y.mp=kM S cl 0)(h:uU Y gP (cv S (4+c)) i4):(gP=true∧∃n:Nat,i4=n∧cl[n]?=some c)∨(gP=false∧i4=(cl.length:Nat)∧c∉cl):=by
 cases gP with
 |false=>
  refine .inr ⟨rfl,?_,fun hc=>?_⟩
  ·rw[h.1,hm,xj]
  ·obtain⟨l1,l2,e,_⟩:=tL hc;refine h.2 (cv S (4+c),iV l1.length) ?_ rfl;rw[hm,e,xk];simp[kM]
 |true=>
  refine .inl ⟨rfl,?_⟩;obtain⟨E1,E2,e,h1⟩:=h;rcases Lr hm c with⟨n,hn,E1',E2',e',Fv⟩|⟨hc,_,h2⟩
  ·refine⟨n,?_,hn⟩;have key:∀(A A' B B':List (Value×Value)) (k v v':Value),A++(k,v)::B=A'++(k,v')::B'->(∀q∈A,q.1≠k)->(∀q∈A',q.1≠k)->v=v':=by
    intro A
    induction A with
    |nil=>
     intro A' B B' k v v' e h1 h2;cases A' with
     |nil=>cases e;rfl
     |cons a t=>simp only[aA,az,List.cons.injEq]at e;exact absurd (by rw[<-e.1]) (h2 a (an ..))
    |cons a t ih=>
     intro A' B B' k v v' e h1 h2;cases A' with
     |nil=>simp only[aA,az,List.cons.injEq]at e;exact absurd (by rw[e.1]) (h1 a (an ..))
     |cons a' t'=>simp only[az,List.cons.injEq]at e;exact ih t' B B' k v v' e.2 (fun q hq=>h1 q (am _ hq)) fun q hq=>h2 q (am _ hq)
   have:=key E1 E1' E2 E2' _ _ _ (e.symm.trans e') h1 Fv;have:=Value.int.inj this;exact this.2
  ·exact absurd rfl (h2 (cv S (4+c),iV i4) (by rw[e];simp))
theorem mz{L d:List Value}(h:L.length=8*(L.length / 8))(hd:d.length=8):(L++d).length=8*((L++d).length / 8)∧(L++d).length / 8=L.length / 8+1:=by rw[aD,hd];omega
theorem Inv.Lz(B:JH E PB nb fI bI)(I:Inv PB nb fI Y X st cl){j:Nat}{x:Sp}{c:Ct}{b r0 WA cW RA cR h p N N1:Nat}{Gz fS c6:Nat->Option Tok.Seat}{Y1:GS}{X1:XS}{iO:dX}{l:List (Int×Int)}{r:(Sp×Ct)⊕Bool}(hj:j<Y.n)(di:st j=some (x,c))(d:oX E nb bI Gz h N (Y.lZ j r0 WA cW RA cR) X j x st fS N1 Y1 X1 iO)(w:JF c l r)(k:dV E nb fS h p Y1 X1 j b l r c6 Y' X'):∃rX,Inv PB nb fI Y' X' (upd iO j (l0 r)) rX:=by
 have hsz:=w.sz;obtain⟨en,zh,Df⟩:=I.ended;have vB:=I.q0 (by omega);have kw:=k.whole;have kn:=k.n;have U7:(Y.lZ j r0 WA cW RA cR).cp.length=Y.cp.length+1:=by show(Y.cp++[j]).length=_;simp
 have LC:(Y.lZ j r0 WA cW RA cR).ready.length=Y.ready.length+1:=by show(Y.ready++[r0]).length=_;simp
 have rm:=k.ended;have main:∀{rX:List Nat},iO j=st j->Y1.n≤64->Y.n≤Y1.n->Y1.dJ=false->Y1.db.length=8*(Y1.db.length / 8)->Y1.db.length / 8+wt I6 iO Y1.n≤Y.cp.length+1+6002*Y1.n->X1.s.tl.length=8*(X1.s.tl.length / 8)->X1.s.tl.length / 8≤Y.cp.length+1->X1.s.f0.length≤Y1.n->(∃e:Nat,X1.s.ended=e∧e+wt xm iO Y1.n=X1.s.f0.length)->X1.s.q=X.s.q->Y1.cp.length=Y.cp.length+1->Y1.ready.length=Y.ready.length+1->Y1.mp=kM X1.s.S rX 0->rX.Nodup->(∀c∈rX,c<6)->(∀i,Y1.n≤i->iO i=none)->Inv PB nb fI Y' X' (upd iO j (l0 r)) rX:=fun{rX} e1 e2 e2' e3 e4 e5 e6 e7 e8 e9 e10 Nh e12 e13 e14 e15 e16=>by
  obtain⟨q1,q2⟩:=GB (j:=j) (l:=l) e4;obtain⟨ee,he1,Q4⟩:=e9;refine⟨by omega,kw.dJ.trans e3,by rw[k.db];exact q1,?_,by rw[kw.tl];exact e6,by rw[kw.tl,kw.cp,Nh];exact e7,by rw[k.f0,kn];exact e8,?_,by rw[kw.q,e10];exact I.q,fun _=>by rw[kw.q,e10];exact vB,by rw[kw.ready,kw.cp,Nh,e12,I.rd],by rw[kw.mp,kw.S];exact e13,e14,e15,fun i hi=>?_⟩
  ·rw[k.db,q2,kn,kw.cp,Nh];have:=GA (f:=I6) (st:=iO) (o:=l0 r) (n:=Y1.n) (j:=j) (by omega);rw[NI,e1,di]at this;simp only[I6]at this;omega
  ·have:=GA (f:=xm) (st:=iO) (o:=l0 r) (n:=Y1.n) (j:=j) (by omega);rw[e1,di]at this;rw[kn,k.f0];cases r with
   |inl y=>simp only[l0,xm]at this⊢;exact⟨ee,by rw[rm,he1];simp,by omega⟩
   |inr y=>simp only[l0,xm]at this⊢;exact⟨ee+1,by rw[rm,he1];rfl,by omega⟩
  ·rw[kn]at hi;rw[upd_ne _ _ (by omega)];exact e16 i hi
 have tl8:∀{d:List Value} {s:SS} {TO jI:Nat},d.length=8->s.tl=X.s.tl->(s.dE d TO jI).tl.length=8*((s.dE d TO jI).tl.length / 8)∧(s.dE d TO jI).tl.length / 8≤Y.cp.length+1:=fun{d s TO jI} hd hs=>by show(s.tl++d).length=8*((s.tl++d).length / 8)∧(s.tl++d).length / 8≤_;rw[hs];obtain⟨q1,q2⟩:=mz I.tl hd;have:=I.tlr;exact⟨q1,by omega⟩
 have pot:=I.pot;rcases d with⟨d,_,_,rfl,e4⟩|⟨AB,LA,cL,TO,jI,X2,nw,h7,P6,g,rfl,_,rfl⟩
 ·cases d with
  |@gG o gP i4 LA cL TO jI Zk Pm ur qI=>
   have hdl:(nD j o i4 (jH x.op x.arg) (mW x.op x.nw) (X.s.cells x.c)).length=8:=rfl;obtain⟨q1,q2⟩:=mz I.db hdl;obtain⟨t1,t2⟩:=tl8 (d:=Dn j (X.s.cells x.c) (o.eu (X.s.cells x.c) (jH x.op x.arg) (mW x.op x.nw)) o.ok) (s:=X.s.setCell x.c (o.eu (X.s.cells x.c) (jH x.op x.arg) (mW x.op x.nw))) (TO:=TO) (jI:=jI) rfl rfl;have afx:Y.mp=kM X.s.S cl 0:=I.mp;have ky:∀{rX:List Nat},wZ (Y.lZ j r0 WA cW RA cR) gP (cv X.s.S (4+x.c))=kM X.s.S rX 0->rX.Nodup->(∀c∈rX,c<6)->∃rX,Inv PB nb fI Y' X' (upd iO j (l0 r)) rX:=fun{rX} a1 a2 a3=>⟨rX,main rfl I.n (aq _) I.dJ q1 (by show(Y.db++_).length / 8+wt I6 iO Y.n≤_+6002*Y.n;rw[q2];omega) t1 t2 I.f0 ⟨en,zh,Df⟩ rfl U7 LC a1 a2 a3 I.NJ⟩;rcases U6 (Y:=Y.lZ j r0 WA cW RA cR) afx qI with⟨rfl,n,_,_⟩|⟨rfl,_,hc⟩
   ·exact ky afx I.nodup I.six
   ·refine ky (acb (Y:=Y.lZ j r0 WA cW RA cR) afx x.c) ?_ fun c GW=>?_
    ·rw[List.nodup_append];refine⟨I.nodup,by simp,fun a ha b hb e=>?_⟩;obtain rfl:=ad.1 hb;exact hc (e▸ha)
    ·rcases ay.1 GW with GW|GW
     ·exact I.six c GW
     ·obtain rfl:=ad.1 GW;exact Zk
  |@jn AB LA cL TO jI h7 P6=>obtain⟨q1,q2⟩:=mz (d:=GY j (-1)) I.db rfl;obtain⟨t1,t2⟩:=tl8 (d:=vI j (-1)) (s:=X.s) (TO:=TO) (jI:=jI) rfl rfl;exact⟨cl,main rfl I.n (aq _) I.dJ q1 (by show(Y.db++_).length / 8+wt I6 iO Y.n≤_+6002*Y.n;rw[q2];omega) t1 t2 I.f0 ⟨en,zh,Df⟩ rfl U7 LC I.mp I.nodup I.six I.NJ⟩
  |go _ _ g=>have:=g.n;have e5:(Y.lZ j r0 WA cW RA cR).n=Y.n:=rfl;have e6:((Y.lZ j r0 WA cW RA cR).jt j (Y.lZ j r0 WA cW RA cR).n ‹_› ‹_› ‹_›).n=Y.n:=rfl;omega
 ·obtain⟨q1,q2⟩:=mz (d:=GY j Y.n) I.db rfl;obtain⟨l1,d1,g1,g2,g3,g4⟩:=g.count B;have gw:=g.to.whole;have gn:Y1.n=Y.n+1:=g.to.n;have gt:=g.to.f0;obtain⟨t1,t2⟩:=tl8 (d:=vI j Y.n) (s:=X2.s) (TO:=TO) (jI:=jI) rfl gw.tl;obtain⟨p1,p2⟩:=GB (j:=Y.n) (l:=l1) q1;have g1':Y1.db=(Y.db++GY j Y.n)++yr Y.n l1:=g1;have xi:=I.f0;have gt':X2.s.f0.length≤X.s.f0.length+1:=gt;have g4':d1+xm nw+X.s.f0.length=X2.s.f0.length:=g4;have ay6:Y.n<64:=P6;refine⟨cl,main (upd_ne _ _ (by show j≠Y.n;omega)) (by omega) (by omega) (gw.dJ.trans I.dJ) (by rw[g1'];exact p1) ?_ t1 t2 (by show X2.s.f0.length≤_;omega) ⟨en+d1,?_,?_⟩ gw.q (by rw[gw.cp];exact U7) (by rw[gw.ready];exact LC) (by rw[gw.mp];show Y.mp=kM X2.s.S cl 0;rw[gw.S];exact I.mp) I.nodup I.six (by rw[gn];exact NK I.NJ)⟩
  ·rw[g1',p2,q2,gn];show _+(wt I6 (upd st Y.n nw) Y.n+I6 (upd st Y.n nw Y.n))≤_;rw[yx (aq _),upd_same];omega
  ·show X2.s.ended=_;rw[g3];show X.s.ended+_=_;rw[zh];omega
  ·show _=X2.s.f0.length;rw[gn,<-g4'];show _+(wt xm (upd st Y.n nw) Y.n+xm (upd st Y.n nw Y.n))=_;rw[yx (aq _),upd_same];omega
end
def Cr(X:XS):Option (Sp×Ct)->sr
 |none=>.ended
 |some (x,_)=>if x.op=6 then(if X.s.cells x.c=x.arg then .EG else .Cj)else .ready
theorem LD{cK:List Int}{cp l:List Nat}(hl:l≠[]):Cn cK cp l∈l:=by
 have hp:=aG.2 hl;unfold Cn;have h0:l.getD 0 0∈l:=by
  cases l with
  |nil=>exact absurd rfl hl
  |cons a t=>exact an ..
 split
 ·rename_i p _;obtain⟨h1,h2⟩:=Co p hp;have dU:(((p.tmod l.length+l.length).tmod l.length)).toNat<l.length:=by omega
  rw[bA,aF dU];exact List.getElem_mem dU
 ·split
  ·rename_i j e;exact List.mem_of_find?_eq_some e
  ·exact h0
section
variable {E:Wd}{PB nb fI N:Nat}{bI:List (List Sp)}{Y:GS}{X:XS}{st:dX}{cl:List Nat}{bJ:Nat->Option Tok.Seat}{cs:List Frame}{fr:Frame}{m:Machine}{T:Trace}{cd:Int}{qg nH PA cP:Nat}{cK:List Int}
theorem At.len{j:Nat}{o:Option (Sp×Ct)}(a:At E nb Y X bJ j o):(Y.ts j).a.length=8:=by
 cases o with
 |none=>exact a.2
 |some y=>obtain⟨x,c⟩:=y;obtain⟨sl,cs,b,h1,h2,h3,h4,h5,h6⟩:=a;exact h4.e.2
theorem At.look{j:Nat}{o:Option (Sp×Ct)}(df:E.x≠E.a)(hq:X.s.q.length=4)(a:At E nb Y X bJ j o):Ck E Y X j (Cr X o):=by
 cases o with
 |none=>exact a.1
 |some y=>
  obtain⟨x,c⟩:=y;obtain⟨sl,cs,b,h1,h2,h3,h4,h5,h6⟩:=a;unfold Cr;dsimp only;rcases h4 with⟨o1,o6,Zk,vK,_⟩|⟨o7,vK,_⟩
  ·by_cases h:x.op=6
   ·have hl:E.de Y X (E.a,.app 0 0)=some (X.s.S,.fF fe 1 X.s.xs):=by
     unfold Wd.de;rw[ct rfl];exact i5
    have hc:(fK.fF fe 1 X.s.xs).cell (4+x.c)=some (iV (X.s.cells x.c)):=F4 hq Zk;have hr:((E.a,RK.app 0 0):cD)≠(E.x,.app 1 0):=by simp
    have ha:jH x.op x.arg=x.arg:=by unfold jH;rw[if_neg (by omega)]
    rw[if_pos h];split
    ·rename_i hv;refine⟨by rw[vK],by rw[vK,h];rfl,X.s.S,4+x.c,x.arg,X.s.cells x.c,_,_,by rw[vK],?_,hl,hc,hr,hv⟩;rw[vK];show some (iV (jH x.op x.arg))=_;rw[ha]
    ·rename_i hv;refine⟨by rw[vK],by rw[vK,h];rfl,X.s.S,4+x.c,x.arg,X.s.cells x.c,_,_,by rw[vK],?_,hl,hc,hr,hv⟩;rw[vK];show some (iV (jH x.op x.arg))=_;rw[ha]
   ·rw[if_neg h];exact⟨by rw[vK],x.op,by rw[vK];rfl,h⟩
  ·rw[if_neg (by omega)];exact⟨by rw[vK],7,by rw[vK];rfl,by omega⟩
theorem Crew.cp{j r WA cW RA cR:Nat}(C:Crew E nb N Y X bJ st):Crew E nb N (Y.lZ j r WA cW RA cR) X bJ st:=
 ⟨fun i hi=>(C.on i hi).eL ⟨rfl,rfl,rfl,rfl,rfl,rfl,rfl,rfl,rfl,rfl,rfl⟩ rfl,C.gn,C.inj,C.only⟩
def U8(X:XS)(st:dX)(n wl:Nat)(cd e:Int):Prop:=
 (e=1∧∀j,j<n->st j=none)∨((e=3∨e=2)∧∃j,j<n∧st j≠none)
theorem round(B:JH E PB nb fI bI)(P:Zy E Y.R qg nH PA cP cK)(C:Crew E nb N Y X bJ st)(I:Inv PB nb fI Y X st cl)(o:On E bJ 0 N Y X (G fr cs) m T)(hf:Gu Y.R cd (Lw qg nH) fr)(j_:E.LB (E.x,.app 1 0)=none)(hm:cd≤65536)(hw:(Y.cp.length:Int)≤cd):
  cm aa m T fun m' T'=>(∃e bT,On E bJ 0 N Y X (G bT cs) m' T'∧yw e true bT∧U8 X st Y.n Y.cp.length cd e)∨(∃c6 N' Y' X' fZ rX bT,On E c6 0 N' Y' X' (G bT cs) m' T'∧Gu Y'.R cd (Lw qg nH) bT∧Crew E nb N' Y' X' c6 fZ∧Inv PB nb fI Y' X' fZ rX∧Mv E nb bI Y X st Y' X' fZ∧Y'.R=Y.R∧Y'.cp.length=Y.cp.length+1∧(Y'.cp.length:Int)≤cd):=by
 have df:=B.ne;by_cases h0:Y.n=0
 ·refine(IX o hf h0).mono fun m1 T1 hd=>?_;obtain⟨c9,o1,h1⟩:=hd;exact .inl ⟨1,c9,o1,h1,.inl ⟨rfl,fun j hj=>by omega⟩⟩
 let kd:Nat->sr:=fun j=>Cr X (st j);have dI:∀j,j<Y.n->(Y.ts j).a.length=8:=fun j hj=>(C.on j hj).len;have hlk:∀j,j<Y.n->Ck E Y X j (kd j):=fun j hj=>(C.on j hj).look df I.q;refine(UW df o hf dI hlk I.n (by omega)).trans fun m1 T1 hd=>?_;obtain⟨c9,f37,AB,cA,o1,h1,Dr⟩:=hd;have vL:∀j,kd j=.ended->st j=none:=fun j hj=>by
  have ZE:Cr X (st j)=.ended:=hj;cases e:st j with
  |none=>rfl
  |some y=>
   obtain⟨x,c⟩:=y;rw[e]at ZE;unfold Cr at ZE;dsimp only at ZE;split at ZE
   ·split at ZE<;>cases ZE
   ·cases ZE
 cases jc:zA kd Y.n with
 |true=>rw[jc]at h1;refine(IY o1 h1 Dr (by rw[UV jc];rfl)).mono fun m2 T2 hd=>?_;obtain⟨iE,o2,h2⟩:=hd;exact .inl ⟨1,iE,Gx o2 df j_,h2,.inl ⟨rfl,fun j hj=>vL j (z0.1 jc j hj)⟩⟩
 |false=>
  rw[jc]at h1;have ack:∃j,j<Y.n∧st j≠none:=by
   apply Classical.byContradiction;intro hn;have:zA kd Y.n=true:=z0.2 fun j hj=>by have:st j=none:=Classical.byContradiction fun h=>hn ⟨j,hj,h⟩;show Cr X (st j)=.ended;rw[this];rfl
   rw[jc]at this;cases this
  by_cases hr:yv kd Y.n=[]
  ·refine(IY o1 h1 Dr (by rw[hr];rfl)).mono fun m2 T2 hd=>?_;obtain⟨iE,o2,h2⟩:=hd;exact .inl ⟨3,iE,Gx o2 df j_,h2,.inr ⟨.inl rfl,ack⟩⟩
  ·have Q5:gU Y (yv kd Y.n)≠[]:=fun e=>hr (by unfold gU at e;exact List.map_eq_nil_iff.1 e);by_cases AC:(Y.cp.length:Int)=cd
   ·refine(Zw o1 h1 Dr Q5 AC).mono fun m2 T2 hd=>?_;obtain⟨iE,o2,h2⟩:=hd;exact .inl ⟨2,iE,Gx o2 df j_,h2,.inr ⟨.inr rfl,ack⟩⟩
   ·refine(Zz df o1 h1 Dr Q5 AC).trans fun m2 T2 hd=>?_;obtain⟨iE,g37,o2,h2,arQ⟩:=hd;have Dh:∀j∈yv kd Y.n,j<Y.n:=fun j hj=>(Gw.1 hj).1;refine(ZB df P o2 h2 Dh hr (by have:=NF kd Y.n;have:=I.n;omega) (by omega)).trans fun m3 T3 hd=>?_;obtain⟨kH,o3,h3⟩:=hd;obtain⟨j,hjd⟩:∃j,j=Cn cK Y.cp (yv kd Y.n):=⟨_,rfl⟩;rw[<-hjd]at h3;have hjm:j∈yv kd Y.n:=by rw[hjd];exact LD hr
    obtain⟨hj,Ba⟩:=Gw.1 hjm;have a:=C.on j hj;obtain⟨x,c,di⟩:∃x c,st j=some (x,c):=by
     cases e:st j with
     |none=>
      have:kd j=.ended:=by show Cr X (st j)=_;rw[e];rfl
      rw[this]at Ba;cases Ba
     |some y=>exact⟨y.1,y.2,rfl⟩
    rw[di]at a;obtain⟨s,csj,b,KG,hsW,WG,Dq,hok,NL⟩:=a;refine(ZC (Gx o3 df j_) h3 arQ Q5 hj I.rd (by omega)).trans fun m4 T4 hd=>?_;obtain⟨zV,alI,WA,cW,RA,cR,o4,h4,alQ⟩:=hd;let Y0:GS:=Y.lZ j (gU Y (yv kd Y.n)).length WA cW RA cR;have uq:∀i t',bJ i=some t'->t'.c≠(Y0.th j).sd:=by
     obtain⟨w4,A4,H4,_⟩:=o4;intro i t' e ec;rcases C.only i t' e with⟨k',hk,hi,hs,hc⟩|⟨z,k',hz,hk,hc⟩
     ·have:=H4.inj _ _ _ _ _ (rO (E:=E) (X:=X) (Y:=Y0) hk) (by rw[show(Y0.th k').wk=t'.c from hc.symm,ec];exact tK hj);cases this
     ·have:=H4.inj _ _ _ _ _ (xh (E:=E) (X:=X) (Y:=Y0) hz hk hc) (by rw[ec];exact tK hj);cases this;exact hz rfl
    have hg:=C.gn j hj;refine(I5 (Y:=Y0) o4 h4 hj KG hsW uq).trans fun m5 T5 hd=>?_;obtain⟨s0,iJ,o5,hB,hW0⟩:=hd;have LF:gb E Y0 (Tok.e_ bJ 0 (Y.th j).gn (some s0)):=by
     intro i s' e;unfold Tok.e_ at e;split at e
     ·cases e
     ·split at e
      ·cases e;exact .inr (.inl ⟨j,hj,hW0.c⟩)
      ·rcases C.only i s' e with⟨k',hk,hi,_,hc⟩|h3
       ·exact .inl ⟨k',hk,hi,hc⟩
       ·exact .inr (.inr h3)
    have NM:mZ E nb Y0 X j b x c csj:=Dq.eL ⟨rfl,rfl,rfl,rfl,rfl,rfl,rfl,rfl,rfl,rfl,rfl⟩;obtain⟨en,zh,Df⟩:=I.ended;have U9:=I7 (f:=xm) (st:=st) hj;rw[di]at U9;simp only[xm]at U9;have hsz:=I7 (f:=I6) (st:=st) hj;rw[di]at hsz;simp only[I6]at hsz;have ZF:=I.pot;have hIn:=I.n;have xi:=I.f0;have K:zx E PB nb fI Y0 X j b c:=⟨hj,(NM.e).1,(NM.e).2,I.q,I.q0 h0,WG,NL,⟨en,zh,by omega⟩,hok,I.db,by show Y.db.length / 8+c.sz≤1000000;omega,df⟩;have hp0:Tok.e_ bJ 0 (Y.th j).gn (some s0) 0=some s0:=Tok.pZ bJ (by omega) _;refine(Zn (p:=0) (t:=s0) B o5 LF hB NM K I.dJ I.tl (by have:=I.tlr;omega) (by omega) (by show Y.db.length / 8+7000+c.sz≤1000000;omega) ⟨en,zh,by omega⟩ I.mp I.n rfl hg.1 (by omega) hp0 hW0).trans fun m6 T6 hd=>?_;obtain⟨fS,N1,Y1,X1,l,r,c6,Y',X',arS,ZG,Yc,P3,o6,hB6,Qe⟩:=hd;obtain⟨iO,hds⟩:=ZG.Qd (st:=st);refine(Qc (R:=Y.R) o6 hB6 alQ).mono fun m7 T7 hd=>?_;obtain⟨fr7,o7,h7⟩:=hd;have QV:Y1.th j=Y0.th j∧Y1.dz j=Y0.dz j∧Y1.ts j=Y0.ts j∧X1.b5 j=X.b5 j:=by
     cases ZG with
     |gG _ _ _ _=>exact⟨rfl,rfl,rfl,rfl⟩
     |jn _ _=>exact⟨rfl,rfl,rfl,rfl⟩
     |go _ _ g=>have sm:=g.eL (i:=j) (by show j≠Y.n;omega);exact⟨sm.th,sm.dz,sm.ts,sm.b5.trans (upd_ne _ _ (by show j≠Y.n;omega))⟩
    have hC':Crew E nb N1 Y' X' c6 (upd iO j (l0 r)):=Crew.Lz (p:=0) (C.cp (j:=j) (r:=(gU Y (yv kd Y.n)).length) (WA:=WA) (cW:=cW) (RA:=RA) (cR:=cR)) hj di rfl hds ZG P3 WG NL (NM.e).2 (.inr QV);obtain⟨rX,hI'⟩:=I.Lz B hj di hds Yc P3;have hR:Y'.R=Y.R∧Y'.cp=Y0.cp:=by
     have kw:=P3.whole;cases ZG with
     |gG _ _ _ _=>exact⟨kw.R,kw.cp⟩
     |jn _ _=>exact⟨kw.R,kw.cp⟩
     |go _ _ g=>have gw:=g.whole;exact⟨kw.R.trans gw.R,kw.cp.trans gw.cp⟩
    have hwl:Y'.cp.length=Y.cp.length+1:=by rw[hR.2];show(Y.cp++[j]).length=_;simp
    exact .inr ⟨c6,N1,Y',X',_,rX,fr7,o7,by rw[hR.1];exact h7,hC',hI',.HN hj di hds Yc P3,hR.1,hwl,by omega⟩
theorem Cq.first{Y1 Y2:GS}{X1 X2:XS}{iO WI:dX}(h:Cq E nb bI Y1 X1 iO Y2 X2 WI)(m:Mv E nb bI Y X st Y1 X1 iO):Cq E nb bI Y X st Y2 X2 WI:=by
 induction h with
 |refl=>exact .step .refl m
 |step _ m2 ih=>exact .step ih m2
theorem afy(B:JH E PB nb fI bI)(j_:E.LB (E.x,.app 1 0)=none)(hm:cd≤65536):∀(d:Nat) {bJ:Nat->Option Tok.Seat} {N:Nat} {Y:GS} {X:XS} {st:dX} {cl:List Nat} {fr:Frame} {m:Machine} {T:Trace},(cd-Y.cp.length).toNat≤d->Zy E Y.R qg nH PA cP cK->Crew E nb N Y X bJ st->Inv PB nb fI Y X st cl->On E bJ 0 N Y X (G fr cs) m T->Gu Y.R cd (Lw qg nH) fr->(Y.cp.length:Int)≤cd->
  cm aa m T fun m' T'=>∃e c6 N' Y' X' fZ rX bT,On E c6 0 N' Y' X' (G bT cs) m' T'∧yw e true bT∧U8 X' fZ Y'.n Y'.cp.length cd e∧Crew E nb N' Y' X' c6 fZ∧Inv PB nb fI Y' X' fZ rX∧Cq E nb bI Y X st Y' X' fZ∧Y'.R=Y.R∧(Y'.cp.length:Int)≤cd:=by
 intro d
 induction d with
 |zero=>
  intro bJ N Y X st cl fr m T hd P C I o hf hw;refine(round B P C I o hf j_ hm hw).mono fun m1 T1 hr=>?_;rcases hr with⟨e,c9,o1,h1,he⟩|⟨c6,N',Y',X',fZ,rX,bT,o',h',C',I',mv,hR,hl,hle⟩
  ·exact⟨e,bJ,N,Y,X,st,cl,c9,o1,h1,he,C,I,.refl,rfl,hw⟩
  ·omega
 |succ d ih=>
  intro bJ N Y X st cl fr m T hd P C I o hf hw;refine(round B P C I o hf j_ hm hw).trans fun m1 T1 hr=>?_;rcases hr with⟨e,c9,o1,h1,he⟩|⟨c6,N',Y',X',fZ,rX,bT,o',h',C',I',mv,hR,hl,hle⟩
  ·exact cm.refl ⟨e,bJ,N,Y,X,st,cl,c9,o1,h1,he,C,I,.refl,rfl,hw⟩
  ·refine(ih (by omega) (by rw[hR];exact P) C' I' o' h' hle).mono fun m2 T2 hr2=>?_;obtain⟨e,UH,N2,Y2,X2,WI,cl2,iE,o2,h2,he,C2,I2,mvs,hR2,arT⟩:=hr2;exact⟨e,UH,N2,Y2,X2,WI,cl2,iE,o2,h2,he,C2,I2,mvs.first mv,hR2.trans hR,arT⟩
end
structure ZH(E:Wd)(X:XS)(FB nf:Nat):Prop where
 arr:nf≠0->∃k,E.LB (E.x,.app 3 0)=some (FB,k)∧∀i,i<nf->∃c:Nat->Nat,k.cell i=some (w_ .pM c)∧X.b5 i=some (c 11)∧X.b6 i=some (c 12,(i:Int))
abbrev U_(R:Nat)(cd:Int)(bs jL:Value)(fr:Frame):Prop:=FA kc 80 [.code (bQ Fn.M0)] [] .normal [(0,cb R),(1,iV cd),(2,bs),(3,jL)] fr
abbrev UHd(R:Nat)(cd:Int)(jL:Value)(FB nf cF i:Nat)(fr:Frame):Prop:=FA kc 80 uTd [] .normal [(0,cb R),(1,iV cd),(3,jL),(15,.slice (some ⟨FB,0,none⟩) nf cF),(16,iV nf),(17,iV i)] fr
abbrev UWt(R:Nat)(cd:Int)(jL:Value)(FB nf cF i:Nat)(fr:Frame):Prop:=FA kc 80 uWT [] .normal [(0,cb R),(1,iV cd),(3,jL),(15,.slice (some ⟨FB,0,none⟩) nf cF),(16,iV nf),(17,iV i)] fr
noncomputable def Qf(R:Nat)(cd:Int)(jL:Value)(FB nf cF i:Nat)(fv:Value)(Tb:Nat):cn:=gY [(1,nf),(5,i),(29,cF),(80,cd)] [(10,R),(14,Tb),(28,FB)] [(59,fv),(65,jL)]
section
variable {E:Wd}{PB nb fI N:Nat}{bI:List (List Sp)}{Y:GS}{X:XS}{st:dX}{cl:List Nat}{bJ:Nat->Option Tok.Seat}{cs:List Frame}{fr f37:Frame}{m:Machine}{T:Trace}{cd:Int}{jL:Value}{FB nf cF i R:Nat}
theorem LG{ρ:cn}(h1:ρ.i 1=nf)(h29:ρ.i 29=cF)(tH:ρ.i 80=cd)(zY:ρ.b 10=R)(h28:ρ.b 28=FB)(WD:ρ.v 65=jL){e:IE}{i:Nat}(he:e.ev ρ=i):uW.zip (AV.cf ρ ((uL e).map (·.2)))=[(0,cb R),(1,iV cd),(3,jL),(15,.slice (some ⟨FB,0,none⟩) nf cF),(16,iV nf),(17,iV i)]:=by simp only[uW,uL,nq,ah,ak,AV.cf,bF,i64,v,AV.ev,af,AA.ev,BR.ev,IE.ev,h1,h29,tH,zY,h28,WD,he,ap];rfl
theorem afA(o:On E bJ 0 N Y X (G fr cs) m T)(hf:U_ R cd (c_ nf FB cF) jL fr)(hn:nf≠0):
  cm aa m T fun m' T'=>∃bT,On E bJ 0 N Y X (G bT cs) m' T'∧UHd R cd jL FB nf cF 0 bT:=by
 obtain⟨w,A,H,hS⟩:=o;rw[cy (by omega)]at hf;refine(cQ (cC:=[]) (cs:=cs) A H hS [] [] (uIn (bU fr)) rfl rfl (UJ _ _) nU (ρ:=Qf R cd jL FB nf cF 0 undef 0) (hf.rel (.inl rfl) [(0,bF 10),(1,i64 (v 80)),(2,nq 28 1 29),(3,.ez 65)] rfl rfl) trivial (nofun) (nofun) (nofun) ai ai rfl).mono fun m1 T1 hd=>?_;obtain⟨w1,bW,c9,d9,C⟩:=hd;obtain rfl:=C.none;refine⟨c9,On.of C.eG (cU C.heap) hS,?_⟩;have:=C.fr;dsimp only at this;rw[LG (R:=R) (cd:=cd) (jL:=jL) (FB:=FB) (nf:=nf) (cF:=cF) (i:=0) (C.bE.ii 1) (C.bE.ii 29) (C.bE.ii 80) (C.bE.bb 10) (C.bE.bb 28) (congrFun C.bE.v 65) rfl]at this;exact this
theorem ZI(o:On E bJ 0 N Y X (G fr cs) m T)(hf:U_ R cd fO jL fr):
  cm aa m T fun m' T'=>∃bT,On E bJ 0 N Y X (G bT cs) m' T'∧Gu R cd jL bT:=by
 obtain⟨w,A,H,hS⟩:=o;refine(cQ (cC:=[]) (cs:=cs) A H hS [] [] (ard (bU fr)) rfl rfl (UJ _ _) nU (ρ:=Qf R cd jL 0 0 0 0 undef 0) (hf.rel (.inl rfl) [(0,bF 10),(1,i64 (v 80)),(2,eU),(3,.ez 65)] rfl rfl) trivial (nofun) (nofun) (nofun) ai ai rfl).mono fun m1 T1 hd=>?_;obtain⟨w1,bW,c9,d9,C⟩:=hd;obtain rfl:=C.none;have UX:bW.i 80=cd:=C.bE.ii 80;have mr:bW.b 10=R:=C.bE.bb 10;have Q6:bW.v 65=jL:=congrFun C.bE.v 65;refine⟨c9,On.of C.eG (cU C.heap) hS,?_⟩;have:=C.fr;simp only[G0,ah,ak,AV.cf,bF,i64,v,AV.ev,af,AA.ev,BR.ev,IE.ev,mr,UX,Q6]at this;exact this
theorem ZJ(o:On E bJ 0 N Y X (G fr cs) m T)(hf:UHd R cd jL FB nf cF nf fr):
  cm aa m T fun m' T'=>∃bT,On E bJ 0 N Y X (G bT cs) m' T'∧Gu R cd jL bT:=by
 obtain⟨w,A,H,hS⟩:=o;refine(cQ (cC:=[]) (cs:=cs) A H hS [] [] (uEn (bU fr)) rfl rfl (UK _) arj (ρ:=Qf R cd jL FB nf cF nf undef 0) (hf.rel (.inl rfl) (uL (v 5)) rfl rfl) trivial (fun p hp=>?_) (nofun) (nofun) ai ai rfl).mono fun m1 T1 hd=>?_
 ·obtain rfl:=ad.1 hp;show decide ((nf:Int)<(((nf:Nat):Int).toNat:Int))=false;exact decide_eq_false (by omega)
 obtain⟨w1,bW,c9,d9,C⟩:=hd;obtain rfl:=C.none;have UX:bW.i 80=cd:=C.bE.ii 80;have mr:bW.b 10=R:=C.bE.bb 10;have Q6:bW.v 65=jL:=congrFun C.bE.v 65;refine⟨c9,On.of C.eG (cU C.heap) hS,?_⟩;have:=C.fr;simp only[G0,ah,ak,AV.cf,bF,i64,v,AV.ev,af,AA.ev,BR.ev,IE.ev,mr,UX,Q6]at this;exact this
theorem Va{ρ:cn}{fv:Value}(zY:ρ.b 10=R)(h59:ρ.v 59=fv):w39.zip (AV.cf ρ ([bF 10,.ez 59]++(List.range 37).map fun _=>cx))=[(0,cb R),(1,fv)]++KT 2 37:=by
 have e1:(bF 10).ev ρ=cb R:=by simp only[bF,AV.ev,af,AA.ev,BR.ev,IE.ev,zY];rfl
 rw[fp];have e2:AV.cf ρ [bF 10,.ez 59]=[cb R,fv]:=by simp only[AV.cf,e1,AV.ev,h59]
 rw[e2];rfl
theorem afB{fv:Value}(o:On E bJ 0 N Y X (G fr cs) m T)(hf:UHd R cd jL FB nf cF i fr)(hi:i<nf){k:fK}(eF:E.LB (E.x,.app 3 0)=some (FB,k))(gF:k.cell i=some fv)(df:E.x≠E.a):
  cm aa m T fun m' T'=>∃bT f37,On E bJ 0 N Y X (G bT (f37::cs)) m' T'∧Ep R fv bT∧UWt R cd jL FB nf cF i f37:=by
 obtain⟨w,A,H,hS⟩:=o;have eF':E.de Y X (E.x,.app 3 0)=some (FB,k):=by unfold Wd.de;rw[ct rfl,lC df];exact eF
 refine(cQ (cC:=[]) (cs:=cs) A H hS [] [] (uGo (bU fr)) rfl rfl (UK _) arh (ρ:=Qf R cd jL FB nf cF i fv 0) (hf.rel (.inl rfl) (uL (v 5)) rfl rfl) trivial (fun p hp=>?_) (fun p hp=>?_) (nofun) ai ai rfl).mono fun m1 T1 hd=>?_
 ·simp only[uBs,ac,ae,or_false]at hp;rcases hp with rfl|rfl
  ·show decide ((i:Int)<(((nf:Nat):Int).toNat:Int))=true;exact decide_eq_true (by omega)
  ·show decide ((0:Int)≤(i:Int))=true;exact decide_eq_true (by omega)
 ·obtain rfl:=ad.1 hp;refine .inl ⟨_,_,eF',by simp,?_⟩;show k.cell (((i:Int).toNat:Int).toNat)=some fv;rw[ap,ap];exact gF
 obtain⟨w1,bW,c9,d9,C⟩:=hd;obtain⟨g37,rfl,ZA⟩:=C.one;refine⟨c9,g37,On.of C.eG (cU C.heap) hS,?_,?_⟩
 ·have:=C.fr;dsimp only at this;rw[Va (R:=R) (fv:=fv) (C.bE.bb 10) (congrFun C.bE.v 59)]at this;exact this
 ·dsimp only at ZA;rw[show IQ uW kc=uW from rfl,LG (R:=R) (cd:=cd) (jL:=jL) (FB:=FB) (nf:=nf) (cF:=cF) (i:=i) (C.bE.ii 1) (C.bE.ii 29) (C.bE.ii 80) (C.bE.bb 10) (C.bE.bb 28) (congrFun C.bE.v 65) (show(v 5).ev bW=i from C.bE.ii 5)]at ZA;exact ZA
theorem Vb{Tb:Nat}(o:On E bJ 0 N Y X (G fr (f37::cs)) m T)(hf:BY Tb fr)(Dr:UWt R cd jL FB nf cF i f37)(hi:i≤1000000):
  cm aa m T fun m' T'=>∃bT,On E bJ 0 N Y X (G bT cs) m' T'∧UHd R cd jL FB nf cF (i+1) bT:=by
 obtain⟨w,A,H,hS⟩:=o;have iw:c8 aa (Qf R cd jL FB nf cF i undef Tb) [uWa (bU f37)] [f37]:=⟨Dr.rel (.inl rfl) (uL (v 5)) rfl rfl,trivial⟩;refine(cQ (cC:=[f37]) (cs:=cs) A H hS [] [] (uBk (bU fr) (bU f37)) rfl rfl (afe _ _) nU (ρ:=Qf R cd jL FB nf cF i undef Tb) (hf.rel (.inl rfl) [(4,bF 14)] rfl rfl) iw (nofun) (nofun) (nofun) ai ai rfl).mono fun m1 T1 hd=>?_;obtain⟨w1,bW,c9,d9,C⟩:=hd;obtain rfl:=C.none;refine⟨c9,On.of C.eG (cU C.heap) hS,?_⟩;have:=C.fr;dsimp only at this;have z5:bW.i 5=i:=C.bE.ii 5;rw[LG (R:=R) (cd:=cd) (jL:=jL) (FB:=FB) (nf:=nf) (cF:=cF) (i:=i+1) (C.bE.ii 1) (C.bE.ii 29) (C.bE.ii 80) (C.bE.bb 10) (C.bE.bb 28) (congrFun C.bE.v 65) (by show o0 .add .i64 (bW.i 5) 1=_;rw[z5];exact add_one hi)]at this;exact this
theorem ZK(B:JH E PB nb fI bI)(vB:nf≠0->∀X':XS,X'.s.q=X.s.q->X'.s.q[0]?=some (.slice (some ⟨PB,0,none⟩) nb fI))(WJ:nf≤nb)(afC:nf≤64)(F:ZH E X FB nf):∀(d i:Nat) {bJ:Nat->Option Tok.Seat} {N:Nat} {Y:GS} {X':XS} {st:dX} {fr:Frame} {m:Machine} {T:Trace},i+d=nf->Y.n=i->Y.R=R->Y.cp=[]->X'.s.q=X.s.q->(∀k,i≤k->X'.b5 k=X.b5 k∧X'.b6 k=X.b6 k)->Crew E nb N Y X' bJ st->Inv PB nb fI Y X' st cl->On E bJ 0 N Y X' (G fr cs) m T->UHd R cd jL FB nf cF i fr->
  cm aa m T fun m' T'=>∃c6 N' Y' P4 fZ bT,On E c6 0 N' Y' P4 (G bT cs) m' T'∧Gu R cd jL bT∧Crew E nb N' Y' P4 c6 fZ∧Inv PB nb fI Y' P4 fZ cl∧Cq E nb bI Y X' st Y' P4 fZ∧Y'.R=R∧Y'.cp=[]∧Y'.n=nf:=by
 intro d
 induction d with
 |zero=>
  intro i bJ N Y X' st fr m T hd hYn hR hw hq hb C I o hf;obtain rfl:i=nf:=by omega
  refine(ZJ o hf).mono fun m1 T1 xy=>?_;obtain⟨c9,o1,h1⟩:=xy;exact⟨bJ,N,Y,X',st,c9,o1,h1,C,I,.refl,hR,hw,hYn⟩
 |succ d ih=>
  intro i bJ N Y X' st fr m T hd hYn hR hw hq hb C I o hf;obtain⟨k,eF,gF⟩:=F.arr (by omega);obtain⟨c,gc,WG,hb6⟩:=gF i (by omega);have di:bJ 0=none:=by obtain⟨w,A,_⟩:=o;exact A.wI
  have hN0:0<N:=by obtain⟨w,A,_⟩:=o;exact A.dU
  have dU:∀i s,bJ i=some s->i<N:=by obtain⟨w,A,_⟩:=o;exact fun i s e=>A.lt e
  refine(afB o hf (by omega) eF gc B.ne).trans fun m1 T1 xy=>?_;obtain⟨c9,f37,o1,h1,Dr⟩:=xy;have LF:gb E Y bJ:=fun i s e=>by
   rcases C.only i s e with⟨k',hk,hi,_,hc⟩|h3
   ·exact .inl ⟨k',hk,hi,hc⟩
   ·exact .inr (.inr h3)
  have alT:=vB (by omega) X' hq;obtain⟨en,zh,Df⟩:=I.ended;have xi:=I.f0;have ZF:=I.pot;have jC:Y.db.length / 8+6002≤1000000:=by rw[hw,List.length_nil]at ZF;omega
  refine(Ch (c:=c) B o1 LF (by rw[hR];exact h1) (k:=some i) ⟨rfl,by rw[hYn,(hb i (aq _)).1];exact WG,by rw[hYn,(hb i (aq _)).2];exact hb6⟩ (fun i' e=>by cases e;omega) (by omega) I.dJ I.q alT ⟨en,zh,by omega⟩ (by omega) I.db jC).trans fun m2 T2 Kf=>?_;obtain⟨UH,Y2,X2,iE,o2,h2,UI,q_⟩:=Kf;obtain⟨nw,afD⟩:=UI.Qd;refine(Vb o2 h2 Dr (by omega)).trans fun m3 T3 hd3=>?_;obtain⟨kH,o3,h3⟩:=hd3;have C2:Crew E nb (N+1) Y2 X2 UH (upd st Y.n nw):=C.begun afD hN0 di dU fun j hj e=>by have:=(C.gn j hj).1;omega
  have I2:=I.begun B (by omega) alT afD;have w2:=UI.whole;have n2:=UI.n;refine(ih (i+1) (by omega) (by omega) (w2.R.trans hR) (w2.cp.trans hw) (w2.q.trans hq) (fun k hk=>?_) C2 I2 o3 h3).mono fun m4 T4 hd4=>?_
  ·have sm:=UI.eL (i:=k) (by omega);rw[sm.b5,sm.b6];exact hb k (by omega)
  obtain⟨ZL,N4,Y4,X4,st4,zV,o4,h4,C4,I4,mv4,hR4,hw4,hn4⟩:=hd4;exact⟨ZL,N4,Y4,X4,st4,zV,o4,h4,C4,I4,mv4.first (.beg (by omega) afD),hR4,hw4,hn4⟩
end
end Go.Proofs.Ythaddgfbohmfoaa
namespace Go.Proofs.Ythaddgfbohmfoaa
open Go.Proofs.Ythaddgfbohmfoaa.SX Go.Conc
abbrev ft:Nat:=39
noncomputable def iL(z:Bool)(b n c:Nat):AV:=Bool.rec (nq b n c) eU z
noncomputable def arX(l:List Nat)(f:FuncId):List Nat:=Bool.rec [] l (Nat.beq f 39)
noncomputable def tN:List AV:=[i8 (.lit 0),i64 (.lit 0),eU,eU,eU,eU,eU]
noncomputable def eE(st:Nat->Value):bH:=⟨mH,48,bZ 48 st [(0,bF 10),(1,i8 (v 81))],[.code (bQ Fn.report)],[],.run,.normal⟩
noncomputable def afG:List Item:=[.inRegion (fP (pc (bQ Fn.report) [1,0])) [1,2],.code (pc (bQ Fn.report) [1,1])]
noncomputable def ZM(b:Nat):List (Nat×AV):=[(0,bF 10),(1,i8 (v 81)),(4,bF b)]
noncomputable def l1B:Code:=pc (bQ Fn.rk) [1,1,0,1,0,0]
noncomputable def l1T:List Item:=[.code l1B,.inLoop l1B,.inBlock 0,.code (pc (bQ Fn.rk) [1,1,1])]
noncomputable def l1L(z:Bool)(i:IE):List (Nat×AV):=[(0,bF 10),(3,iL z 34 70 71),(14,nq 20 1 22),(15,i64 (.tn (v 1))),(16,i64 i)]
noncomputable def l1W:List Nat:=[0,3,14,15,16]
theorem eIn(st:Nat->Value):c7 (cO [] aM0 28 [100] (cJ (eE st) [] [])) l1W (arX [0,1,4])=some (⟨rY,89,l1T,[],.run,.normal,[],[(100,.cells tN ft)],(l1L true (.lit 0)).map (·.2)⟩,[⟨mH,48,afG,[],.run,.normal,[],[],(ZM 100).map (·.2)⟩]):=by kernel_rfl
theorem afI(st:Nat->Value):bR 100 (cJ (eE st) [] [])=true:=by kernel_rfl
inductive su where
 |ended|go|gP|sq
 deriving DecidableEq
def su.on:su->Bool
 |.ended=>false
 |_=>true
noncomputable def alV:List AV:=[i64 (v 2),i8 (v 3),i64 (.lit (-1)),i64 (v 4),i64 (v 12),i64 (.lit 0),i64 (.lit 0),ff]
noncomputable def l5:su->List AV
 |.gP=>[i64 (v 2),i8 (v 3),i64 (v 6),i64 (v 4),i64 (v 12),i64 (v 8),i64 (v 8),ff]
 |.sq=>[i64 (v 2),i8 (v 3),i64 (.lit (-1)),i64 (v 4),i64 (v 12),i64 (v 8),i64 (v 8),ff]
 |_=>alV
noncomputable def alW(k:su):List (AA×AV):=[(⟨.cN 20,.tn (v 5)⟩,bF 14),(⟨.cN 14,.lit 13⟩,tr (!k.on))]
noncomputable def alX:List (AA×AV):=[(⟨.cN 14,.lit 5⟩,i64 (v 2)),(⟨.cN 14,.lit 6⟩,i8 (v 3)),(⟨.cN 14,.lit 7⟩,i64 (.lit (-1))),(⟨.cN 14,.lit 8⟩,i64 (v 4)),(⟨.cN 14,.lit 9⟩,i64 (v 12)),(⟨.cN 14,.lit 10⟩,i64 (.lit 0)),(⟨.cN 14,.lit 11⟩,i64 (.lit 0)),(⟨.cN 14,.lit 12⟩,ff)]
noncomputable def afJ:su->List (AA×AV)
 |.ended=>[]
 |.go=>[(⟨.cN 14,.lit 4⟩,.ptr none)]
 |_=>[(⟨.cN 14,.lit 4⟩,Gn),(⟨.cN 13,v 9⟩,i64 (v 8)),(⟨.cN 10,.lit 1⟩,Pk 15)]
noncomputable def lfM(k:su):List (AA×AV):=alW k++(Bool.rec [] alX k.on)++afJ k
noncomputable def ZN(z:Bool)(k:su):List (BE×Bool):=[(.cmp .lss (v 5) (.tn (v 1)),true),(.cmp .leq (.lit 0) (v 5),true)]++match z,k.on with
 |false,true=>[(.cmp .leq (.plus (.tn (v 70)) (.lit 1)) (.lit 1048576),true)]
 |_,_=>[]
noncomputable def alY:su->List (Nat×bM)
 |.gP=>[(15,.iY 48 (v 11) [(tz,some (i64 (v 6)))] [])]
 |.sq=>[(15,.iY 48 (v 11) [(tz,none)] [])]
 |_=>[]
noncomputable def afK(z:Bool)(k:su):List (Nat×bM):=alY k++match z,k.on with
 |false,true=>[(34,.cH false 42 (v 70) [] [] [] dQ (v 71))]
 |_,_=>[]
noncomputable def acl(z:Bool)(k:su):List (Nat×bM):=(match k.on,z with
 |true,true=>[(102,.row (l5 k) dQ (v 102)),(101,.cells (l5 k) dQ),(100,.cells (l5 k) dQ)]
 |true,false=>[(102,.cH false 42 (v 70) [] [] (l5 k) dQ (v 102)),(101,.cells (l5 k) dQ),(100,.cells (l5 k) dQ)]
 |false,_=>[])++alY k
noncomputable def Vc(z:Bool)(k:su):AV:=match k.on,z with
 |true,true=>.slice (some ⟨.cN 102,.lit 0⟩) (.lit 1) (v 102)
 |true,false=>.slice (some ⟨.cN 102,.lit 0⟩) (.plus (.tn (v 70)) (.lit 1)) (v 102)
 |false,z=>iL z 34 70 71
def lfN:su->Nat
 |.ended=>30
 |.go=>58
 |.gP=>100
 |.sq=>96
def lfK:su->List Nat
 |.ended=>[]
 |.go=>[102,101,100]
 |_=>[102,101,100,15]
noncomputable def l1H(z:Bool)(st:Nat->Value):bH:=⟨rY,89,bZ 89 st (l1L z (v 5)),l1T,[],.run,.normal⟩
theorem arY(z:Bool)(k:su)(st:Nat->Value):c7 (cO (ZN z k) (lfM k) (lfN k) (lfK k) (cJ (l1H z st) [] (afK z k))) l1W Ci=some (⟨rY,89,l1T,[],.run,.normal,[],acl z k,[bF 10,Vc z k,nq 20 1 22,i64 (.tn (v 1)),i64 (.op .add .i64 (v 5) (.lit 1))]⟩,[]):=by cases z<;>cases k<;>kernel_rfl
theorem ZO(z:Bool)(k:su)(st:Nat->Value):bR 100 (cJ (l1H z st) [] (afK z k))=true:=by cases z<;>cases k<;>kernel_rfl
theorem alZ(z:Bool)(k:su):(OO (ZN z k) [] (lfM k)).low 100=true:=by cases z<;>cases k<;>kernel_rfl
noncomputable def l2B:Code:=pc (bQ Fn.rk) [1,1,1,1,0,1,0,0]
noncomputable def l2K:List Item:=[.inLoop l2B,.inBlock 2,.code (pc (bQ Fn.rk) [1,1,1,1,1])]
noncomputable def l2T:List Item:=.code l2B::l2K
noncomputable def LH(z:Bool)(i:IE):List (Nat×AV):=[(0,bF 10),(3,iL z 34 70 71),(9,i64 i)]
noncomputable def l2W:List Nat:=[0,3,9]
noncomputable def I8(s:Bool):List AV:=[nq 20 1 22,Pk 15,.ez 62,.ez 63,.ez 64,.ez 65,tr s]
noncomputable def afN(s:Bool):List (Nat×bM):=[(10,.cells (I8 s) gK)]
theorem arZ(z:Bool)(st:Nat->Value):c7 (cO Gp [] 21 [10] (cJ (l1H z st) [] (afN false))) l2W Ci=some (⟨rY,89,l2T,[],.run,.normal,[],afN true,(LH z (.lit 0)).map (·.2)⟩,[]):=by cases z<;>kernel_rfl
theorem ZP(z:Bool)(st:Nat->Value):bR 100 (cJ (l1H z st) [] (afN false))=true:=by cases z<;>kernel_rfl
noncomputable def l2H(z:Bool)(st:Nat->Value):bH:=⟨rY,89,bZ 89 st (LH z (v 5)),l2T,[],.run,.normal⟩
noncomputable def l2M(e:Bool):List (AA×AV):=[(⟨.cN 10,.lit 0⟩,nq 20 1 22),(⟨.cN 20,.tn (v 5)⟩,bF 14),(⟨.cN 14,.lit 13⟩,tr e)]++Bool.rec [(⟨.cN 14,.lit 2⟩,uS 26)] [] e
noncomputable def LI:List (BE×Bool):=[(.cmp .lss (v 5) (.tn (v 1)),true),(.cmp .leq (.lit 0) (v 5),true)]
theorem ar0(z:Bool)(st:Nat->Value):c7 (cO LI (l2M true) 43 [] (cJ (l2H z st) [] [])) l2W Ci=some (⟨rY,89,l2T,[],.run,.normal,[],[],(LH z (.op .add .i64 (v 5) (.lit 1))).map (·.2)⟩,[]):=by cases z<;>kernel_rfl
noncomputable def afQ:List Item:=[.inRegion (fP (pc (bQ Fn.rk) [1,1,1,1,0,1,0,0,1,0,0,1,1,0])) [1],.inBlock 3,.code (pc (bQ Fn.rk) [1,1,1,1,0,1,0,0,1,1])]++l2K
noncomputable def ar1(l:List Nat)(f:FuncId):List Nat:=Bool.rec [] l (Nat.beq f 64)
theorem ar2(z:Bool)(st:Nat->Value):c7 (cO LI (l2M false) 45 [] (cJ (l2H z st) [] [])) [0,5,6] (ar1 l2W)=some (⟨wV,12,gsT,[],.run,.normal,[],[],[bF 14,uS 26,UN]⟩,[⟨rY,89,afQ,[],.run,.normal,[],[],(LH z (v 5)).map (·.2)⟩]):=by cases z<;>kernel_rfl
theorem Vd(z:Bool)(st:Nat->Value):bR 100 (cJ (l2H z st) [] [])=true:=by cases z<;>kernel_rfl
theorem al2(e:Bool):(OO LI [] (l2M e)).low 100=true:=by cases e<;>kernel_rfl
noncomputable def l2F(z:Bool)(st:Nat->Value):bH:=⟨rY,89,bZ 89 st (LH z (v 5)),afQ,[],.run,.normal⟩
theorem ar4(z:Bool)(s1 s2:Nat->Value):c7 (cO [] [] 11 [] (cJ (gbF s1) [l2F z s2] [])) l2W Ci=some (⟨rY,89,l2T,[],.run,.normal,[],[],(LH z (.op .add .i64 (v 5) (.lit 1))).map (·.2)⟩,[]):=by cases z<;>kernel_rfl
theorem ZQ(z:Bool)(s1 s2:Nat->Value):bR 100 (cJ (gbF s1) [l2F z s2] [])=true:=by cases z<;>kernel_rfl
noncomputable def afR(st:Nat->Value):bH:=⟨mH,48,bZ 48 st (ZM 82),afG,[],.run,.normal⟩
noncomputable def feB:Code:=pc (bQ Fn.report) [1,1,1,0,1,0,0]
noncomputable def feT:List Item:=[.code feB,.inLoop feB,.inBlock 0,.code (pc (bQ Fn.report) [1,1,1,1])]
noncomputable def feL(z zf:Bool)(i:IE):List (Nat×AV):=[(0,bF 10),(1,i8 (v 81)),(4,bF 82),(5,iL z 34 70 71),(6,iL zf 35 72 73),(14,nq 21 1 23),(15,i64 (.tn (v 1))),(16,i64 i)]
noncomputable def feW:List Nat:=[0,1,4,5,6,14,15,16]
noncomputable def afT:List (AA×AV):=[(⟨.cN 10,.lit 0⟩,nq 20 1 22),(⟨.cN 10,.lit 5⟩,nq 21 1 23)]
theorem ar5(z:Bool)(s1 s2:Nat->Value):c7 (cO Gp afT 38 [] (cJ (l2H z s1) [afR s2] [])) feW Ci=some (⟨mH,48,feT,[],.run,.normal,[],[],(feL z true (.lit 0)).map (·.2)⟩,[]):=by cases z<;>kernel_rfl
theorem ZR(z:Bool)(s1 s2:Nat->Value):bR 100 (cJ (l2H z s1) [afR s2] [])=true:=by cases z<;>kernel_rfl
theorem al3:(OO Gp [] afT).low 100=true:=by kernel_rfl
noncomputable def feH(z zf:Bool)(st:Nat->Value):bH:=⟨mH,48,bZ 48 st (feL z zf (v 5)),feT,[],.run,.normal⟩
noncomputable def feM(k:Bool):List (AA×AV):=[(⟨.cN 21,.tn (v 5)⟩,tr k)]
noncomputable def afU(zf k:Bool):List (BE×Bool):=LI++match zf,k with
 |false,true=>[(.cmp .leq (.plus (.tn (v 72)) (.lit 1)) (.lit 1048576),true)]
 |_,_=>[]
noncomputable def afV(zf k:Bool):List (Nat×bM):=match zf,k with
 |false,true=>[(35,.cH false 43 (v 72) [] [] [] ke (v 73))]
 |_,_=>[]
noncomputable def acm(zf k:Bool):List (Nat×bM):=match k,zf with
 |true,true=>[(101,.row [i64 (v 5)] ke (v 101)),(100,.cells [i64 (v 5)] ke)]
 |true,false=>[(101,.cH false 43 (v 72) [] [] [i64 (v 5)] ke (v 101)),(100,.cells [i64 (v 5)] ke)]
 |false,_=>[]
noncomputable def ZS(zf k:Bool):AV:=match k,zf with
 |true,true=>.slice (some ⟨.cN 101,.lit 0⟩) (.lit 1) (v 101)
 |true,false=>.slice (some ⟨.cN 101,.lit 0⟩) (.plus (.tn (v 72)) (.lit 1)) (v 101)
 |false,zf=>iL zf 35 72 73
def feN:Bool->Nat
 |true=>35
 |false=>29
def feK:Bool->List Nat
 |true=>[101,100]
 |false=>[]
theorem ar6(z zf k:Bool)(st:Nat->Value):c7 (cO (afU zf k) (feM k) (feN k) (feK k) (cJ (feH z zf st) [] (afV zf k))) feW Ci=some (⟨mH,48,feT,[],.run,.normal,[],acm zf k,[bF 10,i8 (v 81),bF 82,iL z 34 70 71,ZS zf k,nq 21 1 23,i64 (.tn (v 1)),i64 (.op .add .i64 (v 5) (.lit 1))]⟩,[]):=by cases z<;>cases zf<;>cases k<;>kernel_rfl
theorem ZT(z zf k:Bool)(st:Nat->Value):bR 100 (cJ (feH z zf st) [] (afV zf k))=true:=by cases z<;>cases zf<;>cases k<;>kernel_rfl
theorem al4(zf k:Bool):(OO (afU zf k) [] (feM k)).low 100=true:=by cases zf<;>cases k<;>kernel_rfl
noncomputable def reM(y lg:Bool):List (AA×AV):=[(⟨.cN 10,.lit 2⟩,iL lg 39 36 38),(⟨.cN 10,.lit 3⟩,iL y 23 6 25),(⟨.cN 10,.lit 4⟩,iL y 24 6 26)]
noncomputable def LJ(z zf y lg:Bool):List AV:=[i8 (v 81),i64 (Gq y),iL lg 39 36 38,iL y 23 6 25,iL y 24 6 26,iL z 34 70 71,iL zf 35 72 73]
noncomputable def afW:List Item:=[.inRegion (fP (pc (bQ Fn.run) [1,1,1,1,0])) [2,3],.code (pc (bQ Fn.run) [1,1,1,1,1])]
noncomputable def Qg(st:Nat->Value):bH:=⟨wT,30,bZ 30 st [(6,bF 84)],afW,[],.run,.normal⟩
noncomputable def al5:List (Nat×bM):=[(84,.cells tN ft),(82,.cells tN ft)]
noncomputable def al6(z zf y lg:Bool):List (Nat×bM):=[(84,.cells (LJ z zf y lg) ft),(82,.cells (LJ z zf y lg) ft)]
theorem ar8(z zf y lg:Bool)(s1 s2:Nat->Value):c7 (cO Gp (reM y lg) 13 [84,82] (cJ (feH z zf s1) [Qg s2] al5)) [6] Ci=some (⟨wT,30,[.code .ret],[],.run,.normal,[],al6 z zf y lg,[bF 84]⟩,[]):=by cases z<;>cases zf<;>cases y<;>cases lg<;>kernel_rfl
theorem ZU(z zf:Bool)(s1 s2:Nat->Value):bR 100 (cJ (feH z zf s1) [Qg s2] al5)=true:=by cases z<;>cases zf<;>kernel_rfl
theorem al7(y lg:Bool):(OO Gp [] (reM y lg)).low 100=true:=by cases y<;>cases lg<;>kernel_rfl
inductive MoK where
 |low|is|high
 deriving DecidableEq
noncomputable def moA:MoK->IE
 |.low=>.lit 0
 |.is=>v 86
 |.high=>.lit 65536
noncomputable def ZV(k:MoK):List (BE×Bool):=match k with
 |.low=>[(.cmp .lss (v 86) (.lit 0),true)]
 |.is=>[(.cmp .lss (v 86) (.lit 0),false),(.cmp .lss (.lit 65536) (v 86),false)]
 |.high=>[(.cmp .lss (v 86) (.lit 0),false),(.cmp .lss (.lit 65536) (v 86),true)]
noncomputable def ZW(zb:Bool)(k:MoK):List (BE×Bool):=ZV k++Bool.rec [(.cmp .gtr (.tn (v 1)) (.lit 64),false)] [] zb
noncomputable def ruE(zp zb:Bool)(st:Nat->Value):bH:=⟨wT,30,bZ 30 st [(0,iL zp 60 61 62),(1,i64 (v 86)),(2,iL zb 28 1 29)],[.code (bQ Fn.run)],[],.run,.normal⟩
noncomputable def afX(m:Nat):List AV:=[eU,Pk m,eU,eU,eU,eU,ff]
noncomputable def ar'(zp:Bool):List (Nat×bM):=[(104,.cells [bF 103] wW),(103,.cells (afX 102) gK),(102,.map []),(101,.cells tN ft),(100,.cells [iL zp 60 61 62] 37)]
noncomputable def afY:List Item:=[.inRegion (fP (pc (bQ Fn.run) [1,1,1,0])) [6,7,8,9,10,11],.code (pc (bQ Fn.run) [1,1,1,1])]
noncomputable def al8(l:List Nat)(f:FuncId):List Nat:=Bool.rec [] l (Nat.beq f 12)
noncomputable def acn:AV:=.func (.func oO) [] [bF 100,bF 104]
theorem asa(zp zb:Bool)(k:MoK)(st:Nat->Value):c7 (cO (ZW zb k) [] 31 [104,103,102,101,100] (cJ (ruE zp zb st) [] [])) [0,1,2,3] (al8 [6,7])=some (⟨kc,80,[.code (bQ Fn.M0)],[],.run,.normal,[],ar' zp,[bF 103,i64 (moA k),iL zb 28 1 29,acn]⟩,[⟨wT,30,afY,[],.run,.normal,[],[],[bF 101,bF 104]⟩]):=by cases zp<;>cases zb<;>cases k<;>kernel_rfl
theorem ZX(zp zb:Bool)(st:Nat->Value):bR 100 (cJ (ruE zp zb st) [] [])=true:=by cases zp<;>cases zb<;>kernel_rfl
theorem al9(zb:Bool)(k:MoK):(OO (ZW zb k) [] []).low 100=true:=by cases zb<;>cases k<;>kernel_rfl
noncomputable def afZ(st:Nat->Value):bH:=⟨wT,30,bZ 30 st [(6,bF 84),(7,bF 83)],afY,[],.run,.normal⟩
noncomputable def tlR(st:Nat->Value)(k:List Item):bH:=⟨kc,80,bZ 80 st [(8,i8 (v 81)),(9,TB)],.code .ret::k,[],.run,.normal⟩
noncomputable def al_:List (AA×AV):=[(⟨.cN 83,.lit 0⟩,bF 10)]
theorem asb(s1 s2:Nat->Value)(k:List Item):c7 (cO [] al_ 13 [] (cJ (tlR s1 k) [afZ s2] [])) [0,1] (al8 [6])=some (⟨mH,48,[.code (bQ Fn.report)],[],.run,.normal,[],[],[bF 10,i8 (v 81)]⟩,[⟨wT,30,afW,[],.run,.normal,[],[],[bF 84]⟩]):=by kernel_rfl
theorem ZY(s1 s2:Nat->Value)(k:List Item):bR 100 (cJ (tlR s1 k) [afZ s2] [])=true:=by kernel_rfl
theorem al':(OO [] [] al_).low 100=true:=by kernel_rfl
noncomputable def af0(s:Bool)(x:List AV):List (Nat×bM):=[(84,.cells x ft),(10,.cells [eU,Pk 15,eU,eU,eU,eU,tr s] gK)]
noncomputable def nbV:List AV:=[i8 (v 81),i64 (.lit 0),eU,eU,eU,eU,eU]
theorem asc(s1 s2:Nat->Value):c7 (cO [] [] 100 [100,84,10] (cJ (eE s1) [Qg s2] (af0 false tN))) [6] Ci=some (⟨wT,30,[.code .ret],[],.run,.normal,[],(100,.cells nbV ft)::af0 true nbV,[bF 84]⟩,[]):=by kernel_rfl
theorem ZZ(s1 s2:Nat->Value):bR 100 (cJ (eE s1) [Qg s2] (af0 false tN))=true:=by kernel_rfl
end Go.Proofs.Ythaddgfbohmfoaa
namespace Go.Proofs.Ythaddgfbohmfoaa
open Go.Proofs.Ythaddgfbohmfoaa.SX Go.Conc
open Go.ConcN (upd upd_ne upd_same)
open Go.Proofs.Try renaming prog->aa
open _root_.List renaming mem_cons->ac,mem_singleton->ad,not_mem_nil->ae,map_cons->ah,nodup_nil->ai,map_nil->ak,find?_cons->aw,mem_append->ay,cons_append->az,nil_append->aA,length_append->aD,length_pos_iff->aG,mem_map->aJ,append_nil->aX,getElem?_map->aZ,getElem?_range->bn
open _root_.Option renaming map_some->af
open _root_.Int renaming toNat_natCast->ap
open _root_.Nat renaming le_refl->aq,lt_succ_iff_lt_or_eq->aV
def Wd.put(E:Wd)(k:Nat)(o:Option (Nat×fK)):Wd:={E with LB:=fun r=>if r=(E.x,.app 1 k)then o else E.LB r}
theorem mJ{E:Wd}{k:Nat}{o:Option (Nat×fK)}{Y:GS}{X:XS}{r:cD}(h:r≠(E.x,.app 1 k)):(E.put k o).de Y X r=E.de Y X r:=by unfold Wd.de;show ci E.x Y (dM E.a X (E.put k o).LB) r=ci E.x Y (dM E.a X E.LB) r;have e:dM E.a X (E.put k o).LB r=dM E.a X E.LB r:=my (if_neg h);unfold ci;rw[e]
theorem yy{E:Wd}{k:Nat}{o:Option (Nat×fK)}{Y:GS}{X:XS}(df:E.x≠E.a):(E.put k o).de Y X (E.x,.app 1 k)=o:=by unfold Wd.de;rw[ct rfl];show dM E.a X (E.put k o).LB _=_;rw[lC df];exact if_pos rfl
theorem EK{E:Wd}{k:Nat}{o o':Option (Nat×fK)}{Y:GS}{X:XS}{bJ:Nat->Option Tok.Seat}(hS:cw ((E.put k o).de Y X) bJ):cw ((E.put k o').de Y X) bJ:=fun b n hs=>by
 obtain⟨r,q,h1,h2⟩:=hS b n hs;have hr:r≠(E.x,.app 1 k):=fun e=>by
  subst e;rcases h2 with h2|h2
  ·cases h2.1
  ·cases h2
 exact⟨r,q,by rw[mJ hr]at h1⊢;exact h1,h2⟩
theorem EL{E:Wd}{k:Nat}{o:Option (Nat×fK)}{Y:GS}{X:XS}{bJ:Nat->Option Tok.Seat}(hS:cw (E.de Y X) bJ):cw ((E.put k o).de Y X) bJ:=fun b n hs=>by
 obtain⟨r,q,h1,h2⟩:=hS b n hs;have hr:r≠(E.x,.app 1 k):=fun e=>by
  subst e;rcases h2 with h2|h2
  ·cases h2.1
  ·cases h2
 exact⟨r,q,by rw[mJ hr];exact h1,h2⟩
theorem qM.put{E:Wd}{k:Nat}{o:Option (Nat×fK)}{bv:Value}{i:Nat}{l:List Sp}(df:E.x≠E.a)(h:qM E.LB E.a bv i l):qM (E.put k o).LB E.a bv i l:=by
 rcases h with h|⟨SB,off,n,cap,r,kk,h1,h2,h3,h4,h5,h6⟩
 ·exact .inl h
 ·exact .inr ⟨SB,off,n,cap,r,kk,h1,h2,h3,h4,(if_neg (by simp)).trans h5,h6⟩
theorem uy.put{E:Wd}{k:Nat}{o:Option (Nat×fK)}{S b:Nat}{t:FU}{b8:Option Nat}{c:Ct}{kd:Bool}{cs:List Frame}(df:E.x≠E.a)(h:uy E.LB E.a S t b b8 c kd cs):uy (E.put k o).LB E.a S t b b8 c kd cs:=by
 cases c with
 |run l held ds up=>
  cases held with
  |false=>obtain⟨h0,SB,off,n,cap,i,f67,io,h1,h2,h3⟩:=h;exact⟨h0,SB,off,n,cap,i,f67,io,h1,h2.put df,h3⟩
  |true=>obtain⟨h0,SB,off,n,cap,i,f81,f67,io,B,h1,h2,h3⟩:=h;exact⟨h0,SB,off,n,cap,i,f81,f67,io,B,h1,h2.put df,h3⟩
 |uj fq ds up=>exact h
 |ky fq=>exact h
theorem mZ.put{E:Wd}{k:Nat}{o:Option (Nat×fK)}{nb j b:Nat}{Y:GS}{X:XS}{x:Sp}{c:Ct}{cs:List Frame}(df:E.x≠E.a)(h:mZ E nb Y X j b x c cs):mZ (E.put k o) nb Y X j b x c cs:=by
 rcases h with⟨h1,h2,h3,h4,kd,f11,f80,io,AB,BX,l,g1,g2,g3,g4,g5,g6,g7⟩|⟨h1,h2,kk,kd,f46,f80,io,AB,B1,B2,g1,g2,g3,g4,g5,g6,g7,g8⟩
 ·exact .inl ⟨h1,h2,h3,h4,kd,f11,f80,io,AB,BX,l,g1,g2,g3,g4,g5,g6,uy.put df g7⟩
 ·exact .inr ⟨h1,h2,kk,kd,f46,f80,io,AB,B1,B2,g1,g2,g3,g4,g5,g6,g7,uy.put df g8⟩
theorem Crew.put{E:Wd}{k:Nat}{o:Option (Nat×fK)}{nb N:Nat}{Y:GS}{X:XS}{bJ:Nat->Option Tok.Seat}{st:dX}(df:E.x≠E.a)(C:Crew E nb N Y X bJ st):Crew (E.put k o) nb N Y X bJ st:=by
 refine⟨fun j hj=>?_,C.gn,C.inj,fun i s e=>?_⟩
 ·have a:=C.on j hj;cases di:st j with
  |none=>rw[di]at a;exact a
  |some y=>rw[di]at a;obtain⟨x,c⟩:=y;obtain⟨sl,cs,b,h1,h2,h3,h4,h5,h6⟩:=a;exact⟨sl,cs,b,h1,h2,h3,h4.put df,h5,h6⟩
 ·rcases C.only i s e with h|⟨z,kk,h1,h2,h3⟩
  ·exact .inl h
  ·refine .inr ⟨z,kk,h1,h2,?_⟩;show(if _ then _ else _)=_;rw[if_neg (fun e=>by cases e;cases h2)];exact h3
def z_(cl:List Nat)(X:XS)(j:Nat)(x:Sp)(rec:List Value):Prop:=(x.op=7∧rec=qc j 7 0 0)∨(x.op≠7∧∃i4:Int,((∃n:Nat,i4=n∧cl[n]?=some x.c)∨(i4=-1∧x.c∉cl))∧rec=[iV j,qn x.op,iV i4,iV (jH x.op x.arg),iV (mW x.op x.nw),iV (X.s.cells x.c),iV (X.s.cells x.c),.bool false])
theorem z_.len{cl:List Nat}{X:XS}{j:Nat}{x:Sp}{rec:List Value}(h:z_ cl X j x rec):rec.length=8∧rec[0]?=some (iV j):=by rcases h with⟨_,rfl⟩|⟨_,i4,_,rfl⟩<;>exact⟨rfl,rfl⟩
inductive iP(cl:List Nat)(X:XS)(st:dX):Nat->List Value->Prop
 |zero:iP cl X st 0 []
 |skip {n L}:st n=none->iP cl X st n L->iP cl X st (n+1) L
 |add {n L x c rec}:st n=some (x,c)->z_ cl X n x rec->iP cl X st n L->iP cl X st (n+1) (L++rec)
theorem iP.len{cl:List Nat}{X:XS}{st:dX}{n:Nat}{L:List Value}(h:iP cl X st n L):L.length=8*wt xm st n:=by
 induction h with
 |zero=>rfl
 |skip e _ ih=>unfold wt;rw[e,ih];rfl
 |add e r _ ih=>unfold wt;rw[e,aD,ih,r.len.1];simp only[xm];omega
theorem Ve(st:dX):∀n,wt xm st n≤n
 |0=>aq _
 |n+1=>by unfold wt;have:=Ve st n;cases st n<;>simp only[xm]<;>omega
abbrev Vf(R:Nat)(e:Int)(fr:Frame):Prop:=FA mH 48 [.code (bQ Fn.report)] [] .normal [(0,cb R),(1,qn e)] fr
abbrev W39(R:Nat)(e:Int)(RB:Nat)(fr:Frame):Prop:=FA mH 48 afG [] .normal [(0,cb R),(1,qn e),(4,cb RB)] fr
abbrev Hd1(R:Nat)(L:List Value)(AB cA n TA cT i:Nat)(fr:Frame):Prop:=FA rY 89 l1T [] .normal [(0,cb R),(3,c_ (L.length / 8) AB cA),(14,.slice (some ⟨TA,0,none⟩) n cT),(15,iV n),(16,iV i)] fr
def l8:List Value:=[qn 0,iV 0,fO,fO,fO,fO,fO]
def kh(L:List Value)(AB cA:Nat):Option (Nat×fK):=if L=[]then none else some (AB,.fF dQ cA L)
noncomputable def aco(Y:GS)(i:Nat)(L:List Value)(AB cA:Nat)(op a b i4 val:Int)(ca co Tj:Nat):cn:=gY [(1,Y.n),(2,i),(3,op),(4,a),(5,i),(6,i4),(8,val),(9,co),(11,Y.mp.length),(12,b),(22,Y.cT),(70,(L.length / 8:Nat)),(71,cA)] [(10,Y.R),(13,ca),(14,Tj),(15,Y.MB),(20,Y.TA),(34,AB)] [(42,.agg L.toArray),(48,E7 Y.mp)]
noncomputable def tO(x:Nat):su->List (cD×Nat×bM)
 |.gP=>[((x,RK.map),15,.iY 48 (v 11) [(tz,some (i64 (v 6)))] [])]
 |.sq=>[((x,RK.map),15,.iY 48 (v 11) [(tz,none)] [])]
 |.go=>[]
 |.ended=>[]
noncomputable def Vg(z:Bool)(k:su):bM:=match z with
 |true=>.row (l5 k) dQ (v 102)
 |false=>.cH false 42 (v 70) [] [] (l5 k) dQ (v 102)
noncomputable def Cs(x:Nat)(z:Bool)(k:su):List (cD×Nat×bM):=[((x,RK.app 1 1),102,Vg z k),((x,.dN),101,.cells (l5 k) dQ),((x,.dN),100,.cells (l5 k) dQ)]
noncomputable def sj(x:Nat)(z:Bool)(k:su):List (cD×Nat×bM):=tO x k++(if k.on&&!z then[((x,RK.app 1 1),34,.cH false 42 (v 70) [] [] [] dQ (v 71))]else[])
noncomputable def rQ(x:Nat)(z:Bool)(k:su):List (cD×Nat×bM):=(if k.on then Cs x z k else[])++tO x k
theorem EM(x:Nat)(z:Bool)(k:su):(sj x z k).map (·.2)=afK z k:=by cases z<;>cases k<;>rfl
theorem LK(x:Nat)(z:Bool)(k:su):(rQ x z k).map (·.2)=acl z k:=by cases z<;>cases k<;>rfl
section
variable {E:Wd}{PB nb fI:Nat}{bI:List (List Sp)}{bJ:Nat->Option Tok.Seat}{h N:Nat}{Y:GS}{X:XS}{st:dX}{cl:List Nat}{cs:List Frame}{fr f39 f12:Frame}{m:Machine}{T:Trace}{i:Nat}{L:List Value}{AB cA:Nat}{e:Int}
theorem af2(df:E.x≠E.a)(o:On E bJ h N Y X (G fr cs) m T)(hf:Vf Y.R e fr)(h0:0<Y.n)(j_:E.LB (E.x,.app 1 3)=none):
  cm aa m T fun m' T'=>∃bT f39 RB,On (E.put 3 (some (RB,.obj ft l8))) bJ h N Y X (G bT (f39::cs)) m' T'∧Hd1 Y.R [] 0 0 Y.n Y.TA Y.cT 0 bT∧W39 Y.R e RB f39:=by
 obtain⟨w,A,H,hS⟩:=o;let ρ:cn:=gY [(1,Y.n),(22,Y.cT),(81,e)] [(10,Y.R),(20,Y.TA)] [];refine(cQ (cC:=[]) (cs:=cs) A H hS [] [((E.x,.app 1 3),100,.cells tN ft)] (eIn (bU fr)) rfl rfl (afI _) alu (ρ:=ρ) (hf.rel (.inl rfl) [(0,bF 10),(1,i8 (v 81))] rfl rfl) trivial (nofun) (fun p hp=>?_) (nofun) ai (by simp) rfl).mono fun m1 T1 hd=>?_
 ·obtain rfl:=ad.1 hp;refine .inl ⟨_,_,lD,by simp,?_⟩;show some (c_ Y.n Y.TA Y.cT)=_;rw[cy h0];rfl
 obtain⟨w1,bW,c9,d9,C⟩:=hd;obtain⟨f39,rfl,h39⟩:=C.one;have z1:bW.i 1=Y.n:=C.bE.ii 1;have WH:bW.i 22=Y.cT:=C.bE.ii 22;have Z1:bW.i 81=e:=C.bE.ii 81;have mr:bW.b 10=Y.R:=C.bE.bb 10;have JE:bW.b 20=Y.TA:=C.bE.bb 20;refine⟨c9,f39,bW.b 100,.of C.eG ?_ (EL hS),?_,?_⟩
 ·refine C.heap.sub (cX [(E.x,.app 1 3)] (fun r hr=>mJ fun e=>hr (by simp[e])) (fun r hr=>by cases hr) (fun p hp=>?_) fun r hr y hy=>?_)
  ·simp only[cr,ah,ak,ad]at hp;subst hp;simp
  ·obtain rfl:=ad.1 hr;cases(yy (E:=E) (k:=3) df).symm.trans hy;refine bX ?_;simp only[cr,ah,ak,aw,decide_true];rfl
 ·have:=C.fr;simp only[l1L,iL,ah,ak,AV.cf,bF,nq,i64,v,AV.ev,af,AA.ev,BR.ev,IE.ev,mr,JE,z1,WH,ap]at this;exact this
 ·simp only[ZM,ah,ak,AV.cf,bF,i8,v,AV.ev,af,AA.ev,BR.ev,IE.ev,mr,Z1]at h39;exact h39
theorem Z2(df:E.x≠E.a)(hq:X.s.q.length=4)(Zm:Y.mp=kM X.s.S cl 0)(ha:At E nb Y X bJ i (st i))(o:On (E.put 1 (kh L AB cA)) bJ h N Y X (G fr cs) m T)(hf:Hd1 Y.R L AB cA Y.n Y.TA Y.cT i fr)(hi:i<Y.n)(hl8:L.length=8*(L.length / 8))(hl:L.length / 8≤64)(vS:i≤1000000)(Z3:iP cl X st i L):
  cm aa m T fun m' T'=>∃bT L' IT IU,On (E.put 1 (kh L' IT IU)) bJ h N Y X (G bT cs) m' T'∧Hd1 Y.R L' IT IU Y.n Y.TA Y.cT (i+1) bT∧iP cl X st (i+1) L':=by
 obtain⟨w,A,H,hS⟩:=o;obtain⟨z,hz⟩:∃b,b=L.isEmpty:=⟨_,rfl⟩;have yf:z=true->L=[]:=fun e=>by rw[e]at hz;exact List.isEmpty_iff.1 hz.symm
 have zI:z=false->L≠[]:=fun e e2=>by rw[e,e2]at hz;cases hz
 have U3:z=false->0<L.length / 8:=fun e=>by have:=aG.2 (zI e);omega
 have iM:(E.put 1 (kh L AB cA)).de Y X (E.x,.lW i)=some ((Y.th i).T,.obj mU (fA Y.R i (Y.th i) (Y.ts i))):=ku hi;have hta:(E.put 1 (kh L AB cA)).de Y X (E.x,.XM)=some (Y.TA,.fF g9 Y.cT (zT Y)):=Gv (E:=E.put 1 (kh L AB cA)) (by omega);have hrr:(E.put 1 (kh L AB cA)).de Y X (E.x,.run)=some (Y.R,.obj gK Y.runV):=lD (E:=E.put 1 (kh L AB cA));have Qh:(E.put 1 (kh L AB cA)).de Y X (E.x,.map)=some (Y.MB,.map Y.mp):=by unfold Wd.de;exact(bY (x:=E.x) rfl).trans rfl
 have hpa:(zT Y)[i]?=some (cb (Y.th i).T):=by unfold zT;rw[aZ,bn hi];rfl
 obtain⟨k,op,a,b,i4,val,ca,co,hk⟩:∃(k:su) (op a b i4 val:Int) (ca co:Nat),(k=.ended->(Y.ts i).e=true∧st i=none)∧(k≠.ended->(Y.ts i).e=false∧(Y.ts i).a=[iV i,qn op,iV (-1),iV a,iV b,iV 0,iV 0,.bool false]∧∃x c,st i=some (x,c)∧z_ cl X i x (AV.cf (aco Y i L AB cA op a b i4 val ca co (Y.th i).T) (l5 k)))∧(k=.go->(Y.ts i).v=.pointer none)∧(k=.gP∨k=.sq->(Y.ts i).v=cv ca co∧(∃kj,(E.put 1 (kh L AB cA)).de Y X (E.a,.app 0 0)=some (ca,kj)∧kj.cell co=some (iV val))∧ca=X.s.S)∧(k=.gP->uU Y true (cv ca co) i4)∧(k=.sq->uU Y false (cv ca co) i4):=by
  cases di:st i with
  |none=>rw[di]at ha;exact⟨.ended,0,0,0,0,0,0,0,fun _=>⟨ha.1,rfl⟩,(fun e=>absurd rfl e),(fun e=>by cases e),(fun e=>by rcases e with e|e<;>cases e),(fun e=>by cases e),fun e=>by cases e⟩
  |some y=>
   obtain⟨x,c⟩:=y;rw[di]at ha;obtain⟨sl,io,bb,h1,h2,h3,h4,h5,h6⟩:=ha;rcases h4 with⟨o1,o6,Zk,vK,_⟩|⟨o7,vK,_⟩
   ·have hS0:(E.put 1 (kh L AB cA)).de Y X (E.a,.app 0 0)=some (X.s.S,.fF fe 1 X.s.xs):=by
     rw[mJ (by simp)];unfold Wd.de;rw[ct rfl];exact i5
    have hc:(fK.fF fe 1 X.s.xs).cell (4+x.c)=some (iV (X.s.cells x.c)):=F4 hq Zk;rcases Lr Zm x.c with⟨n,hn,qI⟩|⟨hnc,qI⟩
    ·refine⟨.gP,x.op,jH x.op x.arg,mW x.op x.nw,n,X.s.cells x.c,X.s.S,4+x.c,(fun e=>by cases e),fun _=>⟨by rw[vK],by rw[vK];rfl,x,c,rfl,.inr ⟨by omega,n,.inl ⟨n,rfl,hn⟩,rfl⟩⟩,(fun e=>by cases e),(fun _=>⟨by rw[vK],⟨_,hS0,hc⟩,rfl⟩),(fun _=>qI),fun e=>by cases e⟩
    ·refine⟨.sq,x.op,jH x.op x.arg,mW x.op x.nw,cl.length,X.s.cells x.c,X.s.S,4+x.c,(fun e=>by cases e),fun _=>⟨by rw[vK],by rw[vK];rfl,x,c,rfl,.inr ⟨by omega,-1,.inr ⟨rfl,hnc⟩,rfl⟩⟩,(fun e=>by cases e),(fun _=>⟨by rw[vK],⟨_,hS0,hc⟩,rfl⟩),(fun e=>by cases e),fun _=>qI⟩
   ·exact⟨.go,7,0,0,0,0,0,0,(fun e=>by cases e),fun _=>⟨by rw[vK],by rw[vK];rfl,x,c,rfl,.inl ⟨o7,rfl⟩⟩,(fun _=>by rw[vK]),(fun e=>by rcases e with e|e<;>cases e),(fun e=>by cases e),fun e=>by cases e⟩
 obtain⟨k1,k2,k3,k4,k5,k6⟩:=hk;let ρ:=aco Y i L AB cA op a b i4 val ca co (Y.th i).T;have nd:∀r:cD,r≠(E.x,.app 1 1)->r≠(E.x,.map)->r∉(sj E.x z k).map (·.1):=fun r h1 h2=>by cases z<;>cases k<;>simp[sj,tO,su.on,h1,h2]
 have mt:∀(q:Nat) (x:AV),(fA Y.R i (Y.th i) (Y.ts i))[q]?=some (x.ev ρ)->lq ((E.put 1 (kh L AB cA)).de Y X) ((sj E.x z k).map (·.1)) w E.base ρ (⟨.cN 14,.lit q⟩,x):=fun q x hx=>.inl ⟨_,_,iM,nd _ (by simp) (by simp),by show(fA Y.R i (Y.th i) (Y.ts i))[((q:Nat):Int).toNat]?=_;rw[ap];exact hx⟩
 have qX:∀p∈lfM k,lq ((E.put 1 (kh L AB cA)).de Y X) ((sj E.x z k).map (·.1)) w E.base ρ p:=fun p hp=>by
  have he:(Y.ts i).e=!k.on:=by
   cases k with
   |ended=>exact(k1 rfl).1
   |go=>exact(k2 (fun e=>by cases e)).1
   |gP=>exact(k2 (fun e=>by cases e)).1
   |sq=>exact(k2 (fun e=>by cases e)).1
  have g13:(fA Y.R i (Y.th i) (Y.ts i))[13]?=some (.bool (Y.ts i).e):=by have dI:(Y.ts i).a.length=8:=At.len ha;exact(yu dI).1
  unfold lfM at hp;rcases ay.1 hp with hp|hp
  ·rcases ay.1 hp with hp|hp
   ·unfold alW at hp;simp only[ac,ae,or_false]at hp;rcases hp with rfl|rfl
    ·refine .inl ⟨_,_,hta,nd _ (by simp) (by simp),?_⟩;show(zT Y)[(((i:Nat):Int).toNat:Int).toNat]?=some (cb (Y.th i).T);rw[ap,ap];exact hpa
    ·refine mt 13 _ ?_;rw[g13,he];rfl
   ·cases k with
    |ended=>cases hp
    |_=>
     obtain⟨_,hav,_⟩:=k2 (fun e=>by cases e);simp only[su.on,alX,ac,ae,or_false]at hp;rcases hp with rfl|rfl|rfl|rfl|rfl|rfl|rfl|rfl
     ·exact mt 5 _ (by unfold fA;rw[hav];rfl)
     ·exact mt 6 _ (by unfold fA;rw[hav];rfl)
     ·exact mt 7 _ (by unfold fA;rw[hav];rfl)
     ·exact mt 8 _ (by unfold fA;rw[hav];rfl)
     ·exact mt 9 _ (by unfold fA;rw[hav];rfl)
     ·exact mt 10 _ (by unfold fA;rw[hav];rfl)
     ·exact mt 11 _ (by unfold fA;rw[hav];rfl)
     ·exact mt 12 _ (by unfold fA;rw[hav];rfl)
  ·cases k with
   |ended=>cases hp
   |go=>obtain rfl:=ad.1 hp;refine mt 4 _ ?_;have:=k3 rfl;unfold fA;rw[this];rfl
   |gP=>
    obtain⟨hv,⟨kj,J9,Fj⟩,_⟩:=k4 (.inl rfl);simp only[afJ,ac,ae,or_false]at hp;rcases hp with rfl|rfl|rfl
    ·refine mt 4 _ ?_;unfold fA;rw[hv];rfl
    ·exact .inl ⟨_,_,J9,nd _ (by simp) (by simp),Fj⟩
    ·exact .inl ⟨_,_,hrr,nd _ (by simp) (by simp),rfl⟩
   |sq=>
    obtain⟨hv,⟨kj,J9,Fj⟩,_⟩:=k4 (.inr rfl);simp only[afJ,ac,ae,or_false]at hp;rcases hp with rfl|rfl|rfl
    ·refine mt 4 _ ?_;unfold fA;rw[hv];rfl
    ·exact .inl ⟨_,_,J9,nd _ (by simp) (by simp),Fj⟩
    ·exact .inl ⟨_,_,hrr,nd _ (by simp) (by simp),rfl⟩
 have En:k=.gP∨k=.sq->∀q∈Y.mp,∃off,q.1=cv ca off:=fun hk=>by rw[(k4 hk).2.2];exact ND Zm
 have hpre:mo ((E.put 1 (kh L AB cA)).de Y X) ρ (sj E.x z k):=fun p hp=>by
  unfold sj at hp;rcases ay.1 hp with hp|hp
  ·cases k with
   |ended=>cases hp
   |go=>cases hp
   |gP=>obtain rfl:=ad.1 hp;refine⟨.map Y.mp,Qh,Y.mp,rfl,rfl,(aX _).symm,fun q hq=>?_⟩;obtain rfl:=ad.1 hq;exact⟨En (.inl rfl),k5 rfl⟩
   |sq=>obtain rfl:=ad.1 hp;refine⟨.map Y.mp,Qh,Y.mp,rfl,rfl,(aX _).symm,fun q hq=>?_⟩;obtain rfl:=ad.1 hq;exact⟨En (.inr rfl),(k6 rfl).2⟩
  ·cases z with
   |true=>cases k<;>cases hp
   |false=>
    cases k<;>first|(cases hp;done)|skip
    all_goals
     obtain rfl:=ad.1 hp;refine⟨.fF dQ cA L,(yy df).trans (if_neg (zI rfl)),rfl,rfl,fun i hi=>?_,(nofun),rfl⟩;rw[oU i hi];show _=(((L.length / 8:Nat):Int)).toNat*8;rw[ap];omega
 have hbs:∀p∈ZN z k,p.1.ev ρ=p.2:=fun p hp=>by
  unfold ZN at hp;rcases ay.1 hp with hp|hp
  ·simp only[ac,ae,or_false]at hp;rcases hp with rfl|rfl
   ·show decide ((i:Int)<(((Y.n:Nat):Int).toNat:Int))=true;exact decide_eq_true (by omega)
   ·show decide ((0:Int)≤(i:Int))=true;exact decide_eq_true (by omega)
  ·cases z with
   |true=>cases k<;>cases hp
   |false=>
    cases k<;>first|(cases hp;done)|skip
    all_goals
     obtain rfl:=ad.1 hp;show decide ((((L.length / 8:Nat):Int).toNat:Int)+1≤1048576)=true;exact decide_eq_true (by omega)
 have kI:dj aa ρ (l1H z (bU fr)) fr:=by
  refine hf.rel (.inl rfl) (l1L z (v 5)) ?_ rfl;simp only[l1L,gz,ah,ak];have e1:(iL z 34 70 71).ev ρ=c_ (L.length / 8) AB cA:=by
   cases z with
   |true=>rw[yf rfl];rfl
   |false=>rw[cy (U3 rfl)];rfl
  rw[e1];rfl
 have hv:=arY z k (bU fr);rw[<-EM E.x]at hv;have od:=ZO z k (bU fr);rw[<-EM E.x]at od;refine(cQ (cC:=[]) (cs:=cs) A H hS (sj E.x z k) (rQ E.x z k) hv (LK _ _ _).symm rfl od (alZ z k) (ρ:=ρ) kI trivial hbs qX hpre (by cases z<;>cases k<;>simp[sj,tO,su.on]) (by cases z<;>cases k<;>simp[rQ,Cs,tO,su.on]) (by cases z<;>cases k<;>rfl)).mono fun m1 T1 hd=>?_;obtain⟨w1,bW,c9,d9,C⟩:=hd;obtain rfl:=C.none;have z1:bW.i 1=Y.n:=C.bE.ii 1;have z5:bW.i 5=i:=C.bE.ii 5;have WH:bW.i 22=Y.cT:=C.bE.ii 22;have z70:bW.i 70=(L.length / 8:Nat):=C.bE.ii 70;have z71:bW.i 71=cA:=C.bE.ii 71;have mr:bW.b 10=Y.R:=C.bE.bb 10;have Wz:bW.b 15=Y.MB:=C.bE.bb 15;have JE:bW.b 20=Y.TA:=C.bE.bb 20;have y34:bW.b 34=AB:=C.bE.bb 34;have CH:bW.v 42=.agg L.toArray:=congrFun C.bE.v 42;have z48:bW.v 48=E7 Y.mp:=congrFun C.bE.v 48;have ei:o0 .add .i64 (i:Int) 1=((i+1:Nat):Int):=add_one vS;have ama:AV.cf bW (l5 k)=AV.cf ρ (l5 k):=by have w2:bW.i 2=ρ.i 2:=C.bE.ii 2;have w3:bW.i 3=ρ.i 3:=C.bE.ii 3;have w4:bW.i 4=ρ.i 4:=C.bE.ii 4;have w6:bW.i 6=ρ.i 6:=C.bE.ii 6;have w8:bW.i 8=ρ.i 8:=C.bE.ii 8;have w12:bW.i 12=ρ.i 12:=C.bE.ii 12;cases k<;>simp only[l5,alV,AV.cf,i64,i8,v,AV.ev,IE.ev,ff,BE.ev,w2,w3,w4,w6,w8,w12]
 have amb:∀{L':List Value} {IT IU:Nat},(Vc z k).ev bW=c_ (L'.length / 8) IT IU->Hd1 Y.R L' IT IU Y.n Y.TA Y.cT (i+1) c9:=fun{L' IT IU} he=>by have:=C.fr;simp only[AV.cf,he,bF,nq,i64,v,AV.ev,af,AA.ev,BR.ev,IE.ev,mr,JE,z1,WH,z5,ei,ap]at this;exact this
 by_cases rm:k=.ended
 ·subst rm;refine⟨c9,L,AB,cA,.of C.eG ?_ hS,amb ?_,.skip (k1 rfl).2 Z3⟩
  ·refine C.heap.sub fun r y hy=>?_;rw[jj (by cases z<;>simp[sj,tO,su.on]) (by cases z<;>simp[rQ,tO,su.on,cr])];exact hy
  ·cases z with
   |true=>rw[yf rfl];rfl
   |false=>rw[cy (U3 rfl)];simp only[Vc,su.on,iL,nq,v,AV.ev,af,AA.ev,BR.ev,IE.ev,y34,z70,z71];rfl
 ·obtain⟨_,_,x,c,di,amc⟩:=k2 rm;have Pm:k.on=true:=by cases k<;>first|exact absurd rfl rm|rfl
  have hr8:=amc.len.1;refine⟨c9,L++AV.cf ρ (l5 k),bW.b 102,(bW.i 102).toNat,.of C.eG ?_ (EK hS),amb ?_,.add di amc Z3⟩
  ·refine C.heap.sub (cX [(E.x,.app 1 1),(E.x,.dN),(E.x,.map)] (fun r hr=>?_) (fun r hr=>?_) (fun p hp=>?_) fun r hr y hy=>?_)
   ·have h1:r≠(E.x,.app 1 1):=fun e=>hr (by simp[e]);exact(mJ h1).trans (mJ h1).symm
   ·have:=aJ.1 hr;obtain⟨p,hp,rfl⟩:=this;unfold sj at hp;rcases ay.1 hp with hp|hp
    ·cases k<;>first|(cases hp;done)|skip
     all_goals
      obtain rfl:=ad.1 hp;simp
    ·split at hp
     ·obtain rfl:=ad.1 hp;simp
     ·cases hp
   ·obtain⟨q,km,rfl⟩:=aJ.1 hp;unfold rQ at km;rw[Pm,if_pos rfl]at km;rcases ay.1 km with km|km
    ·simp only[Cs,ac,ae,or_false]at km;rcases km with rfl|rfl|rfl<;>simp
    ·cases k<;>first|(cases km;done)|skip
     all_goals
      obtain rfl:=ad.1 km;simp
   ·simp only[ac,ae,or_false]at hr;rcases hr with rfl|rfl|rfl
    ·have e0:(E.put 1 (kh (L++AV.cf ρ (l5 k)) (bW.b 102) (bW.i 102).toNat)).de Y X (E.x,.app 1 1)=some (bW.b 102,.fF dQ (bW.i 102).toNat (L++AV.cf ρ (l5 k))):=(yy df).trans (if_neg fun e=>by have:=congrArg List.length e;rw[aD,hr8]at this;simp at this);cases e0.symm.trans hy;refine bX ?_;unfold rQ;rw[Pm,if_pos rfl];simp only[Cs,cr,az,aA,ah,ak,aw,decide_true];cases z with
     |true=>simp only[Vg,cY,v,IE.ev,ama,yf rfl,aA]
     |false=>simp only[Vg,cY,dF,List.foldr_nil,v,IE.ev,CH,gy,ama]
    ·cases(tM (E:=E.put 1 (kh (L++AV.cf ρ (l5 k)) (bW.b 102) (bW.i 102).toNat)) (Y:=Y) (X:=X)).symm.trans hy
    ·have D4:(E.put 1 (kh L AB cA)).de Y X (E.x,.map)=some y:=by
      rw[mJ (by simp)]at hy⊢;exact hy
     cases Qh.symm.trans D4;cases k with
     |ended=>exact absurd rfl rm
     |go=>rw[jj (by cases z<;>simp[sj,tO,su.on]) (by simp[rQ,Cs,tO,su.on,cr])];exact Qh
     |gP=>refine bX ?_;simp only[rQ,Cs,tO,su.on,if_true,cr,az,aA,ah,ak,aw,Prod.mk.injEq,reduceCtorEq,and_false,decide_false,decide_true,true_and];simp only[cY,z48,tu,ak,aX,Wz]
     |sq=>refine bX ?_;simp only[rQ,Cs,tO,su.on,if_true,cr,az,aA,ah,ak,aw,Prod.mk.injEq,reduceCtorEq,and_false,decide_false,decide_true,true_and];simp only[cY,z48,tu,ak,aX,Wz]
  ·rw[aD,hr8];have e8:(L.length+8) / 8=L.length / 8+1:=by omega
   rw[e8,cy (Nat.succ_pos _)];cases z with
   |true=>
    have h0:L.length / 8=0:=by rw[yf rfl];rfl
    cases k<;>first|exact absurd rfl rm|skip
    all_goals
     simp only[Vc,su.on,v,AV.ev,af,AA.ev,BR.ev,IE.ev,h0];rfl
   |false=>
    cases k<;>first|exact absurd rfl rm|skip
    all_goals
     simp only[Vc,su.on,v,AV.ev,af,AA.ev,BR.ev,IE.ev,z70];rfl
end
abbrev Z4(R:Nat)(L:List Value)(AB cA i:Nat)(fr:Frame):Prop:=FA rY 89 l2T [] .normal [(0,cb R),(3,c_ (L.length / 8) AB cA),(9,iV i)] fr
abbrev W64(R:Nat)(L:List Value)(AB cA i:Nat)(fr:Frame):Prop:=FA rY 89 afQ [] .normal [(0,cb R),(3,c_ (L.length / 8) AB cA),(9,iV i)] fr
def GS.halt(Y:GS)(ts:Nat->Tst):GS:={Y with ts:=ts,dJ:=true}
structure uX(X X':XS):Prop where
 S:X'.s.S=X.s.S
 q:X'.s.q=X.s.q
 cells:X'.s.cells=X.s.cells
 tl:X'.s.tl=X.s.tl
 f0:X'.s.f0=X.s.f0
 TH:X'.s.TH=X.s.TH
 kt:X'.s.kt=X.s.kt
 TO:X'.s.TO=X.s.TO
 jI:X'.s.jI=X.s.jI
 b5:X'.b5=X.b5
 b6:X'.b6=X.b6
theorem uX.refl{X:XS}:uX X X:=⟨rfl,rfl,rfl,rfl,rfl,rfl,rfl,rfl,rfl,rfl,rfl⟩
theorem uX.trans{X X' P4:XS}(a:uX X X')(b:uX X' P4):uX X P4:=⟨b.S.trans a.S,b.q.trans a.q,b.cells.trans a.cells,b.tl.trans a.tl,b.f0.trans a.f0,b.TH.trans a.TH,b.kt.trans a.kt,b.TO.trans a.TO,b.jI.trans a.jI,b.b5.trans a.b5,b.b6.trans a.b6⟩
theorem zy.eL{X X':XS}{j:Nat}(h:zy X j X'):uX X X':=by obtain⟨_,_,_,_,_,rfl⟩:=h;exact⟨rfl,rfl,rfl,rfl,rfl,rfl,rfl,rfl,rfl,rfl,rfl⟩
theorem zy.at{X X':XS}{i j:Nat}{Y Y':GS}(h:zy X j X')(hi:i≠j)(hY:Y'.ts i=Y.ts i∧Y'.gG i=Y.gG i∧Y'.dz i=Y.dz i∧Y'.th i=Y.th i):jK i Y X Y' X':=by obtain⟨_,_,_,_,_,rfl⟩:=h;exact⟨hY.1,hY.2.1,hY.2.2.1,hY.2.2.2,upd_ne _ _ hi,rfl,rfl,upd_ne _ _ hi,upd_ne _ _ hi,upd_ne _ _ hi,rfl⟩
section
variable {E:Wd}{PB nb fI:Nat}{bJ:Nat->Option Tok.Seat}{h N:Nat}{Y:GS}{X:XS}{st:dX}{cl:List Nat}{cs:List Frame}{fr f39 f64:Frame}{m:Machine}{T:Trace}{i:Nat}{L:List Value}{AB cA:Nat}{e:Int}
theorem Z5(df:E.x≠E.a)(hq:X.s.q.length=4)(Zm:Y.mp=kM X.s.S cl 0)(ha:∀j,j<Y.n->At E nb Y X bJ j (st j))(hn:Y.n≤64):∀(d i:Nat) {fr:Frame} {m:Machine} {T:Trace} {L:List Value} {AB cA:Nat},i+d=Y.n->On (E.put 1 (kh L AB cA)) bJ h N Y X (G fr cs) m T->Hd1 Y.R L AB cA Y.n Y.TA Y.cT i fr->iP cl X st i L->
  cm aa m T fun m' T'=>∃bT L' IT IU,On (E.put 1 (kh L' IT IU)) bJ h N Y X (G bT cs) m' T'∧Hd1 Y.R L' IT IU Y.n Y.TA Y.cT Y.n bT∧iP cl X st Y.n L':=by
 intro d
 induction d with
 |zero=>
  intro i fr m T L AB cA hd o hf Z3;obtain rfl:i=Y.n:=by omega
  exact cm.refl ⟨fr,L,AB,cA,o,hf,Z3⟩
 |succ d ih=>intro i fr m T L AB cA hd o hf Z3;have dI:=Z3.len;have hwl:=Ve st i;refine(Z2 df hq Zm (ha i (by omega)) o hf (by omega) (by omega) (by omega) (by omega) Z3).trans fun m1 T1 xy=>?_;obtain⟨c9,L1,AB1,cA1,o1,h1,asd⟩:=xy;exact ih (i+1) (by omega) o1 h1 asd
theorem dC{ρ:cn}{b n c B k q:Nat}(hb:ρ.b b=B)(hn:ρ.i n=k)(hc:ρ.i c=q):(iL (decide (k=0)) b n c).ev ρ=c_ k B q:=by
 cases k with
 |zero=>rfl
 |succ k=>rw[cy (Nat.succ_pos _)];show(nq b n c).ev ρ=_;simp only[nq,v,AV.ev,af,AA.ev,BR.ev,IE.ev,hb,hn,hc];rfl
theorem af3(df:E.x≠E.a)(o:On E bJ h N Y X (G fr cs) m T)(hf:Hd1 Y.R L AB cA Y.n Y.TA Y.cT Y.n fr)(di:Y.dJ=false)(h0:0<Y.n):
  cm aa m T fun m' T'=>∃bT,On E bJ h N (Y.halt Y.ts) X (G bT cs) m' T'∧Z4 Y.R L AB cA 0 bT:=by
 obtain⟨w,A,H,hS⟩:=o;let ρ:cn:=gY [(1,Y.n),(5,Y.n),(22,Y.cT),(70,(L.length / 8:Nat)),(71,cA)] [(10,Y.R),(15,Y.MB),(20,Y.TA),(34,AB)] [(62,c_ (Y.db.length / 8) Y.LA Y.cL),(63,c_ Y.cp.length Y.WA Y.cW),(64,c_ Y.ready.length Y.RA Y.cR),(65,c_ Y.n Y.FA Y.cF)];have kI:dj aa ρ (l1H (decide (L.length / 8=0)) (bU fr)) fr:=by refine hf.rel (.inl rfl) (l1L (decide (L.length / 8=0)) (v 5)) ?_ rfl;simp only[l1L,gz,ah,ak];rw[dC (ρ:=ρ) (B:=AB) (k:=L.length / 8) (q:=cA) rfl rfl rfl];rfl
 refine(cQ (cC:=[]) (cs:=cs) A H hS [((E.x,.run),10,.cells (I8 false) gK)] [((E.x,.run),10,.cells (I8 true) gK)] (arZ (decide (L.length / 8=0)) (bU fr)) rfl rfl (ZP _ _) afg (ρ:=ρ) kI trivial (fun p hp=>?_) (nofun) (fun p hp=>?_) (by simp) (by simp) rfl).mono fun m1 T1 hd=>?_
 ·obtain rfl:=ad.1 hp;show decide ((Y.n:Int)<(((Y.n:Nat):Int).toNat:Int))=false;exact decide_eq_false (by omega)
 ·obtain rfl:=ad.1 hp;refine⟨.obj gK Y.runV,lD,rfl,?_⟩;show _=[c_ Y.n Y.TA Y.cT,.map (some Y.MB),c_ (Y.db.length / 8) Y.LA Y.cL,c_ Y.cp.length Y.WA Y.cW,c_ Y.ready.length Y.RA Y.cR,c_ Y.n Y.FA Y.cF,.bool Y.dJ];rw[di,cy h0];rfl
 obtain⟨w1,bW,c9,d9,C⟩:=hd;obtain rfl:=C.none;have mr:bW.b 10=Y.R:=C.bE.bb 10;have hv1:bW.v=ρ.v:=C.bE.v;have ck:gD (E.de Y X) (E.de (Y.halt Y.ts) X):=d4 (aq _) fun _ _=>rfl;refine⟨c9,.of C.eG (C.heap.sub (cX [(E.x,.run)] (fz (fun k hk hr=>?_) fun r hr _=>rfl) (fun r hr=>by simpa using hr) (fun p hp=>?_) fun r hr q hq=>?_)) (ck.still hS),?_⟩
 ·cases k with
  |run=>exact absurd (by simp) hr
  |_=>rfl
 ·simp only[cr,ah,ak,ad]at hp;subst hp;simp
 ·obtain rfl:=ad.1 hr;cases(lD (E:=E) (X:=X) (Y:=Y.halt Y.ts)).symm.trans hq;refine bX ?_;simp only[cr,ah,ak,aw,decide_true];have e1:AV.cf bW (I8 true)=(Y.halt Y.ts).runV:=by
   show _=[c_ Y.n Y.TA Y.cT,.map (some Y.MB),c_ (Y.db.length / 8) Y.LA Y.cL,c_ Y.cp.length Y.WA Y.cW,c_ Y.ready.length Y.RA Y.cR,c_ Y.n Y.FA Y.cF,.bool true];rw[cy h0];have z1:bW.i 1=Y.n:=C.bE.ii 1;have WH:bW.i 22=Y.cT:=C.bE.ii 22;have Wz:bW.b 15=Y.MB:=C.bE.bb 15;have JE:bW.b 20=Y.TA:=C.bE.bb 20;simp only[I8,nq,Pk,tr,v,AV.cf,AV.ev,af,AA.ev,BR.ev,IE.ev,BE.ev,hv1,z1,WH,Wz,JE,ap];rfl
  simp only[cY,e1,mr];rfl
 ·have:=C.fr;simp only[LH,ah,ak,AV.cf]at this;rw[dC (ρ:=bW) (B:=AB) (k:=L.length / 8) (q:=cA) (C.bE.bb 34) (C.bE.ii 70) (C.bE.ii 71)]at this;simp only[bF,i64,AV.ev,af,AA.ev,BR.ev,IE.ev,mr]at this;exact this
noncomputable def xn(Y:GS)(i:Nat)(L:List Value)(AB cA Tj wk:Nat):cn:=gY [(1,Y.n),(5,i),(22,Y.cT),(70,(L.length / 8:Nat)),(71,cA)] [(10,Y.R),(14,Tj),(20,Y.TA),(26,wk),(34,AB)] []
theorem um{ρ:cn}{ie:IE}(h34:ρ.b 34=AB)(h70:ρ.i 70=(L.length / 8:Nat))(h71:ρ.i 71=cA)(zY:ρ.b 10=Y.R){i:Nat}(hi:ie.ev ρ=i):AV.cf ρ ((LH (decide (L.length / 8=0)) ie).map (·.2))=[cb Y.R,c_ (L.length / 8) AB cA,iV i]:=by simp only[LH,ah,ak,AV.cf];rw[dC (ρ:=ρ) (B:=AB) (k:=L.length / 8) (q:=cA) h34 h70 h71];simp only[bF,i64,AV.ev,af,AA.ev,BR.ev,IE.ev,zY,hi];rfl
theorem Vh{Tj wk:Nat}(hf:Z4 Y.R L AB cA i fr):dj aa (xn Y i L AB cA Tj wk) (l2H (decide (L.length / 8=0)) (bU fr)) fr:=by refine hf.rel (.inl rfl) (LH (decide (L.length / 8=0)) (v 5)) ?_ rfl;have:=um (Y:=Y) (L:=L) (AB:=AB) (cA:=cA) (i:=i) (ρ:=xn Y i L AB cA Tj wk) (ie:=v 5) rfl rfl rfl rfl rfl;simp only[LH,gz,ah,ak,AV.cf]at this⊢;simp only[List.cons.injEq,and_true]at this;rw[this.1,this.2.1,this.2.2]
theorem acq(hi:i<Y.n){Tj wk:Nat}:∀p∈LI,p.1.ev (xn Y i L AB cA Tj wk)=p.2:=fun p hp=>by
 simp only[LI,ac,ae,or_false]at hp;rcases hp with rfl|rfl
 ·show decide ((i:Int)<(((Y.n:Nat):Int).toNat:Int))=true;exact decide_eq_true (by omega)
 ·show decide ((0:Int)≤(i:Int))=true;exact decide_eq_true (by omega)
theorem Vi{w:World}(hi:i<Y.n)(dI:(Y.ts i).a.length=8):∀p∈l2M (Y.ts i).e,lq (E.de Y X) [] w E.base (xn Y i L AB cA (Y.th i).T (Y.th i).wk) p:=fun p hp=>by
 have hpa:(zT Y)[i]?=some (cb (Y.th i).T):=by unfold zT;rw[aZ,bn hi];rfl
 unfold l2M at hp;rcases ay.1 hp with hp|hp
 ·simp only[ac,ae,or_false]at hp;rcases hp with rfl|rfl|rfl
  ·refine .inl ⟨_,_,lD,by simp,?_⟩;show some (c_ Y.n Y.TA Y.cT)=_;rw[cy (by omega)];rfl
  ·refine .inl ⟨_,_,Gv (by omega),by simp,?_⟩;show(zT Y)[(((i:Nat):Int).toNat:Int).toNat]?=some (cb (Y.th i).T);rw[ap,ap];exact hpa
  ·refine .inl ⟨_,_,ku hi,by simp,?_⟩;show(fA Y.R i (Y.th i) (Y.ts i))[13]?=_;rw[(yu dI).1];rfl
 ·cases he:(Y.ts i).e with
  |true=>rw[he]at hp;cases hp
  |false=>rw[he]at hp;obtain rfl:=ad.1 hp;exact .inl ⟨_,_,ku hi,by simp,rfl⟩
theorem Qi(o:On E bJ h N Y X (G fr cs) m T)(hf:Z4 Y.R L AB cA i fr)(hi:i<Y.n)(dI:(Y.ts i).a.length=8)(he:(Y.ts i).e=true)(vS:i≤1000000):
  cm aa m T fun m' T'=>∃bT,On E bJ h N Y X (G bT cs) m' T'∧Z4 Y.R L AB cA (i+1) bT:=by
 obtain⟨w,A,H,hS⟩:=o;have hm:=Vi (E:=E) (X:=X) (L:=L) (AB:=AB) (cA:=cA) (w:=w) hi dI;rw[he]at hm;refine(cQ (cC:=[]) (cs:=cs) A H hS [] [] (ar0 (decide (L.length / 8=0)) (bU fr)) rfl rfl (Vd _ _) (al2 true) (ρ:=xn Y i L AB cA (Y.th i).T (Y.th i).wk) (Vh hf) trivial (acq hi) hm (nofun) ai ai rfl).mono fun m1 T1 hd=>?_;obtain⟨w1,bW,c9,d9,C⟩:=hd;obtain rfl:=C.none;refine⟨c9,On.of C.eG (cU C.heap) hS,?_⟩;have:=C.fr;dsimp only at this;have z5:bW.i 5=i:=C.bE.ii 5;rw[um (Y:=Y) (L:=L) (AB:=AB) (cA:=cA) (i:=i+1) (C.bE.bb 34) (C.bE.ii 70) (C.bE.ii 71) (C.bE.bb 10) (by show o0 .add .i64 (bW.i 5) 1=_;rw[z5];exact add_one vS)]at this;exact this
theorem Z6(o:On E bJ h N Y X (G fr cs) m T)(hf:Z4 Y.R L AB cA i fr)(hi:i<Y.n)(dI:(Y.ts i).a.length=8)(he:(Y.ts i).e=false):
  cm aa m T fun m' T'=>∃bT f64,On E bJ h N Y X (G bT (f64::cs)) m' T'∧GsS (Y.th i).T (Y.th i).wk bT∧W64 Y.R L AB cA i f64:=by
 obtain⟨w,A,H,hS⟩:=o;have hm:=Vi (E:=E) (X:=X) (L:=L) (AB:=AB) (cA:=cA) (w:=w) hi dI;rw[he]at hm;refine(cQ (cC:=[]) (cs:=cs) A H hS [] [] (ar2 (decide (L.length / 8=0)) (bU fr)) rfl rfl (Vd _ _) (al2 false) (ρ:=xn Y i L AB cA (Y.th i).T (Y.th i).wk) (Vh hf) trivial (acq hi) hm (nofun) ai ai rfl).mono fun m1 T1 hd=>?_;obtain⟨w1,bW,c9,d9,C⟩:=hd;obtain⟨g64,rfl,q64⟩:=C.one;have jY:bW.b 14=(Y.th i).T:=C.bE.bb 14;have Pn:bW.b 26=(Y.th i).wk:=C.bE.bb 26;refine⟨c9,g64,On.of C.eG (cU C.heap) hS,?_,?_⟩
 ·have:=C.fr;simp only[AV.cf,bF,uS,UN,AV.ev,af,AA.ev,BR.ev,IE.ev,jY,Pn]at this;exact this
 ·dsimp only at q64;rw[um (Y:=Y) (L:=L) (AB:=AB) (cA:=cA) (i:=i) (C.bE.bb 34) (C.bE.ii 70) (C.bE.ii 71) (C.bE.bb 10) (show(v 5).ev bW=i from C.bE.ii 5)]at q64;exact q64
theorem Qj{R:Nat}(o:On E bJ h N Y X (G fr (f64::cs)) m T)(hf:GsB fr)(P6:W64 R L AB cA i f64)(hR:Y.R=R)(vS:i≤1000000):
  cm aa m T fun m' T'=>∃bT,On E bJ h N Y X (G bT cs) m' T'∧Z4 R L AB cA (i+1) bT:=by
 obtain⟨w,A,H,hS⟩:=o;subst hR;have iw:c8 aa (xn Y i L AB cA 0 0) [l2F (decide (L.length / 8=0)) (bU f64)] [f64]:=by refine⟨P6.rel (.inl rfl) (LH (decide (L.length / 8=0)) (v 5)) ?_ rfl,trivial⟩;have:=um (Y:=Y) (L:=L) (AB:=AB) (cA:=cA) (i:=i) (ρ:=xn Y i L AB cA 0 0) (ie:=v 5) rfl rfl rfl rfl rfl;simp only[LH,gz,ah,ak,AV.cf]at this⊢;simp only[List.cons.injEq,and_true]at this;rw[this.1,this.2.1,this.2.2]
 refine(cQ (cC:=[f64]) (cs:=cs) A H hS [] [] (ar4 (decide (L.length / 8=0)) (bU fr) (bU f64)) rfl rfl (ZQ _ _ _) nU (ρ:=xn Y i L AB cA 0 0) (hf.rel (.inl rfl) [] rfl rfl) iw (nofun) (nofun) (nofun) ai ai rfl).mono fun m1 T1 hd=>?_;obtain⟨w1,bW,c9,d9,C⟩:=hd;obtain rfl:=C.none;refine⟨c9,On.of C.eG (cU C.heap) hS,?_⟩;have:=C.fr;dsimp only at this;have z5:bW.i 5=i:=C.bE.ii 5;rw[um (Y:=Y) (L:=L) (AB:=AB) (cA:=cA) (i:=i+1) (C.bE.bb 34) (C.bE.ii 70) (C.bE.ii 71) (C.bE.bb 10) (by show o0 .add .i64 (bW.i 5) 1=_;rw[z5];exact add_one vS)]at this;exact this
theorem Crew.Z7{j:Nat}{X':XS}{s0:Tok.Seat}{y:Sp×Ct}(C:Crew E nb N Y X bJ st)(hj:j<Y.n)(hl:(Y.ts j).a.length=8)(hq:zy X j X'):Crew E nb N (Y.gone j false) X' (Tok.e_ (Tok.e_ bJ 0 (Y.th j).gn (some s0)) (Y.th j).gn 0 none) (upd st j none):=by
 have hg:=C.gn j hj;have amd:∀i,i≠0->i≠(Y.th j).gn->Tok.e_ (Tok.e_ bJ 0 (Y.th j).gn (some s0)) (Y.th j).gn 0 none i=bJ i:=fun i h0 h1=>by rw[Tok.jq _ _ h0 h1,Tok.jq _ _ h1 h0]
 have hY:∀i,i≠j->(Y.gone j false).ts i=Y.ts i∧(Y.gone j false).gG i=Y.gG i∧(Y.gone j false).dz i=Y.dz i∧(Y.gone j false).th i=Y.th i:=fun i hi=>⟨upd_ne _ _ hi,rfl,upd_ne _ _ hi,rfl⟩;refine⟨fun i hi=>?_,C.gn,C.inj,fun i s e=>?_⟩
 ·by_cases hij:i=j
  ·subst hij;rw[upd_same];refine⟨?_,?_⟩
   ·show(upd Y.ts i {Y.ts i with e:=true} i).e=true;rw[upd_same]
   ·show(upd Y.ts i {Y.ts i with e:=true} i).a.length=8;rw[upd_same];exact hl
  ·rw[upd_ne _ _ hij];have hgi:=C.gn i hi;exact(C.on i hi).eL (hq.at hij (hY i hij)) (amd _ (by omega) fun e=>hij (C.inj i j hi hj e))
 ·by_cases h0:i=0
  ·rw[h0,Tok.Bm]at e;cases e
  ·by_cases h1:i=(Y.th j).gn
   ·rw[h1,Tok.pZ _ (by omega)]at e;cases e
   ·rw[amd i h0 h1]at e;rcases C.only i s e with⟨k,hk,hi,hs,hc⟩|h3
    ·exact .inl ⟨k,hk,hi,by rw[upd_ne _ _ (fun e=>h1 (by rw[hi,e]))];exact hs,hc⟩
    ·exact .inr h3
theorem Qk(df:E.x≠E.a){Y0:GS}{X0:XS}{st0:dX}(hn:Y0.n≤64)(hq:X0.s.q.length=4)(vB:X0.s.q[0]?=some (.slice (some ⟨PB,0,none⟩) nb fI))(pi:Y0.db.length=8*(Y0.db.length / 8))(jC:∀j x c,j<Y0.n->st0 j=some (x,c)->Y0.db.length / 8+c.sz≤1000000)(avG:X0.s.f0.length≤64):∀(d i:Nat) {bJ:Nat->Option Tok.Seat} {ts:Nat->Tst} {X:XS} {st:dX} {fr:Frame} {m:Machine} {T:Trace},i+d=Y0.n->uX X0 X->Crew E nb N (Y0.halt ts) X bJ st->(∃e:Nat,X.s.ended=e∧e+wt xm st Y0.n=X.s.f0.length)->(∀j,j<i->st j=none)->(∀j,i≤j->st j=st0 j)->On E bJ 0 N (Y0.halt ts) X (G fr cs) m T->Z4 Y0.R L AB cA i fr->
  cm aa m T fun m' T'=>∃c6 ts' X' fZ bT,On E c6 0 N (Y0.halt ts') X' (G bT cs) m' T'∧Z4 Y0.R L AB cA Y0.n bT∧uX X0 X'∧Crew E nb N (Y0.halt ts') X' c6 fZ∧(∃e:Nat,X'.s.ended=e∧e+wt xm fZ Y0.n=X'.s.f0.length)∧(∀j,j<Y0.n->fZ j=none)∧((∀j,j<Y0.n->st j=none)->X'=X):=by
 intro d
 induction d with
 |zero=>
  intro i bJ ts X st fr m T hd hX C vL D_ Ef o hf;obtain rfl:i=Y0.n:=by omega
  exact cm.refl ⟨bJ,ts,X,st,fr,o,hf,hX,C,vL,D_,fun _=>rfl⟩
 |succ d ih=>
  intro i bJ ts X st fr m T hd hX C vL D_ Ef o hf;have hi:i<(Y0.halt ts).n:=by show i<Y0.n;omega
  have ha:=C.on i hi;have dI:=ha.len;cases di:st i with
  |none=>
   rw[di]at ha;refine(Qi o hf hi dI ha.1 (by omega)).trans fun m1 T1 xy=>?_;obtain⟨c9,o1,h1⟩:=xy;refine ih (i+1) (by omega) hX C vL (fun j hj=>?_) (fun j hj=>Ef j (by omega)) o1 h1;rcases aV.1 hj with hj|rfl
   ·exact D_ j hj
   ·exact di
  |some y=>
   obtain⟨x,c⟩:=y;rw[di]at ha;obtain⟨s,csj,b,KG,hsW,WG,Dq,hok,NL⟩:=ha;have XB:=Dq.e;refine(Z6 o hf hi dI XB.1).trans fun m1 T1 xy=>?_;obtain⟨c9,f64,o1,h1,P6⟩:=xy;have uq:∀i' t',bJ i'=some t'->t'.c≠((Y0.halt ts).th i).sd:=by
    obtain⟨w4,A4,H4,_⟩:=o1;intro i' t' e ec;rcases C.only i' t' e with⟨k',hk,nN,hs,hc⟩|⟨z,k',hz,hk,hc⟩
    ·have:=H4.inj _ _ _ _ _ (rO (E:=E) (X:=X) (Y:=Y0.halt ts) hk) (by rw[<-hc,ec];exact tK hi);cases this
    ·have:=H4.inj _ _ _ _ _ (xh (E:=E) (X:=X) (Y:=Y0.halt ts) hz hk hc) (by rw[ec];exact tK hi);cases this;exact hz rfl
   have hg:=C.gn i hi;refine(I5 (Y:=Y0.halt ts) o1 h1 hi KG hsW uq).trans fun m2 T2 Kf=>?_;obtain⟨s0,iJ,o2,hB,hW0⟩:=Kf;have hp0:Tok.e_ bJ 0 ((Y0.halt ts).th i).gn (some s0) 0=some s0:=Tok.pZ bJ (by omega) _;obtain⟨en,zh,Df⟩:=vL;have af4:st0 i=some (x,c):=by rw[<-Ef i (aq _)];exact di
   have xi:=hX.f0;have K:zx E PB nb fI (Y0.halt ts) X i b c:=⟨hi,XB.1,XB.2,by rw[hX.q];exact hq,by rw[hX.q];exact vB,WG,NL,⟨en,zh,by rw[xi]at Df;omega⟩,hok,pi,jC i x c (by omega) af4,df⟩;refine(PY (p:=0) (t:=s0) (PB:=PB) (nb:=nb) (fI:=fI) o2 hB Dq Dq.UD K rfl hg.1 hp0 hW0).trans fun m3 T3 hd3=>?_;obtain⟨X1,arS,xg,o3,hB3⟩:=hd3;refine(Qj (R:=Y0.R) o3 hB3 P6 rfl (by omega)).trans fun m4 T4 hd4=>?_;obtain⟨zV,o4,h4⟩:=hd4;have yL:(Y0.halt ts).gone i false=Y0.halt (upd ts i {ts i with e:=true}):=by rw[GS.rN];rfl
   have C1:=C.Z7 (s0:=s0) (y:=(x,c)) hi dI xg;rw[yL]at C1 o4;have U9:=GA (f:=xm) (st:=st) (o:=none) (n:=Y0.n) (j:=i) (by omega);rw[di]at U9;simp only[xm]at U9;have ame:=xg.eL;have NC:X1.s.ended=((en+1:Nat):Int):=by obtain⟨_,_,_,_,_,rfl⟩:=xg;show X.s.ended+1=_;rw[zh];rfl
   refine(ih (i+1) (by omega) (hX.trans ame) C1 ⟨en+1,NC,by rw[ame.f0];omega⟩ (fun j hj=>?_) (fun j hj=>?_) o4 h4).mono fun m5 T5 hd5=>?_
   ·rcases aV.1 hj with hj|rfl
    ·rw[upd_ne _ _ (by omega)];exact D_ j hj
    ·exact upd_same _ _ _
   ·rw[upd_ne _ _ (by omega)];exact Ef j (by omega)
   ·obtain⟨c6,ts',X',fZ,bT,o',h',hX',C',jO,hd',_⟩:=hd5;refine⟨c6,ts',X',fZ,bT,o',h',hX',C',jO,hd',fun jc=>?_⟩;have:=jc i (by omega);rw[di]at this;cases this
end
end Go.Proofs.Ythaddgfbohmfoaa
