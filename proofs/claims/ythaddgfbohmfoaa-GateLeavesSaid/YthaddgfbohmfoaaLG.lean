/-
  A symbolic run of the model, proved sound, and the walk of the code: a text of its parts. Conditions: none.
-/
import Derived.Test.YthaddgfbohmfoaaLF
set_option linter.unusedSectionVars false
set_option maxRecDepth 100000
set_option linter.unusedVariables false
set_option linter.unusedSimpArgs false
namespace Go.Proofs.Ythaddgfbohmfoaa
open Go.Proofs.Ythaddgfbohmfoaa.SX Go.Conc
open Go.ConcN (upd upd_ne upd_same)
open Go.Proofs.Try renaming prog->aa
open _root_.List renaming mem_cons->ac,mem_singleton->ad,not_mem_nil->ae,map_cons->ah,nodup_nil->ai,map_nil->ak,mem_cons_of_mem->am,mem_cons_self->an,find?_cons->aw,mem_append->ay,cons_append->az,nil_append->aA,length_append->aD,getElem?_append_right->aE,getElem?_eq_getElem->aF,length_pos_iff->aG,getElem?_append_left->aP,append_nil->aX,map_congr_left->aY,getElem?_map->aZ,length_cons->bd,mem_of_getElem?->bf,toList_toArray->bm,getElem?_range->bn
open _root_.Option renaming map_some->af
open _root_.Int renaming toNat_natCast->ap
open _root_.Nat renaming le_refl->aq,lt_or_ge->bo
open _root_.Option.some renaming inj->au
section
variable {base:Nat}{W0:World}{bJ:Nat->Option Tok.Seat}{h N:Nat}{m:Machine}{T:Trace}{w:World}{x:Nat}{Y:GS}{L0:cg}{cs:List Frame}{fr f46 f80:Frame}{j AB S:Nat}{kd:Bool}{fv:Value}
theorem Y8(A:dD aa base W0 bJ h N m T (G fr (f46::f80::cs)) w)(H:bK aa base w (ci x Y L0))(hS:cw (ci x Y L0) bJ)(hj:j<Y.n)(di:Y.dJ=false)(hf:ye (Y.th j).T fr)(Lh:GoW (Y.th j).T AB fv f46)(tH:yn kd S (Y.th j).T f80)(w9:Y.gG j=some (AB,qc j 7 0 0))(pi:Y.db.length=8*(Y.db.length / 8))(jC:Y.db.length / 8+1≤1048576)(hn:Y.n=64):
  cm aa m T fun m' T'=>∃w' bT LA cL,dD aa base W0 bJ h N m' T' (G bT cs) w'∧bK aa base w' (ci x (Y.jt j (-1) AB LA cL) L0)∧Li kd S (Y.th j).T (-1) bT:=by
 obtain⟨lg,jZ⟩:∃b,b=!(Y.db.isEmpty):=⟨_,rfl⟩;have BT:lg=true->Y.db≠[]:=fun e e2=>by rw[e2,e]at jZ;cases jZ
 have kG:lg=false->Y.db=[]:=fun e=>by
  cases hl:Y.db with
  |nil=>rfl
  |cons a b=>rw[hl,e]at jZ;cases jZ
 let ρ:cn:=gY [(1,Y.n),(2,j),(22,Y.cT),(36,(Y.db.length / 8:Nat)),(38,Y.cL)] [(10,Y.R),(14,(Y.th j).T),(20,Y.TA),(25,AB),(39,Y.LA),(40,S)] [(49,.agg Y.db.toArray),(59,fv),(61,c_ Y.cp.length Y.WA Y.cW),(62,c_ Y.ready.length Y.RA Y.cR),(63,c_ Y.n Y.FA Y.cF),(64,.map (some Y.MB))];have hb:∀p∈Ge lg true,p.1.ev ρ=p.2:=fun p hp=>by
  unfold Ge at hp;rcases ay.1 hp with hp|hp
  ·simp only[ac,ae,or_false]at hp;rcases hp with rfl|rfl
   ·show decide ((((Y.n:Nat):Int).toNat:Int)=64)=true;exact decide_eq_true (by omega)
   ·show decide ((((Y.n:Nat):Int).toNat:Int)≥0)=true;exact decide_eq_true (by omega)
  ·cases lg with
   |false=>cases hp
   |true=>obtain rfl:=ad.1 hp;show decide ((((Y.db.length / 8:Nat):Int).toNat:Int)+1≤1048576)=true;exact decide_eq_true (by omega)
 have hm:∀p∈tB,lq (ci x Y L0) ((lz x j lg).map (·.1)) w base ρ p:=fun p hp=>by obtain rfl:=ad.1 hp;refine .inl ⟨(x,.lW j),.obj mU (fA Y.R j (Y.th j) (Y.ts j)),by rw[bY rfl];exact if_pos hj,?_,rfl⟩;cases lg<;>simp[lz]
 have hpre:mo (ci x Y L0) ρ (lz x j lg):=fun p hp=>by
  unfold lz at hp;rcases ay.1 hp with hp|hp
  ·cases lg with
   |false=>cases hp
   |true=>obtain rfl:=ad.1 hp;refine⟨.fF dQ Y.cL Y.db,by rw[bY rfl];exact if_neg (BT rfl),rfl,rfl,fun i hi=>?_,(nofun),rfl⟩;rw[oU i hi];show _=(((Y.db.length / 8:Nat):Int)).toNat*8;rw[ap];omega
  ·simp only[ac,ae,or_false]at hp;rcases hp with rfl|rfl
   ·exact⟨.obj dQ (qc j 7 0 0),by rw[bY rfl];exact congrArg (Option.map _) w9,rfl,rfl⟩
   ·refine⟨.obj gK Y.runV,by rw[bY rfl];rfl,rfl,?_⟩;unfold GS.runV;rw[di,cy (by omega:0<Y.n)];cases lg with
    |true=>rw[cy (by have:=aG.2 (BT rfl);omega:0<Y.db.length / 8)];rfl
    |false=>rw[kG rfl];rfl
 have hv:c7 (cO (Ge lg true) tB 56 [101,100,25,10] (cJ (BQ (bU fr)) [Gc (bU f46),zw kd (bU f80)] ((lz x j lg).map (·.2)))) [0,1,6] (fun _=>[])=some (⟨d7,117,II,[],.run,fE kd,[],IG lg true,[bF 40,bF 14,i64 (.lit (-1))]⟩,[]):=by rw[uk];exact aeU kd lg _ _ _
 have od:bR 100 (cJ (BQ (bU fr)) [Gc (bU f46),zw kd (bU f80)] ((lz x j lg).map (·.2)))=true:=by rw[uk];exact ab0 kd lg _ _ _
 have iw:c8 aa ρ [Gc (bU f46),zw kd (bU f80)] [f46,f80]:=⟨Lh.rel (.inl rfl) gwL rfl rfl,tH.rel (eO kd) [(0,bF 40),(1,bF 14)] rfl rfl,trivial⟩;refine(cQ (cC:=[f46,f80]) (cs:=cs) A H hS (lz x j lg) (mw x j lg true) hv (Cf x j lg true).symm (by cases kd<;>rfl) od (gnO lg true) (ρ:=ρ) (hf.rel (.inl rfl) [(0,bF 14)] rfl rfl) iw hb hm hpre (by cases lg<;>simp[lz]) (by simp[mw]) (by cases lg<;>rfl)).mono fun m1 T1 hd=>?_;obtain⟨w',bL,bT,dk,C⟩:=hd;obtain rfl:=C.none;have x1:bL.i 1=Y.n:=C.bE.ii 1;have x2:bL.i 2=j:=C.bE.ii 2;have x22:bL.i 22=Y.cT:=C.bE.ii 22;have Ye:bL.i 36=(Y.db.length / 8:Nat):=C.bE.ii 36;have mr:bL.b 10=Y.R:=C.bE.bb 10;have jY:bL.b 14=(Y.th j).T:=C.bE.bb 14;have JE:bL.b 20=Y.TA:=C.bE.bb 20;have y25:bL.b 25=AB:=C.bE.bb 25;have lx:bL.b 40=S:=C.bE.bb 40;have z49:bL.v 49=.agg Y.db.toArray:=congrFun C.bE.v 49;have WB:bL.v 59=fv:=congrFun C.bE.v 59;have Ik:bL.v 61=c_ Y.cp.length Y.WA Y.cW:=congrFun C.bE.v 61;have Pp:bL.v 62=c_ Y.ready.length Y.RA Y.cR:=congrFun C.bE.v 62;have Pq:bL.v 63=c_ Y.n Y.FA Y.cF:=congrFun C.bE.v 63;have To:bL.v 64=.map (some Y.MB):=congrFun C.bE.v 64;have eD:AV.cf bL (qf true)=GY j (-1):=by simp only[qf,Up,AV.cf,i64,i8,ff,v,AV.ev,IE.ev,BE.ev,x1,x2,ap];rfl
 have dl:(GY j (-1)).length=8:=rfl;refine⟨w',bT,bL.b 101,(bL.i 101).toNat,C.eG,C.heap.sub (cX [(x,.db),(x,.dN),(x,.gG j),(x,.run)] (fz (fun k hk hr=>?_) fun r hr _=>rfl) (fun r hr=>?_) (fun p hp=>?_) fun r hr y hy=>?_),?_⟩
 ·simp only[ac,Prod.mk.injEq,true_and,ae,or_false,not_or]at hr;cases k with
  |db=>exact absurd rfl hr.1
  |run=>exact absurd rfl hr.2.2.2
  |gG i=>have hi:i≠j:=fun e=>hr.2.2.1 (by rw[e]);simp[eo,GS.jt,upd_ne _ _ hi]
  |_=>rfl
 ·cases lg<;>simp only[lz,aA,az,ah,ak,ac,ae,or_false]at hr
  ·rcases hr with rfl|rfl<;>simp
  ·rcases hr with rfl|rfl|rfl<;>simp
 ·simp only[cr,mw,ah,ak,ac,ae,or_false]at hp;rcases hp with rfl|rfl|rfl|rfl<;>simp
 ·simp only[ac,ae,or_false]at hr;rcases hr with rfl|rfl|rfl|rfl
  ·rw[bY rfl]at hy;simp only[eo,GS.jt]at hy;have df:¬(Y.db++GY j (-1)=[]):=by simp[GY]
   simp only[df,if_false]at hy;rw[<-au hy];refine bX ?_;simp only[cr,mw,ah,ak,aw,decide_true];cases lg with
   |true=>simp only[PT,cY,v,IE.ev,z49,eD,gy];rfl
   |false=>rw[kG rfl];simp only[PT,cY,v,IE.ev,eD];rfl
  ·rw[bY rfl]at hy;cases hy
  ·rw[bY rfl]at hy;simp only[eo,GS.jt,upd_same,af,Option.some.injEq]at hy;subst hy;refine bX ?_;simp only[cr,mw,ah,ak,aw,Prod.mk.injEq,reduceCtorEq,and_false,decide_false,true_and,decide_true,RK.gG.injEq];simp only[cY,eD,y25]
  ·rw[bY rfl]at hy;rw[<-au hy];refine bX ?_;simp only[cr,mw,ah,ak,aw,Prod.mk.injEq,reduceCtorEq,and_false,decide_false,decide_true];have hz:(Y.db++GY j (-1)).length / 8=Y.db.length / 8+1:=by
    rw[aD,dl];omega
   simp only[cY,EA,AV.cf,ff,AV.ev,BE.ev,Ik,Pp,Pq,To,mr,GS.jt,GS.runV,runV,hz,di];rw[cy (Nat.succ_pos _),cy (b:=Y.TA) (c:=Y.cT) (by omega:0<Y.n)];cases lg with
   |true=>simp only[rE,Q1,v,AV.ev,IE.ev,af,AA.ev,BR.ev,x1,x22,Ye,JE,ap];rfl
   |false=>rw[kG rfl];simp only[rE,Q1,v,AV.ev,IE.ev,af,AA.ev,BR.ev,x1,x22,Ye,JE,ap];rfl
 ·have:=C.fr;simp only[AV.cf,bF,i64,AV.ev,af,AA.ev,BR.ev,IE.ev,jY,lx]at this;exact this
end
structure XS where
 s:SS
 b5:Nat->Option Nat
 b6:Nat->Option (Nat×Int)
 b8:Nat->Option Nat
 nV:Nat->Option Nat
 nW:Nat->Option (Nat×Int)
def iK(a:Nat)(X:XS)(L:cg):cg:=fun r=>if r.1=a then(match r.2 with
 |.app 5 j=>(X.b5 j).map fun b=>(b,.obj qL [cb X.s.S])
 |.app 6 j=>(X.b6 j).map fun p=>(p.1,.obj 2 [iV p.2])
 |.app 8 j=>(X.b8 j).map fun b=>(b,.obj qL [cb X.s.S])
 |.app 10 j=>(X.nV j).map fun b=>(b,.obj qL [cb X.s.S])
 |.app 11 j=>(X.nW j).map fun p=>(p.1,.obj 2 [iV p.2])
 |_=>L r)else L r
abbrev dM(a:Nat)(X:XS)(L:cg):cg:=eQ a X.s (iK a X L)
theorem aeY{a:Nat}{X:XS}{L:cg}{j b:Nat}:(dM a X L).set (a,.app 8 j) (b,.obj qL [cb X.s.S])=dM a {X with b8:=upd X.b8 j (some b)} L:=by
 funext ⟨z,k⟩;by_cases hz:z=a
 ·subst hz;by_cases hk:k=.app 8 j
  ·subst hk;rw[cg.cj];simp[eQ,iK,upd_same]
  ·rw[cg.b7 fun e=>hk (by cases e;rfl)];cases k with
   |app i i'=>
    by_cases hi:i=8
    ·subst hi;have:i'≠j:=fun e=>hk (by rw[e]);simp[eQ,iK,upd_ne _ _ this]
    ·simp only[eQ,iK,if_true];split<;>first|rfl|(split<;>first|rfl|(rename_i e;cases e;exact absurd rfl hi))
   |_=>rfl
 ·rw[cg.b7 fun e=>hz (by cases e;rfl)];simp[eQ,iK,hz]
theorem Cg{a:Nat}{X:XS}{L:cg}{j b:Nat}(h:X.b5 j=some b):dM a X L (a,.app 5 j)=some (b,.obj qL [cb X.s.S]):=by simp[eQ,iK,h]
theorem IJ{a:Nat}{X:XS}{L:cg}{j:Nat}{p:Nat×Int}(h:X.b6 j=some p):dM a X L (a,.app 6 j)=some (p.1,.obj 2 [iV p.2]):=by simp[eQ,iK,h]
theorem Ur{a:Nat}{X:XS}{L:cg}{j b:Nat}(h:X.b8 j=some b):dM a X L (a,.app 8 j)=some (b,.obj qL [cb X.s.S]):=by simp[eQ,iK,h]
theorem aeZ{a:Nat}{X:XS}{L:cg}{j:Nat}:dM a X L (a,.app 3 j)=L (a,.app 3 j):=by simp[eQ,iK]
theorem ae0{a:Nat}{X:XS}{L:cg}{j:Nat}:dM a X L (a,.app 4 j)=L (a,.app 4 j):=by simp[eQ,iK]
def qM(LB:cg)(a:Nat)(bv:Value)(i:Nat)(l:List Sp):Prop:=(bv=fO∧l=[]∧i=0)∨∃SB off n cap r k,bv=ux SB off n cap∧n≤cap∧n≤2000∧i+l.length=n∧LB (a,.app 3 r)=some (SB,k)∧∀q x,l[q]?=some x->k.cell (off+(i+q)*4)=some (qn x.op)∧k.cell (off+(i+q)*4+1)=some (iV x.c)∧k.cell (off+(i+q)*4+2)=some (iV x.arg)∧k.cell (off+(i+q)*4+3)=some (iV x.nw)
theorem qM.tail{LB:cg}{a:Nat}{bv:Value}{i:Nat}{x:Sp}{l:List Sp}(h:qM LB a bv i (x::l)):qM LB a bv (i+1) l:=by
 rcases h with⟨_,e,_⟩|⟨SB,off,n,cap,r,k,e,h1,h2,h3,h4,h5⟩
 ·cases e
 ·refine .inr ⟨SB,off,n,cap,r,k,e,h1,h2,by simp only[bd]at h3;omega,h4,fun q y hq=>?_⟩;have:=h5 (q+1) y (by simpa using hq);rw[show i+(q+1)=i+1+q by omega]at this;exact this
theorem qM.stp{LB:cg}{a:Nat}{bv:Value}{i:Nat}{x:Sp}{l:List Sp}{z:Nat}{Y:GS}{X:XS}(h:qM LB a bv i (x::l)):∃SB off n cap,bv=ux SB off n cap∧n≤cap∧n≤2000∧i<n∧yW (ci z Y (dM a X LB)) SB off i x.op x.c x.arg x.nw:=by
 rcases h with⟨_,e,_⟩|⟨SB,off,n,cap,r,k,e,h1,h2,h3,h4,h5⟩
 ·cases e
 ·refine⟨SB,off,n,cap,e,h1,h2,by simp only[bd]at h3;omega,(a,.app 3 r),k,?_,h5 0 x rfl⟩;rw[ct rfl,aeZ];exact h4
theorem qM.from{LB:cg}{a SB off n cap i:Nat}{x:Sp}{l:List Sp}(h:qM LB a (ux SB off n cap) i (x::l)):qM LB a (nA SB off n cap (i+1)) 0 l:=by
 rcases h with⟨e,_⟩|⟨SB',off',n',cap',r,k,e,h1,h2,h3,h4,h5⟩
 ·cases e
 ·have e':SB'=SB∧off'=off∧n'=n∧cap'=cap:=by
   simp only[ux,Value.slice.injEq,Option.some.injEq,Addr.mk.injEq,and_true]at e;obtain⟨⟨q1,q2⟩,q3,q4⟩:=e;exact⟨q1.symm,q2.symm,q3.symm,q4.symm⟩
  obtain⟨rfl,rfl,rfl,rfl⟩:=e';simp only[bd]at h3;unfold nA;split
  ·rename_i hc;have hl:l.length=0:=by omega
   have:l=[]:=List.length_eq_zero_iff.1 hl;subst this;exact .inr ⟨SB',off',n'-(i+1),cap'-(i+1),r,k,rfl,by omega,by omega,by simp only[List.length_nil];omega,h4,fun q y hq=>by cases hq⟩
  ·refine .inr ⟨SB',off'+(i+1)*4,n'-(i+1),cap'-(i+1),r,k,rfl,by omega,by omega,by omega,h4,fun q y hq=>?_⟩;have:=h5 (q+1) y (by simpa using hq);rw[show off'+(i+(q+1))*4=off'+(i+1)*4+(0+q)*4 by omega]at this;exact this
noncomputable def ab3:Value:=.iface 114 (.agg #[])
def Gg(ch:List PanicEntry):Prop:=∃e l,ch=e::l∧∀x∈ch,x.recovered=false∧x.goexit=false∧(x.v=Ex∨x.v=ab3)
theorem Gg.plain{ch:List PanicEntry}(h:Gg ch):Gb ch:=by obtain⟨e,l,rfl,h1⟩:=h;exact⟨e,l,rfl,(h1 e (an ..)).1,(h1 e (an ..)).2.1,fun x hx=>(h1 x (am _ hx)).2.1⟩
def Gh(fq:Bool)(md:FrameMode):Prop:=match fq with
 |false=>md=.returning
 |true=>∃ch,md=.panicking ch∧Gg ch
theorem Gh.ne{fq:Bool}{md:FrameMode}(h:Gh fq md):md≠.run:=by
 cases fq with
 |false=>rw[h];exact fun e=>by cases e
 |true=>obtain⟨ch,rfl,_⟩:=h;exact fun e=>by cases e
theorem Gh.goes{fq:Bool}{md:FrameMode}(h:Gh fq md):Ca md=true:=by
 cases fq with
 |false=>rw[h];rfl
 |true=>obtain⟨ch,rfl,h1⟩:=h;exact xd h1.plain
def yY(S T:Nat)(ds:List Nat):List Deferred:=ds.map fun c:Nat=>oV S T (c:Int)
def akQ(t:FU)(b:Nat)(cs:List Frame):Prop:=∃f65 f76,cs=[f65,f76,fB aa]∧Ng b f65∧Yy t f76
def UpC(S:Nat)(t:FU)(b:Nat):Option (List Nat)->List Frame->Prop
 |none,cs=>akQ t b cs
 |some d,cs=>∃f67 io,cs=f67::io∧FA dh 61 Lb (yY S t.T d) .normal [] f67∧akQ t b io
def WE(LB:cg)(a S:Nat)(t:FU)(b:Nat):Ct->Frame->List Frame->Prop
 |.run l held ds up,fr,cs=>∃bv i,qM LB a bv i l∧vG S t.T bv held (i:Int) (yY S t.T ds) fr∧UpC S t b up cs
 |.uj fq ds up,fr,cs=>∃md,Gh fq md∧jw dh 61 (yY S t.T ds) .normal md fr∧UpC S t b up cs
 |.ky false,fr,cs=>cs=[fB aa]∧FA ed 14 [] (FY t.c2 t.c5) .deferred [] fr
 |.ky true,fr,cs=>∃ch,Gg ch∧cs=[fB aa]∧jw ed 14 (FY t.c2 t.c5) .deferred (.panicking ch) fr
def uy(LB:cg)(a S:Nat)(t:FU)(b:Nat)(b8:Option Nat):Ct->Bool->List Frame->Prop
 |.run l false ds up,kd,cs=>kd=false∧∃SB off n cap i f67 io,cs=f67::io∧qM LB a (ux SB off n cap) (i+1) l∧n≤2000∧i<n∧TS dfT S t.T (ux SB off n cap) false (i:Int) (yY S t.T ds) f67∧UpC S t b up io
 |.run l true ds up,kd,cs=>kd=false∧∃SB off n cap i f81 f67 io B,cs=f81::f67::io∧qM LB a (ux SB off n cap) (i+1) l∧n≤2000∧i<n∧TS Nk S t.T (ux SB off n cap) true (i:Int) (yY S t.T ds) f67∧Nm B f81∧b8=some B∧UpC S t b up io
 |.uj fq ds up,kd,cs=>kd=true∧∃md f67 io,cs=f67::io∧Gh fq md∧jw dh 61 (yY S t.T ds) .normal md f67∧UpC S t b up io
 |.ky _,_,_=>False
noncomputable def EB:AV:=.iface 114 (.agg [])
noncomputable def ae1:AV:=.iface 9 (.str abV)
noncomputable def ab4(st:Nat->Value):bH:=⟨mG,41,bZ 41 st [(0,bF 14)],X6,[],.run,.normal⟩
noncomputable def p1M:List (AA×AV):=[(⟨.cN 14,.lit 0⟩,bF 10),(⟨.cN 10,.lit 6⟩,TB)]
noncomputable def p1T:List Item:=[.inRegion (fP (pc (bQ Fn.yd) [1,1,1,0])) [2]]
theorem p1(st:Nat->Value):c7 (cO [] p1M 16 [] (cJ (ab4 st) [] [])) [] (fun _=>[])=some (⟨mG,41,p1T,[],.panicking [(EB,false)],.normal,[],[],[]⟩,[]):=by kernel_rfl
theorem akS(st:Nat->Value):bR 100 (cJ (ab4 st) [] [])=true:=by kernel_rfl
theorem p1O:(OO [] [] p1M).low 100=true:=by kernel_rfl
noncomputable def p2M:List (AA×AV):=[(⟨.cN 14,.lit 0⟩,bF 10),(⟨.cN 14,.lit 1⟩,i64 (v 2)),(⟨.cN 14,.lit 13⟩,ff),(⟨.cN 10,.lit 6⟩,TB)]
noncomputable def aqR(k:M6):List (Nat×bM):=[(101,.cells (zq k) dQ),(100,.cells (zq k) dQ)]
def p2N:M6->Nat
 |.load=>126
 |.plain=>124
 |.GR=>122
theorem p2(k:M6)(st:Nat->Value):c7 (cO (Pj k) p2M (p2N k) [101,100] (cJ (M7 st) [] [])) [] (fun _=>[])=some (⟨pK,127,stepT,[],.panicking [(EB,false)],.normal,[],aqR k,[]⟩,[]):=by cases k<;>kernel_rfl
theorem akU(st:Nat->Value):bR 100 (cJ (M7 st) [] [])=true:=by kernel_rfl
theorem p2O(k:M6):(OO (Pj k) [] p2M).low 100=true:=by cases k<;>kernel_rfl
noncomputable def p3M:List (AA×AV):=p2M++[(⟨.cN 40,.lit 0⟩,.slice (some ⟨.cN 49,.lit 0⟩) (v 48) (v 50))]
noncomputable def aqS:List (Nat×bM):=[(104,.cells sf dQ),(103,.cells sf dQ),(102,.cells [i64 (v 4)] 2),(101,.cells [bF 40] 48),(100,.cells lN iA)]
def p3N:Lg->Nat
 |.is=>127
 |_=>125
theorem p3(kd:Bool)(k:Lg)(st:Nat->Value):c7 (cO (PR k) p3M (p3N k) [104,103,102,101,100] (cJ (B0 kd st) [] [])) [] (fun _=>[])=some (⟨d7,117,yX,[],.panicking [(EB,false)],fE kd,[],aqS,[]⟩,[]):=by cases kd<;>cases k<;>kernel_rfl
theorem p3O(k:Lg):(OO (PR k) [] p3M).low 100=true:=by cases k<;>kernel_rfl
noncomputable def akV(st:Nat->Value):bH:=⟨yU,11,bZ 11 st [],[],hdD 36,.panicking [(EB,false)],.normal⟩
noncomputable def p4M:List (AA×AV):=[(⟨.cN 36,.lit 0⟩,bF 40)]
noncomputable def akW:List (Nat×bM):=[(40,.cH false 44 (v 41) [(.lit 14,i64 (v 57))] [] [] fe (v 42))]
noncomputable def akX:List (Nat×bM):=[(40,.cH false 44 (v 41) [(.lit 14,i64 (v 57))] [(.lit 14,i64 (.op .add .i64 (v 57) (.lit 1)))] [] fe (v 42))]
theorem p4(s81 st:Nat->Value):c7 (cO [] p4M 48 [40] (cJ (akV s81) [TQ true Nk st] akW)) Is (fun _=>[])=some (⟨dh,61,hdT,[],.run,.wrapped,[],akX,yV true⟩,[]):=by kernel_rfl
theorem akY(s81 st:Nat->Value):bR 100 (cJ (akV s81) [TQ true Nk st] akW)=true:=by kernel_rfl
theorem p4O:(OO [] [] p4M).low 100=true:=by kernel_rfl
noncomputable def bdE:bH:=okA (fD aa rF [bF 11] .deferred)
theorem Y9:fD aa rF [bF 11] .deferred=.ok bdE:=by kernel_rfl
noncomputable def p5M:List (AA×AV):=[(⟨.cN 11,.lit 0⟩,bF 40)]
theorem p5:c7 (cO [] p5M 10 [40] (cJ bdE [] YJ)) [] (fun _=>[])=some (⟨rF,8,[],[],.run,.deferred,[],abW,[]⟩,[]):=by kernel_rfl
theorem akZ:bR 100 (cJ bdE [] YJ)=true:=by kernel_rfl
theorem p5O:(OO [] [] p5M).low 100=true:=by kernel_rfl
noncomputable def laE:bH:=okA (fD aa oQ [bF 16,bF 17] .deferred)
theorem Y_:fD aa oQ [bF 16,bF 17] .deferred=.ok laE:=by kernel_rfl
noncomputable def Ut:Array Oper:=fP (pc (bQ Fn.nz) [0,0])
noncomputable def reK:List Item:=[.code (pc (bQ Fn.nz) [0,1]),.code (pc (bQ Fn.nz) [1])]
theorem p6:c7 (cO [] [] 3 [] (cJ laE [] [])) [0,1] (fun _=>[])=some (⟨oQ,30,.inRegion Ut [0,1]::reK,[],.run,.deferred,[],[],[bF 16,bF 17]⟩,[]):=by kernel_rfl
theorem ak0:bR 100 (cJ laE [] [])=true:=by kernel_rfl
noncomputable def pvA:Bool->AV
 |true=>EB
 |false=>ae1
noncomputable def p7E(vv:Bool)(st:Nat->Value):bH:=⟨oQ,30,bZ 30 st [(0,bF 16),(1,bF 17),(3,pvA vv)],.inRegion Ut [1]::reK,[],.run,.deferred⟩
noncomputable def p7M(sp:Bool):List (AA×AV):=[(⟨.cN 16,.lit 0⟩,bF 10),(⟨.cN 17,.lit 0⟩,bF 14),(⟨.cN 10,.lit 6⟩,tr sp)]++match sp with
 |true=>[]
 |false=>[(⟨.cN 10,.lit 5⟩,.slice (some ⟨.cN 21,.lit 0⟩) (v 1) (v 23))]
noncomputable def p7B:Bool->List (BE×Bool)
 |true=>[]
 |false=>[(.cmp .lss (v 2) (.tn (v 1)),true),(.cmp .leq (.lit 0) (v 2),true)]
noncomputable def Za(sp:Bool):List (Nat×bM):=(match sp with
 |true=>[]
 |false=>[(21,.cH false 41 (v 1) [(.tn (v 2),ff)] [] [] lV (v 23))])++[(14,yh ff)]
noncomputable def ab5(sp:Bool):List (Nat×bM):=(match sp with
 |true=>[]
 |false=>[(21,.cH false 41 (v 1) [(.tn (v 2),ff)] [(.tn (v 2),TB)] [] lV (v 23))])++[(14,yh TB)]
def p7K:Bool->List Nat
 |true=>[14]
 |false=>[21,14]
noncomputable def Uu(sp vv:Bool)(st:Nat->Value):dw:=XK (cO (p7B sp) (p7M sp) 29 (p7K sp) (cJ (p7E vv st) [] (Za sp)))
theorem ak3(sp vv:Bool)(st:Nat->Value):cO (p7B sp) (p7M sp) 29 (p7K sp) (cJ (p7E vv st) [] (Za sp))=.ok (Uu sp vv st):=by cases sp<;>cases vv<;>kernel_rfl
theorem ae3(sp vv:Bool)(st:Nat->Value):(Uu sp vv st).h.hp=ab5 sp:=by cases sp<;>cases vv<;>kernel_rfl
theorem ak4(sp vv:Bool)(st:Nat->Value):bR 100 (cJ (p7E vv st) [] (Za sp))=true:=by cases sp<;>cases vv<;>kernel_rfl
theorem p7O(sp:Bool):(OO (p7B sp) [] (p7M sp)).low 100=true:=by cases sp<;>kernel_rfl
theorem ae4(sp vv:Bool)(st:Nat->Value):sendAt? (Uu sp vv st).da=some (.cN 27,UN,zm (Uu sp vv st).da cx):=by cases sp<;>cases vv<;>kernel_rfl
theorem Zb(sp vv:Bool)(st:Nat->Value):leave? aa (Eh []) jF 400 ⟨zm (Uu sp vv st).da cx,(Uu sp vv st).callers,e0⟩=true:=by cases sp<;>cases vv<;>kernel_rfl
noncomputable def kcR(st:Nat->Value):bH:=⟨ed,14,bZ 14 st [],[],[],.returning,.deferred⟩
theorem Zc(st:Nat->Value):leave? aa (Eh []) jF 400 ⟨kcR st,[],e0⟩=true:=by kernel_rfl
theorem ak5(st:Nat->Value):bR 100 (cJ (kcR st) [] [])=true:=by kernel_rfl
noncomputable def ak6(held:Bool)(st:Nat->Value):bH:=⟨dh,61,bZ 61 st (F7 held eU (.lit 0)),hdT,[],.run,.wrapped⟩
theorem p8(held:Bool)(st:Nat->Value):c7 (cO [] [] 10 [] (cJ (ak6 held st) [] [])) [] (fun _=>[])=some (⟨dh,61,[],[],.run,.wrapped,[],[],[]⟩,[]):=by cases held<;>kernel_rfl
theorem ak7(held:Bool)(st:Nat->Value):bR 100 (cJ (ak6 held st) [] [])=true:=by cases held<;>kernel_rfl
theorem p9(st:Nat->Value):c7 (cO TN sM 61 [100] (cJ (WC true st) [] [])) [0,1,2] (fun _=>Is)=some (⟨yU,11,[.code (bQ Fn.held)],[],.run,.normal,[],PF,[bF 40,bF 14,F2]⟩,[⟨dh,61,Nk,[],.run,.wrapped,[],[],uV true⟩]):=by kernel_rfl
def jo:List PanicEntry:=[{v:=.iface 114 (.agg #[]),recovered:=false}]
theorem EC:∀x∈jo,x.recovered=false∧x.goexit=false∧(x.v=Ex∨x.v=ab3):=fun x hx=>by obtain rfl:=ad.1 hx;exact⟨rfl,rfl,.inr rfl⟩
theorem ED:Gg jo:=⟨_,_,rfl,EC⟩
theorem Gg.stop{ch:List PanicEntry}(h:Gg ch):Gg (jo++ch):=by
 obtain⟨e,l,rfl,h1⟩:=h;refine⟨_,_,rfl,fun x hx=>?_⟩;rcases ay.1 hx with hx|hx
 ·exact EC x hx
 ·exact h1 x hx
theorem Gh.stop{fq:Bool}{md:FrameMode}(h:Gh fq md):Gh true (Ga md jo):=by
 cases fq with
 |false=>rw[h];exact⟨_,rfl,ED⟩
 |true=>obtain⟨ch,rfl,h1⟩:=h;exact⟨_,rfl,h1.stop⟩
theorem IK{ρ:cn}{fn nt:Nat}{ds:List Deferred}{kind:CallKind}{md:FrameMode}{fr:Frame}(h:jw fn nt ds kind md fr)(hk:ic kind){dA:List AD}(hd:dA.map (AD.ev ρ)=ds){mA:ia}(hm:mA.ev ρ=md)(df:mA≠.run):dj aa ρ ⟨fn,nt,bZ nt (bU fr) [],[],dA,mA,kind⟩ fr:=by obtain⟨⟨tm,todo,rfl,h2⟩,h4,h5⟩:=h;refine⟨tm,todo,⟨qH h2 h4 (nofun),.inl hk,(fun x=>absurd x df),h5⟩,?_⟩;unfold dS;dsimp only;rw[lh hk,hd,hm]
section
variable {base:Nat}{W0:World}{bJ:Nat->Option Tok.Seat}{h N:Nat}{m:Machine}{T:Trace}{w:World}{L:cg}
theorem Gi{fr:Frame}{cC cs:List Frame}(A:dD aa base W0 bJ h N m T (G fr (cC++cs)) w)(H:bK aa base w L)(hS:cw L bJ)(cH post:List (cD×Nat×bM)){bs:List (BE×Bool)}{mem:List (AA×AV)}{n:Nat}{ks:List Nat}{da:bH}{callers:List bH}{fn nt:Nat}{todo:List Item}{ch:List (AV×Bool)}{kind:CallKind}{hp:List (Nat×bM)}{ce:List PanicEntry}
 (hv:c7 (cO bs mem n ks (cJ da callers (cH.map (·.2)))) [] (fun _=>[])=some (⟨fn,nt,todo,[],.panicking ch,kind,[],hp,[]⟩,[]))(hV:hp=post.map (·.2))(hk:ic kind)(hle:nt≤60000)(hl:bR 100 (cJ da callers (cH.map (·.2)))=true)(hO:(OO bs [] mem).low 100=true){ρ:cn}(hf:dj aa ρ da fr)(iw:c8 aa ρ callers cC)
 (hb:∀p∈bs,p.1.ev ρ=p.2)(hm:∀p∈mem,lq L (cH.map (·.1)) w base ρ p)(hpre:mo L ρ cH)(zR:(cH.map (·.1)).Nodup)(zn:(post.map (·.2.1)).Nodup)(S0:cH.all BI=true)(hce:∀bL:cn,(ch.map fun x=>({v:=x.1.ev bL,recovered:=x.2}:PanicEntry))=ce):
  cm aa m T fun m' T'=>∃w' bL bT,dD aa base W0 bJ h N m' T' (G bT cs) w'∧cz (dR 100) ρ bL∧bK aa base w' (i0 L (cH.map (·.1)) (cr bL post))∧jw fn nt [] kind (.panicking ce) bT:=by
 refine(SZ A H hS cH post hv hV hl hO hf iw hb hm hpre zR zn S0).mono fun m1 T1 hd=>?_;obtain⟨w',bL,a1,cl,bT,dk,C⟩:=hd;obtain⟨rfl,rfl⟩:=C.lone;refine⟨w',bL,bT,C.eG,C.bE,C.heap,?_⟩;have hc:=C.da;have hr:=C.fr;obtain⟨fn',nt',t',todo',ds',aku,uK⟩:=a1;simp only[fW,fN.mk.injEq]at hc;obtain⟨rfl,rfl,rfl,rfl,rfl,rfl,_⟩:=hc;obtain⟨tm,td,is,rfl⟩:=hr;refine⟨⟨tm,td,?_,is.tmps.size⟩,hle,is.fn⟩;unfold dS;dsimp only;rw[lh hk];simp only[ak,ia.ev,hce]
end
section
variable {base:Nat}{W0:World}{bJ:Nat->Option Tok.Seat}{h N:Nat}{m:Machine}{T:Trace}{w:World}{x a:Nat}{Y:GS}{L0:cg}{cs:List Frame}{fr:Frame}{j:Nat}
theorem ab6{w':World}{ρ:cn}{post:List (cD×Nat×bM)}(hp:∀p∈post,p.1=(x,.dN))(H:bK aa base w' (i0 (ci x Y L0) (([]:List (cD×Nat×bM)).map (·.1)) (cr ρ post))):bK aa base w' (ci x Y L0):=kV hp H
theorem Lk{R:Nat}{rT rR:cD}{kT kR:fK}{Tb:Nat}{L:cg}(A:dD aa base W0 bJ h N m T (G fr cs) w)(H:bK aa base w L)(hS:cw L bJ)(hf:ye Tb fr)(eT:L rT=some (Tb,kT))(gT:kT.cell 0=some (cb R))(eR:L rR=some (R,kR))(gR:kR.cell 6=some (.bool true)):
  cm aa m T fun m' T'=>∃w' bT,dD aa base W0 bJ h N m' T' (G bT cs) w'∧bK aa base w' L∧jw mG 41 [] .normal (.panicking jo) bT:=by
 let ρ:cn:=gY [] [(10,R),(14,Tb)] [];refine(Gi (cC:=[]) (cs:=cs) A H hS [] [] (p1 (bU fr)) rfl (.inl rfl) (by decide) (akS _) p1O (ρ:=ρ) (hf.rel (.inl rfl) [(0,bF 14)] rfl rfl) trivial (nofun) (fun p hp=>?_) (nofun) ai ai rfl (ce:=jo) (fun bL=>rfl)).mono fun m1 T1 hd=>?_
 ·simp only[p1M,ac,ae,or_false]at hp;rcases hp with rfl|rfl
  ·exact .inl ⟨_,_,eT,by simp,gT⟩
  ·exact .inl ⟨_,_,eR,by simp,gR⟩
 obtain⟨w',bL,bT,A',Ag,H',hr⟩:=hd;exact⟨w',bT,A',cU H',hr⟩
theorem Uv{ρ:cn}(hj:j<Y.n)(di:Y.dJ=true)(he:(Y.ts j).e=false)(dI:(Y.ts j).a.length=8)(zY:ρ.b 10=Y.R)(h14:ρ.b 14=(Y.th j).T)(h2:ρ.i 2=j):∀p∈p2M,lq (ci x Y L0) [] w base ρ p:=fun p hp=>by
 obtain⟨a0,a1,a2,a3,a4,a5,a6,a7,ha⟩:=r_ dI;have iM:ci x Y L0 (x,.lW j)=some ((Y.th j).T,.obj mU (fA Y.R j (Y.th j) (Y.ts j))):=by rw[bY rfl];exact if_pos hj
 simp only[p2M,ac,ae,or_false]at hp;rcases hp with rfl|rfl|rfl|rfl
 ·refine .inl ⟨_,_,by rw[show((⟨.cN 14,.lit 0⟩:AA).ev ρ).block=(Y.th j).T from h14];exact iM,by simp,?_⟩;show some (cb Y.R)=some ((bF 10).ev ρ);simp only[bF,AV.ev,af,AA.ev,BR.ev,IE.ev,zY];rfl
 ·refine .inl ⟨_,_,by rw[show((⟨.cN 14,.lit 1⟩:AA).ev ρ).block=(Y.th j).T from h14];exact iM,by simp,?_⟩;show some (iV j)=some (.int .i64 (ρ.i 2));rw[h2];rfl
 ·refine .inl ⟨_,_,by rw[show((⟨.cN 14,.lit 13⟩:AA).ev ρ).block=(Y.th j).T from h14];exact iM,by simp,?_⟩;show(fA Y.R j (Y.th j) (Y.ts j))[13]?=some (.bool false);unfold fA;rw[ha,he];rfl
 ·refine .inl ⟨(x,.run),.obj gK Y.runV,by rw[show((⟨.cN 10,.lit 6⟩:AA).ev ρ).block=Y.R from zY];exact jr (fun _ _ e=>by cases e) rfl,by simp,?_⟩;show some (Value.bool Y.dJ)=_;rw[di];rfl
theorem Uw{ca co:Nat}{op arg nw:Int}(A:dD aa base W0 bJ h N m T (G fr cs) w)(H:bK aa base w (ci x Y L0))(hS:cw (ci x Y L0) bJ)(hj:j<Y.n)(di:Y.dJ=true)(he:(Y.ts j).e=false)(dI:(Y.ts j).a.length=8)(hf:BS (Y.th j).T ca co op arg nw fr)(h1:1≤op)(h6:op≤6):
  cm aa m T fun m' T'=>∃w' bT,dD aa base W0 bJ h N m' T' (G bT cs) w'∧bK aa base w' (ci x Y L0)∧jw pK 127 [] .normal (.panicking jo) bT:=by
 let ρ:=FX j (Y.th j).T Y.R (Y.th j).wk (Y.th j).sd ca co op arg nw (Y.ts j).v (Y.ts j).a;let post:List (cD×Nat×bM):=[((x,.dN),101,.cells (zq (JD op)) dQ),((x,.dN),100,.cells (zq (JD op)) dQ)];refine(Gi (cC:=[]) (cs:=cs) A H hS [] post (p2 (JD op) (bU fr)) rfl (.inl rfl) (by decide) (akU _) (p2O _) (ρ:=ρ) (hf.rel (.inl rfl) Ta rfl rfl) trivial (fun p hp=>?_) (Uv hj di he dI rfl rfl rfl) (nofun) ai (by simp[post]) rfl (ce:=jo) (fun bL=>rfl)).mono fun m1 T1 hd=>?_
 ·simp only[Pj,ac,ae,or_false]at hp;rcases hp with rfl|rfl|rfl|rfl
  ·show decide (op<1)=false;exact decide_eq_false (by omega)
  ·show decide (op>6)=false;exact decide_eq_false (by omega)
  ·show decide (op=1)=_;unfold JD;by_cases e1:op=1
   ·simp[e1]
   ·by_cases e3:op=3<;>simp[e1,e3]
  ·show(!decide (op=3))=_;unfold JD;by_cases e1:op=1
   ·simp[e1]
   ·by_cases e3:op=3<;>simp[e1,e3]
 obtain⟨w',bL,bT,A',Ag,H',hr⟩:=hd;refine⟨w',bT,A',ab6 (post:=post) (fun p hp=>?_) H',hr⟩;simp only[post,ac,ae,or_false]at hp;rcases hp with rfl|rfl<;>rfl
theorem ae5{S PB nb fI:Nat}{c arg nw:Int}{rS:cD}{kS:fK}{kd:Bool}(k:Lg)(A:dD aa base W0 bJ h N m T (G fr cs) w)(H:bK aa base w (ci x Y L0))(hS:cw (ci x Y L0) bJ)(hj:j<Y.n)(di:Y.dJ=true)(he:(Y.ts j).e=false)(dI:(Y.ts j).a.length=8)(hf:qJ kd S (Y.th j).T 7 c arg nw fr)(eS:ci x Y L0 rS=some (S,kS))(gS:kS.cell 0=some (.slice (some ⟨PB,0,none⟩) nb fI))(hk:k.jg arg nb):
  cm aa m T fun m' T'=>∃w' bT,dD aa base W0 bJ h N m' T' (G bT cs) w'∧bK aa base w' (ci x Y L0)∧jw d7 117 [] (fE kd) (.panicking jo) bT:=by
 let ρ:cn:=gY [(2,j),(3,7),(4,arg),(5,nw),(6,c),(48,nb),(50,fI)] [(10,Y.R),(14,(Y.th j).T),(40,S),(49,PB)] [];let post:List (cD×Nat×bM):=[((x,.dN),104,.cells sf dQ),((x,.dN),103,.cells sf dQ),((x,.dN),102,.cells [i64 (v 4)] 2),((x,.dN),101,.cells [bF 40] 48),((x,.dN),100,.cells lN iA)];refine(Gi (cC:=[]) (cs:=cs) A H hS [] post (p3 kd k (bU fr)) rfl (eO kd) (by decide) (tF kd _) (p3O k) (ρ:=ρ) (hf.rel (eO kd) Dk rfl rfl) trivial (fun p hp=>?_) (fun p hp=>?_) (nofun) ai (by simp[post]) rfl (ce:=jo) (fun bL=>rfl)).mono fun m1 T1 hd=>?_
 ·simp only[PR,ac,ae,or_false]at hp;rcases hp with rfl|rfl|rfl
  ·rfl
  ·show decide (arg<0)=_;cases k with
   |is=>exact decide_eq_false (by have:=hk.1;omega)
   |low=>exact decide_eq_true hk
   |high=>exact decide_eq_false (by have:=hk.2;omega)
  ·show decide (arg≥(((nb:Nat):Int).toNat:Int))=_;cases k with
   |is=>exact decide_eq_false (by have:=hk.2;omega)
   |low=>exact decide_eq_false (by have:arg<0:=hk;omega)
   |high=>exact decide_eq_true (by have:=hk.1;omega)
 ·rcases ay.1 hp with hp|hp
  ·exact Uv hj di he dI rfl rfl rfl p hp
  ·obtain rfl:=ad.1 hp;exact .inl ⟨rS,kS,eS,by simp,gS⟩
 obtain⟨w',bL,bT,A',Ag,H',hr⟩:=hd;refine⟨w',bT,A',ab6 (post:=post) (fun p hp=>?_) H',hr⟩;simp only[post,ac,ae,or_false]at hp;rcases hp with rfl|rfl|rfl|rfl|rfl<;>rfl
theorem PU{kd:Bool}{S c:Nat}{op arg nw:Int}(A:dD aa base W0 bJ h N m T (G fr cs) w)(H:bK aa base w (ci x Y L0))(hS:cw (ci x Y L0) bJ)(hf:qJ kd S (Y.th j).T op c arg nw fr)(h1:1≤op)(h6:op≤6)(hc:c<6)(Pz:∀b,L0 (a,.app 9 j)≠some (b,.chan)):
  cm aa m T fun m' T'=>∃w' bT f80 BX l,dD aa base W0 bJ h N m' T' (G bT (f80::cs)) w'∧bK aa base w' (ci x Y (L0.set (a,.app 9 j) (BX,.obj iA (iu op c arg nw))))∧cw (ci x Y (L0.set (a,.app 9 j) (BX,.obj iA (iu op c arg nw)))) bJ∧BS (Y.th j).T S (4+c) op arg nw bT∧Iq kd l S (Y.th j).T BX c op arg nw f80:=by
 refine(cQ (cC:=[]) (cs:=cs) A H hS [] [((a,.app 9 j),100,.cells lN iA)] (abJ kd (bU fr)) rfl (by cases kd<;>rfl) (tF kd _) Ts (ρ:=qe S (Y.th j).T 0 c op arg nw) (hf.rel (eO kd) Dk rfl rfl) trivial (fun p hp=>?_) (nofun) (nofun) ai (by simp) rfl).trans fun m1 T1 hd=>?_
 ·simp only[M',ac,ae,or_false]at hp;rcases hp with rfl|rfl|rfl|rfl
  ·show decide (op=7)=false;exact decide_eq_false (by omega)
  ·show decide (op=8)=false;exact decide_eq_false (by omega)
  ·show decide (op≥1)=true;exact decide_eq_true (by omega)
  ·show decide (op≤8)=true;exact decide_eq_true (by omega)
 obtain⟨w1,bW,c9,d9,C⟩:=hd;obtain rfl:=C.none;have x3:bW.i 3=op:=C.bE.ii 3;have x4:bW.i 4=arg:=C.bE.ii 4;have x5:bW.i 5=nw:=C.bE.ii 5;have x6:bW.i 6=c:=C.bE.ii 6;have jY:bW.b 14=(Y.th j).T:=C.bE.bb 14;have lx:bW.b 40=S:=C.bE.bb 40;let BX:=bW.b 100;have f1:FA d7 117 Tr [] (fE kd) [(0,cb S),(1,cb (Y.th j).T),(5,cb BX)] c9:=by have:=C.fr;simp only[AV.cf,bF,AV.ev,af,AA.ev,BR.ev,IE.ev,jY,lx]at this;exact this
 have eS:AV.cf bW lN=iu op c arg nw:=by simp only[lN,AV.cf,i8,i64,v,AV.ev,IE.ev,x3,x4,x5,x6];rfl
 have H1:bK aa base w1 (ci x Y (L0.set (a,.app 9 j) (BX,.obj iA (iu op c arg nw)))):=by
  refine C.heap.sub (cX [(a,.app 9 j)] (fz (fun k hk hr=>rfl) fun r hr _=>cg.b7 fun e=>hr (by simp[e])) (fun r hr=>by cases hr) (fun p hp=>?_) fun r hr y hy=>?_)
  ·simp only[cr,ah,ak,ad]at hp;subst hp;simp
  ·simp only[ac,ae,or_false]at hr;subst hr;rw[ct rfl,cg.cj]at hy;rw[<-au hy];refine bX ?_;simp only[cr,ah,ak,aw,decide_true,cY,eS];rfl
 have ck:=uh (x:=x) (Y:=Y) (L0:=L0) (r:=(a,.app 9 j)) (y:=(BX,.obj iA (iu op c arg nw))) rfl Pz;have lM:=ck.still hS;have rB:ci x Y (L0.set (a,.app 9 j) (BX,.obj iA (iu op c arg nw))) (a,.app 9 j)=some (BX,.obj iA (iu op c arg nw)):=by rw[ct rfl];exact cg.cj
 have g1:dj aa (qe S (Y.th j).T BX c op arg nw) (KV kd (bU c9)) c9:=f1.rel (eO kd) uw rfl rfl;unfold KV at g1;have od:=Tu kd (bU c9);unfold KV at od;rw[Nc]at g1 od;refine(FZ (dH:=Pw) (dx:=Px) (dA:=[]) C.eG H1 (Na (bU c9)) od Ip g1 (fun p hp=>?_) (fun p hp=>?_) (by cases kd<;>rfl) (Nb _)).trans fun m2 T2 hd=>?_
 ·simp only[rH,ac,ae,or_false]at hp;rcases hp with rfl|rfl
  ·show decide ((c:Int)<6)=true;exact decide_eq_true (by omega)
  ·show decide ((0:Int)≤(c:Int))=true;exact decide_eq_true (by omega)
 ·simp only[rG,ac,ae,or_false]at hp;rcases hp with rfl|rfl|rfl|rfl<;>exact .inl ⟨_,_,rB,by simp,rfl⟩
 obtain⟨w2,rn,l,iE,A2,H2,B3,Fx,f2⟩:=hd;have q1:(tE rH rG 117 qd (bZ 117 (bU c9) uw)).j=13:=aj0 _;have q2:(tE rH rG 117 qd (bZ 117 (bU c9) uw)).s=Dl:=aj1 _;have q3:(tE rH rG 117 qd (bZ 117 (bU c9) uw)).m=8191:=aj2 _;rw[q1,q2,q3]at Fx;rw[q1]at f2;have Ys:Iq kd l S (Y.th j).T BX c op arg nw iE:=by have e:=rI (ρ:=rn) (B3.i 3 (by decide)) (B3.i 4 (by decide)) (B3.i 5 (by decide)) (B3.i 6 (by decide)) (B3.b 14 (by decide)) (B3.b 38 (by decide)) (B3.b 40 (by decide));rw[F3,e]at f2;exact f2
 have e0:gz (qe S (Y.th j).T BX c op arg nw) zr=TD S (Y.th j).T BX c op arg nw:=rI rfl rfl rfl rfl rfl rfl rfl;refine(cQ (cC:=[]) (cs:=cs) A2 H2 lM [] [] (Tw kd l (bU iE)) rfl (by cases kd<;>rfl) (Et kd l _) nU (ρ:=qe S (Y.th j).T BX c op arg nw) (Ys.rel (eO kd) zr e0 rfl) trivial (nofun) (nofun) (nofun) ai ai rfl).mono fun m3 T3 hd=>?_;obtain⟨w3,qm,kH,KX,C3⟩:=hd;obtain⟨f80,rfl,tH⟩:=C3.one;have e3:=rI (ρ:=qm) (C3.bE.ii 3) (C3.bE.ii 4) (C3.bE.ii 5) (C3.bE.ii 6) (C3.bE.bb 14) (C3.bE.bb 38) (C3.bE.bb 40);have aed:Iq kd l S (Y.th j).T BX c op arg nw f80:=by have:=tH;dsimp only at this;rw[F3,e3]at this;exact this
 have f11:BS (Y.th j).T S (4+c) op arg nw kH:=by have z14:qm.b 14=(Y.th j).T:=C3.bE.bb 14;have Yg:qm.b 40=S:=C3.bE.bb 40;have z3:qm.i 3=op:=C3.bE.ii 3;have z4:qm.i 4=arg:=C3.bE.ii 4;have z5:qm.i 5=nw:=C3.bE.ii 5;have z6:qm.i 6=c:=C3.bE.ii 6;have:=C3.fr;simp only[AV.cf,bF,i8,i64,v,AV.ev,af,AA.ev,BR.ev,IE.ev,xb Yg z6,z14,z3,z4,z5]at this;exact this
 exact⟨w3,kH,f80,BX,l,C3.eG,cU C3.heap,lM,f11,aed⟩
theorem Zd{kd:Bool}{c:Nat}{op arg nw:Int}{s:SS}{L:cg}(A:dD aa base W0 bJ h N m T (G fr cs) w)(H:bK aa base w (ci x Y (eQ a s L)))(hS:cw (ci x Y (eQ a s L)) bJ)(hj:j<Y.n)(di:Y.dJ=true)(he:(Y.ts j).e=false)(dI:(Y.ts j).a.length=8)(hf:qJ kd s.S (Y.th j).T op c arg nw fr)(h1:1≤op)(h6:op≤6)(hc:c<6):
  cm aa m T fun m' T'=>∃w' bT BX,dD aa base W0 bJ h N m' T' (G bT cs) w'∧bK aa base w' (ci x Y (eQ a {s with box:=upd s.box j (some (BX,iu op c arg nw))} L))∧jw d7 117 [] (fE kd) (.panicking jo) bT:=by
 refine(PU A H hS hf h1 h6 hc fun b=>vF).trans fun m1 T1 hd=>?_;obtain⟨w1,c9,f80,BX,l,A1,H1,lM,Dj,tH⟩:=hd;refine(Uw A1 H1 lM hj di he dI Dj h1 h6).trans fun m2 T2 hd=>?_;obtain⟨w2,iE,A2,H2,hr⟩:=hd;refine(jf A2 H2 hr).mono fun m3 T3 hd=>?_;obtain⟨w3,A3,H3⟩:=hd;rw[zW (p:=(BX,iu op c arg nw))]at H3;exact⟨w3,_,BX,A3,H3,mY _ tH⟩
theorem Nt{fn nt:Nat}{todo:List Item}{lv lv':List (Nat×Value)}{t80:List Item}{kd:Bool}{f1 f80:Frame}(A:dD aa base W0 bJ h N m T (G fr (f1::f80::cs)) w)(H:bK aa base w (ci x Y L0))(hS:cw (ci x Y L0) bJ)(hj:j<Y.n)(di:Y.dJ=true)(hf:ye (Y.th j).T fr)(h1:FA fn nt todo [] .normal lv f1)(tH:FA d7 117 t80 [] (fE kd) lv' f80):
  cm aa m T fun m' T'=>∃w' bT,dD aa base W0 bJ h N m' T' (G bT cs) w'∧bK aa base w' (ci x Y L0)∧jw d7 117 [] (fE kd) (.panicking jo) bT:=by
 have iM:ci x Y L0 (x,.lW j)=some ((Y.th j).T,.obj mU (fA Y.R j (Y.th j) (Y.ts j))):=by rw[bY rfl];exact if_pos hj
 refine(Lk (R:=Y.R) A H hS hf iM rfl (rR:=(x,.run)) (kR:=.obj gK Y.runV) (jr (fun _ _ e=>by cases e) rfl) (by show some (Value.bool Y.dJ)=_;rw[di])).trans fun m1 T1 hd=>?_;obtain⟨w1,c9,A1,H1,hr⟩:=hd;refine(jf A1 H1 hr).trans fun m2 T2 hd=>?_;obtain⟨w2,A2,H2⟩:=hd;refine(jf A2 H2 (mY _ h1)).mono fun m3 T3 hd=>?_;obtain⟨w3,A3,H3⟩:=hd;exact⟨w3,_,A3,H3,mY _ tH⟩
end
def SS.xe(s:SS):SS:={s with holds:=o0 .add .i64 s.holds 1}
theorem Ux{a:Nat}{s:SS}{L:cg}(r:cD)(h0:r≠(a,.app 0 0)):eQ a s.xe L r=eQ a s L r:=by
 obtain⟨z,k⟩:=r;unfold eQ;by_cases hz:z=a
 ·subst hz;simp only[if_true];cases k with
  |app i i'=>
   rcases i with _|i
   ·have hi:¬(RK.app 0 i'=RK.app 0 0):=fun e=>h0 (by rw[e]);simp only[hi,if_false]
   ·rfl
  |_=>rfl
 ·simp only[hz,if_false]
def GS.gone(Y:GS)(j:Nat)(b:Bool):GS:={Y.ended j with dz:=upd Y.dz j (Y.dz j||b)}
section
variable {base:Nat}{W0:World}{bJ:Nat->Option Tok.Seat}{h N:Nat}{m:Machine}{T:Trace}{w:World}{L:cg}{x a:Nat}{Y:GS}{L0:cg}{cs:List Frame}{fr f80 f81 f67 f65 f76:Frame}{j:Nat}{s:SS}{S Tb SB off n cap i:Nat}{ds:List Deferred}{md:FrameMode}
theorem Uy{bv:Value}{t67:List Item}{held:Bool}{ii:Int}{ch:List PanicEntry}(A:dD aa base W0 bJ h N m T (G fr (f67::cs)) w)(H:bK aa base w L)(hf:jw d7 117 [] .normal (.panicking ch) fr)(lO:TS t67 S Tb bv held ii ds f67):
  cm aa m T fun m' T'=>∃w' bT,dD aa base W0 bJ h N m' T' (G bT cs) w'∧bK aa base w' L∧jw dh 61 ds .normal (.panicking ch) bT:=by
 refine(jf A H hf).mono fun m1 T1 hd=>?_;obtain⟨w1,A1,H1⟩:=hd;exact⟨w1,_,A1,H1,mY _ lO⟩
theorem Ze{ch:List PanicEntry}(A:dD aa base W0 bJ h N m T (G fr (f67::cs)) w)(H:bK aa base w L)(hf:jw d7 117 [] .deferred (.panicking ch) fr)(lO:jw dh 61 ds .normal md f67):
  cm aa m T fun m' T'=>∃w' bT,dD aa base W0 bJ h N m' T' (G bT cs) w'∧bK aa base w' L∧jw dh 61 ds .normal (Ga md ch) bT:=by
 refine(jf A H hf).mono fun m1 T1 hd=>?_;obtain⟨w1,A1,H1⟩:=hd;exact⟨w1,_,A1,H1,PP _ lO⟩
theorem Uz{B:Nat}{r8:cD}{k8:fK}(A:dD aa base W0 bJ h N m T (G fr (f81::f67::cs)) w)(H:bK aa base w (ci x Y (eQ a s L0)))(hS:cw (ci x Y (eQ a s L0)) bJ)(hq:s.q.length=4)(hf:jw d7 117 [] .normal (.panicking jo) fr)(Nn:Nm B f81)(lO:TS Nk s.S Tb (ux SB off n cap) true i ds f67)(hi:i<1000000)(e8:ci x Y (eQ a s L0) r8=some (B,k8))(g8:k8.cell 0=some (cb s.S))(n8:r8≠(a,.app 0 0)):
  cm aa m T fun m' T'=>∃w' bT,dD aa base W0 bJ h N m' T' (G bT cs) w'∧bK aa base w' (ci x Y (eQ a s.xe L0))∧vG s.S Tb (ux SB off n cap) true ((i+1:Nat):Int) ds bT:=by
 refine(jf A H hf).trans fun m1 T1 hd=>?_;obtain⟨w1,A1,H1⟩:=hd;have ak8:=mY jo Nn;generalize f81.raise jo=g81 at A1 ak8;let ρ:cn:={gY [(41,1),(42,1),(53,n),(54,cap),(55,off),(56,i),(57,s.holds)] [(14,Tb),(36,B),(40,s.S),(52,SB)] [(44,.agg s.xs.toArray)]with bt:=(none,ds)};have x14:s.xs[14]?=some (iV s.holds):=by unfold SS.xs;rw[aE (by omega),hq];rfl
 have iw:c8 aa ρ [TQ true Nk (bU f67)] [f67]:=⟨lO.yR rfl (F7 true rL (v 56)) rfl,trivial⟩;refine(qK (cC:=[f67]) (cs:=cs) A1 H1 hS [((a,.app 0 0),40,.cH false 44 (v 41) [(.lit 14,i64 (v 57))] [] [] fe (v 42))] [((a,.app 0 0),40,.cH false 44 (v 41) [(.lit 14,i64 (v 57))] [(.lit 14,i64 (.op .add .i64 (v 57) (.lit 1)))] [] fe (v 42))] (p4 (bU g81) (bU f67)) rfl rfl (akY _ _) p4O (ρ:=ρ) rfl (IK ak8 (.inl rfl) (dA:=hdD 36) rfl (mA:=.panicking [(EB,false)]) rfl (fun e=>by cases e)) iw (nofun) (fun p hp=>?_) (fun p hp=>?_) (by simp) (by simp) rfl).mono fun m2 T2 hd=>?_
 ·obtain rfl:=ad.1 hp;exact .inl ⟨_,_,e8,by simpa using n8,g8⟩
 ·obtain rfl:=ad.1 hp;refine⟨.fF fe 1 s.xs,by rw[ct rfl];exact i5,rfl,rfl,fun i hi=>?_,fun q km=>?_,rfl⟩
  ·rw[mX i hi,rJ hq];rfl
  ·obtain rfl:=ad.1 km;exact x14
 obtain⟨w',bL,bT,dk,C⟩:=hd;obtain rfl:=C.none;have CH:bL.i 42=1:=C.bE.ii 42;have z57:bL.i 57=s.holds:=C.bE.ii 57;have lx:bL.b 40=s.S:=C.bE.bb 40;have K2:bL.v 44=.agg s.xs.toArray:=congrFun C.bE.v 44;have K7:bL.i 53=n:=C.bE.ii 53;have K8:bL.i 54=cap:=C.bE.ii 54;have K9:bL.i 55=off:=C.bE.ii 55;have K_:bL.i 56=i:=C.bE.ii 56;have jY:bL.b 14=Tb:=C.bE.bb 14;have La:bL.b 52=SB:=C.bE.bb 52;have zb:bL.bt=(none,ds):=C.bE.bt;have ei:o0 .add .i64 (i:Int) 1=((i+1:Nat):Int):=add_one (show i≤1000000 by omega);refine⟨w',bT,C.eG,C.heap.sub (cX [(a,.app 0 0)] (fz (fun k hk hr=>rfl) fun r hr _=>Ux r fun e=>hr (by simp[e])) (fun r hr=>by simpa using hr) (fun p hp=>?_) fun r hr y hy=>?_),?_⟩
 ·simp only[cr,ah,ak,ad]at hp;subst hp;simp
 ·simp only[ac,ae,or_false]at hr;subst hr;rw[ct rfl,i5]at hy;rw[<-au hy];refine bX ?_;simp only[cr,ah,ak,aw,decide_true];have ew:s.xs.set 14 (iV (o0 .add .i64 s.holds 1))=s.xe.xs:=by
   unfold SS.xs SS.xe;dsimp only;rw[List.set_append_right _ _ (by omega),hq];rfl
  simp only[cY,dF,List.foldr_cons,List.foldr_nil,K2,gy,bm,i64,AV.ev,AV.cf,aX,v,IE.ev,CH,z57,lx];rw[<-ew];rfl
 ·have:=C.fr;unfold CI F6 ly at this;simp only[zb,yV,rL,AV.cf,bF,tr,i64,v,AV.ev,af,AA.ev,BR.ev,IE.ev,BE.ev,K7,K8,K9,K_,jY,lx,La,ap,ei]at this;exact this
theorem ak9(cap:Array Value)(w:World):(invoke (.fn (.func rF) cap) #[]).run aa w=.ok (.enter rF (#[]++cap)) w:=by kernel_rfl
theorem aqW(cap:Array Value)(w:World):(invoke (.fn (.func rF) cap) #[]).events aa w #[]=#[]:=by kernel_rfl
theorem ak_(cap:Array Value)(w:World):(invoke (.fn (.func oQ) cap) #[]).run aa w=.ok (.enter oQ (#[]++cap)) w:=by kernel_rfl
theorem aqX(cap:Array Value)(w:World):(invoke (.fn (.func oQ) cap) #[]).events aa w #[]=#[]:=by kernel_rfl
theorem ak':(Try.prog.funcs[rF]?).map (fun f=>f.results.size)=some 0:=by kernel_rfl
theorem UA{tI:Nat}{YA:cD}{k11:fK}{t:FU}{ch:List PanicEntry}(xV:Gb ch)(A:dD aa base W0 bJ h N m T (G fr (f65::f76::cs)) w)(H:bK aa base w (ci x Y (eQ a s L0)))(hS:cw (ci x Y (eQ a s L0)) bJ)(hq:s.q.length=4)(hf:jw dh 61 [] .normal (.panicking ch) fr)(WD:Ng tI f65)(Np:Yy t f76)(Nh:ci x Y (eQ a s L0) YA=some (tI,k11))(g11:k11.cell 0=some (cb s.S))(n11:YA≠(a,.app 0 0)){e:Nat}(he:s.ended=e)(Q4:e≤1000000):
  cm aa m T fun m' T'=>∃w' bT,dD aa base W0 bJ h N m' T' (G bT cs) w'∧bK aa base w' (ci x Y (eQ a s.zt L0))∧jw ed 14 (FY t.c2 t.c5) .deferred (.panicking ch) bT:=by
 let ρ:cn:=gY [(41,1),(42,1),(57,s.ended)] [(11,tI),(40,s.S)] [(44,.agg s.xs.toArray)];have x13:s.xs[13]?=some (iV s.ended):=by unfold SS.xs;rw[aE (by omega),hq];rfl
 refine(jf A H hf).trans fun m1 T1 hd=>?_;obtain⟨w1,A1,H1⟩:=hd;have ala:=mY ch WD;generalize f65.raise ch=g65 at A1 ala;refine(Nq (ρ:=ρ) (cap:=#[cb tI]) A1 H1 ala (fun e=>by cases e) Y9 (AV.gJ [bF 11] (by kernel_rfl)) rfl rfl rfl fun w'=>⟨ak9 _ w',aqW _ w'⟩).trans fun m2 T2 hd=>?_;obtain⟨w2,iE,aqY,A2,H2,hE,ab7⟩:=hd;refine(cQ (cC:=[]) (cs:=aqY::f76::cs) A2 H2 hS [((a,.app 0 0),40,.cH false 44 (v 41) [(.lit 13,i64 (v 57))] [] [] fe (v 42))] [((a,.app 0 0),40,.cH false 44 (v 41) [(.lit 13,i64 (v 57))] [(.lit 13,i64 (.op .add .i64 (v 57) (.lit 1)))] [] fe (v 42))] p5 rfl rfl akZ p5O (ρ:=ρ) hE trivial (nofun) (fun p hp=>?_) (fun p hp=>?_) (by simp) (by simp) rfl).trans fun m3 T3 hd=>?_
 ·obtain rfl:=ad.1 hp;exact .inl ⟨_,_,Nh,by simpa using n11,g11⟩
 ·obtain rfl:=ad.1 hp;refine⟨.fF fe 1 s.xs,by rw[ct rfl];exact i5,rfl,rfl,fun i hi=>?_,fun q km=>?_,rfl⟩
  ·rw[mX i hi,rJ hq];rfl
  ·obtain rfl:=ad.1 km;exact x13
 obtain⟨w3,bL,kH,KX,C⟩:=hd;obtain rfl:=C.none;have CH:bL.i 42=1:=C.bE.ii 42;have z57:bL.i 57=s.ended:=C.bE.ii 57;have lx:bL.b 40=s.S:=C.bE.bb 40;have K2:bL.v 44=.agg s.xs.toArray:=congrFun C.bE.v 44;have ei:o0 .add .i64 s.ended 1=s.ended+1:=by rw[he];have:=add_one (i:=e) Q4;rw[this];rfl
 have H3:bK aa base w3 (ci x Y (eQ a s.zt L0)):=by
  refine C.heap.sub (cX [(a,.app 0 0)] (fz (fun k hk hr=>rfl) fun r hr _=>No r fun e=>hr (by simp[e])) (fun r hr=>by simpa using hr) (fun p hp=>?_) fun r hr y hy=>?_)
  ·simp only[cr,ah,ak,ad]at hp;subst hp;simp
  ·simp only[ac,ae,or_false]at hr;subst hr;rw[ct rfl,i5]at hy;rw[<-au hy];refine bX ?_;simp only[cr,ah,ak,aw,decide_true];have ew:s.xs.set 13 (iV (s.ended+1))=s.zt.xs:=by
    unfold SS.xs SS.zt;dsimp only;rw[List.set_append_right _ _ (by omega),hq];rfl
   simp only[cY,dF,List.foldr_cons,List.foldr_nil,K2,gy,bm,i64,AV.ev,AV.cf,aX,v,IE.ev,CH,z57,lx,ei];rw[<-ew];rfl
 refine(YL C.eG H3 ak' C.fr (PQ ab7 (xd xV))).trans fun m4 T4 hd=>?_;obtain⟨w4,A4,H4⟩:=hd;refine(jf A4 H4 ab7).mono fun m5 T5 hd=>?_;obtain⟨w5,A5,H5⟩:=hd;exact⟨w5,_,A5,H5,mY _ Np⟩
theorem ae6:(Ut[0]?).isSome=true:=by kernel_rfl
noncomputable def Ll:Oper:=(Ut[0]?).get ae6
theorem aqZ:Ut[0]?=some Ll:=(Option.some_get _).symm
theorem reG:Ll.guard=none:=by kernel_rfl
theorem reD:Ll.dst=some 3:=by kernel_rfl
theorem alb(f:Operand->Value)(w:World):(execOp f Ll).run aa w=.ok .recover w:=by kernel_rfl
theorem aq0(f:Operand->Value)(w:World):(execOp f Ll).events aa w #[]=#[]:=by kernel_rfl
theorem ae7{c2 c5:Nat}{e:PanicEntry}{l:List PanicEntry}(he:e.recovered=false∧e.goexit=false)(A:dD aa base W0 bJ h N m T (G fr (f76::cs)) w)(H:bK aa base w L)(hf:FA oQ 30 (.inRegion Ut [0,1]::reK) [] .deferred [(0,cb c2),(1,cb c5)] fr)(Np:jw ed 14 [] .deferred (.panicking (e::l)) f76):
  cm aa m T fun m' T'=>∃w' bT g76,dD aa base W0 bJ h N m' T' (G bT (g76::cs)) w'∧bK aa base w' L∧FA oQ 30 (.inRegion Ut [1]::reK) [] .deferred [(0,cb c2),(1,cb c5),(3,e.v)] bT∧jw ed 14 [] .deferred (.panicking ({v:=e.v,recovered:=true}::l)) g76:=by
 obtain⟨⟨tm,rfl,h2,h3⟩,h4,h5⟩:=hf;obtain⟨⟨tm2,Iz,rfl,k2⟩,k4,k5⟩:=Np;obtain⟨ev,er,eg⟩:=e;obtain⟨rfl,rfl⟩:=he;have rm:(iD oQ .deferred).kind≠.early:=by simp[iD]
 have hw:Region.wanted Ll (yielded Ut (⟨tm,[]⟩:Act).tmps)=true:=by unfold Region.wanted;rw[reG]
 have hs:∀w',stepG aa (h==0) (G ((iD oQ .deferred).at ⟨tm,[]⟩ (.inRegion Ut [0,1]::reK)) ({(iD ed .deferred).at ⟨tm2,[]⟩ Iz with mode:=.panicking (⟨ev,false,false⟩::l)}::cs)) w'=.go (G ((iD oQ .deferred).at ((⟨tm,[]⟩:Act).put Ll.dst ev) (.inRegion Ut [1]::reK)) ({(iD ed .deferred).at ⟨tm2,[]⟩ Iz with mode:=.panicking ({v:=ev,recovered:=true}::l)}::cs)) w' #[]:=fun w'=>by rw[C_ aqZ hw rm (alb _ w')];unfold listed;rw[aq0];rfl
 refine(hand A H rfl hs).mono fun m1 T1 hd=>?_;obtain⟨w1,A1,H1⟩:=hd;refine⟨w1,_,_,A1,H1,⟨⟨tm.setIfInBounds 3 ev,?_,?_,fun p hp=>?_⟩,h4,h5⟩,⟨⟨tm2,Iz,rfl,k2⟩,k4,k5⟩⟩
 ·rw[reD];rfl
 ·rw[Array.size_setIfInBounds];exact h2
 ·rw[B7];simp only[ac,ae,or_false]at hp;rcases hp with rfl|rfl|rfl
  ·exact h3 (0,cb c2) (by simp)
  ·exact h3 (1,cb c5) (by simp)
  ·rw[if_pos ⟨rfl,by omega⟩]
end
noncomputable def sg(x j:Nat)(sp:Bool):List (cD×Nat×bM):=(match sp with
 |true=>[]
 |false=>[((x,.rZ),21,.cH false 41 (v 1) [(.tn (v 2),ff)] [] [] lV (v 23))])++[((x,.lW j),14,yh ff)]
noncomputable def vJ(x j:Nat)(sp:Bool):List (cD×Nat×bM):=(match sp with
 |true=>[]
 |false=>[((x,.rZ),21,.cH false 41 (v 1) [(.tn (v 2),ff)] [(.tn (v 2),TB)] [] lV (v 23))])++[((x,.lW j),14,yh TB)]
theorem EE(x j:Nat)(sp:Bool):(sg x j sp).map (·.2)=Za sp:=by cases sp<;>rfl
theorem Lm(x j:Nat)(sp:Bool):(vJ x j sp).map (·.2)=ab5 sp:=by cases sp<;>rfl
section
variable {base:Nat}{W0:World}{bJ:Nat->Option Tok.Seat}{h N:Nat}{m:Machine}{T:Trace}{w:World}{L:cg}{x:Nat}{Y:GS}{L0:cg}{tC:List Frame}{fr:Frame}{j p:Nat}
theorem UB{l:List PanicEntry}(hl:∀e∈l,e.goexit=false){v:Value}{f:Frame}(Np:jw ed 14 [] .deferred (.panicking ({v:=v,recovered:=true}::l)) f):∃m,QuitsD aa m 0 (G (Cc f) [fB aa]):=by
 obtain⟨⟨tm,todo,rfl,h2⟩,h4,h5⟩:=Np;have hd:l.dropWhile (!·.goexit)=[]:=by
  induction l with
  |nil=>rfl
  |cons e l ih=>rw[List.dropWhile_cons,if_pos (by rw[hl e (an ..)];rfl)];exact ih fun e' he=>hl e' (am _ he)
 have e1:Cc {(iD ed .deferred).at ⟨tm,[]⟩ todo with mode:=.panicking ({v:=v,recovered:=true}::l)}={(iD ed .deferred).at ⟨tm,[]⟩ todo with mode:=.returning}:=by unfold Cc;dsimp only;rw[hd]
 rw[e1];have hr:jw ed 14 [] .deferred .returning {(iD ed .deferred).at ⟨tm,[]⟩ todo with mode:=.returning}:=⟨⟨tm,todo,rfl,h2⟩,h4,h5⟩;generalize({(iD ed .deferred).at ⟨tm,[]⟩ todo with mode:=.returning}:Frame)=g at hr;have kI:=IK (ρ:=gY [] [] []) hr (.inr rfl) (dA:=[]) rfl (mA:=.returning) rfl (fun e=>by cases e);exact tj (O:=Eh []) rfl rfl rfl (tv []) (If fun p hp=>by cases hp) (Zc (bU g)) (wS (ak5 (bU g))) ⟨g,[],kI,trivial,rfl⟩
theorem Nu{t:Tok.Seat}{z zC:Nat}{BJ:Frame->Prop}{ch:List PanicEntry}(xV:Gg ch)(A:dD aa base W0 bJ h N m T (G fr [fB aa]) w)(H:bK aa base w (ci x Y L0))(hS:cw (ci x Y L0) bJ)(hj:j<Y.n)(he:(Y.ts j).e=false)(hfl:Y.dz j=false)(dI:(Y.ts j).a.length=8)(kY:0<h)
 (hf:jw ed 14 (FY (Y.th j).c2 (Y.th j).c5) .deferred (.panicking ch) fr)(hp:bJ p=some t)(W:j4 t (Y.th j).sd z zC BJ tC):
  cm aa m T fun m' T'=>∃w' iJ,dD aa base W0 (Tok.e_ bJ h p none) p N m' T' (G iJ tC) w'∧bK aa base w' (ci x (Y.gone j (!Y.dJ)) L0)∧BJ iJ:=by
 obtain⟨e,l,rfl,jc⟩:=xV;obtain⟨er,eg,ev⟩:=jc e (an ..);obtain⟨a0,a1,a2,a3,a4,a5,a6,a7,ha⟩:=r_ dI;obtain⟨sp,hsp⟩:∃b,Y.dJ=b:=⟨_,rfl⟩;obtain⟨vv,hvv⟩:∃b,e.v=(pvA b).ev (gY [] [] []):=by
  rcases ev with e1|e1
  ·exact⟨false,by rw[e1];unfold Ex;rw[Ua];rfl⟩
  ·exact⟨true,by rw[e1];rfl⟩
 have hpv:∀ρ:cn,(pvA vv).ev ρ=e.v:=fun ρ=>by rw[hvv];cases vv<;>rfl
 have iM:eo Y (.lW j)=some ((Y.th j).T,.obj mU (fA Y.R j (Y.th j) (Y.ts j))):=if_pos hj;have h5:eo Y (.c5 j)=some ((Y.th j).c5,.obj g9 [cb (Y.th j).T]):=if_pos hj;have h2:eo Y (.c2 j)=some ((Y.th j).c2,.obj wW [cb Y.R]):=if_pos hj;let ρ:cn:=gY [(1,Y.n),(2,j),(23,Y.cF)] [(10,Y.R),(14,(Y.th j).T),(16,(Y.th j).c2),(17,(Y.th j).c5),(21,Y.FA),(26,(Y.th j).wk),(27,(Y.th j).sd)] [(41,.agg (yQ Y).toArray),(50,(Y.ts j).v),(51,(Y.ts j).a.getD 0 undef),(52,(Y.ts j).a.getD 1 undef),(53,(Y.ts j).a.getD 2 undef),(54,(Y.ts j).a.getD 3 undef),(55,(Y.ts j).a.getD 4 undef),(56,(Y.ts j).a.getD 5 undef),(57,(Y.ts j).a.getD 6 undef),(58,(Y.ts j).a.getD 7 undef)];refine(Nq (ρ:=ρ) (cap:=#[cb (Y.th j).c2,cb (Y.th j).c5]) A H hf (fun e=>by cases e) Y_ (AV.gJ [bF 16,bF 17] (by kernel_rfl)) rfl rfl rfl fun w'=>⟨ak_ _ w',aqX _ w'⟩).trans fun m1 T1 hd=>?_;obtain⟨w1,c9,g76,A1,H1,hE,Np⟩:=hd;refine(cQ (cC:=[]) (cs:=[g76,fB aa]) A1 H1 hS [] [] p6 rfl rfl ak0 nU (ρ:=ρ) hE trivial (nofun) (nofun) (nofun) ai ai rfl).trans fun m2 T2 hd=>?_;obtain⟨w2,rn,iE,ad',C⟩:=hd;obtain rfl:=C.none;have f2:FA oQ 30 (.inRegion Ut [0,1]::reK) [] .deferred [(0,cb (Y.th j).c2),(1,cb (Y.th j).c5)] iE:=by have y16:rn.b 16=(Y.th j).c2:=C.bE.bb 16;have Yi:rn.b 17=(Y.th j).c5:=C.bE.bb 17;have:=C.fr;simp only[AV.cf,bF,AV.ev,af,AA.ev,BR.ev,IE.ev,y16,Yi]at this;exact this
 refine(ae7 ⟨er,eg⟩ C.eG (cU C.heap) f2 Np).trans fun m3 T3 hd=>?_;obtain⟨w3,kH,q76,A3,H3,f3,q3⟩:=hd;have hpre:mo (ci x Y L0) ρ (sg x j sp):=fun p hp=>by
  unfold sg at hp;rcases ay.1 hp with hp|hp
  ·cases sp with
   |true=>cases hp
   |false=>
    obtain rfl:=ad.1 hp;refine⟨.fF lV Y.cF (yQ Y),?_,rfl,rfl,fun i hi=>?_,fun q km=>?_,rfl⟩
    ·rw[bY rfl];simp only[eo];rw[if_neg (by omega)];rfl
    ·rw[Eo i hi,BU];show _=(((Y.n:Nat):Int)).toNat*1;omega
    ·obtain rfl:=ad.1 km;show(yQ Y)[(((j:Nat):Int).toNat:Int).toNat]?=some (.bool false);rw[ap,ap];unfold yQ;rw[aZ,bn hj];simp[hfl]
  ·obtain rfl:=ad.1 hp;refine⟨_,jr (fun _ _ e=>by cases e) iM,rfl,?_⟩;show _=[cb Y.R,iV j,_,_,(Y.ts j).v]++(Y.ts j).a++[.bool (Y.ts j).e];rw[he,ha];simp only[ρ,ha];rfl
 have zR:((sg x j sp).map (·.1)).Nodup:=by cases sp<;>simp[sg]
 have hnm:∀k:RK,k≠.rZ->k≠.lW j->(x,k)∉(sg x j sp).map (·.1):=fun k h1 h2=>by cases sp<;>simp[sg,h1,h2]
 have fJ:cO (p7B sp) (p7M sp) 29 (p7K sp) (cJ (p7E vv (bU kH)) [] ((sg x j sp).map (·.2)))=.ok (Uu sp vv (bU kH)):=by rw[EE];exact ak3 _ _ _
 have jG:bR 100 (cJ (p7E vv (bU kH)) [] ((sg x j sp).map (·.2)))=true:=by rw[EE];exact ak4 _ _ _
 have kI:dj aa ρ (p7E vv (bU kH)) kH:=f3.rel (.inr rfl) [(0,bF 16),(1,bF 17),(3,pvA vv)] (by simp only[gz,ah,ak,hpv];rfl) rfl;refine(FT (cC:=[]) (cs:=[q76,fB aa]) A3 H3 (sg x j sp) (vJ x j sp) fJ ((ae3 _ _ _).trans (Lm x j sp).symm) jG (p7O sp) (ρ:=ρ) kI trivial (fun p hp=>?_) (fun p hp=>?_) hpre zR (by cases sp<;>simp[vJ]) (BK H3 hS hpre (by cases sp<;>rfl))).trans fun m4 T4 hd=>?_
 ·cases sp with
  |true=>cases hp
  |false=>
   simp only[p7B,ac,ae,or_false]at hp;rcases hp with rfl|rfl
   ·show decide ((j:Int)<(((Y.n:Nat):Int).toNat:Int))=true;exact decide_eq_true (by omega)
   ·show decide ((0:Int)≤(j:Int))=true;exact decide_eq_true (by omega)
 ·unfold p7M at hp;rcases ay.1 hp with hp|hp
  ·simp only[ac,ae,or_false]at hp;rcases hp with rfl|rfl|rfl
   ·exact .inl ⟨(x,.c2 j),_,jr (fun _ _ e=>by cases e) h2,hnm _ (fun e=>by cases e) (fun e=>by cases e),rfl⟩
   ·exact .inl ⟨(x,.c5 j),_,jr (fun _ _ e=>by cases e) h5,hnm _ (fun e=>by cases e) (fun e=>by cases e),rfl⟩
   ·refine .inl ⟨(x,.run),.obj gK Y.runV,jr (fun _ _ e=>by cases e) rfl,hnm _ (fun e=>by cases e) (fun e=>by cases e),?_⟩;show some (Value.bool Y.dJ)=some (.bool sp);rw[hsp]
  ·cases sp with
   |true=>cases hp
   |false=>obtain rfl:=ad.1 hp;refine .inl ⟨(x,.run),.obj gK Y.runV,jr (fun _ _ e=>by cases e) rfl,hnm _ (fun e=>by cases e) (fun e=>by cases e),?_⟩;show some (c_ Y.n Y.FA Y.cF)=_;rw[cy (by omega)];rfl
 obtain⟨a1',w4,bL,U',A4,Ag,kp,I,Γ,H4⟩:=hd;have Th:bL.b 27=(Y.th j).sd:=Ag.b 27 (by decide);have mr:bL.b 10=Y.R:=Ag.b 10 (by decide);have jY:bL.b 14=(Y.th j).T:=Ag.b 14 (by decide);have y21:bL.b 21=Y.FA:=Ag.b 21 (by decide);have Pn:bL.b 26=(Y.th j).wk:=Ag.b 26 (by decide);have x1:bL.i 1=Y.n:=Ag.i 1 (by decide);have x2:bL.i 2=j:=Ag.i 2 (by decide);have x23:bL.i 23=Y.cF:=Ag.i 23 (by decide);have hv:bL.v=ρ.v:=Ag.v;have H4':bK aa base w4 (ci x (Y.gone j (!Y.dJ)) L0):=by
  rw[hsp];refine H4.sub (cX [(x,.lW j),(x,.rZ)] (fz (fun k hk hr=>?_) fun r hr _=>rfl) (fun r hr=>?_) (fun q hq=>?_) fun r hr y hy=>?_)
  ·cases k with
   |lW i=>have hi:i≠j:=fun e=>hr (by simp[e]);simp[eo,GS.gone,GS.ended,upd_ne _ _ hi]
   |rZ=>exact absurd (by simp) hr
   |_=>rfl
  ·cases sp<;>simp only[sg,aA,az,ah,ak,ac,ae,or_false]at hr
   ·rcases hr with rfl|rfl<;>simp
   ·subst hr;simp
  ·cases sp<;>simp only[cr,vJ,aA,az,ah,ak,ac,ae,or_false]at hq
   ·rcases hq with rfl|rfl<;>simp
   ·subst hq;simp
  ·simp only[ac,ae,or_false]at hr;rcases hr with rfl|rfl
   ·rw[bY rfl]at hy;simp only[eo,GS.gone,GS.ended,hj,if_true,upd_same,Option.some.injEq]at hy;subst hy;refine bX ?_;cases sp<;>simp only[cr,vJ,aA,az,ah,ak,aw,decide_true,Prod.mk.injEq,reduceCtorEq,and_false,decide_false]
    all_goals
     simp only[yh,cY,az,aA,fp,Pi,AV.cf,TB,tr,jY,mr,Pn,Th,bF,i64,uS,v,AV.ev,IE.ev,BE.ev,af,AA.ev,BR.ev,x2,hv];unfold fA;rw[ha];simp only[ρ,ha];rfl
   ·rw[bY rfl]at hy;have hn:¬(Y.n=0):=by omega
    have D4:some (Y.FA,fK.fF lV Y.cF (yQ (Y.gone j (!sp))))=some y:=by simpa only[eo,GS.gone,GS.ended,hn,if_false] using hy
    cases D4;cases sp with
    |true=>
     rw[jj (by simp[sg]) (by simp[vJ,cr]),bY rfl];have e0:yQ (Y.gone j (!true))=yQ Y:=by
      unfold yQ;refine aY fun i _=>?_;show Value.bool (upd Y.dz j (Y.dz j||!true) i)=_;by_cases hi:i=j
      ·subst hi;rw[upd_same];simp
      ·rw[upd_ne _ _ hi]
     rw[e0];simp only[eo,hn,if_false]
    |false=>
     refine bX ?_;simp only[cr,vJ,aA,az,ah,ak,aw,decide_true];have e0:(yQ Y).set j (.bool true)=yQ (Y.gone j (!false)):=by
      refine List.ext_getElem? fun i=>?_;rw[List.getElem?_set];unfold yQ;show _=((List.range Y.n).map fun i=>Value.bool (upd Y.dz j (Y.dz j||!false) i))[i]?;by_cases hi:j=i
      ·subst hi;rw[if_pos rfl,if_pos (by simpa using hj),aZ,bn hj];simp[upd_same]
      ·rw[if_neg hi,aZ,aZ];rcases bo i Y.n with h1|h1
       ·rw[bn h1];simp[upd_ne _ _ (Ne.symm hi)]
       ·rw[List.getElem?_eq_none (by simpa using h1)];rfl
     simp only[cY,dF,List.foldr_cons,List.foldr_nil,hv,gy,TB,AV.ev,AV.cf,aX,v,IE.ev,BE.ev,x1,x2,x23,y21];rw[<-e0];simp only[ρ,ap];rfl
 have yL:∀g,kD U' ⟨zm (Uu sp vv (bU kH)).da cx,(Uu sp vv (bU kH)).callers,e0⟩->jv aa bL ⟨zm (Uu sp vv (bU kH)).da cx,(Uu sp vv (bU kH)).callers,e0⟩ [q76,fB aa] g->∃nh,∀T',Deaf T' h=0->Tok.Rest aa T' h nh g none:=fun g I' vj=>by obtain⟨mq,hq⟩:=Ud (O:=Eh []) (UB (fun e' jO=>(jc e' (am _ jO)).2.1) q3) rfl rfl rfl (tv []) (If fun p hp=>by cases hp) (Zb _ _ _) I' vj;exact⟨mq,fun T' hD=>⟨kY,by rw[hD];exact hq⟩⟩
 refine(dD.Bi (cs:=[q76,fB aa]) A4 Γ I (ae4 _ _ _) hp (W.c.trans Th.symm) (so:=none) (fun s' e=>by cases e) yL).mono fun m5 T5 hd=>?_;obtain⟨g₂,d,kk,A5,hh,Ti⟩:=hd;obtain⟨iJ,e,hB'⟩:=W.ad8 _ hh;have e2:Conc.served g₂ (recvd t.ok (UN.ev bL) true)=G iJ tC:=e;rw[e2]at A5;exact⟨_,iJ,A5,H4'.set Ti,hB'⟩
end
section
variable {base:Nat}{W0:World}{bJ:Nat->Option Tok.Seat}{h N:Nat}{m:Machine}{T:Trace}{w:World}{L:cg}{cs:List Frame}{fr f67 f81 f80:Frame}{S Tb SB off n cap i:Nat}{op c arg nw:Int}{ds:List Deferred}{held:Bool}
theorem IM(A:dD aa base W0 bJ h N m T (G fr cs) w)(H:bK aa base w L)(hS:cw L bJ)(hf:vG S Tb fO held 0 ds fr):
  cm aa m T fun m' T'=>∃w' bT,dD aa base W0 bJ h N m' T' (G bT cs) w'∧bK aa base w' L∧FA dh 61 [] ds .normal [] bT:=by
 refine(qK (cC:=[]) (cs:=cs) A H hS [] [] (p8 held (bU fr)) rfl rfl (ak7 held _) nU (ρ:=jJ S Tb 0 0 0 0 0 0 0 0 0 ds) rfl (hf.yR rfl (F7 held eU (.lit 0)) rfl) trivial (nofun) (nofun) (nofun) ai ai rfl).mono fun m1 T1 hd=>?_;obtain⟨w',bL,bT,dk,C⟩:=hd;obtain rfl:=C.none;have zb:bL.bt=(none,ds):=C.bE.bt;refine⟨w',bT,C.eG,cU C.heap,?_⟩;have:=C.fr;unfold CI F6 ly at this;simp only[zb]at this;exact this
theorem Ln{x:Nat}{Y:GS}{L0:cg}(A:dD aa base W0 bJ h N m T (G fr cs) w)(H:bK aa base w (ci x Y L0))(hS:cw (ci x Y L0) bJ)(hf:vG S Tb (ux SB off n cap) true i ds fr)(hs:yW (ci x Y L0) SB off i 22 c arg nw)(hi:i<n):
  cm aa m T fun m' T'=>∃w' bT f67,dD aa base W0 bJ h N m' T' (G bT (f67::cs)) w'∧bK aa base w' (ci x Y L0)∧F8 S Tb 22 c arg nw bT∧TS Nk S Tb (ux SB off n cap) true i ds f67:=by
 refine(qK (cC:=[]) (cs:=cs) A H hS [] [((x,.dN),100,.cells lN iA)] (p9 (bU fr)) rfl rfl (K6 true _) akm (ρ:=jJ S Tb SB off n cap i 22 c arg nw ds) rfl (vH hf) trivial (fun p hp=>?_) (Ew hs) (nofun) ai (by simp) rfl).mono fun m1 T1 hd=>?_
 ·rcases ay.1 hp with hp|hp
  ·exact Iu hi p hp
  ·simp only[ac,ae,or_false]at hp;rcases hp with rfl|rfl|rfl<;>rfl
 obtain⟨w',bL,bT,dk,C⟩:=hd;obtain⟨f67,rfl,lO⟩:=C.one;have z3:bL.i 3=22:=C.bE.ii 3;have z4:bL.i 4=arg:=C.bE.ii 4;have z5:bL.i 5=nw:=C.bE.ii 5;have z6:bL.i 6=c:=C.bE.ii 6;have K7:bL.i 53=n:=C.bE.ii 53;have K8:bL.i 54=cap:=C.bE.ii 54;have K9:bL.i 55=off:=C.bE.ii 55;have K_:bL.i 56=i:=C.bE.ii 56;have jY:bL.b 14=Tb:=C.bE.bb 14;have lx:bL.b 40=S:=C.bE.bb 40;have La:bL.b 52=SB:=C.bE.bb 52;have zb:bL.bt=(none,ds):=C.bE.bt;refine⟨w',bT,f67,C.eG,kV (fun p hp=>by rw[ad.1 hp]) C.heap,?_,?_⟩
 ·have:=C.fr;unfold CI F6 ly at this;simp only[AV.cf,F2,bF,i8,i64,v,AV.ev,af,AA.ev,BR.ev,IE.ev,z3,z4,z5,z6,jY,lx]at this;exact this
 ·unfold CI F6 ly at lO;simp only[zb,uV,rL,AV.cf,bF,tr,i64,v,AV.ev,af,AA.ev,BR.ev,IE.ev,BE.ev,K7,K8,K9,K_,jY,lx,La,ap]at lO;exact lO
end
structure Wd where
 base:Nat
 W0:World
 x:Nat
 a:Nat
 LB:cg
abbrev Wd.de(E:Wd)(Y:GS)(X:XS):cg:=ci E.x Y (dM E.a X E.LB)
def On(E:Wd)(bJ:Nat->Option Tok.Seat)(h N:Nat)(Y:GS)(X:XS)(g:Goroutine)(m:Machine)(T:Trace):Prop:=∃w,dD aa E.base E.W0 bJ h N m T g w∧bK aa E.base w (E.de Y X)∧cw (E.de Y X) bJ
theorem kJ{a:Nat}{X:XS}{L:cg}{z:Nat}{k:RK}(h:fm k=false):dM a X L (z,k)=L (z,k):=by
 unfold dM eQ iK;dsimp only;by_cases hz:z=a
 ·simp only[hz,if_true];cases k<;>first|rfl|cases h
 ·simp only[hz,if_false]
theorem PV{a:Nat}{X X':XS}{L:cg}{r:cD}{b:Nat}(h:dM a X L r=some (b,.chan)):dM a X' L r=some (b,.chan):=by
 obtain⟨z,k⟩:=r;by_cases hk:fm k=false
 ·rw[kJ hk]at h⊢;exact h
 ·by_cases hz:z=a
  ·subst hz;cases k with
   |app i i'=>
    unfold dM eQ iK at h⊢;dsimp only at h⊢;simp only[if_true]at h⊢;split at h
    ·split at h<;>cases h
    ·split at h
     ·split at h<;>cases h
     ·cases h
    ·split at h
     ·split at h<;>cases h
     ·cases h
    ·cases e:X.s.box ‹Nat› with
     |none=>rw[e]at h;cases h
     |some p=>rw[e]at h;cases h
    ·split at h
     ·cases e:X.b5 ‹Nat› with
      |none=>rw[e]at h;cases h
      |some p=>rw[e]at h;cases h
     ·cases e:X.b6 ‹Nat› with
      |none=>rw[e]at h;cases h
      |some p=>rw[e]at h;cases h
     ·cases e:X.b8 ‹Nat› with
      |none=>rw[e]at h;cases h
      |some p=>rw[e]at h;cases h
     ·cases e:X.nV ‹Nat› with
      |none=>rw[e]at h;cases h
      |some p=>rw[e]at h;cases h
     ·cases e:X.nW ‹Nat› with
      |none=>rw[e]at h;cases h
      |some p=>rw[e]at h;cases h
     ·exact h
   |_=>exact absurd rfl hk
  ·unfold dM eQ iK at h⊢;simp only[hz,if_false]at h⊢;exact h
theorem d4{x a:Nat}{Y Y':GS}{X X':XS}{L:cg}(hn:Y.n≤Y'.n)(ht:∀j,j<Y.n->Y'.th j=Y.th j):gD (ci x Y (dM a X L)) (ci x Y' (dM a X' L)):=by
 rintro⟨z,k⟩ b bk e hk;by_cases ha:fm k=true
 ·rw[ct ha]at e;rcases hk with hk|hk|hk
  ·cases k<;>first|cases ha;done|cases hk
  ·cases k<;>first|cases ha;done|cases hk
  ·subst hk;exact⟨.chan,by rw[ct ha];exact PV e,fun _=>rfl⟩
 have sJ:fm k=false:=by
  cases e:fm k
  ·rfl
  ·exact absurd e ha
 by_cases hz:z=x
 ·subst hz;rw[bY sJ]at e⊢;have nc:∀(p:Option (Nat×fK)),p=some (b,bk)->(∀q,p=some q->q.2≠.chan)->bk≠.chan:=fun p hp hq=>hq _ hp;cases k with
  |lW i=>
   simp only[eo]at e⊢;split at e
   ·rename_i hi;cases e;exact⟨_,by rw[if_pos (by omega),ht i hi],fun h=>by cases h⟩
   ·cases e
  |c5 i=>
   simp only[eo]at e⊢;split at e
   ·rename_i hi;cases e;exact⟨_,by rw[if_pos (by omega),ht i hi],fun h=>by cases h⟩
   ·cases e
  |wk i=>
   simp only[eo]at e⊢;split at e
   ·rename_i hi;cases e;exact⟨_,by rw[if_pos (by omega),ht i hi],fun h=>rfl⟩
   ·cases e
  |sd i=>
   simp only[eo]at e⊢;split at e
   ·rename_i hi;cases e;exact⟨_,by rw[if_pos (by omega),ht i hi],fun h=>rfl⟩
   ·cases e
  |gG i=>
   simp only[eo]at e;cases e1:Y.gG i with
   |none=>rw[e1]at e;cases e
   |some p=>rw[e1]at e;cases e;rcases hk with hk|hk|hk<;>cases hk
  |app i i'=>cases sJ
  |_=>
   simp only[eo]at e;rcases hk with hk|hk|hk
   ·cases hk
   ·cases hk
   ·subst hk
    first|(cases e;done)|(split at e<;>cases e)
 ·rw[lu hz,kJ sJ]at e;refine⟨bk,?_,id⟩;rw[lu hz,kJ sJ];exact e
section
variable {E:Wd}{bJ:Nat->Option Tok.Seat}{h N:Nat}{m:Machine}{T:Trace}{Y:GS}{X:XS}{fr:Frame}{cs:List Frame}{j b:Nat}{c c':Ct}
theorem On.of{g:Goroutine}{w:World}(A:dD aa E.base E.W0 bJ h N m T g w)(H:bK aa E.base w (E.de Y X))(hS:cw (E.de Y X) bJ):On E bJ h N Y X g m T:=⟨w,A,H,hS⟩
def XS.aft(X:XS):Ct->XS
 |.ky _=>{X with s:=X.s.zt}
 |_=>X
theorem Nv(hn:c.next=.Ey c')(hok:c.ok)(o:On E bJ h N Y X (G fr cs) m T)(hC:WE E.LB E.a X.s.S (Y.th j) b c fr cs)(hq:X.s.q.length=4)(hb:X.b5 j=some b){e:Nat}(he:X.s.ended=e)(Q4:e≤1000000):
  cm aa m T fun m' T'=>∃bT io,On E bJ h N Y (X.aft c') (G bT io) m' T'∧WE E.LB E.a X.s.S (Y.th j) b c' bT io:=by
 obtain⟨w,A,H,hS⟩:=o;cases c with
 |run l held ds up=>
  obtain⟨bv,i,hl,hf,hu⟩:=hC;cases l with
  |nil=>
   simp only[Ct.next,Nx.Ey.injEq]at hn;subst hn;have ky:∀m1 T1 w1 c9,dD aa E.base E.W0 bJ h N m1 T1 (G c9 cs) w1->bK aa E.base w1 (E.de Y X)->FA dh 61 [] (yY X.s.S (Y.th j).T ds) .normal [] c9->cm aa m1 T1 fun m' T'=>∃bT io,On E bJ h N Y X (G bT io) m' T'∧WE E.LB E.a X.s.S (Y.th j) b (.uj false ds up) bT io:=fun m1 T1 w1 c9 A1 H1 h1=>by refine(YH A1 H1 h1).mono fun m2 T2 hd=>?_;obtain⟨w2,iE,A2,H2,h2⟩:=hd;exact⟨iE,cs,.of A2 H2 hS,_,rfl,F_ h2 (by decide),hu⟩
   rcases hl with⟨rfl,_,rfl⟩|⟨SB,off,n,cap,r,k,rfl,h1,h2,h3,h4,h5⟩
   ·refine(IM A H hS hf).trans fun m1 T1 hd=>?_;obtain⟨w1,c9,A1,H1,h1⟩:=hd;exact ky _ _ _ _ A1 H1 h1
   ·refine(YC A H hS hf (by simp only[List.length_nil]at h3;omega)).trans fun m1 T1 hd=>?_;obtain⟨w1,c9,A1,H1,h1⟩:=hd;exact ky _ _ _ _ A1 H1 h1
  |cons x l=>
   obtain⟨SB,off,n,cap,rfl,hnc,OI,hin,hs⟩:=hl.stp (z:=E.x) (Y:=Y) (X:=X);simp only[Ct.next]at hn;split at hn
   ·rename_i e20;cases hn;rw[e20]at hs;refine(Ub A H hS hf hs hin).mono fun m1 T1 hd=>?_;obtain⟨w1,c9,A1,H1,h1⟩:=hd;refine⟨c9,cs,.of A1 H1 hS,_,⟨_,rfl,_,_,rfl,fun y hy=>?_⟩,F_ h1 (by decide),hu⟩;obtain rfl:=ad.1 hy;exact⟨rfl,rfl,.inl rfl⟩
   ·split at hn
    ·rename_i e21;cases hn;rw[e21]at hs;refine(TV A H hS hf hs hin (by omega)).mono fun m1 T1 hd=>?_;obtain⟨w1,c9,A1,H1,h1⟩:=hd;exact⟨c9,cs,.of A1 H1 hS,_,i+1,hl.tail,h1,hu⟩
    ·split at hn
     ·rename_i e22;obtain⟨e22,rfl⟩:=e22;cases hn;rw[e22]at hs;have Ky:up=none:=by
       have:=hok.2.2.2;cases up with
       |none=>rfl
       |some d=>exact absurd (this.2 (by simp)) (by simp)
      subst Ky;refine(TZ A H hS hf hs hin hnc (by omega)).trans fun m1 T1 hd=>?_;obtain⟨w1,c9,f67,A1,H1,h1,lO⟩:=hd;refine(It A1 H1 hS h1).mono fun m2 T2 hd=>?_;obtain⟨w2,iE,A2,H2,h2⟩:=hd;exact⟨iE,f67::cs,.of A2 H2 hS,_,0,hl.from,h2,f67,cs,rfl,lO,hu⟩
     ·cases hn
 |uj fq ds up=>
  obtain⟨md,hm,hf,hu⟩:=hC;cases ds with
  |cons c ds=>cases hn
  |nil=>
   cases up with
   |some d=>
    cases hn;obtain⟨f67,io,rfl,lO,jG⟩:=hu;cases fq with
    |false=>obtain rfl:md=.returning:=hm;refine(PK A H hS hf.f lO).mono fun m1 T1 hd=>?_;obtain⟨w1,c9,A1,H1,h1⟩:=hd;exact⟨c9,io,.of A1 H1 hS,_,rfl,F_ h1 (by decide),jG⟩
    |true=>obtain⟨ch,rfl,xV⟩:=hm;refine(jf A H hf).mono fun m1 T1 hd=>?_;obtain⟨w1,A1,H1⟩:=hd;exact⟨_,io,.of A1 H1 hS,_,⟨ch,rfl,xV⟩,mY _ lO,jG⟩
   |none=>
    cases hn;obtain⟨f65,f76,rfl,WD,Np⟩:=hu;have Nh:E.de Y X (E.a,.app 5 j)=some (b,.obj qL [cb X.s.S]):=by unfold Wd.de;rw[ct rfl];exact Cg hb
    have ck:gD (E.de Y X) (E.de Y {X with s:=X.s.zt}):=d4 (aq _) fun _ _=>rfl;cases fq with
    |false=>obtain rfl:md=.returning:=hm;refine(Uc A H hS hq hf.f WD Np Nh rfl (by simp) he Q4).mono fun m1 T1 hd=>?_;obtain⟨w1,c9,A1,H1,h1⟩:=hd;exact⟨c9,_,.of A1 H1 (ck.still hS),rfl,h1⟩
    |true=>obtain⟨ch,rfl,xV⟩:=hm;refine(UA xV.plain A H hS hq hf WD Np Nh rfl (by simp) he Q4).mono fun m1 T1 hd=>?_;obtain⟨w1,c9,A1,H1,h1⟩:=hd;exact⟨c9,_,.of A1 H1 (ck.still hS),ch,xV,rfl,h1⟩
 |ky fq=>cases hn
theorem Nw{x:Sp}(hn:c.next=.one x c')(o:On E bJ h N Y X (G fr cs) m T)(hC:WE E.LB E.a X.s.S (Y.th j) b c fr cs):
  cm aa m T fun m' T'=>∃X' bT io kd,On E bJ h N Y X' (G bT io) m' T'∧qJ kd X.s.S (Y.th j).T x.op x.c x.arg x.nw bT∧uy E.LB E.a X.s.S (Y.th j) b (X'.b8 j) c' kd io∧(X'=X∨∃B,X'={X with b8:=upd X.b8 j (some B)}):=by
 obtain⟨w,A,H,hS⟩:=o;cases c with
 |run l held ds up=>
  obtain⟨bv,i,hl,hf,hu⟩:=hC;cases l with
  |nil=>cases hn
  |cons y l=>
   obtain⟨SB,off,n,cap,rfl,hnc,OI,hin,hs⟩:=hl.stp (z:=E.x) (Y:=Y) (X:=X);simp only[Ct.next]at hn;split at hn
   ·cases hn
   rename_i n20;split at hn
   ·cases hn
   rename_i n21;split at hn
   ·cases hn
   rename_i n22;cases hn;cases held with
   |false=>refine(YB A H hS hf hs hin n20 n21 (fun e=>n22 ⟨e,rfl⟩)).mono fun m1 T1 hd=>?_;obtain⟨w1,c9,f67,A1,H1,h1,lO⟩:=hd;exact⟨X,c9,f67::cs,false,.of A1 H1 hS,h1,⟨rfl,SB,off,n,cap,i,f67,cs,rfl,hl.tail,OI,hin,lO,hu⟩,.inl rfl⟩
   |true=>
    have go:∀m1 T1 w1 c9 f67,dD aa E.base E.W0 bJ h N m1 T1 (G c9 (f67::cs)) w1->bK aa E.base w1 (E.de Y X)->F8 X.s.S (Y.th j).T x.op x.c x.arg x.nw c9->TS Nk X.s.S (Y.th j).T (ux SB off n cap) true i (yY X.s.S (Y.th j).T ds) f67->
      cm aa m1 T1 fun m' T'=>∃X' bT io kd,On E bJ h N Y X' (G bT io) m' T'∧qJ kd X.s.S (Y.th j).T x.op x.c x.arg x.nw bT∧uy E.LB E.a X.s.S (Y.th j) b (X'.b8 j) (.run l true ds up) kd io∧(X'=X∨∃B,X'={X with b8:=upd X.b8 j (some B)}):=fun m1 T1 w1 c9 f67 A1 H1 h1 lO=>by
     refine(YD (a:=E.a) (j:=j) A1 H1 hS h1).mono fun m2 T2 hd=>?_;obtain⟨w2,iE,f81,B,A2,H2,h2,Nn⟩:=hd;rw[aeY]at H2;have ck:gD (E.de Y X) (E.de Y {X with b8:=upd X.b8 j (some B)}):=d4 (aq _) fun _ _=>rfl;exact⟨_,iE,f81::f67::cs,false,.of A2 H2 (ck.still hS),h2,⟨rfl,SB,off,n,cap,i,f81,f67,cs,B,rfl,hl.tail,OI,hin,lO,Nn,upd_same _ _ _,hu⟩,.inr ⟨B,rfl⟩⟩
    by_cases e22:x.op=22
    ·rw[e22]at hs;refine(Ln A H hS hf hs hin).trans fun m1 T1 hd=>?_;obtain⟨w1,c9,f67,A1,H1,h1,lO⟩:=hd;rw[<-e22]at h1;exact go _ _ _ _ _ A1 H1 h1 lO
    ·refine(TW A H hS hf hs hin n20 n21 e22).trans fun m1 T1 hd=>?_;obtain⟨w1,c9,f67,A1,H1,h1,lO⟩:=hd;exact go _ _ _ _ _ A1 H1 h1 lO
 |uj fq ds up=>
  obtain⟨md,hm,hf,hu⟩:=hC;cases ds with
  |cons z ds=>cases hn;refine(aeB A H hf.f hm.ne).mono fun m1 T1 hd=>?_;obtain⟨w1,c9,f67,A1,H1,h1,lO⟩:=hd;exact⟨X,c9,f67::cs,true,.of A1 H1 hS,h1,⟨rfl,md,f67,cs,rfl,hm,F_ lO (by decide),hu⟩,.inl rfl⟩
  |nil=>
   cases up with
   |none=>cases hn
   |some d=>cases hn
 |ky fq=>cases hn
theorem rM{kd:Bool}{b8:Option Nat}(o:On E bJ h N Y X (G fr cs) m T)(hf:mu kd fr)(hC:uy E.LB E.a X.s.S (Y.th j) b b8 c kd cs):
  cm aa m T fun m' T'=>∃bT io,On E bJ h N Y X (G bT io) m' T'∧WE E.LB E.a X.s.S (Y.th j) b c bT io:=by
 obtain⟨w,A,H,hS⟩:=o;cases c with
 |run l held ds up=>
  cases held with
  |false=>obtain⟨rfl,SB,off,n,cap,i,f67,io,rfl,hl,OI,hin,lO,hu⟩:=hC;refine(PN A H hS hf lO (by omega)).mono fun m1 T1 hd=>?_;obtain⟨w1,c9,A1,H1,h1⟩:=hd;exact⟨c9,io,.of A1 H1 hS,_,i+1,hl,h1,hu⟩
  |true=>obtain⟨rfl,SB,off,n,cap,i,f81,f67,io,B,rfl,hl,OI,hin,lO,Nn,_,hu⟩:=hC;refine(Lc A H hS hf Nn lO (by omega)).mono fun m1 T1 hd=>?_;obtain⟨w1,c9,A1,H1,h1⟩:=hd;exact⟨c9,io,.of A1 H1 hS,_,i+1,hl,h1,hu⟩
 |uj fq ds up=>obtain⟨rfl,md,f67,io,rfl,hm,lO,hu⟩:=hC;refine(PO A H hf lO.f hm.goes).mono fun m1 T1 hd=>?_;obtain⟨w1,A1,H1⟩:=hd;exact⟨f67,io,.of A1 H1 hS,md,hm,lO,hu⟩
 |ky fq=>exact hC.elim
def XS.yq(X:XS)(c:Ct):XS:=if c.held then{X with s:=X.s.xe}else X
theorem Ny{kd:Bool}(o:On E bJ h N Y X (G fr cs) m T)(hq:X.s.q.length=4)(hf:jw d7 117 [] (fE kd) (.panicking jo) fr)(hC:uy E.LB E.a X.s.S (Y.th j) b (X.b8 j) c kd cs):
  cm aa m T fun m' T'=>∃bT io,On E bJ h N Y (X.yq c) (G bT io) m' T'∧WE E.LB E.a X.s.S (Y.th j) b c.fq bT io:=by
 obtain⟨w,A,H,hS⟩:=o;cases c with
 |run l held ds up=>
  cases held with
  |false=>obtain⟨rfl,SB,off,n,cap,i,f67,io,rfl,hl,OI,hin,lO,hu⟩:=hC;refine(Uy A H hf lO).mono fun m1 T1 hd=>?_;obtain⟨w1,c9,A1,H1,h1⟩:=hd;exact⟨c9,io,.of A1 H1 hS,_,⟨_,rfl,ED⟩,h1,hu⟩
  |true=>
   obtain⟨rfl,SB,off,n,cap,i,f81,f67,io,B,rfl,hl,OI,hin,lO,Nn,hb8,hu⟩:=hC;have e8:E.de Y X (E.a,.app 8 j)=some (B,.obj qL [cb X.s.S]):=by unfold Wd.de;rw[ct rfl];exact Ur hb8
   have ck:gD (E.de Y X) (E.de Y {X with s:=X.s.xe}):=d4 (aq _) fun _ _=>rfl;refine(Uz A H hS hq hf Nn lO (by omega) e8 rfl (by simp)).mono fun m1 T1 hd=>?_;obtain⟨w1,c9,A1,H1,h1⟩:=hd;exact⟨c9,io,.of A1 H1 (ck.still hS),_,i+1,hl,h1,hu⟩
 |uj fq ds up=>obtain⟨rfl,md,f67,io,rfl,hm,lO,hu⟩:=hC;refine(Ze A H hf lO).mono fun m1 T1 hd=>?_;obtain⟨w1,c9,A1,H1,h1⟩:=hd;exact⟨c9,io,.of A1 H1 hS,_,hm.stop,h1,hu⟩
 |ky fq=>exact hC.elim
end
inductive JF:Ct->List (Int×Int)->(Sp×Ct)⊕Bool->Prop
 |Ey {c c' l r}:c.next=.Ey c'->JF c' l r->JF c l r
 |mark {c c' x l r}:c.next=.one x c'->x.op=8->JF c' l r->JF c ((x.arg,x.nw)::l) r
 |not {c c' x l r}:c.next=.one x c'->(x.op<1∨8<x.op)->JF c' l r->JF c l r
 |Lo {c c' x}:c.next=.one x c'->1≤x.op->x.op≤7->JF c [] (.inl (x,c'))
 |off {fq}:JF (.ky fq) [] (.inr fq)
def yr(j:Nat)(l:List (Int×Int)):List Value:=l.flatMap fun p=>nG j p.1 p.2
theorem Nz(j:Nat)(l:List (Int×Int)):(yr j l).length=8*l.length:=by
 induction l with
 |nil=>rfl
 |cons p l ih=>unfold yr at ih⊢;simp only[List.flatMap_cons,aD,ih,bd];simp[nG];omega
theorem Zf{α:Type}(f:Nat->α)(j:Nat)(x y:α):upd (upd f j x) j y=upd f j y:=by
 funext i;by_cases h:i=j
 ·subst h;rw[upd_same,upd_same]
 ·rw[upd_ne _ _ h,upd_ne _ _ h,upd_ne _ _ h]
theorem oW{α:Type}(f:Nat->α)(j:Nat):upd f j (f j)=f:=by
 funext i;by_cases h:i=j
 ·subst h;rw[upd_same]
 ·rw[upd_ne _ _ h]
def XS.bx(X:XS)(j:Nat)(B9:Option (Nat×List Value))(B8 yZ:Option Nat)(tI:Option (Nat×Int))(e ho:Int):XS:={X with s:={X.s with box:=upd X.s.box j B9,ended:=e,holds:=ho},b8:=upd X.b8 j B8,nV:=upd X.nV j yZ,nW:=upd X.nW j tI}
theorem XS.xf{X:XS}{j:Nat}{B9 B9':Option (Nat×List Value)}{B8 B8' yZ ald:Option Nat}{tI ale:Option (Nat×Int)}{e e' ho vm:Int}:(X.bx j B9 B8 yZ tI e ho).bx j B9' B8' ald ale e' vm=X.bx j B9' B8' ald ale e' vm:=by unfold XS.bx;simp only[Zf]
theorem XS.zZ{X:XS}{j:Nat}:X.bx j (X.s.box j) (X.b8 j) (X.nV j) (X.nW j) X.s.ended X.s.holds=X:=by unfold XS.bx;simp only[oW]
theorem XS.alf{X:XS}{j:Nat}{B:Option Nat}:({X with b8:=upd X.b8 j B}:XS)=X.bx j (X.s.box j) B (X.nV j) (X.nW j) X.s.ended X.s.holds:=by unfold XS.bx;simp only[oW]
theorem XS.Zg{X:XS}{j:Nat}{B:Option (Nat×List Value)}:({X with s:={X.s with box:=upd X.s.box j B}}:XS)=X.bx j B (X.b8 j) (X.nV j) (X.nW j) X.s.ended X.s.holds:=by unfold XS.bx;simp only[oW]
theorem XS.alg{X:XS}{j:Nat}:({X with s:=X.s.zt}:XS)=X.bx j (X.s.box j) (X.b8 j) (X.nV j) (X.nW j) (X.s.ended+1) X.s.holds:=by unfold XS.bx SS.zt;simp only[oW]
theorem XS.aq4{X:XS}{j:Nat}:({X with s:=X.s.xe}:XS)=X.bx j (X.s.box j) (X.b8 j) (X.nV j) (X.nW j) X.s.ended X.s.xe.holds:=by unfold XS.bx SS.xe;simp only[oW]
theorem XS.alh{X:XS}{j:Nat}{yZ:Option Nat}{tI:Option (Nat×Int)}:({X with nV:=upd X.nV j yZ,nW:=upd X.nW j tI}:XS)=X.bx j (X.s.box j) (X.b8 j) yZ tI X.s.ended X.s.holds:=by unfold XS.bx;simp only[oW]
theorem Zh{a:Nat}{X:XS}{L:cg}{j b1 b2:Nat}{n:Int}:((dM a X L).set (a,.app 10 j) (b1,.obj qL [cb X.s.S])).set (a,.app 11 j) (b2,.obj 2 [iV n])=dM a {X with nV:=upd X.nV j (some b1),nW:=upd X.nW j (some (b2,n))} L:=by
 funext ⟨z,k⟩;by_cases hz:z=a
 ·subst hz;by_cases hk:k=.app 11 j
  ·subst hk;rw[cg.cj];simp[eQ,iK,upd_same]
  ·rw[cg.b7 fun e=>hk (by cases e;rfl)];by_cases hk2:k=.app 10 j
   ·subst hk2;rw[cg.cj];simp[eQ,iK,upd_same]
   ·rw[cg.b7 fun e=>hk2 (by cases e;rfl)];cases k with
    |app i i'=>
     by_cases hi:i=10
     ·subst hi;have:i'≠j:=fun e=>hk2 (by rw[e]);simp[eQ,iK,upd_ne _ _ this]
     ·by_cases vS:i=11
      ·subst vS;have:i'≠j:=fun e=>hk (by rw[e]);simp[eQ,iK,upd_ne _ _ this]
      ·simp only[eQ,iK,if_true];split<;>first|rfl|(split<;>first|rfl|(rename_i e;cases e;first|exact absurd rfl hi|exact absurd rfl vS))
    |_=>rfl
 ·rw[cg.b7 fun e=>hz (by cases e;rfl),cg.b7 fun e=>hz (by cases e;rfl)];simp[eQ,iK,hz]
theorem GS.IN{Y:GS}{d d':List Value}{LA cL Lp Lq:Nat}:(Y.dF d LA cL).dF d' Lp Lq=Y.dF (d++d') Lp Lq:=by unfold GS.dF;simp only[List.append_assoc]
theorem GS.ul{Y:GS}:Y.dF [] Y.LA Y.cL=Y:=by unfold GS.dF;simp
theorem GS.rN{Y:GS}{j:Nat}:Y.gone j false=Y.ended j:=by unfold GS.gone GS.ended;simp only[Bool.or_false,oW]
def mZ(E:Wd)(nb:Nat)(Y:GS)(X:XS)(j b:Nat)(x:Sp)(c:Ct)(cs:List Frame):Prop:=
 (1≤x.op∧x.op≤6∧x.c<6∧(Y.ts j)=⟨cv X.s.S (4+x.c),qc j x.op x.arg x.nw,false⟩∧∃kd f11 f80 io AB BX l,cs=f11::f80::io∧StepF (Y.th j).T X.s.S (4+x.c) x.op x.arg x.nw AB f11∧Iq kd l X.s.S (Y.th j).T BX x.c x.op x.arg x.nw f80∧KM qd 13 Dl 8191 l∧Y.gG j=some (AB,qc j x.op x.arg x.nw)∧X.s.box j=some (BX,iu x.op x.c x.arg x.nw)∧uy E.LB E.a X.s.S (Y.th j) b (X.b8 j) c kd io)∨
 (x.op=7∧(Y.ts j)=⟨.pointer none,qc j 7 0 0,false⟩∧∃k kd f46 f80 io AB B1 B2,cs=f46::f80::io∧Lg.jg k x.arg nb∧GoW (Y.th j).T AB (Ul k B1 B2) f46∧yn kd X.s.S (Y.th j).T f80∧Y.gG j=some (AB,qc j 7 0 0)∧X.nV j=some B1∧X.nW j=some (B2,x.arg)∧uy E.LB E.a X.s.S (Y.th j) b (X.b8 j) c kd io)
inductive dV(E:Wd)(nb:Nat)(bJ:Nat->Option Tok.Seat)(h p:Nat)(Y:GS)(X:XS)(j b:Nat)(l:List (Int×Int)):(Sp×Ct)⊕Bool->(Nat->Option Tok.Seat)->GS->XS->Prop
 |Lo {x c s cs LA cL B9 B8 yZ tI v av AB}:j4 s (Y.th j).wk (Y.th j).T (Y.th j).c5 (ye (Y.th j).T) cs->mZ E nb (((Y.dF (yr j l) LA cL).lX j v av AB)) (X.bx j B9 B8 yZ tI X.s.ended X.s.holds) j b x c cs->c.ok->dV E nb bJ h p Y X j b l (.inl (x,c)) (Tok.e_ bJ h p (some s)) ((Y.dF (yr j l) LA cL).lX j v av AB) (X.bx j B9 B8 yZ tI X.s.ended X.s.holds)
 |off {fq LA cL B9 B8 yZ tI}:dV E nb bJ h p Y X j b l (.inr fq) (Tok.e_ bJ h p none) ((Y.dF (yr j l) LA cL).gone j fq) (X.bx j B9 B8 yZ tI (X.s.ended+1) X.s.holds)
theorem dV.lr{E:Wd}{nb:Nat}{bJ:Nat->Option Tok.Seat}{h p:Nat}{Y:GS}{X:XS}{j b:Nat}{l l':List (Int×Int)}{r:(Sp×Ct)⊕Bool}{c6:Nat->Option Tok.Seat}{Y':GS}{X':XS}{LA cL:Nat}{B9:Option (Nat×List Value)}{B8 yZ:Option Nat}{tI:Option (Nat×Int)}(k:dV E nb bJ h p (Y.dF (yr j l) LA cL) (X.bx j B9 B8 yZ tI X.s.ended X.s.holds) j b l' r c6 Y' X'):dV E nb bJ h p Y X j b (l++l') r c6 Y' X':=by
 have em:∀Lp Lq,(Y.dF (yr j l) LA cL).dF (yr j l') Lp Lq=Y.dF (yr j (l++l')) Lp Lq:=fun Lp Lq=>by rw[GS.IN];unfold yr;rw[List.flatMap_append]
 cases k with
 |Lo h1 h2 h3=>rw[em,XS.xf]at h2⊢;exact .Lo h1 h2 h3
 |off=>rw[em,XS.xf];exact .off
structure zx(E:Wd)(PB nb fI:Nat)(Y:GS)(X:XS)(j b:Nat)(c:Ct):Prop where
 lt:j<Y.n
 e:(Y.ts j).e=false
 len:(Y.ts j).a.length=8
 q:X.s.q.length=4
 q0:X.s.q[0]?=some (.slice (some ⟨PB,0,none⟩) nb fI)
 b5:X.b5 j=some b
 dz:Y.dz j=false
 ended:∃e:Nat,X.s.ended=e∧e+1≤1000000
 ok:c.ok
 db:Y.db.length=8*(Y.db.length / 8)
 room:Y.db.length / 8+c.sz≤1000000
 ba:E.x≠E.a
theorem goK(n:Int)(nb:Nat):∃k:Lg,k.jg n nb:=by
 by_cases h:n<0
 ·exact⟨.low,h⟩
 ·by_cases h2:n<nb
  ·exact⟨.is,by omega,h2⟩
  ·exact⟨.high,by omega,by omega⟩
theorem kK{L:cg}{bJ:Nat->Option Tok.Seat}{h p:Nat}{so:Option Tok.Seat}(hS:cw L bJ)(hs:∀s,so=some s->∀b n,s.still (.cell ⟨b,n,none⟩)->∃r k,L r=some (b,k)∧((Ek r=true∧(n=2∨n=3))∨Pf r=true)):cw L (Tok.e_ bJ h p so):=by
 rintro b n ⟨i,t,e,di⟩;unfold Tok.e_ at e;split at e
 ·cases e
 ·split at e
  ·exact hs t e b n di
  ·exact hS b n ⟨i,t,e,di⟩
section
variable {E:Wd}{PB nb fI:Nat}{bJ:Nat->Option Tok.Seat}{h N:Nat}{Y:GS}{X:XS}{cs tC:List Frame}{j b p z zC:Nat}{t:Tok.Seat}{BJ:Frame->Prop}
theorem ku(hj:j<Y.n):E.de Y X (E.x,.lW j)=some ((Y.th j).T,.obj mU (fA Y.R j (Y.th j) (Y.ts j))):=by unfold Wd.de;rw[bY rfl];exact if_pos hj
theorem rO(hj:j<Y.n):E.de Y X (E.x,.wk j)=some ((Y.th j).wk,.chan):=by unfold Wd.de;rw[bY rfl];exact if_pos hj
theorem Gj(hj:j<Y.n):E.de Y X (E.x,.c5 j)=some ((Y.th j).c5,.obj g9 [cb (Y.th j).T]):=by unfold Wd.de;rw[bY rfl];exact if_pos hj
theorem IP{fr:Frame}{m:Machine}{T:Trace}{w:World}(A:dD aa E.base E.W0 bJ h N m T (G fr cs) w)(H:bK aa E.base w (E.de Y X))(hS:cw (E.de Y X) bJ)(hj:j<Y.n)(hf:Tg (Y.th j).T (Y.th j).sd fr)(hp:bJ p=some t)(W:j4 t (Y.th j).sd z zC BJ tC)(uq:∀i t,bJ i=some t->t.c≠(Y.th j).wk):
  cm aa m T fun m' T'=>∃s iJ,On E (Tok.e_ bJ h p (some s)) p N Y X (G iJ tC) m' T'∧BJ iJ∧j4 s (Y.th j).wk (Y.th j).T (Y.th j).c5 (ye (Y.th j).T) cs:=by
 refine(KR (C:=(Y.th j).c5) A H hf hp W (H.cell (ku hj) rfl) (H.chan (rO hj)) uq (H.ge _ _ _ (rO hj))).mono fun m1 T1 hd=>?_;obtain⟨w1,s,iJ,A1,H1,hB,hW⟩:=hd;refine⟨s,iJ,.of A1 H1 (kK hS fun s' e b n di=>?_),hB,hW⟩;cases e;rcases hW.still b n di with⟨rfl,hn⟩|⟨rfl,hn⟩
 ·exact⟨_,_,ku hj,.inl ⟨rfl,hn⟩⟩
 ·exact⟨_,_,Gj hj,.inr rfl⟩
theorem NA:∀(sz:Nat) {Y:GS} {X:XS} {c:Ct} {fr:Frame} {cs:List Frame} {m:Machine} {T:Trace},c.sz≤sz->(∀fq,c≠.ky fq)->On E bJ h N Y X (G fr cs) m T->WE E.LB E.a X.s.S (Y.th j) b c fr cs->zx E PB nb fI Y X j b c->Y.dJ=false->0<h->bJ p=some t->j4 t (Y.th j).sd z zC BJ tC->(∀i t,bJ i=some t->t.c≠(Y.th j).wk)->
  cm aa m T fun m' T'=>∃l r c6 Y' X' iJ,JF c l r∧dV E nb bJ h p Y X j b l r c6 Y' X'∧On E c6 p N Y' X' (G iJ tC) m' T'∧BJ iJ:=by
 intro sz
 induction sz with
 |zero=>
  intro Y X c fr cs m T hsz hc;cases c with
  |run l held ds up=>simp only[Ct.sz]at hsz;omega
  |uj fq ds up=>
   simp only[Ct.sz]at hsz;cases up with
   |none=>simp only[zu]at hsz;omega
   |some d=>simp only[zu]at hsz;omega
  |ky fq=>exact absurd rfl (hc fq)
 |succ sz ih=>
  intro Y X c fr cs m T hsz hc o hC K di kY hp W uq;obtain⟨en,he,Q4⟩:=K.ended;cases kW:c.next with
  |off fq=>
   cases c with
   |run l held ds up=>
    cases l with
    |nil=>cases kW
    |cons x l=>
     simp only[Ct.next]at kW;split at kW
     ·cases kW
     ·split at kW
      ·cases kW
      ·split at kW<;>cases kW
   |uj fq ds up=>
    cases ds with
    |cons x l=>cases kW
    |nil=>cases up<;>cases kW
   |ky fq=>exact absurd rfl (hc fq)
  |Ey c'=>
   refine(Nv kW K.ok o hC K.q K.b5 he (by omega)).trans fun m1 T1 hd=>?_;obtain⟨c9,PW,o1,Zi⟩:=hd;by_cases ri:∃fq,c'=.ky fq
   ·obtain⟨fq,rfl⟩:=ri;obtain⟨w1,A1,H1,lM⟩:=o1;have hx:X.aft (.ky fq)=X.bx j (X.s.box j) (X.b8 j) (X.nV j) (X.nW j) (X.s.ended+1) X.s.holds:=XS.alg;rw[hx]at H1 lM;have hY:Y.dF (yr j []) Y.LA Y.cL=Y:=GS.ul;have hk:dV E nb bJ h p Y X j b [] (.inr fq) (Tok.e_ bJ h p none) ((Y.dF (yr j []) Y.LA Y.cL).gone j fq) (X.bx j (X.s.box j) (X.b8 j) (X.nV j) (X.nW j) (X.s.ended+1) X.s.holds):=.off;rw[hY]at hk;have ck:gD (E.de Y (X.bx j (X.s.box j) (X.b8 j) (X.nV j) (X.nW j) (X.s.ended+1) X.s.holds)) (E.de (Y.gone j fq) (X.bx j (X.s.box j) (X.b8 j) (X.nV j) (X.nW j) (X.s.ended+1) X.s.holds)):=d4 (aq _) fun _ _=>rfl;cases fq with
    |false=>obtain⟨rfl,h1⟩:=Zi;refine(yi A1 H1 lM K.lt K.e K.len kY h1 hp W).mono fun m2 T2 hd=>?_;obtain⟨w2,iJ,A2,H2,hB⟩:=hd;rw[<-GS.rN]at H2;exact⟨[],.inr false,_,_,_,iJ,.Ey kW .off,hk,.of A2 H2 (kK (ck.still lM) fun s e=>by cases e),hB⟩
    |true=>obtain⟨ch,xV,rfl,h1⟩:=Zi;refine(Nu xV A1 H1 lM K.lt K.e K.dz K.len kY h1 hp W).mono fun m2 T2 hd=>?_;obtain⟨w2,iJ,A2,H2,hB⟩:=hd;rw[di]at H2;exact⟨[],.inr true,_,_,_,iJ,.Ey kW .off,hk,.of A2 H2 (kK (ck.still lM) fun s e=>by cases e),hB⟩
   ·have hX:X.aft c'=X:=by
     cases c' with
     |ky fq=>exact absurd ⟨fq,rfl⟩ ri
     |_=>rfl
    rw[hX]at o1;have hs:=Ct.Ld kW;refine(ih (by omega) (fun fq e=>ri ⟨fq,e⟩) o1 Zi {K with ok:=Ct.Uf kW K.ok,room:=by have:=K.room;omega} di kY hp W uq).mono fun m2 T2 hd=>?_;obtain⟨l,r,c6,Y',X',iJ,hw,hk,ho,hB⟩:=hd;exact⟨l,r,c6,Y',X',iJ,.Ey kW hw,hk,ho,hB⟩
  |one x c'=>
   have hs:=Ct.Ce kW;obtain⟨hxc,rz⟩:=Ct.Ug kW K.ok;have hcf:∀fq,c'≠.ky fq:=fun fq e=>by
    subst e;cases c with
    |run l held ds up=>
     cases l with
     |nil=>cases kW
     |cons y l=>
      simp only[Ct.next]at kW;split at kW
      ·cases kW
      ·split at kW
       ·cases kW
       ·split at kW<;>cases kW
    |uj fq ds up=>
     cases ds with
     |cons y l=>cases kW
     |nil=>cases up<;>cases kW
    |ky fq=>cases kW
   refine(Nw kW o hC).trans fun m1 T1 hd=>?_;obtain⟨X1,c9,PW,kd,o1,h1,WF,hX1⟩:=hd;obtain⟨B8,rP⟩:∃B8,X1=X.bx j (X.s.box j) B8 (X.nV j) (X.nW j) X.s.ended X.s.holds:=by
    rcases hX1 with rfl|⟨B,rfl⟩
    ·exact⟨_,XS.zZ.symm⟩
    ·exact⟨_,XS.alf⟩
   have hS:X1.s.S=X.s.S:=by rw[rP];rfl
   have xg:X1.s.q=X.s.q:=by rw[rP];rfl
   have ali:X1.b5=X.b5:=by rw[rP];rfl
   have NC:X1.s.ended=X.s.ended:=by rw[rP];rfl
   have hh1:X1.s.holds=X.s.holds:=by rw[rP];rfl
   obtain⟨w1,A1,H1,lM⟩:=o1;rw[<-hS]at h1 WF;by_cases e8:x.op=8
   ·
    rw[e8]at h1;refine(Uk A1 H1 lM K.lt di K.e K.len h1 K.db (by have:=K.room;omega)).trans fun m2 T2 hd=>?_;obtain⟨w2,iE,LA,cL,A2,H2,h2⟩:=hd;have ck:gD (E.de Y X1) (E.de (Y.dF (nG j x.arg x.nw) LA cL) X1):=d4 (aq _) fun _ _=>rfl;have o2:On E bJ h N (Y.dF (nG j x.arg x.nw) LA cL) X1 (G iE PW) m2 T2:=.of A2 H2 (ck.still lM);refine(rM (j:=j) o2 h2 WF).trans fun m3 T3 hd=>?_;obtain⟨kH,Zj,o3,Gk⟩:=hd;have hl8:(nG j x.arg x.nw).length=8:=rfl;have dI:(Y.dF (nG j x.arg x.nw) LA cL).db.length=Y.db.length+8:=by show(Y.db++nG j x.arg x.nw).length=_;rw[aD,hl8]
    have pi:=K.db;have jC:=K.room;refine(ih (by omega) hcf o3 Gk ⟨K.lt,K.e,K.len,by rw[xg];exact K.q,by rw[xg];exact K.q0,by rw[ali];exact K.b5,K.dz,⟨en,by rw[NC];exact he,Q4⟩,rz,by rw[dI];omega,by rw[dI];omega,K.ba⟩ di kY hp W uq).mono fun m4 T4 hd=>?_;obtain⟨l,r,c6,Y',X',iJ,hw,hk,ho,hB⟩:=hd;refine⟨(x.arg,x.nw)::l,r,c6,Y',X',iJ,.mark kW e8 hw,?_,ho,hB⟩;rw[rP]at hk;have em:nG j x.arg x.nw=yr j [(x.arg,x.nw)]:=by simp[yr]
    rw[em]at hk;exact hk.lr
   ·by_cases eb:x.op<1∨8<x.op
    ·
     have yL:cm aa m1 T1 fun m' T'=>∃w' bT BX,dD aa E.base E.W0 bJ h N m' T' (G bT PW) w'∧bK aa E.base w' (ci E.x Y (eQ E.a {X1.s with box:=upd X1.s.box j (some (BX,iu x.op x.c x.arg x.nw))} (iK E.a X1 E.LB)))∧mu kd bT:=by
      rcases eb with eb|eb
      ·exact pN (lo:=true) eb A1 H1 lM K.lt K.e K.len (by rw[xg];exact K.q) h1 hxc
      ·exact pN (lo:=false) eb A1 H1 lM K.lt K.e K.len (by rw[xg];exact K.q) h1 hxc
     refine yL.trans fun m2 T2 hd=>?_;obtain⟨w2,iE,BX,A2,H2,h2⟩:=hd;let X2:XS:={X1 with s:={X1.s with box:=upd X1.s.box j (some (BX,iu x.op x.c x.arg x.nw))}};have PX:bK aa E.base w2 (E.de Y X2):=H2;have ck:gD (E.de Y X1) (E.de Y X2):=d4 (aq _) fun _ _=>rfl;have o2:On E bJ h N Y X2 (G iE PW) m2 T2:=.of A2 PX (ck.still lM);refine(rM (j:=j) o2 h2 (b8:=X1.b8 j) WF).trans fun m3 T3 hd=>?_;obtain⟨kH,Zj,o3,Gk⟩:=hd;have JG:X2=X.bx j (some (BX,iu x.op x.c x.arg x.nw)) B8 (X.nV j) (X.nW j) X.s.ended X.s.holds:=by show({X1 with s:={X1.s with box:=upd X1.s.box j _}}:XS)=_;rw[XS.Zg,rP,XS.xf];simp[XS.bx,upd_same]
     have jC:=K.room;refine(ih (by omega) hcf o3 Gk ⟨K.lt,K.e,K.len,by show X1.s.q.length=4;rw[xg];exact K.q,by show X1.s.q[0]?=_;rw[xg];exact K.q0,by show X1.b5 j=_;rw[ali];exact K.b5,K.dz,⟨en,by show X1.s.ended=_;rw[NC];exact he,Q4⟩,rz,K.db,by omega,K.ba⟩ di kY hp W uq).mono fun m4 T4 hd=>?_;obtain⟨l,r,c6,Y',X',iJ,hw,hk,ho,hB⟩:=hd;refine⟨l,r,c6,Y',X',iJ,.not kW eb hw,?_,ho,hB⟩;rw[JG,<-GS.ul (Y:=Y)]at hk;exact hk.lr (l:=[])
    ·by_cases e7:x.op=7
     ·
      obtain⟨k,hk⟩:=goK x.arg nb;rw[e7]at h1;have eS:E.de Y X1 (E.a,.app 0 0)=some (X1.s.S,.fF fe 1 X1.s.xs):=by unfold Wd.de;rw[ct rfl];exact i5
      have gS:(fK.fF fe 1 X1.s.xs).cell 0=some (.slice (some ⟨PB,0,none⟩) nb fI):=by show X1.s.xs[0]?=_;unfold SS.xs;rw[xg,aP (by have:=K.q;omega)];exact K.q0
      refine(akC (a:=E.a) k A1 H1 lM K.lt di K.e K.len h1 eS gS (by simp) hk).trans fun m2 T2 hd=>?_;obtain⟨w2,iE,f46,f80,AB,B1,B2,A2,H2,q_,Lh,tH⟩:=hd;rw[Zh]at H2;have ck:gD (E.de Y X1) (E.de (Y.lX j (.pointer none) (qc j 7 0 0) AB) {X1 with nV:=upd X1.nV j (some B1),nW:=upd X1.nW j (some (B2,x.arg))}):=d4 (aq _) fun _ _=>rfl;refine(IP (Y:=Y.lX j (.pointer none) (qc j 7 0 0) AB) A2 H2 (ck.still lM) K.lt q_ hp W uq).mono fun m3 T3 hd=>?_;obtain⟨s,iJ,o3,hB,hW⟩:=hd;have JG:({X1 with nV:=upd X1.nV j (some B1),nW:=upd X1.nW j (some (B2,x.arg))}:XS)=X.bx j (X.s.box j) B8 (some B1) (some (B2,x.arg)) X.s.ended X.s.holds:=by rw[XS.alh,rP,XS.xf];simp[XS.bx,upd_same]
      refine⟨[],.inl (x,c'),_,_,_,iJ,.Lo kW (by omega) (by omega),?_,o3,hB⟩;rw[JG];have hY:Y.dF (yr j []) Y.LA Y.cL=Y:=GS.ul;have:=dV.Lo (E:=E) (nb:=nb) (bJ:=bJ) (h:=h) (p:=p) (Y:=Y) (X:=X) (j:=j) (b:=b) (l:=[]) (x:=x) (c:=c') (LA:=Y.LA) (cL:=Y.cL) (B9:=X.s.box j) (B8:=B8) (yZ:=some B1) (tI:=some (B2,x.arg)) (v:=.pointer none) (av:=qc j 7 0 0) (AB:=AB) hW (.inr ⟨e7,?_,k,kd,f46,f80,PW,AB,B1,B2,rfl,hk,Lh,?_,?_,?_,?_,?_⟩) rz
      ·rw[hY]at this;exact this
      ·show upd _ j _ j=_;rw[upd_same]
      ·rw[hS]at tH;exact tH
      ·show upd _ j _ j=_;rw[upd_same]
      ·show upd _ j _ j=_;rw[upd_same]
      ·show upd _ j _ j=_;rw[upd_same]
      ·show uy E.LB E.a X.s.S (Y.th j) b (upd X.b8 j B8 j) c' kd PW;rw[upd_same,<-hS];have:X1.b8 j=B8:=by rw[rP];show upd X.b8 j B8 j=B8;rw[upd_same]
       rw[<-this];exact WF
     ·
      refine(aec A1 H1 lM K.lt di K.e K.len h1 (by omega) (by omega) hxc fun b=>vF).trans fun m2 T2 hd=>?_;obtain⟨w2,iE,f11,f80,AB,BX,l,A2,H2,q_,Dj,tH,hl⟩:=hd;rw[zW (p:=(BX,iu x.op x.c x.arg x.nw))]at H2;let X2:XS:={X1 with s:={X1.s with box:=upd X1.s.box j (some (BX,iu x.op x.c x.arg x.nw))}};have PX:bK aa E.base w2 (E.de (Y.lX j (cv X1.s.S (4+x.c)) (qc j x.op x.arg x.nw) AB) X2):=H2;have ck:gD (E.de Y X1) (E.de (Y.lX j (cv X1.s.S (4+x.c)) (qc j x.op x.arg x.nw) AB) X2):=d4 (aq _) fun _ _=>rfl;refine(IP (Y:=Y.lX j (cv X1.s.S (4+x.c)) (qc j x.op x.arg x.nw) AB) A2 PX (ck.still lM) K.lt q_ hp W uq).mono fun m3 T3 hd=>?_;obtain⟨s,iJ,o3,hB,hW⟩:=hd;have JG:X2=X.bx j (some (BX,iu x.op x.c x.arg x.nw)) B8 (X.nV j) (X.nW j) X.s.ended X.s.holds:=by show({X1 with s:={X1.s with box:=upd X1.s.box j _}}:XS)=_;rw[XS.Zg,rP,XS.xf];simp[XS.bx,upd_same]
      rw[JG,hS]at o3;refine⟨[],.inl (x,c'),_,_,_,iJ,.Lo kW (by omega) (by omega),?_,o3,hB⟩;have hY:Y.dF (yr j []) Y.LA Y.cL=Y:=GS.ul;have:=dV.Lo (E:=E) (nb:=nb) (bJ:=bJ) (h:=h) (p:=p) (Y:=Y) (X:=X) (j:=j) (b:=b) (l:=[]) (x:=x) (c:=c') (LA:=Y.LA) (cL:=Y.cL) (B9:=some (BX,iu x.op x.c x.arg x.nw)) (B8:=B8) (yZ:=X.nV j) (tI:=X.nW j) (v:=cv X.s.S (4+x.c)) (av:=qc j x.op x.arg x.nw) (AB:=AB) hW (.inl ⟨by omega,by omega,hxc,?_,kd,f11,f80,PW,AB,BX,l,rfl,?_,?_,hl,?_,?_,?_⟩) rz
      ·rw[hY]at this;exact this
      ·show upd _ j _ j=_;rw[upd_same];rfl
      ·rw[hS]at Dj;exact Dj
      ·rw[hS]at tH;exact tH
      ·show upd _ j _ j=_;rw[upd_same]
      ·show upd _ j _ j=_;rw[upd_same]
      ·show uy E.LB E.a X.s.S (Y.th j) b (upd X.b8 j B8 j) c' kd PW;rw[upd_same,<-hS];have:X1.b8 j=B8:=by rw[rP];show upd X.b8 j B8 j=B8;rw[upd_same]
       rw[<-this];exact WF
end
def zy(X:XS)(j:Nat)(X':XS):Prop:=∃B9 B8 yZ tI ho,X'=X.bx j B9 B8 yZ tI (X.s.ended+1) ho
theorem zy.lr{X X1 X':XS}{j:Nat}{B9:Option (Nat×List Value)}{B8 yZ:Option Nat}{tI:Option (Nat×Int)}{ho:Int}(hX:X1=X.bx j B9 B8 yZ tI X.s.ended ho)(h:zy X1 j X'):zy X j X':=by obtain⟨C9,C8,C10,C11,h2,rfl⟩:=h;subst hX;refine⟨C9,C8,C10,C11,h2,?_⟩;rw[XS.xf];rfl
theorem XS.EF{X:XS}{j:Nat}{c:Ct}:∃ho,X.yq c=X.bx j (X.s.box j) (X.b8 j) (X.nV j) (X.nW j) X.s.ended ho:=by
 unfold XS.yq;split
 ·exact⟨_,XS.aq4⟩
 ·exact⟨_,XS.zZ.symm⟩
section
variable {E:Wd}{PB nb fI:Nat}{bJ:Nat->Option Tok.Seat}{h N:Nat}{Y:GS}{X:XS}{cs tC:List Frame}{j b p z zC:Nat}{t:Tok.Seat}{BJ:Frame->Prop}
theorem zx.to{c c':Ct}{X':XS}(K:zx E PB nb fI Y X j b c)(hok:c'.ok)(hs:c'.sz≤c.sz)(hX:∃B9 B8 yZ tI ho,X'=X.bx j B9 B8 yZ tI X.s.ended ho):zx E PB nb fI Y X' j b c':=by obtain⟨B9,B8,yZ,tI,ho,rfl⟩:=hX;exact⟨K.lt,K.e,K.len,K.q,K.q0,K.b5,K.dz,K.ended,hok,K.db,by have:=K.room;omega,K.ba⟩
theorem UC:∀(sz:Nat) {X:XS} {c:Ct} {fr:Frame} {cs:List Frame} {m:Machine} {T:Trace},c.sz≤sz->(∀fq,c≠.ky fq)->On E bJ h N Y X (G fr cs) m T->WE E.LB E.a X.s.S (Y.th j) b c fr cs->zx E PB nb fI Y X j b c->Y.dJ=true->0<h->bJ p=some t->j4 t (Y.th j).sd z zC BJ tC->
  cm aa m T fun m' T'=>∃X' iJ,zy X j X'∧On E (Tok.e_ bJ h p none) p N (Y.gone j false) X' (G iJ tC) m' T'∧BJ iJ:=by
 intro sz
 induction sz with
 |zero=>
  intro X c fr cs m T hsz hc;cases c with
  |run l held ds up=>simp only[Ct.sz]at hsz;omega
  |uj fq ds up=>
   simp only[Ct.sz]at hsz;cases up with
   |none=>simp only[zu]at hsz;omega
   |some d=>simp only[zu]at hsz;omega
  |ky fq=>exact absurd rfl (hc fq)
 |succ sz ih=>
  intro X c fr cs m T hsz hc o hC K di kY hp W;obtain⟨en,he,Q4⟩:=K.ended;cases kW:c.next with
  |off fq=>
   cases c with
   |run l held ds up=>
    cases l with
    |nil=>cases kW
    |cons x l=>
     simp only[Ct.next]at kW;split at kW
     ·cases kW
     ·split at kW
      ·cases kW
      ·split at kW<;>cases kW
   |uj fq ds up=>
    cases ds with
    |cons x l=>cases kW
    |nil=>cases up<;>cases kW
   |ky fq=>exact absurd rfl (hc fq)
  |Ey c'=>
   refine(Nv kW K.ok o hC K.q K.b5 he (by omega)).trans fun m1 T1 hd=>?_;obtain⟨c9,PW,o1,Zi⟩:=hd;by_cases ri:∃fq,c'=.ky fq
   ·obtain⟨fq,rfl⟩:=ri;obtain⟨w1,A1,H1,lM⟩:=o1;have hx:X.aft (.ky fq)=X.bx j (X.s.box j) (X.b8 j) (X.nV j) (X.nW j) (X.s.ended+1) X.s.holds:=XS.alg;rw[hx]at H1 lM;have ck:gD (E.de Y (X.bx j (X.s.box j) (X.b8 j) (X.nV j) (X.nW j) (X.s.ended+1) X.s.holds)) (E.de (Y.gone j false) (X.bx j (X.s.box j) (X.b8 j) (X.nV j) (X.nW j) (X.s.ended+1) X.s.holds)):=d4 (aq _) fun _ _=>rfl;cases fq with
    |false=>obtain⟨rfl,h1⟩:=Zi;refine(yi A1 H1 lM K.lt K.e K.len kY h1 hp W).mono fun m2 T2 hd=>?_;obtain⟨w2,iJ,A2,H2,hB⟩:=hd;rw[<-GS.rN]at H2;exact⟨_,iJ,⟨_,_,_,_,_,rfl⟩,.of A2 H2 (kK (ck.still lM) fun s e=>by cases e),hB⟩
    |true=>obtain⟨ch,xV,rfl,h1⟩:=Zi;refine(Nu xV A1 H1 lM K.lt K.e K.dz K.len kY h1 hp W).mono fun m2 T2 hd=>?_;obtain⟨w2,iJ,A2,H2,hB⟩:=hd;rw[di]at H2;exact⟨_,iJ,⟨_,_,_,_,_,rfl⟩,.of A2 H2 (kK (ck.still lM) fun s e=>by cases e),hB⟩
   ·have hX:X.aft c'=X:=by
     cases c' with
     |ky fq=>exact absurd ⟨fq,rfl⟩ ri
     |_=>rfl
    rw[hX]at o1;have hs:=Ct.Ld kW;exact ih (by omega) (fun fq e=>ri ⟨fq,e⟩) o1 Zi (K.to (Ct.Uf kW K.ok) (by omega) ⟨_,_,_,_,_,XS.zZ.symm⟩) di kY hp W
  |one x c'=>
   have hs:=Ct.Ce kW;have hsp:=Ct.Ui (c:=c');obtain⟨hxc,rz⟩:=Ct.Ug kW K.ok;have hcf:∀fq,c'≠.ky fq:=fun fq e=>by
    subst e;cases c with
    |run l held ds up=>
     cases l with
     |nil=>cases kW
     |cons y l=>
      simp only[Ct.next]at kW;split at kW
      ·cases kW
      ·split at kW
       ·cases kW
       ·split at kW<;>cases kW
    |uj fq ds up=>
     cases ds with
     |cons y l=>cases kW
     |nil=>cases up<;>cases kW
    |ky fq=>cases kW
   have hcp:∀fq,c'.fq≠.ky fq:=fun fq e=>by
    cases c' with
    |run l held ds up=>cases held<;>cases e
    |uj _ _ _=>cases e
    |ky q=>exact hcf q rfl
   refine(Nw kW o hC).trans fun m1 T1 hd=>?_;obtain⟨X1,c9,PW,kd,o1,h1,WF,hX1⟩:=hd;obtain⟨B8,rP⟩:∃B8,X1=X.bx j (X.s.box j) B8 (X.nV j) (X.nW j) X.s.ended X.s.holds:=by
    rcases hX1 with rfl|⟨B,rfl⟩
    ·exact⟨_,XS.zZ.symm⟩
    ·exact⟨_,XS.alf⟩
   have hS:X1.s.S=X.s.S:=by rw[rP];rfl
   have xg:X1.s.q=X.s.q:=by rw[rP];rfl
   obtain⟨w1,A1,H1,lM⟩:=o1;rw[<-hS]at h1 WF;have fq:∀{X2:XS} {iE:Frame} {m2:Machine} {T2:Trace},(∃B9 B8 yZ tI,X2=X.bx j B9 B8 yZ tI X.s.ended X.s.holds)->X2.b8 j=X1.b8 j->On E bJ h N Y X2 (G iE PW) m2 T2->jw d7 117 [] (fE kd) (.panicking jo) iE->cm aa m2 T2 fun m' T'=>∃X' iJ,zy X j X'∧On E (Tok.e_ bJ h p none) p N (Y.gone j false) X' (G iJ tC) m' T'∧BJ iJ:=fun{X2 iE m2 T2} JG hb8 o2 h2=>by
    obtain⟨B9,B8',yZ,tI,JG⟩:=JG;have Q2:X2.s.S=X1.s.S:=by rw[JG,hS];rfl
    refine(Ny (j:=j) (b:=b) (c:=c') o2 (by rw[JG];exact K.q) h2 (by rw[Q2,hb8];exact WF)).trans fun m3 T3 hd=>?_;obtain⟨kH,Zj,o3,Gk⟩:=hd;obtain⟨ho,Q5⟩:=XS.EF (X:=X2) (j:=j) (c:=c');have alj:X2.yq c'=X.bx j (X2.s.box j) (X2.b8 j) (X2.nV j) (X2.nW j) X.s.ended ho:=by rw[Q5,JG,XS.xf];rfl
    have Xq:(X2.yq c').s.S=X2.s.S:=by rw[Q5];rfl
    rw[<-Xq]at Gk;refine(ih (by omega) hcp o3 Gk (K.to (Ct.Uh rz) (by omega) ⟨_,_,_,_,_,alj⟩) di kY hp W).mono fun m4 T4 hd=>?_;obtain⟨X',iJ,hq,vm,hB⟩:=hd;exact⟨X',iJ,hq.lr alj,vm,hB⟩
   by_cases e8:x.op=8
   ·rw[e8]at h1;refine(Do A1 H1 lM K.lt di K.e K.len h1).trans fun m2 T2 hd=>?_;obtain⟨w2,iE,A2,H2,h2⟩:=hd;refine(rM (j:=j) (On.of A2 H2 lM) h2 WF).trans fun m3 T3 hd=>?_;obtain⟨kH,Zj,o3,Gk⟩:=hd;refine(ih (by omega) hcf o3 Gk (K.to rz (by omega) ⟨_,_,_,_,_,rP⟩) di kY hp W).mono fun m4 T4 hd=>?_;obtain⟨X',iJ,hq,vm,hB⟩:=hd;exact⟨X',iJ,hq.lr rP,vm,hB⟩
   ·by_cases eb:x.op<1∨8<x.op
    ·have yL:cm aa m1 T1 fun m' T'=>∃w' bT BX,dD aa E.base E.W0 bJ h N m' T' (G bT PW) w'∧bK aa E.base w' (ci E.x Y (eQ E.a {X1.s with box:=upd X1.s.box j (some (BX,iu x.op x.c x.arg x.nw))} (iK E.a X1 E.LB)))∧mu kd bT:=by
      rcases eb with eb|eb
      ·exact pN (lo:=true) eb A1 H1 lM K.lt K.e K.len (by rw[xg];exact K.q) h1 hxc
      ·exact pN (lo:=false) eb A1 H1 lM K.lt K.e K.len (by rw[xg];exact K.q) h1 hxc
     refine yL.trans fun m2 T2 hd=>?_;obtain⟨w2,iE,BX,A2,H2,h2⟩:=hd;let X2:XS:={X1 with s:={X1.s with box:=upd X1.s.box j (some (BX,iu x.op x.c x.arg x.nw))}};have PX:bK aa E.base w2 (E.de Y X2):=H2;have ck:gD (E.de Y X1) (E.de Y X2):=d4 (aq _) fun _ _=>rfl;refine(rM (j:=j) (X:=X2) (On.of A2 PX (ck.still lM)) h2 (b8:=X1.b8 j) WF).trans fun m3 T3 hd=>?_;obtain⟨kH,Zj,o3,Gk⟩:=hd;have JG:X2=X.bx j (some (BX,iu x.op x.c x.arg x.nw)) B8 (X.nV j) (X.nW j) X.s.ended X.s.holds:=by show({X1 with s:={X1.s with box:=upd X1.s.box j _}}:XS)=_;rw[XS.Zg,rP,XS.xf];simp[XS.bx,upd_same]
     refine(ih (by omega) hcf o3 Gk (K.to rz (by omega) ⟨_,_,_,_,_,JG⟩) di kY hp W).mono fun m4 T4 hd=>?_;obtain⟨X',iJ,hq,vm,hB⟩:=hd;exact⟨X',iJ,hq.lr JG,vm,hB⟩
    ·by_cases e7:x.op=7
     ·obtain⟨k,hk⟩:=goK x.arg nb;rw[e7]at h1;have eS:E.de Y X1 (E.a,.app 0 0)=some (X1.s.S,.fF fe 1 X1.s.xs):=by
       unfold Wd.de;rw[ct rfl];exact i5
      have gS:(fK.fF fe 1 X1.s.xs).cell 0=some (.slice (some ⟨PB,0,none⟩) nb fI):=by show X1.s.xs[0]?=_;unfold SS.xs;rw[xg,aP (by have:=K.q;omega)];exact K.q0
      refine(ae5 k A1 H1 lM K.lt di K.e K.len h1 eS gS hk).trans fun m2 T2 hd=>?_;obtain⟨w2,iE,A2,H2,h2⟩:=hd;exact fq ⟨_,_,_,_,rP⟩ rfl (On.of A2 H2 lM) h2
     ·refine(Zd A1 H1 lM K.lt di K.e K.len h1 (by omega) (by omega) hxc).trans fun m2 T2 hd=>?_;obtain⟨w2,iE,BX,A2,H2,h2⟩:=hd;let X2:XS:={X1 with s:={X1.s with box:=upd X1.s.box j (some (BX,iu x.op x.c x.arg x.nw))}};have PX:bK aa E.base w2 (E.de Y X2):=H2;have ck:gD (E.de Y X1) (E.de Y X2):=d4 (aq _) fun _ _=>rfl;have JG:X2=X.bx j (some (BX,iu x.op x.c x.arg x.nw)) B8 (X.nV j) (X.nW j) X.s.ended X.s.holds:=by
       show({X1 with s:={X1.s with box:=upd X1.s.box j _}}:XS)=_;rw[XS.Zg,rP,XS.xf];simp[XS.bx,upd_same]
      exact fq ⟨_,_,_,_,JG⟩ rfl (On.of A2 PX (ck.still lM)) h2
theorem PY{x:Sp}{c:Ct}{fr:Frame}{m:Machine}{T:Trace}(o:On E bJ h N Y X (G fr cs) m T)(hf:ye (Y.th j).T fr)(hs:mZ E nb Y X j b x c cs)(hcf:∀fq,c≠.ky fq)(K:zx E PB nb fI Y X j b c)(di:Y.dJ=true)(kY:0<h)(hp:bJ p=some t)(W:j4 t (Y.th j).sd z zC BJ tC):
  cm aa m T fun m' T'=>∃X' iJ,zy X j X'∧On E (Tok.e_ bJ h p none) p N (Y.gone j false) X' (G iJ tC) m' T'∧BJ iJ:=by
 obtain⟨w,A,H,hS⟩:=o;have hcp:∀fq,c.fq≠.ky fq:=fun fq e=>by
  cases c with
  |run l held ds up=>cases held<;>cases e
  |uj _ _ _=>cases e
  |ky q=>exact hcf q rfl
 have go:∀{kd:Bool} {io:List Frame} {c9:Frame} {m1:Machine} {T1:Trace} {w1:World},dD aa E.base E.W0 bJ h N m1 T1 (G c9 io) w1->bK aa E.base w1 (E.de Y X)->jw d7 117 [] (fE kd) (.panicking jo) c9->uy E.LB E.a X.s.S (Y.th j) b (X.b8 j) c kd io->cm aa m1 T1 fun m' T'=>∃X' iJ,zy X j X'∧On E (Tok.e_ bJ h p none) p N (Y.gone j false) X' (G iJ tC) m' T'∧BJ iJ:=fun{kd io c9 m1 T1 w1} A1 H1 h1 hO=>by
  refine(Ny (j:=j) (b:=b) (c:=c) (On.of A1 H1 hS) K.q h1 hO).trans fun m3 T3 hd=>?_;obtain⟨kH,Zj,o3,Gk⟩:=hd;obtain⟨ho,Q5⟩:=XS.EF (X:=X) (j:=j) (c:=c);have Xq:(X.yq c).s.S=X.s.S:=by rw[Q5];rfl
  rw[<-Xq]at Gk;have hsp:=Ct.Ui (c:=c);refine(UC c.fq.sz (aq _) hcp o3 Gk (K.to (Ct.Uh K.ok) hsp ⟨_,_,_,_,_,Q5⟩) di kY hp W).mono fun m4 T4 hd=>?_;obtain⟨X',iJ,hq,vm,hB⟩:=hd;exact⟨X',iJ,hq.lr Q5,vm,hB⟩
 rcases hs with⟨h1,h6,Zk,vK,kd,f11,f80,io,AB,BX,l,rfl,Dj,tH,hl,w9,Pz,hO⟩|⟨h7,vK,k,kd,f46,f80,io,AB,B1,B2,rfl,hk,Lh,tH,w9,alk,alm,hO⟩
 ·refine(Nt A H hS K.lt di hf Dj tH).trans fun m1 T1 hd=>?_;obtain⟨w1,c9,A1,H1,hr⟩:=hd;exact go A1 H1 hr hO
 ·refine(Nt A H hS K.lt di hf Lh tH).trans fun m1 T1 hd=>?_;obtain⟨w1,c9,A1,H1,hr⟩:=hd;exact go A1 H1 hr hO
end
structure JH(E:Wd)(PB nb fI:Nat)(bI:List (List Sp)):Prop where
 arr:∃kB,E.LB (E.a,.app 4 0)=some (PB,kB)∧∀i l,bI[i]?=some l->∃bv,kB.cell i=some bv∧qM E.LB E.a bv 0 l
 ok:∀l∈bI,∀x∈l,x.ok
 len:bI.length=nb
 size:∀l∈bI,l.length≤2000
 ne:E.x≠E.a
def gb(E:Wd)(Y:GS)(bJ:Nat->Option Tok.Seat):Prop:=∀i s,bJ i=some s->(∃k,k<Y.n∧i=(Y.th k).gn∧s.c=(Y.th k).wk)∨(∃k,k<Y.n∧s.c=(Y.th k).sd)∨∃z k,z≠E.x∧fm k=false∧E.LB (z,k)=some (s.c,.chan)
section
variable {E:Wd}{bJ:Nat->Option Tok.Seat}{h N:Nat}{Y Y':GS}{X:XS}{j:Nat}
theorem tK(hj:j<Y.n):E.de Y X (E.x,.sd j)=some ((Y.th j).sd,.chan):=by unfold Wd.de;rw[bY rfl];exact if_pos hj
theorem xh{z:Nat}{k:RK}{y:Nat×fK}(hz:z≠E.x)(hk:fm k=false)(h:E.LB (z,k)=some y):E.de Y X (z,k)=some y:=by unfold Wd.de;rw[lu hz,kJ hk];exact h
theorem gb.ae_(hs:gb E Y bJ):Tp (E.de Y X) bJ:=fun i s e=>by
 rcases hs i s e with⟨k,hk,_,ec⟩|⟨k,hk,ec⟩|⟨z,k,hz,hk,ec⟩
 ·exact⟨_,by rw[ec];exact rO hk⟩
 ·exact⟨_,by rw[ec];exact tK hk⟩
 ·exact⟨_,xh hz hk ec⟩
theorem gb.wk{w:World}(hs:gb E Y bJ)(H:bK aa E.base w (E.de Y X))(hj:j<Y.n)(hg:(Y.th j).gn=h)(hf:bJ h=none):∀i t,bJ i=some t->t.c≠(Y.th j).wk:=fun i t e ec=>by
 rcases hs i t e with⟨k,hk,hi,ek⟩|⟨k,hk,ek⟩|⟨z,k,hz,hk,ek⟩
 ·have:=H.inj _ _ _ _ _ (rO (X:=X) hk) (by rw[<-ek,ec];exact rO hj);cases this;rw[hi,hg,hf]at e;cases e
 ·have:=H.inj _ _ _ _ _ (tK (X:=X) hk) (by rw[<-ek,ec];exact rO hj);cases this
 ·have:=H.inj _ _ _ _ _ (xh (Y:=Y) (X:=X) hz hk ek) (by rw[ec];exact rO hj);cases this;exact hz rfl
theorem gb.lr(hs:gb E Y bJ)(hn:Y.n≤Y'.n)(ht:∀j,j<Y.n->Y'.th j=Y.th j):gb E Y' bJ:=fun i s e=>by
 rcases hs i s e with⟨k,hk,hi,ek⟩|⟨k,hk,ek⟩|h3
 ·exact .inl ⟨k,by omega,by rw[ht k hk];exact hi,by rw[ht k hk];exact ek⟩
 ·exact .inr (.inl ⟨k,by omega,by rw[ht k hk];exact ek⟩)
 ·exact .inr (.inr h3)
theorem gb.put{so:Option Tok.Seat}{i:Nat}(hs:gb E Y bJ)(hp:∀s,so=some s->(∃k,k<Y.n∧i=(Y.th k).gn∧s.c=(Y.th k).wk)∨(∃k,k<Y.n∧s.c=(Y.th k).sd)):gb E Y (upd bJ i so):=fun i' s e=>by
 by_cases hi:i'=i
 ·rw[hi,upd_same]at e;rcases hp s e with h1|h1
  ·rw[hi];exact .inl h1
  ·exact .inr (.inl h1)
 ·rw[upd_ne _ _ hi]at e;exact hs i' s e
theorem gb.e_{so:Option Tok.Seat}{p:Nat}(hs:gb E Y bJ)(hp:∀s,so=some s->(∃k,k<Y.n∧h=(Y.th k).gn∧s.c=(Y.th k).wk)∨(∃k,k<Y.n∧s.c=(Y.th k).sd)):gb E Y (Tok.e_ bJ h p so):=fun i' s e=>by
 unfold Tok.e_ at e;split at e
 ·cases e
 ·split at e
  ·rename_i hi;rcases hp s e with h1|h1
   ·rw[hi];exact .inl h1
   ·exact .inr (.inl h1)
  ·exact hs i' s e
theorem PZ{s p:Tok.Seat}(hN:bJ N=none)(df:h≠N):Tok.e_ (upd bJ N (some s)) h N (some p)=upd bJ h (some p):=by
 funext i;unfold Tok.e_;by_cases h1:i=N
 ·subst h1;rw[if_pos rfl,upd_ne _ _ (Ne.symm df),hN]
 ·rw[if_neg h1];by_cases h2:i=h
  ·subst h2;rw[if_pos rfl,upd_same]
  ·rw[if_neg h2,upd_ne _ _ h1,upd_ne _ _ h2]
end
def gQ(E:Wd)(nb:Nat)(bI:List (List Sp))(bJ:Nat->Option Tok.Seat)(h N:Nat)(Y:GS)(X:XS)(k:Option Nat)(c6:Nat->Option Tok.Seat)(Y':GS)(X':XS):Prop:=∃t fv TA cT FA cF p,t.gn=N∧match k with
 |none=>fv=.nilFunc∧c6=Tok.e_ (upd bJ h (some p)) N h none∧Y'=(Y.begun t fv TA cT FA cF).gone Y.n false∧X'=X
 |some i=>∃body B5 TH kt l r,bI[i]?=some body∧X.b5 Y.n=some B5∧JF (.run body false [] none) l r∧dV E nb (upd bJ h (some p)) N h (Y.begun t fv TA cT FA cF) {X with s:=X.s.yj t.T TH kt} Y.n B5 l r c6 Y' X'
def aln(X:XS)(n:Nat)(c:Nat->Nat)(fv:Value):Option Nat->Prop
 |none=>fv=.nilFunc
 |some i=>fv=w_ .pM c∧X.b5 n=some (c 11)∧X.b6 n=some (c 12,(i:Int))
section
variable {E:Wd}{PB nb fI:Nat}{bI:List (List Sp)}{bJ:Nat->Option Tok.Seat}{h N:Nat}{Y:GS}{X:XS}{cs:List Frame}{fr:Frame}{m:Machine}{T:Trace}
theorem P0{p j b:Nat}{l:List (Int×Int)}{r:(Sp×Ct)⊕Bool}{c6:Nat->Option Tok.Seat}{Y':GS}{X':XS}(k:dV E nb bJ h p Y X j b l r c6 Y' X'):Y'.n=Y.n∧Y'.th=Y.th:=by cases k<;>exact⟨rfl,rfl⟩
theorem Ch{c:Nat->Nat}{fv:Value}{k:Option Nat}(B:JH E PB nb fI bI)(o:On E bJ h N Y X (G fr cs) m T)(hs:gb E Y bJ)(hf:Ep Y.R fv fr)(hfv:aln X Y.n c fv k)(hk:∀i,k=some i->i<nb)(hn:Y.n+1≤1048576)(di:Y.dJ=false)(hq:X.s.q.length=4)(vB:X.s.q[0]?=some (.slice (some ⟨PB,0,none⟩) nb fI))(vL:∃e:Nat,X.s.ended=e∧e+1≤1000000)(xi:X.s.f0.length+1≤1048576)(pi:Y.db.length=8*(Y.db.length / 8))(jC:Y.db.length / 8+6002≤1000000):
  cm aa m T fun m' T'=>∃c6 Y' X' bT,On E c6 h (N+1) Y' X' (G bT cs) m' T'∧BY (Y'.th Y.n).T bT∧gQ E nb bI bJ h N Y X k c6 Y' X'∧gb E Y' c6:=by
 obtain⟨w,A,H,hS⟩:=o;have hN:bJ N=none:=by
  cases e:bJ N with
  |none=>rfl
  |some s=>exact absurd (A.lt e) (by omega)
 have hhN:h≠N:=by have:=A.dU;omega
 have j_:bJ h=none:=A.wI;obtain⟨f,hff⟩:∃f:JC,fv=w_ f c:=by
  cases k with
  |none=>exact⟨.none,hfv⟩
  |some i=>exact⟨.pM,hfv.1⟩
 have xx:Ep Y.R (w_ f c) fr:=by rw[<-hff];exact hf
 refine(Pu A H hS hs.ae_ xx hn).trans fun m1 T1 hd=>?_;obtain⟨w1,t,frK,f61,TA,cT,FA,cF,s,p,A1,H1,hgn,hK,h61,hW⟩:=hd;rw[PZ hN hhN]at A1;rw[<-hff]at H1;let Y1:GS:=Y.begun t fv TA cT FA cF;have hn1:Y1.n=Y.n+1:=rfl;have y0:Y.n<Y1.n:=by omega
 have Gl:Y1.th Y.n=t:=upd_same _ _ _;have ab_:∀j,j<Y.n->Y1.th j=Y.th j:=fun j hj=>upd_ne _ _ (by omega);have ck0:gD (E.de Y X) (E.de Y1 X):=d4 (by omega) ab_;have lM:cw (E.de Y1 X) (upd bJ h (some p)):=by
  rintro b n ⟨i,s',e,Gm⟩;by_cases hi:i=h
  ·rw[hi,upd_same]at e;cases e;rcases hW.still b n Gm with⟨rfl,hn⟩|⟨rfl,hn⟩
   ·have:=ku (E:=E) (X:=X) y0;rw[Gl]at this;exact⟨_,_,this,.inl ⟨rfl,hn⟩⟩
   ·have:=Gj (E:=E) (X:=X) y0;rw[Gl]at this;exact⟨_,_,this,.inr rfl⟩
  ·rw[upd_ne _ _ hi]at e;exact(ck0.still hS) b n ⟨i,s',e,Gm⟩
 have KG:gb E Y1 (upd bJ h (some p)):=gb.put (hs.lr (by omega) ab_) fun s' e=>by cases e;exact .inr ⟨Y.n,y0,by rw[Gl];exact hW.c⟩
 have uq:∀i t',upd bJ h (some p) i=some t'->t'.c≠(Y1.th Y.n).wk:=KG.wk (h:=N) H1 y0 (by rw[Gl];exact hgn) (by rw[upd_ne _ _ (Ne.symm hhN)];exact hN);have hpW:j4 p (Y1.th Y.n).sd t.T t.c5 GsB (f61::cs):=by rw[Gl];exact hW
 have hp1:upd bJ h (some p) h=some p:=upd_same _ _ _;have kY:0<N:=by have:=A.dU;omega
 have Zl:∀{m2:Machine} {T2:Trace} {c6:Nat->Option Tok.Seat} {Y':GS} {X':XS} {iJ:Frame},On E c6 h (N+1) Y' X' (G iJ (f61::cs)) m2 T2->Y'.n=Y1.n->Y'.th=Y1.th->GsB iJ->cm aa m2 T2 fun m' T'=>∃bT,On E c6 h (N+1) Y' X' (G bT cs) m' T'∧BY (Y'.th Y.n).T bT:=fun{m2 T2 c6 Y' X' iJ} o2 e1 e2 hB=>by
  obtain⟨w2,A2,H2,Q2⟩:=o2;have r5:=Gj (E:=E) (X:=X') (Y:=Y') (j:=Y.n) (by rw[e1];exact y0);have QT:Y'.th Y.n=t:=by rw[e2];exact Gl
  rw[QT]at r5;refine(Pv A2 H2 Q2 hB h61 r5 rfl).mono fun m3 T3 hd=>?_;obtain⟨w3,kH,A3,H3,h3⟩:=hd;refine⟨kH,.of A3 H3 Q2,?_⟩;rw[QT];exact h3
 have hK1:Pt (Y1.th Y.n) frK:=by rw[Gl];exact hK
 have P2:Y1.ts Y.n=Pg:=upd_same _ _ _;cases k with
 |none=>
  have hfj:Y1.f Y.n=.nilFunc:=by show upd Y.f Y.n fv Y.n=_;rw[upd_same];exact hfv
  refine(YY A1 H1 lM y0 hK1 hfj).trans fun m2 T2 hd=>?_;obtain⟨w2,iE,A2,H2,h2⟩:=hd;refine(yi A2 H2 lM y0 (by rw[P2];rfl) (by rw[P2];rfl) kY h2 hp1 hpW).trans fun m3 T3 hd=>?_;obtain⟨w3,iJ,A3,H3,hB⟩:=hd;rw[<-GS.rN]at H3;have ck:gD (E.de Y1 X) (E.de (Y1.gone Y.n false) X):=d4 (aq _) fun _ _=>rfl;refine(Zl (On.of A3 H3 (kK (ck.still lM) fun s e=>by cases e)) rfl rfl hB).mono fun m4 T4 hd=>?_;obtain⟨zV,o4,h4⟩:=hd;exact⟨_,_,_,zV,o4,h4,⟨t,fv,TA,cT,FA,cF,p,hgn,hfv,rfl,rfl,rfl⟩,gb.lr (gb.e_ KG fun s e=>by cases e) (aq _) fun _ _=>rfl⟩
 |some i=>
  obtain⟨iw,WG,hb6⟩:=hfv;have hi:=hk i rfl;obtain⟨kB,eB,hB⟩:=B.arr;have hil:i<bI.length:=by rw[B.len];exact hi
  obtain⟨bv,gB,hsl⟩:=hB i bI[i] (aF hil);have hfj:Y1.f Y.n=w_ .pM c:=by show upd Y.f Y.n fv Y.n=_;rw[upd_same];exact iw
  have Nh:E.de Y1 X (E.a,.app 5 Y.n)=some (c 11,.obj qL [cb X.s.S]):=by unfold Wd.de;rw[ct rfl];exact Cg WG
  have e12:E.de Y1 X (E.a,.app 6 Y.n)=some (c 12,.obj 2 [iV i]):=by unfold Wd.de;rw[ct rfl];exact IJ hb6
  have eB':E.de Y1 X (E.a,.app 4 0)=some (PB,kB):=by unfold Wd.de;rw[ct rfl,ae0];exact eB
  refine(TL A1 H1 lM y0 (by rw[P2];rfl) (by rw[P2];rfl) hq xi hK1 hfj Nh rfl ⟨by simp,by simp⟩ e12 rfl ⟨by simp,by simp⟩ eB' gB ⟨by simp,by simp⟩ hi vB).trans fun m2 T2 hd=>?_;obtain⟨w2,iE,f65,f76,TH,kt,A2,H2,h2,WD,Np⟩:=hd;let X2:XS:={X with s:=X.s.yj (Y1.th Y.n).T TH kt};have PX:bK aa E.base w2 (E.de Y1 X2):=H2;have ck:gD (E.de Y1 X) (E.de Y1 X2):=d4 (aq _) fun _ _=>rfl;refine(It A2 PX (ck.still lM) h2).trans fun m3 T3 hd=>?_;obtain⟨w3,kH,A3,H3,h3⟩:=hd;have Gk:WE E.LB E.a X2.s.S (Y1.th Y.n) (c 11) (.run bI[i] false [] none) kH (f65::f76::[fB aa]):=⟨bv,0,hsl,h3,f65,f76,rfl,WD,Np⟩;have hsz:Ct.sz (.run bI[i] false [] none)≤6002:=by have:=B.size _ (List.getElem_mem hil);simp only[Ct.sz,zu,List.length_nil];omega
  have K:zx E PB nb fI Y1 X2 Y.n (c 11) (.run bI[i] false [] none):=⟨y0,by rw[P2];rfl,by rw[P2];rfl,hq,vB,WG,upd_same _ _ _,vL,⟨B.ok _ (List.getElem_mem hil),(fun c hc=>by cases hc),(fun d e=>by cases e),by simp⟩,pi,by show Y.db.length / 8+_≤_;omega,B.ne⟩;refine(NA (PB:=PB) (nb:=nb) (fI:=fI) _ (aq _) (fun fq e=>by cases e) (On.of A3 H3 (ck.still lM)) Gk K di kY hp1 hpW uq).trans fun m4 T4 hd=>?_;obtain⟨l,r,c6,Y',X',iJ,hw,P3,o4,hB4⟩:=hd;obtain⟨q1,q2⟩:=P0 P3;refine(Zl o4 q1 q2 hB4).mono fun m5 T5 hd=>?_;obtain⟨Uo,o5,h5⟩:=hd;refine⟨c6,Y',X',Uo,o5,h5,⟨t,fv,TA,cT,FA,cF,p,hgn,bI[i],c 11,TH,kt,l,r,aF hil,WG,hw,?_⟩,?_⟩
  ·have:X2={X with s:=X.s.yj t.T TH kt}:=by
    show({X with s:=X.s.yj (Y1.th Y.n).T TH kt}:XS)=_;rw[Gl]
   rw[<-this];exact P3
  ·refine gb.lr (Y:=Y1) ?_ (by omega) fun j _=>by rw[q2]
   cases P3 with
   |Lo g1 g2 g3=>refine gb.e_ KG fun s' e=>?_;cases e;exact .inl ⟨Y.n,y0,by rw[Gl];exact hgn.symm,g1.c⟩
   |off=>exact gb.e_ KG fun s' e=>by cases e
end
structure jK(i:Nat)(Y:GS)(X:XS)(Y':GS)(X':XS):Prop where
 ts:Y'.ts i=Y.ts i
 gG:Y'.gG i=Y.gG i
 dz:Y'.dz i=Y.dz i
 th:Y'.th i=Y.th i
 box:X'.s.box i=X.s.box i
 b5:X'.b5 i=X.b5 i
 b6:X'.b6 i=X.b6 i
 b8:X'.b8 i=X.b8 i
 nV:X'.nV i=X.nV i
 nW:X'.nW i=X.nW i
 S:X'.s.S=X.s.S
theorem jK.trans{i:Nat}{Y Y' Y'':GS}{X X' P4:XS}(a:jK i Y X Y' X')(b:jK i Y' X' Y'' P4):jK i Y X Y'' P4:=⟨b.ts.trans a.ts,b.gG.trans a.gG,b.dz.trans a.dz,b.th.trans a.th,b.box.trans a.box,b.b5.trans a.b5,b.b6.trans a.b6,b.b8.trans a.b8,b.nV.trans a.nV,b.nW.trans a.nW,b.S.trans a.S⟩
theorem mZ.eL{E:Wd}{nb i b:Nat}{Y Y':GS}{X X':XS}{x:Sp}{c:Ct}{cs:List Frame}(h:mZ E nb Y X i b x c cs)(s:jK i Y X Y' X'):mZ E nb Y' X' i b x c cs:=by unfold mZ at h⊢;rw[s.ts,s.th,s.S,s.gG,s.box,s.b8,s.nV,s.nW];exact h
theorem mZ.UD{E:Wd}{nb i b:Nat}{Y:GS}{X:XS}{x:Sp}{c:Ct}{cs:List Frame}(h:mZ E nb Y X i b x c cs):∀fq,c≠.ky fq:=fun fq e=>by subst e;rcases h with⟨_,_,_,_,kd,f11,f80,io,AB,BX,l,_,_,_,_,_,_,hO⟩|⟨_,_,k,kd,f46,f80,io,AB,B1,B2,_,_,_,_,_,_,_,hO⟩<;>exact hO
theorem mZ.e{E:Wd}{nb i b:Nat}{Y:GS}{X:XS}{x:Sp}{c:Ct}{cs:List Frame}(h:mZ E nb Y X i b x c cs):(Y.ts i).e=false∧(Y.ts i).a.length=8:=by rcases h with⟨_,_,_,e,_⟩|⟨_,e,_⟩<;>rw[e]<;>exact⟨rfl,rfl⟩
structure aca(Y:GS)(X:XS)(Y':GS)(X':XS):Prop where
 dJ:Y'.dJ=Y.dJ
 R:Y'.R=Y.R
 MB:Y'.MB=Y.MB
 mp:Y'.mp=Y.mp
 cp:Y'.cp=Y.cp
 ready:Y'.ready=Y.ready
 S:X'.s.S=X.s.S
 q:X'.s.q=X.s.q
 cells:X'.s.cells=X.s.cells
 tl:X'.s.tl=X.s.tl
 holds:X'.s.holds=X.s.holds
section
variable {E:Wd}{nb:Nat}{bI:List (List Sp)}{bJ:Nat->Option Tok.Seat}{h p N:Nat}{Y:GS}{X:XS}{j b:Nat}{l:List (Int×Int)}{r:(Sp×Ct)⊕Bool}{c6:Nat->Option Tok.Seat}{Y':GS}{X':XS}
theorem dV.eL(k:dV E nb bJ h p Y X j b l r c6 Y' X'){i:Nat}(hi:i≠j):jK i Y X Y' X':=by
 cases k with
 |Lo h1 h2 h3=>exact⟨upd_ne _ _ hi,upd_ne _ _ hi,rfl,rfl,upd_ne _ _ hi,rfl,rfl,upd_ne _ _ hi,upd_ne _ _ hi,upd_ne _ _ hi,rfl⟩
 |off=>exact⟨upd_ne _ _ hi,rfl,upd_ne _ _ hi,rfl,upd_ne _ _ hi,rfl,rfl,upd_ne _ _ hi,upd_ne _ _ hi,upd_ne _ _ hi,rfl⟩
theorem dV.whole(k:dV E nb bJ h p Y X j b l r c6 Y' X'):aca Y X Y' X':=by cases k<;>exact⟨rfl,rfl,rfl,rfl,rfl,rfl,rfl,rfl,rfl,rfl,rfl⟩
theorem dV.n(k:dV E nb bJ h p Y X j b l r c6 Y' X'):Y'.n=Y.n:=by cases k<;>rfl
theorem dV.th(k:dV E nb bJ h p Y X j b l r c6 Y' X'):Y'.th=Y.th:=by cases k<;>rfl
theorem dV.f0(k:dV E nb bJ h p Y X j b l r c6 Y' X'):X'.s.f0=X.s.f0:=by cases k<;>rfl
theorem dV.db(k:dV E nb bJ h p Y X j b l r c6 Y' X'):Y'.db=Y.db++yr j l:=by cases k<;>rfl
theorem dV.ended(k:dV E nb bJ h p Y X j b l r c6 Y' X'):X'.s.ended=X.s.ended+(match r with|.inl _=>0|.inr _=>1):=by
 cases k with
 |Lo h1 h2 h3=>exact(Int.add_zero _).symm
 |off=>rfl
theorem dV.FF(k:dV E nb bJ h p Y X j b l r c6 Y' X'){i:Nat}(h1:i≠h)(h2:i≠p):c6 i=bJ i:=by cases k<;>exact Tok.jq _ _ h2 h1
theorem dV.atp(k:dV E nb bJ h p Y X j b l r c6 Y' X'):c6 p=none:=by cases k<;>exact Tok.Bm _ _ _ _
def rsz:(Sp×Ct)⊕Bool->Nat
 |.inl y=>y.2.sz
 |.inr _=>0
theorem JF.sz{c:Ct}{l:List (Int×Int)}{r:(Sp×Ct)⊕Bool}(w:JF c l r):l.length+rsz r≤c.sz:=by
 induction w with
 |Ey h _ ih=>have:=Ct.Ld h;omega
 |mark h _ _ ih=>have:=Ct.Ce h;simp only[bd];omega
 |not h _ _ ih=>have:=Ct.Ce h;omega
 |Lo h _ _=>have:=Ct.Ce h;simp only[List.length_nil,rsz];omega
 |off=>simp[rsz]
theorem gQ.eL{k:Option Nat}(g:gQ E nb bI bJ h N Y X k c6 Y' X'){i:Nat}(hi:i≠Y.n):jK i Y X Y' X':=by
 obtain⟨t,fv,TA,cT,FA,cF,p,_,g⟩:=g;cases k with
 |none=>obtain⟨_,_,rfl,rfl⟩:=g;exact⟨(upd_ne _ _ hi).trans (upd_ne _ _ hi),rfl,(upd_ne _ _ hi).trans (upd_ne _ _ hi),upd_ne _ _ hi,rfl,rfl,rfl,rfl,rfl,rfl,rfl⟩
 |some bi=>obtain⟨body,B5,TH,kt,l,r,_,_,_,hp⟩:=g;exact jK.trans (Y':=Y.begun t fv TA cT FA cF) (X':={X with s:=X.s.yj t.T TH kt}) ⟨upd_ne _ _ hi,rfl,upd_ne _ _ hi,upd_ne _ _ hi,rfl,rfl,rfl,rfl,rfl,rfl,rfl⟩ (hp.eL hi)
theorem gQ.whole{k:Option Nat}(g:gQ E nb bI bJ h N Y X k c6 Y' X'):aca Y X Y' X':=by
 obtain⟨t,fv,TA,cT,FA,cF,p,_,g⟩:=g;cases k with
 |none=>obtain⟨_,_,rfl,rfl⟩:=g;exact⟨rfl,rfl,rfl,rfl,rfl,rfl,rfl,rfl,rfl,rfl,rfl⟩
 |some bi=>obtain⟨body,B5,TH,kt,l,r,_,_,_,hp⟩:=g;have:=hp.whole;exact⟨this.dJ,this.R,this.MB,this.mp,this.cp,this.ready,this.S,this.q,this.cells,this.tl,this.holds⟩
theorem gQ.n{k:Option Nat}(g:gQ E nb bI bJ h N Y X k c6 Y' X'):Y'.n=Y.n+1:=by
 obtain⟨t,fv,TA,cT,FA,cF,p,_,g⟩:=g;cases k with
 |none=>obtain⟨_,_,rfl,rfl⟩:=g;rfl
 |some bi=>obtain⟨body,B5,TH,kt,l,r,_,_,_,hp⟩:=g;exact hp.n
theorem gQ.ended{k:Option Nat}(g:gQ E nb bI bJ h N Y X k c6 Y' X'):∃d:Nat,d≤1∧X'.s.ended=X.s.ended+d:=by
 obtain⟨t,fv,TA,cT,FA,cF,p,_,g⟩:=g;cases k with
 |none=>obtain⟨_,_,rfl,rfl⟩:=g;exact⟨0,by omega,(Int.add_zero _).symm⟩
 |some bi=>
  obtain⟨body,B5,TH,kt,l,r,_,_,_,hp⟩:=g;have e:=hp.ended;cases r with
  |inl y=>exact⟨0,by omega,e⟩
  |inr y=>exact⟨1,by omega,e⟩
theorem gQ.f0{k:Option Nat}(g:gQ E nb bI bJ h N Y X k c6 Y' X'):X'.s.f0.length≤X.s.f0.length+1:=by
 obtain⟨t,fv,TA,cT,FA,cF,p,_,g⟩:=g;cases k with
 |none=>obtain⟨_,_,rfl,rfl⟩:=g;omega
 |some bi=>obtain⟨body,B5,TH,kt,l,r,_,_,_,hp⟩:=g;rw[hp.f0];show(X.s.f0++[cb t.T]).length≤_;simp
theorem gQ.FF{k:Option Nat}(g:gQ E nb bI bJ h N Y X k c6 Y' X'){i:Nat}(h1:i≠h)(h2:i≠N):c6 i=bJ i:=by
 obtain⟨t,fv,TA,cT,FA,cF,p,_,g⟩:=g;cases k with
 |none=>obtain⟨_,rfl,_,_⟩:=g;rw[Tok.jq _ _ h1 h2,upd_ne _ _ h1]
 |some bi=>obtain⟨body,B5,TH,kt,l,r,_,_,_,hp⟩:=g;rw[hp.FF h2 h1,upd_ne _ _ h1]
theorem gQ.db{k:Option Nat}{PB fI:Nat}(B:JH E PB nb fI bI)(g:gQ E nb bI bJ h N Y X k c6 Y' X'):∃l,Y'.db=Y.db++yr Y.n l∧l.length≤6002:=by
 obtain⟨t,fv,TA,cT,FA,cF,p,_,g⟩:=g;cases k with
 |none=>obtain⟨_,_,rfl,rfl⟩:=g;exact⟨[],(aX _).symm,by simp⟩
 |some bi=>obtain⟨body,B5,TH,kt,l,r,hb,_,hw,hp⟩:=g;refine⟨l,hp.db,?_⟩;have h1:=hw.sz;have h2:=B.size body (bf hb);simp only[Ct.sz,zu,List.length_nil]at h1;omega
end
def kM(S:Nat):List Nat->Nat->List (Value×Value)
 |[],_=>[]
 |c::l,k=>(cv S (4+c),iV k)::kM S l (k+1)
theorem UE{S a b:Nat}(h:cv S a=cv S b):a=b:=by simp only[cv,Value.pointer.injEq,Option.some.injEq,Addr.mk.injEq,true_and,and_true]at h;exact h
theorem xj(S:Nat):∀(l:List Nat) (k:Nat),(kM S l k).length=l.length
 |[],_=>rfl
 |_::l,k=>by simp[kM,xj S l]
theorem xk(S:Nat):∀(l l':List Nat) (k:Nat),kM S (l++l') k=kM S l k++kM S l' (k+l.length)
 |[],l',k=>by simp[kM]
 |c::l,l',k=>by simp only[az,kM,xk S l l' (k+1),bd];rw[show k+1+l.length=k+(l.length+1) by omega]
theorem xl{S:Nat}:∀{l:List Nat} {k:Nat} {q:Value×Value},q∈kM S l k->∃c∈l,q.1=cv S (4+c)
 |[],_,q,h=>by cases h
 |c::l,k,q,h=>by
  simp only[kM,ac]at h;rcases h with rfl|h
  ·exact⟨c,an ..,rfl⟩
  ·obtain⟨c',hc,e⟩:=xl h;exact⟨c',am _ hc,e⟩
theorem tL{c:Nat}:∀{cl:List Nat},c∈cl->∃l1 l2,cl=l1++c::l2∧c∉l1
 |[],h=>by cases h
 |a::t,h=>by
  by_cases ha:a=c
  ·exact⟨[],t,by rw[ha];rfl,by simp⟩
  ·have ht:c∈t:=by
    rcases ac.1 h with h|h
    ·exact absurd h.symm ha
    ·exact h
   obtain⟨m1,m2,e,hm1⟩:=tL ht;refine⟨a::m1,m2,by rw[e];rfl,fun h=>?_⟩;rcases ac.1 h with h|h
   ·exact ha h.symm
   ·exact hm1 h
theorem Lr{Y:GS}{S:Nat}{cl:List Nat}(hm:Y.mp=kM S cl 0)(c:Nat):(∃n:Nat,cl[n]?=some c∧uU Y true (cv S (4+c)) (n:Int))∨(c∉cl∧uU Y false (cv S (4+c)) (cl.length:Nat)):=by
 by_cases hc:c∈cl
 ·obtain⟨l1,l2,e,hn⟩:=tL hc;refine .inl ⟨l1.length,?_,kM S l1 0,kM S l2 (l1.length+1),?_,fun q hq ek=>?_⟩
  ·rw[e,aE (aq _)];simp
  ·rw[hm,e,xk];simp[kM]
  ·obtain⟨c',GW,e'⟩:=xl hq;rw[ek]at e';have:=UE e';have:c'=c:=by omega
   exact hn (this▸GW)
 ·refine .inr ⟨hc,?_,fun q hq ek=>?_⟩
  ·rw[hm,xj]
  ·rw[hm]at hq;obtain⟨c',GW,e'⟩:=xl hq;rw[ek]at e';have:=UE e';have:c'=c:=by omega
   exact hc (this▸GW)
theorem acb{Y:GS}{S:Nat}{cl:List Nat}(hm:Y.mp=kM S cl 0)(c:Nat):wZ Y false (cv S (4+c))=kM S (cl++[c]) 0:=by unfold wZ;rw[xk,hm];simp[kM,xj]
theorem ND{Y:GS}{S:Nat}{cl:List Nat}(hm:Y.mp=kM S cl 0):∀q∈Y.mp,∃off,q.1=cv S off:=fun q hq=>by rw[hm]at hq;obtain⟨c,_,e⟩:=xl hq;exact⟨_,e⟩
theorem alo{op:Int}(h1:1≤op)(h6:op≤6)(lY arg:Int):∃o:pg,(o.i4:Int)=op∧o.jg lY arg:=by
 by_cases e1:op=1
 ·exact⟨.load,by rw[e1];rfl,trivial⟩
 by_cases e2:op=2
 ·exact⟨.store,by rw[e2];rfl,trivial⟩
 by_cases e3:op=3
 ·by_cases hc:lY=arg
  ·exact⟨.GR,by rw[e3];rfl,hc⟩
  ·exact⟨.wY,by rw[e3];rfl,hc⟩
 by_cases e4:op=4
 ·exact⟨.add,by rw[e4];rfl,trivial⟩
 by_cases e5:op=5
 ·exact⟨.swap,by rw[e5];rfl,trivial⟩
 ·exact⟨.KO,by show(6:Int)=op;omega,trivial⟩
theorem UF{P:Program}{base:Nat}{w:World}{L L':cg}(H:bK P base w L)(σ:cD->cD)(h1:∀r y,L' r=some y->L (σ r)=some y)(h2:∀r r' y y',L' r=some y->L' r'=some y'->σ r=σ r'->r=r'):bK P base w L':=
 ⟨fun r b k e=>H.eG _ b k (h1 _ _ e),fun r r' b k k' e e'=>h2 r r' _ _ e e' (H.inj _ _ b k k' (h1 _ _ e) (h1 _ _ e')),fun r b k e=>H.ge _ b k (h1 _ _ e)⟩
def XS.hand(X:XS)(n j:Nat):XS:={X with b5:=upd X.b5 n (X.nV j),b6:=upd X.b6 n (X.nW j),nV:=upd X.nV j none,nW:=upd X.nW j none}
theorem UG{E:Wd}{Y:GS}{X:XS}{n j:Nat}{w:World}(H:bK aa E.base w (E.de Y X)):bK aa E.base w (E.de Y (X.hand n j)):=by
 let σ:cD->cD:=fun r=>if r=(E.a,.app 5 n)then(E.a,.app 10 j)else if r=(E.a,.app 6 n)then(E.a,.app 11 j)else r
 have key:∀r y,E.de Y (X.hand n j) r=some y->E.de Y X (σ r)=some y∧r≠(E.a,.app 10 j)∧r≠(E.a,.app 11 j):=by
  rintro⟨z,k⟩ y e;by_cases hk:fm k=false
  ·have GZ:σ (z,k)=(z,k):=by
    show(if _ then _ else if _ then _ else _)=_;rw[if_neg (fun h=>by cases h;cases hk),if_neg (fun h=>by cases h;cases hk)]
   rw[GZ];refine⟨?_,(fun h=>by cases h;cases hk),(fun h=>by cases h;cases hk)⟩;by_cases hz:z=E.x
   ·subst hz;unfold Wd.de at e⊢;rw[bY hk]at e⊢;exact e
   ·unfold Wd.de at e⊢;rw[lu hz,kJ hk]at e⊢;exact e
  ·have vg:fm k=true:=by
    cases e:fm k
    ·exact absurd e hk
    ·rfl
   unfold Wd.de at e;rw[ct vg]at e;cases k<;>first|(cases vg;done)|skip
   rename_i i i';have hL:∀r:cD,fm r.2=true->E.de Y X r=dM E.a X E.LB r:=fun r hr=>by unfold Wd.de;exact ct hr
   by_cases hz:z=E.a
   ·subst hz;by_cases h5:i=5
    ·subst h5;by_cases hi:i'=n
     ·subst hi;have GZ:σ (E.a,.app 5 i')=(E.a,.app 10 j):=if_pos rfl;rw[GZ,hL _ rfl];refine⟨?_,by simp,by simp⟩;simp only[dM,eQ,iK,XS.hand,if_true,upd_same]at e⊢;exact e
     ·have GZ:σ (E.a,.app 5 i')=(E.a,.app 5 i'):=by
       show(if _ then _ else if _ then _ else _)=_;rw[if_neg (fun h=>by cases h;exact hi rfl),if_neg (fun h=>by cases h)]
      rw[GZ,hL _ rfl];refine⟨?_,by simp,by simp⟩;simp only[dM,eQ,iK,XS.hand,if_true,upd_ne _ _ hi]at e⊢;exact e
    by_cases h6:i=6
    ·subst h6;by_cases hi:i'=n
     ·subst hi;have GZ:σ (E.a,.app 6 i')=(E.a,.app 11 j):=by
       show(if _ then _ else if _ then _ else _)=_;rw[if_neg (fun h=>by cases h),if_pos rfl]
      rw[GZ,hL _ rfl];refine⟨?_,by simp,by simp⟩;simp only[dM,eQ,iK,XS.hand,if_true,upd_same]at e⊢;exact e
     ·have GZ:σ (E.a,.app 6 i')=(E.a,.app 6 i'):=by
       show(if _ then _ else if _ then _ else _)=_;rw[if_neg (fun h=>by cases h),if_neg (fun h=>by cases h;exact hi rfl)]
      rw[GZ,hL _ rfl];refine⟨?_,by simp,by simp⟩;simp only[dM,eQ,iK,XS.hand,if_true,upd_ne _ _ hi]at e⊢;exact e
    have GZ:σ (E.a,.app i i')=(E.a,.app i i'):=by show(if _ then _ else if _ then _ else _)=_;rw[if_neg (fun h=>by cases h;exact h5 rfl),if_neg (fun h=>by cases h;exact h6 rfl)]
    rw[GZ,hL _ rfl];by_cases zY:i=10
    ·subst zY;by_cases hi:i'=j
     ·subst hi;simp only[dM,eQ,iK,XS.hand,if_true,upd_same]at e;cases e
     ·refine⟨?_,(fun h=>by cases h;exact hi rfl),by simp⟩;simp only[dM,eQ,iK,XS.hand,if_true,upd_ne _ _ hi]at e⊢;exact e
    by_cases Dj:i=11
    ·subst Dj;by_cases hi:i'=j
     ·subst hi;simp only[dM,eQ,iK,XS.hand,if_true,upd_same]at e;cases e
     ·refine⟨?_,by simp,(fun h=>by cases h;exact hi rfl)⟩;simp only[dM,eQ,iK,XS.hand,if_true,upd_ne _ _ hi]at e⊢;exact e
    refine⟨?_,(fun h=>by cases h;exact zY rfl),(fun h=>by cases h;exact Dj rfl)⟩;simp only[dM,eQ,iK,XS.hand,if_true]at e⊢;split at e
    ·exact e
    ·exact e
    ·exact e
    ·exact e
    ·split at e
     ·rename_i h;cases h;exact absurd rfl h5
     ·rename_i h;cases h;exact absurd rfl h6
     ·exact e
     ·rename_i h;cases h;exact absurd rfl zY
     ·rename_i h;cases h;exact absurd rfl Dj
     ·exact e
   ·have GZ:σ (z,.app i i')=(z,.app i i'):=by
     show(if _ then _ else if _ then _ else _)=_;rw[if_neg (fun h=>by cases h;exact hz rfl),if_neg (fun h=>by cases h;exact hz rfl)]
    rw[GZ,hL _ rfl];refine⟨?_,(fun h=>by cases h;exact hz rfl),(fun h=>by cases h;exact hz rfl)⟩;simp only[dM,eQ,iK,hz,if_false]at e⊢;exact e
 refine UF H σ (fun r y e=>(key r y e).1) fun r r' y y' e e' hr=>?_;obtain⟨_,n1,n2⟩:=key r y e;obtain⟨_,n1',n2'⟩:=key r' y' e';have GZ:∀r:cD,σ r=if r=(E.a,.app 5 n)then(E.a,.app 10 j)else if r=(E.a,.app 6 n)then(E.a,.app 11 j)else r:=fun r=>rfl
 rw[GZ,GZ]at hr;split at hr
 ·rename_i h;split at hr
  ·rename_i h';rw[h,h']
  ·split at hr
   ·cases hr
   ·exact absurd hr.symm n1'
 ·split at hr
  ·rename_i h;split at hr
   ·cases hr
   ·split at hr
    ·rename_i h';rw[h,h']
    ·exact absurd hr.symm n2'
  ·split at hr
   ·exact absurd hr n1
   ·split at hr
    ·exact absurd hr n2
    ·exact hr
def kOf(arg:Int)(nb:Nat):Option Nat:=if 0≤arg∧arg<nb then some arg.toNat else none
inductive P5(E:Wd)(nb:Nat)(bI:List (List Sp))(bJ:Nat->Option Tok.Seat)(h N:Nat)(Y:GS)(X:XS)(j:Nat)(x:Sp):(Nat->Option Tok.Seat)->Nat->GS->XS->Prop
 |gG {o:pg} {gP:Bool} {i4:Int} {LA cL TO jI:Nat}:x.c<6->(o.i4:Int)=x.op->o.jg (X.s.cells x.c) (jH x.op x.arg)->uU Y gP (cv X.s.S (4+x.c)) i4->P5 E nb bI bJ h N Y X j x bJ N (Y.M9 j (nD j o i4 (jH x.op x.arg) (mW x.op x.nw) (X.s.cells x.c)) (wZ Y gP (cv X.s.S (4+x.c))) LA cL) {X with s:=(X.s.setCell x.c (o.eu (X.s.cells x.c) (jH x.op x.arg) (mW x.op x.nw))).dE (Dn j (X.s.cells x.c) (o.eu (X.s.cells x.c) (jH x.op x.arg) (mW x.op x.nw)) o.ok) TO jI}
 |jn {AB LA cL TO jI:Nat}:x.op=7->Y.n=64->P5 E nb bI bJ h N Y X j x bJ N (Y.jt j (-1) AB LA cL) {X with s:=X.s.dE (vI j (-1)) TO jI}
 |go {AB LA cL TO jI:Nat} {fS:Nat->Option Tok.Seat} {Y1:GS} {X1:XS}:x.op=7->Y.n<64->gQ E nb bI bJ h N (Y.jt j Y.n AB LA cL) (X.hand Y.n j) (kOf x.arg nb) fS Y1 X1->P5 E nb bI bJ h N Y X j x fS (N+1) Y1 {X1 with s:=X1.s.dE (vI j Y.n) TO jI}
section
variable {E:Wd}{PB nb fI:Nat}{bI:List (List Sp)}{bJ:Nat->Option Tok.Seat}{h N:Nat}{Y:GS}{X:XS}{cs:List Frame}{fr:Frame}{m:Machine}{T:Trace}{j b:Nat}{x:Sp}{c:Ct}{cl:List Nat}
theorem alq(B:JH E PB nb fI bI)(o:On E bJ h N Y X (G fr cs) m T)(hs:gb E Y bJ)(hf:ye (Y.th j).T fr)(Dq:mZ E nb Y X j b x c cs)(K:zx E PB nb fI Y X j b c)(di:Y.dJ=false)(Q3:X.s.tl.length=8*(X.s.tl.length / 8))(htr:X.s.tl.length / 8+1≤1048576)(xi:X.s.f0.length+1≤1048576)(jC:Y.db.length / 8+7000+c.sz≤1000000)(vL:∃e:Nat,X.s.ended=e∧e+2≤1000000)(Zm:Y.mp=kM X.s.S cl 0)(hn:Y.n≤64):
  cm aa m T fun m' T'=>∃fS N1 Y1 X1 bT io,On E fS h N1 Y1 X1 (G bT io) m' T'∧WE E.LB E.a X1.s.S (Y1.th j) b c bT io∧P5 E nb bI bJ h N Y X j x fS N1 Y1 X1∧gb E Y1 fS∧zx E PB nb fI Y1 X1 j b c∧N≤N1:=by
 obtain⟨w,A,H,hS⟩:=o;obtain⟨en,he,Q4⟩:=vL;rcases Dq with⟨h1,h6,Zk,vK,kd,f11,f80,io,AB,BX,l,rfl,Dj,tH,hl,w9,Pz,hO⟩|⟨h7,vK,k,kd,f46,f80,io,AB,B1,B2,rfl,hk,Lh,tH,w9,alk,alm,hO⟩
 ·
  obtain⟨oc,Pm,ur⟩:=alo h1 h6 (X.s.cells x.c) (jH x.op x.arg);have qI:∃gP i4,uU Y gP (cv X.s.S (4+x.c)) i4:=by
   rcases Lr Zm x.c with⟨n,_,h⟩|⟨_,h⟩
   ·exact⟨_,_,h⟩
   ·exact⟨_,_,h⟩
  obtain⟨gP,i4,qI⟩:=qI;refine(Yu (arg:=jH x.op x.arg) (nw:=mW x.op x.nw) (B4:=x.arg) (TI:=x.nw) oc A H hS K.lt di K.e K.len K.q Zk Q3 htr hf (by rw[Pm];exact Dj) (by rw[Pm];exact tH) hl (by rw[Pm];exact Pz) ur (by rw[Pm];exact w9) (ND Zm) qI K.db (by omega)).trans fun m1 T1 hd=>?_;obtain⟨w1,c9,LA,cL,TO,jI,A1,H1,h1e⟩:=hd;refine(YK A1 H1 h1e).trans fun m2 T2 hd=>?_;obtain⟨w2,iE,A2,H2,h2⟩:=hd;let Y1:GS:=Y.M9 j (nD j oc i4 (jH x.op x.arg) (mW x.op x.nw) (X.s.cells x.c)) (wZ Y gP (cv X.s.S (4+x.c))) LA cL;let X1:XS:={X with s:=(X.s.setCell x.c (oc.eu (X.s.cells x.c) (jH x.op x.arg) (mW x.op x.nw))).dE (Dn j (X.s.cells x.c) (oc.eu (X.s.cells x.c) (jH x.op x.arg) (mW x.op x.nw)) oc.ok) TO jI};have PX:bK aa E.base w2 (E.de Y1 X1):=H2;have ck:gD (E.de Y X) (E.de Y1 X1):=d4 (aq _) fun _ _=>rfl;refine(rM (Y:=Y1) (X:=X1) (j:=j) (On.of A2 PX (ck.still hS)) h2 hO).mono fun m3 T3 hd=>?_;obtain⟨kH,Zj,o3,Gk⟩:=hd;have dI:Y1.db.length=Y.db.length+8:=by show(Y.db++nD j oc i4 _ _ _).length=_;rw[aD];rfl
  have pi:=K.db;exact⟨bJ,N,Y1,X1,kH,Zj,o3,Gk,.gG Zk Pm ur qI,gb.lr hs (aq _) fun _ _=>rfl,⟨K.lt,K.e,K.len,K.q,K.q0,K.b5,K.dz,K.ended,K.ok,by rw[dI];omega,by rw[dI];omega,K.ba⟩,aq _⟩
 ·by_cases P6:Y.n=64
  ·
   refine(Y8 A H hS K.lt di hf Lh tH w9 K.db (by omega) P6).trans fun m1 T1 hd=>?_;obtain⟨w1,c9,LA,cL,A1,H1,h1⟩:=hd;have ck1:gD (E.de Y X) (E.de (Y.jt j (-1) AB LA cL) X):=d4 (aq _) fun _ _=>rfl;refine(Ns (Y:=Y.jt j (-1) AB LA cL) A1 H1 (ck1.still hS) K.lt K.e K.len K.q Q3 htr h1).trans fun m2 T2 hd=>?_;obtain⟨w2,iE,TO,jI,A2,H2,h2⟩:=hd;let Y1:GS:=Y.jt j (-1) AB LA cL;let X1:XS:={X with s:=X.s.dE (vI j (-1)) TO jI};have PX:bK aa E.base w2 (E.de Y1 X1):=H2;have ck:gD (E.de Y X) (E.de Y1 X1):=d4 (aq _) fun _ _=>rfl;refine(rM (Y:=Y1) (X:=X1) (j:=j) (On.of A2 PX (ck.still hS)) h2 hO).mono fun m3 T3 hd=>?_;obtain⟨kH,Zj,o3,Gk⟩:=hd;have dI:Y1.db.length=Y.db.length+8:=by show(Y.db++GY j (-1)).length=_;rw[aD];rfl
   have pi:=K.db;exact⟨bJ,N,Y1,X1,kH,Zj,o3,Gk,.jn h7 P6,gb.lr hs (aq _) fun _ _=>rfl,⟨K.lt,K.e,K.len,K.q,K.q0,K.b5,K.dz,K.ended,K.ok,by rw[dI];omega,by rw[dI];omega,K.ba⟩,aq _⟩
  ·
   have pi:=K.db;refine(aeV A H hS K.lt di hf Lh tH w9 K.db (by omega) P6).trans fun m1 T1 hd=>?_;obtain⟨w1,c9,g46,g80,LA,cL,A1,H1,h1,aq_,aq'⟩:=hd;let Y1:GS:=Y.jt j Y.n AB LA cL;let X1:XS:=X.hand Y.n j;have H1':bK aa E.base w1 (E.de Y1 X1):=UG H1;have ck1:gD (E.de Y X) (E.de Y1 X1):=d4 (aq _) fun _ _=>rfl;have dI:Y1.db.length=Y.db.length+8:=by show(Y.db++GY j Y.n).length=_;rw[aD];rfl
   let c':Nat->Nat:=fun i=>if i=11 then B1 else B2
   have hfv:aln X1 Y1.n c' (Ul k B1 B2) (kOf x.arg nb):=by
    unfold kOf;cases k with
    |is=>
     have vg:0≤x.arg∧x.arg<nb:=hk;rw[if_pos vg];refine⟨rfl,?_,?_⟩
     ·show upd X.b5 Y.n (X.nV j) Y.n=_;rw[upd_same,alk];rfl
     ·show upd X.b6 Y.n (X.nW j) Y.n=_;rw[upd_same,alm];show some (B2,x.arg)=some (B2,((x.arg.toNat:Nat):Int));rw[Int.toNat_of_nonneg vg.1]
    |low=>have vg:x.arg<0:=hk;rw[if_neg (by omega)];rfl
    |high=>have vg:(nb:Int)≤x.arg∧0≤x.arg:=hk;rw[if_neg (by omega)];rfl
   refine(Ch (c:=c') B (On.of A1 H1' (ck1.still hS)) (gb.lr hs (aq _) fun _ _=>rfl) h1 hfv (fun i e=>?_) (by show Y.n+1≤_;omega) di K.q K.q0 ⟨en,he,by omega⟩ xi (by rw[dI];omega) (by rw[dI];omega)).trans fun m2 T2 hd=>?_
   ·unfold kOf at e;split at e
    ·rename_i h';cases e;omega
    ·cases e
   obtain⟨UH,Y2,X2,iE,o2,h2,UI,q_⟩:=hd;obtain⟨w2,A2,H2,Q2⟩:=o2;have y0:j≠Y1.n:=by show j≠Y.n;have:=K.lt;omega
   have sm:=UI.eL y0;have wh:=UI.whole;have OI:Y2.n=Y.n+1:=UI.n;have eA:E.de Y2 X2 (E.x,.gG j)=some (AB,.obj dQ (GY j Y.n)):=by unfold Wd.de;rw[bY rfl];show(Y2.gG j).map _=_;rw[sm.gG];show(upd Y.gG j _ j).map _=_;rw[upd_same];rfl
   refine(aeX A2 H2 Q2 h2 aq_ aq' eA rfl).trans fun m3 T3 hd=>?_;obtain⟨w3,kH,A3,H3,h3⟩:=hd;have hSS:X2.s.S=X.s.S:=wh.S;have hTj:(Y2.th j).T=(Y.th j).T:=by rw[sm.th];rfl
   have alr:X2.s.tl=X.s.tl:=wh.tl;have hq2:X2.s.q=X.s.q:=wh.q;rw[<-hSS,<-hTj]at h3;refine(Ns (Y:=Y2) (j:=j) A3 H3 Q2 (by rw[OI];have:=K.lt;omega) (by rw[sm.ts];exact K.e) (by rw[sm.ts];exact K.len) (by rw[hq2];exact K.q) (by rw[alr];exact Q3) (by rw[alr];exact htr) h3).trans fun m4 T4 hd=>?_;obtain⟨w4,zV,TO,jI,A4,H4,h4⟩:=hd;let X3:XS:={X2 with s:=X2.s.dE (vI j Y.n) TO jI};have H4':bK aa E.base w4 (E.de Y2 X3):=H4;have ck3:gD (E.de Y2 X2) (E.de Y2 X3):=d4 (aq _) fun _ _=>rfl;have hO':uy E.LB E.a X3.s.S (Y2.th j) b (X.b8 j) c kd io:=by show uy E.LB E.a X2.s.S (Y2.th j) b (X.b8 j) c kd io;rw[hSS,sm.th];exact hO
   refine(rM (Y:=Y2) (X:=X3) (j:=j) (On.of A4 H4' (ck3.still Q2)) h4 hO').mono fun m5 T5 hd=>?_;obtain⟨Uo,cs5,o5,hC5⟩:=hd;obtain⟨l,hl,hll⟩:=UI.db B;have acd:Y2.db.length=Y.db.length+8+8*l.length:=by rw[hl,aD,dI,Nz]
   obtain⟨d,xy,Kf⟩:=UI.ended;have arb:=K.room;refine⟨UH,N+1,Y2,X3,Uo,cs5,o5,hC5,.go h7 (by omega) UI,q_,⟨by rw[OI];have:=K.lt;omega,by rw[sm.ts];exact K.e,by rw[sm.ts];exact K.len,by show X2.s.q.length=4;rw[hq2];exact K.q,by show X2.s.q[0]?=_;rw[hq2];exact K.q0,?_,by rw[sm.dz];exact K.dz,⟨en+d,?_,by omega⟩,K.ok,by rw[acd];omega,by rw[acd];omega,K.ba⟩,by omega⟩
   ·show X2.b5 j=_;rw[sm.b5];show upd X.b5 Y.n _ j=_;rw[upd_ne _ _ (show j≠Y.n from y0)];exact K.b5
   ·show X2.s.ended=_;rw[Kf];show X.s.ended+_=_;rw[he];omega
theorem Zn{p z zC:Nat}{t:Tok.Seat}{BJ:Frame->Prop}{tC:List Frame}(B:JH E PB nb fI bI)(o:On E bJ h N Y X (G fr cs) m T)(hs:gb E Y bJ)(hf:ye (Y.th j).T fr)(Dq:mZ E nb Y X j b x c cs)(K:zx E PB nb fI Y X j b c)(di:Y.dJ=false)(Q3:X.s.tl.length=8*(X.s.tl.length / 8))(htr:X.s.tl.length / 8+1≤1048576)(xi:X.s.f0.length+1≤1048576)(jC:Y.db.length / 8+7000+c.sz≤1000000)(vL:∃e:Nat,X.s.ended=e∧e+2≤1000000)(Zm:Y.mp=kM X.s.S cl 0)(hn:Y.n≤64)
 (hgn:(Y.th j).gn=h)(kY:0<h)(hph:p≠h)(hp:bJ p=some t)(W:j4 t (Y.th j).sd z zC BJ tC):
  cm aa m T fun m' T'=>∃fS N1 Y1 X1 l r c6 Y' X' iJ,P5 E nb bI bJ h N Y X j x fS N1 Y1 X1∧JF c l r∧dV E nb fS h p Y1 X1 j b l r c6 Y' X'∧On E c6 p N1 Y' X' (G iJ tC) m' T'∧BJ iJ∧gb E Y' c6:=by
 have ri:=Dq.UD;have hNp:p≠N:=by obtain⟨w,A,_⟩:=o;have:=A.lt hp;omega
 refine(alq B o hs hf Dq K di Q3 htr xi jC vL Zm hn).trans fun m1 T1 hd=>?_;obtain⟨fS,N1,Y1,X1,c9,PW,o1,Zi,xy,KG,K1,hN1⟩:=hd;have hth:Y1.th j=Y.th j∧Y1.dJ=false∧fS p=bJ p:=by
  cases xy with
  |gG _ _ _ _=>exact⟨rfl,di,rfl⟩
  |jn _ _=>exact⟨rfl,di,rfl⟩
  |go _ _ g=>
   have y0:j≠Y.n:=by have:=K.lt;omega
   exact⟨(g.eL y0).th,g.whole.dJ.trans di,g.FF hph hNp⟩
 obtain⟨e1,e2,e3⟩:=hth;have j_:fS h=none:=by obtain⟨w,A,_⟩:=o1;exact A.wI
 have uq:∀i t,fS i=some t->t.c≠(Y1.th j).wk:=by obtain⟨w,A,H,_⟩:=o1;exact KG.wk H K1.lt (by rw[e1];exact hgn) j_
 refine(NA (PB:=PB) (nb:=nb) (fI:=fI) c.sz (aq _) ri o1 Zi K1 e2 kY (by rw[e3];exact hp) (by rw[e1];exact W) uq).mono fun m2 T2 hd=>?_;obtain⟨l,r,c6,Y',X',iJ,hw,P3,o2,hB⟩:=hd;refine⟨fS,N1,Y1,X1,l,r,c6,Y',X',iJ,xy,hw,P3,o2,hB,?_⟩;refine gb.lr (Y:=Y1) ?_ (by rw[P3.n];omega) fun i _=>by rw[P3.th]
 cases P3 with
 |Lo g1 g2 g3=>refine gb.e_ KG fun s' e=>?_;cases e;exact .inl ⟨j,K1.lt,by rw[e1];exact hgn.symm,g1.c⟩
 |off=>exact gb.e_ KG fun s' e=>by cases e
end
end Go.Proofs.Ythaddgfbohmfoaa
namespace Go.Proofs.Ythaddgfbohmfoaa
open Go.Proofs.Ythaddgfbohmfoaa.SX Go.Conc
noncomputable def Ci(f:FuncId):List Nat:=[]
noncomputable def IQ(l:List Nat)(f:FuncId):List Nat:=Bool.rec [] l (Nat.beq f 37)
noncomputable def nq(b l c:Nat):AV:=.slice (some ⟨.cN b,.lit 0⟩) (v l) (v c)
noncomputable def uB:Code:=pc (bQ Fn.M0) [1,0,1,0,0]
noncomputable def uR:Code:=pc (bQ Fn.M0) [1,1]
noncomputable def uL(i:IE):List (Nat×AV):=[(0,bF 10),(1,i64 (v 80)),(3,.ez 65),(15,nq 28 1 29),(16,i64 (.tn (v 1))),(17,i64 i)]
noncomputable def uW:List Nat:=[0,1,3,15,16,17]
noncomputable def uTd:List Item:=[.code uB,.inLoop uB,.inBlock 0,.code uR]
noncomputable def uHd(st:Nat->Value)(i:IE):bH:=⟨kc,80,bZ 80 st (uL i),uTd,[],.run,.normal⟩
noncomputable def afb(st:Nat->Value)(z:Bool):bH:=⟨kc,80,bZ 80 st [(0,bF 10),(1,i64 (v 80)),(2,Bool.rec (nq 28 1 29) eU z),(3,.ez 65)],[.code (bQ Fn.M0)],[],.run,.normal⟩
noncomputable def rdB:Code:=pc (bQ Fn.M0) [1,1,0,0]
noncomputable def IR:List Item:=[.inLoop rdB,.inBlock 2]
noncomputable def G0:List (Nat×AV):=[(0,bF 10),(1,i64 (v 80)),(3,.ez 65)]
noncomputable def afd(st:Nat->Value):bH:=⟨kc,80,bZ 80 st G0,.code rdB::IR,[],.run,.normal⟩
theorem uIn(st:Nat->Value):c7 (cO [] [] 14 [] (cJ (afb st false) [] [])) uW Ci=some (⟨kc,80,uTd,[],.run,.normal,[],[],(uL (.lit 0)).map (·.2)⟩,[]):=by kernel_rfl
theorem ard(st:Nat->Value):c7 (cO [] [] 23 [] (cJ (afb st true) [] [])) [0,1,3] Ci=some (⟨kc,80,.code rdB::IR,[],.run,.normal,[],[],G0.map (·.2)⟩,[]):=by kernel_rfl
theorem UJ(st:Nat->Value)(z:Bool):bR 100 (cJ (afb st z) [] [])=true:=by cases z<;>kernel_rfl
noncomputable def uBs:List (BE×Bool):=[(.cmp .lss (v 5) (.tn (v 1)),true),(.cmp .leq (.lit 0) (v 5),true)]
noncomputable def uM:List (AA×AV):=[(⟨.cN 28,.tn (v 5)⟩,.ez 59)]
noncomputable def uWT:List Item:=[.inRegion (fP (pc (bQ Fn.M0) [1,0,1,0,0,1,1,0,0,1])) [2],.inBlock 1,.code (pc (bQ Fn.M0) [1,0,1,0,0,1,1,1]),.inLoop uB,.inBlock 0,.code uR]
noncomputable def w39:List Nat:=List.range 39
theorem uGo(st:Nat->Value):c7 (cO uBs uM 19 [] (cJ (uHd st (v 5)) [] [])) w39 (IQ uW)=some (⟨j5,39,[.code (bQ Fn.begin)],[],.run,.normal,[],[],[bF 10,.ez 59]++(List.range 37).map fun _=>cx⟩,[⟨kc,80,uWT,[],.run,.normal,[],[],(uL (v 5)).map (·.2)⟩]):=by kernel_rfl
theorem UK(st:Nat->Value):bR 100 (cJ (uHd st (v 5)) [] [])=true:=by kernel_rfl
theorem arh:(OO uBs [] uM).low 100=true:=by kernel_rfl
noncomputable def uWa(st:Nat->Value):bH:=⟨kc,80,bZ 80 st (uL (v 5)),uWT,[],.run,.normal⟩
noncomputable def uAn(st:Nat->Value):bH:=⟨j5,39,bZ 39 st [(4,bF 14)],[.code .ret],[],.run,.normal⟩
theorem uBk(s1 s2:Nat->Value):c7 (cO [] [] 9 [] (cJ (uAn s1) [uWa s2] [])) uW Ci=some (⟨kc,80,uTd,[],.run,.normal,[],[],(uL (.op .add .i64 (v 5) (.lit 1))).map (·.2)⟩,[]):=by kernel_rfl
theorem afe(s1 s2:Nat->Value):bR 100 (cJ (uAn s1) [uWa s2] [])=true:=by kernel_rfl
noncomputable def als:List (BE×Bool):=[(.cmp .lss (v 5) (.tn (v 1)),false)]
theorem uEn(st:Nat->Value):c7 (cO als [] 9 [] (cJ (uHd st (v 5)) [] [])) [0,1,3] Ci=some (⟨kc,80,.code rdB::IR,[],.run,.normal,[],[],G0.map (·.2)⟩,[]):=by kernel_rfl
theorem arj:(OO als [] []).low 100=true:=by kernel_rfl
noncomputable def waT:List Item:=[.inRegion (fP (pc (bQ Fn.M0) [1,1,0,0,0,0])) [1,2,3,4,5,6],.code (pc (bQ Fn.M0) [1,1,0,0,0,1]),.inBlock 3]++IR
noncomputable def waF(st:Nat->Value):bH:=⟨kc,80,bZ 80 st G0,waT,[],.run,.normal⟩
noncomputable def aB:Code:=pc (bQ Fn.ajq) [1,1,0,1,0,0]
noncomputable def aTd:List Item:=[.code aB,.inLoop aB,.inBlock 0,.code (pc (bQ Fn.ajq) [1,1,1])]
noncomputable def aLs(z:Bool):AV:=match z with
 |true=>eU
 |false=>nq 32 7 33
noncomputable def aL(z ov:Bool)(i:IE):List (Nat×AV):=[(2,aLs z),(3,tr ov),(9,nq 20 1 22),(10,i64 (.tn (v 1))),(11,i64 i)]
noncomputable def aW:List Nat:=[2,3,9,10,11]
noncomputable def UL(z ov:Bool)(st:Nat->Value):bH:=⟨M1,31,bZ 31 st (aL z ov (v 5)),aTd,[],.run,.normal⟩
noncomputable def aM0:List (AA×AV):=[(⟨.cN 10,.lit 0⟩,nq 20 1 22)]
theorem aIn(st:Nat->Value):c7 (cO [] aM0 26 [] (cJ (afd st) [] [])) aW (IQ [0,1,3])=some (⟨M1,31,aTd,[],.run,.normal,[],[],(aL true true (.lit 0)).map (·.2)⟩,[⟨kc,80,waT,[],.run,.normal,[],[],G0.map (·.2)⟩]):=by kernel_rfl
theorem UM(st:Nat->Value):bR 100 (cJ (afd st) [] [])=true:=by kernel_rfl
theorem alu:(OO [] [] aM0).low 100=true:=by kernel_rfl
inductive sr where
 |ended|ready|EG|Cj
 deriving DecidableEq
def sr.y3:sr->Bool
 |.ready=>true
 |.Cj=>true
 |_=>false
noncomputable def Gn:AV:=.ptr (some ⟨.cN 13,v 9⟩)
noncomputable def aM(k:sr):List (AA×AV):=[(⟨.cN 20,.tn (v 5)⟩,bF 14),(⟨.cN 14,.lit 13⟩,tr (match k with|.ended=>true|_=>false))]++match k with
 |.ended=>[]
 |.ready=>[(⟨.cN 14,.lit 6⟩,i8 (v 3))]
 |_=>[(⟨.cN 14,.lit 6⟩,i8 (v 3)),(⟨.cN 14,.lit 4⟩,Gn),(⟨.cN 14,.lit 8⟩,i64 (v 4)),(⟨.cN 13,v 9⟩,i64 (v 8))]
noncomputable def aBs(z:Bool)(k:sr):List (BE×Bool):=[(.cmp .lss (v 5) (.tn (v 1)),true),(.cmp .leq (.lit 0) (v 5),true)]++(match k with
 |.ended=>[]
 |.ready=>[(.cmp .neq (v 3) (.lit 6),true)]
 |.EG=>[(.cmp .neq (v 3) (.lit 6),false),(.cmp .neq (v 8) (v 4),false)]
 |.Cj=>[(.cmp .neq (v 3) (.lit 6),false),(.cmp .neq (v 8) (v 4),true)])++match z,k.y3 with
 |false,true=>[(.cmp .leq (.plus (.tn (v 7)) (.lit 1)) (.lit 1048576),true)]
 |_,_=>[]
noncomputable def aHp(z:Bool)(k:sr):List (Nat×bM):=match z,k.y3 with
 |false,true=>[(32,.cH false 42 (v 7) [] [] [] g9 (v 33))]
 |_,_=>[]
noncomputable def alw(z:Bool)(k:sr):List (Nat×bM):=match k.y3,z with
 |true,true=>[(101,.row [bF 14] g9 (v 101)),(100,.cells [bF 14] g9)]
 |true,false=>[(101,.cH false 42 (v 7) [] [] [bF 14] g9 (v 101)),(100,.cells [bF 14] g9)]
 |false,_=>[]
noncomputable def UO(z:Bool)(k:sr):AV:=match k.y3,z with
 |true,true=>.slice (some ⟨.cN 101,.lit 0⟩) (.lit 1) (v 101)
 |true,false=>.slice (some ⟨.cN 101,.lit 0⟩) (.plus (.tn (v 7)) (.lit 1)) (v 101)
 |false,z=>aLs z
def aOv(ov:Bool)(k:sr):Bool:=match k with
 |.ended=>ov
 |_=>false
def aN(k:sr):Nat:=match k.y3 with
 |true=>53
 |false=>47
def aK(k:sr):List Nat:=match k.y3 with
 |true=>[101,100]
 |false=>[]
theorem aIt(z ov:Bool)(k:sr)(st:Nat->Value):c7 (cO (aBs z k) (aM k) (aN k) (aK k) (cJ (UL z ov st) [] (aHp z k))) aW Ci=some (⟨M1,31,aTd,[],.run,.normal,[],alw z k,[UO z k,tr (aOv ov k),nq 20 1 22,i64 (.tn (v 1)),i64 (.op .add .i64 (v 5) (.lit 1))]⟩,[]):=by cases z<;>cases ov<;>cases k<;>kernel_rfl
theorem aff(z ov:Bool)(k:sr)(st:Nat->Value):bR 100 (cJ (UL z ov st) [] (aHp z k))=true:=by cases z<;>cases ov<;>cases k<;>kernel_rfl
theorem arm(z:Bool)(k:sr):(OO (aBs z k) [] (aM k)).low 100=true:=by cases z<;>cases k<;>kernel_rfl
noncomputable def Zo:List Item:=[.code .ret,.inBlock 4,.code (pc (bQ Fn.M0) [1,1,0,0,0,1,1]),.inBlock 3,.inLoop rdB,.inBlock 2]
noncomputable def r0M:List (AA×AV):=[(⟨.cN 10,.lit 0⟩,eU)]
theorem r0(st:Nat->Value):c7 (cO [] r0M 61 [] (cJ (afd st) [] [])) [8,9] Ci=some (⟨kc,80,Zo,[],.run,.normal,[],[],[i8 (.lit 1),TB]⟩,[]):=by kernel_rfl
theorem r0O:(OO [] [] r0M).low 100=true:=by kernel_rfl
noncomputable def Gp:List (BE×Bool):=[(.cmp .lss (v 5) (.tn (v 1)),false)]
theorem rOv(s1 s2:Nat->Value):c7 (cO Gp [] 35 [] (cJ (UL true true s1) [waF s2] [])) [8,9] Ci=some (⟨kc,80,Zo,[],.run,.normal,[],[],[i8 (.lit 1),TB]⟩,[]):=by kernel_rfl
theorem rDe(s1 s2:Nat->Value):c7 (cO Gp [] 43 [] (cJ (UL true false s1) [waF s2] [])) [8,9] Ci=some (⟨kc,80,Zo,[],.run,.normal,[],[],[i8 (.lit 3),TB]⟩,[]):=by kernel_rfl
theorem Lt(z ov:Bool)(s1 s2:Nat->Value):bR 100 (cJ (UL z ov s1) [waF s2] [])=true:=by cases z<;>cases ov<;>kernel_rfl
noncomputable def arn(y:Bool):AV:=match y with
 |true=>eU
 |false=>nq 23 6 25
noncomputable def Gq(y:Bool):IE:=match y with
 |true=>.lit 0
 |false=>.tn (v 6)
noncomputable def Zp(y:Bool):List (AA×AV):=[(⟨.cN 10,.lit 3⟩,arn y)]
noncomputable def UP(y b:Bool):List (BE×Bool):=[(.cmp .lss (v 5) (.tn (v 1)),false),(.cmp .eql (.tn (v 7)) (.lit 0),false),(.cmp .eql (Gq y) (v 80),b)]
theorem rCu(y:Bool)(s1 s2:Nat->Value):c7 (cO (UP y true) (Zp y) 55 [] (cJ (UL false false s1) [waF s2] [])) [8,9] Ci=some (⟨kc,80,Zo,[],.run,.normal,[],[],[i8 (.lit 2),TB]⟩,[]):=by cases y<;>kernel_rfl
theorem alx(y b:Bool):(OO (UP y b) [] (Zp y)).low 100=true:=by cases y<;>cases b<;>kernel_rfl
theorem afg:(OO Gp [] []).low 100=true:=by kernel_rfl
noncomputable def Zq:AV:=.func (.func oO) [] [bF 30,bF 31]
noncomputable def afh(st:Nat->Value):bH:=⟨kc,80,bZ 80 st [(0,bF 10),(1,i64 (v 80)),(3,Zq)],waT,[],.run,.normal⟩
noncomputable def scT:List Item:=[.inRegion (fP (pc (bQ Fn.M0) [1,1,0,0,0,1,1,0])) [7,8],.code (pc (bQ Fn.M0) [1,1,0,0,0,1,1,1]),.inBlock 3]++IR
theorem aly(y:Bool)(s1 s2:Nat->Value):c7 (cO (UP y false) (Zp y) 62 [] (cJ (UL false false s1) [afh s2] [])) [0,1,2,3] (IQ [0,1,3,12])=some (⟨oO,57,[.code (bQ Fn.pick)],[],.run,.normal,[],[],[i64 (Gq y),nq 32 7 33,bF 30,bF 31]⟩,[⟨kc,80,scT,[],.run,.normal,[],[],[bF 10,i64 (v 80),Zq,nq 32 7 33]⟩]):=by cases y<;>kernel_rfl
theorem UQ(s1 s2:Nat->Value):bR 100 (cJ (UL false false s1) [afh s2] [])=true:=by kernel_rfl
noncomputable def pkE(st:Nat->Value):bH:=⟨oO,57,bZ 57 st [(0,i64 (v 66)),(1,nq 32 7 33),(2,bF 30),(3,bF 31)],[.code (bQ Fn.pick)],[],.run,.normal⟩
noncomputable def pkI:IE:=.op .rem .i64 (.op .add .i64 (.op .rem .i64 (v 67) (.tn (v 7))) (.tn (v 7))) (.tn (v 7))
noncomputable def pkB:List (BE×Bool):=[(.cmp .lss (v 66) (.tn (v 61)),true),(.cmp .leq (.lit 0) (v 66),true),(.cmp .eql (.tn (v 7)) (.lit 0),false),(.cmp .lss pkI (.tn (v 7)),true),(.cmp .leq (.lit 0) pkI,true)]
noncomputable def pkM:List (AA×AV):=[(⟨.cN 30,.lit 0⟩,nq 60 61 62),(⟨.cN 60,.tn (v 66)⟩,i64 (v 67)),(⟨.cN 32,.tn pkI⟩,bF 14)]
theorem pk(st:Nat->Value):c7 (cO pkB pkM 33 [] (cJ (pkE st) [] [])) [6] Ci=some (⟨oO,57,[.code .ret,.code (pc (bQ Fn.pick) [1,1])],[],.run,.normal,[],[],[bF 14]⟩,[]):=by kernel_rfl
theorem ace(st:Nat->Value):bR 100 (cJ (pkE st) [] [])=true:=by kernel_rfl
theorem pkO:(OO pkB [] pkM).low 100=true:=by kernel_rfl
noncomputable def lsI:IE:=.op .sub .i64 (v 66) (.lit 1)
noncomputable def npB(z y:Bool):List (BE×Bool):=[(.cmp .lss (v 66) (Bool.rec (.tn (v 61)) (.lit 0) z),false),(.cmp .gtr (v 66) (.lit 0),!y)]++match y with
 |true=>[]
 |false=>[(.cmp .lss lsI (.tn (v 6)),true),(.cmp .leq (.lit 0) lsI,true)]
noncomputable def npM(z y:Bool):List (AA×AV):=[(⟨.cN 30,.lit 0⟩,Bool.rec (nq 60 61 62) eU z)]++match y with
 |true=>[]
 |false=>[(⟨.cN 31,.lit 0⟩,bF 10),(⟨.cN 10,.lit 3⟩,nq 23 6 25),(⟨.cN 23,.tn lsI⟩,i64 (v 12))]
noncomputable def pB:Code:=pc (bQ Fn.pick) [1,1,1,1,0,1,0,0]
noncomputable def pTd:List Item:=[.code pB,.inLoop pB,.inBlock 0,.code (pc (bQ Fn.pick) [1,1,1,1,1])]
noncomputable def pL(la i:IE):List (Nat×AV):=[(1,nq 32 7 33),(7,i64 la),(40,nq 32 7 33),(41,i64 (.tn (v 7))),(42,i64 i)]
noncomputable def pW:List Nat:=[1,7,40,41,42]
noncomputable def pLa(y:Bool):IE:=match y with
 |true=>.lit (-1)
 |false=>v 12
def npN(y:Bool):Nat:=match y with
 |true=>35
 |false=>45
theorem np(z y:Bool)(st:Nat->Value):c7 (cO (npB z y) (npM z y) (npN y) [] (cJ (pkE st) [] [])) pW Ci=some (⟨oO,57,pTd,[],.run,.normal,[],[],(pL (pLa y) (.lit 0)).map (·.2)⟩,[]):=by cases z<;>cases y<;>kernel_rfl
theorem npO(z y:Bool):(OO (npB z y) [] (npM z y)).low 100=true:=by cases z<;>cases y<;>kernel_rfl
noncomputable def pHd(st:Nat->Value):bH:=⟨oO,57,bZ 57 st (pL (v 12) (v 5)),pTd,[],.run,.normal⟩
noncomputable def UR(b:Bool):List (BE×Bool):=[(.cmp .lss (v 5) (.tn (v 7)),true),(.cmp .leq (.lit 0) (v 5),true),(.cmp .gtr (v 11) (v 12),b)]
noncomputable def US:List (AA×AV):=[(⟨.cN 32,.tn (v 5)⟩,bF 14),(⟨.cN 14,.lit 1⟩,i64 (v 11))]
theorem pIt(st:Nat->Value):c7 (cO (UR false) US 32 [] (cJ (pHd st) [] [])) pW Ci=some (⟨oO,57,pTd,[],.run,.normal,[],[],(pL (v 12) (.op .add .i64 (v 5) (.lit 1))).map (·.2)⟩,[]):=by kernel_rfl
noncomputable def aru:List Item:=[.code .ret,.inBlock 1,.code (pc (bQ Fn.pick) [1,1,1,1,0,1,0,0,1,1,1]),.inLoop pB,.inBlock 0,.code (pc (bQ Fn.pick) [1,1,1,1,1])]
theorem pFo(st:Nat->Value):c7 (cO (UR true) US 30 [] (cJ (pHd st) [] [])) [6] Ci=some (⟨oO,57,aru,[],.run,.normal,[],[],[bF 14]⟩,[]):=by kernel_rfl
theorem Lu(st:Nat->Value):bR 100 (cJ (pHd st) [] [])=true:=by kernel_rfl
theorem alB(b:Bool):(OO (UR b) [] US).low 100=true:=by cases b<;>kernel_rfl
noncomputable def afk:List (BE×Bool):=[(.cmp .lss (v 5) (.tn (v 7)),false),(.cmp .lss (.lit 0) (.tn (v 7)),true)]
noncomputable def alC:List (AA×AV):=[(⟨.cN 32,.lit 0⟩,bF 14)]
theorem pFi(st:Nat->Value):c7 (cO afk alC 14 [] (cJ (pHd st) [] [])) [6] Ci=some (⟨oO,57,[.code .ret],[],.run,.normal,[],[],[bF 14]⟩,[]):=by kernel_rfl
theorem arv:(OO afk [] alC).low 100=true:=by kernel_rfl
noncomputable def scF(st:Nat->Value):bH:=⟨kc,80,bZ 80 st [(0,bF 10),(1,i64 (v 80)),(3,.ez 65),(12,nq 32 7 33)],scT,[],.run,.normal⟩
noncomputable def pRe(st:Nat->Value)(k:List Item):bH:=⟨oO,57,bZ 57 st [(6,bF 14)],.code .ret::k,[],.run,.normal⟩
noncomputable def acf(y:Bool):List AV:=match y with
 |true=>[.ez 60,.ez 61,.ez 62,eU,eU,.ez 63,.ez 64]
 |false=>[.ez 60,.ez 61,.ez 62,nq 23 6 25,nq 24 6 26,.ez 63,.ez 64]
noncomputable def NE(y:Bool):IE:=match y with
 |true=>.lit 1
 |false=>.plus (.tn (v 6)) (.lit 1)
noncomputable def Gr(y:Bool):List AV:=[.ez 60,.ez 61,.ez 62,.slice (some ⟨.cN 101,.lit 0⟩) (NE y) (v 101),.slice (some ⟨.cN 103,.lit 0⟩) (NE y) (v 103),.ez 63,.ez 64]
noncomputable def afl(y:Bool):List (Nat×bM):=(match y with
 |true=>[]
 |false=>[(24,.cH false 41 (v 6) [] [] [] ke (v 26)),(23,.cH false 40 (v 6) [] [] [] ke (v 25))])++[(10,.cells (acf y) gK)]
noncomputable def y4(y:Bool)(s:Nat)(x:AV)(n:Nat):bM:=match y with
 |true=>.row [x] ke (v n)
 |false=>.cH false s (v 6) [] [] [x] ke (v n)
noncomputable def UT(y:Bool):List (Nat×bM):=[(103,y4 y 41 (i64 (.tn (v 7))) 103),(102,.cells [i64 (.tn (v 7))] ke),(101,y4 y 40 (i64 (v 11)) 101),(100,.cells [i64 (v 11)] ke),(10,.cells (Gr y) gK)]
noncomputable def alD(y:Bool):List (BE×Bool):=match y with
 |true=>[]
 |false=>[(.cmp .leq (.plus (.tn (v 6)) (.lit 1)) (.lit 1048576),true)]
noncomputable def afm:List (AA×AV):=[(⟨.cN 14,.lit 1⟩,i64 (v 11)),(⟨.cN 14,.lit 2⟩,uS 26)]
noncomputable def afn:List Item:=[.inRegion (fP (pc (bQ Fn.M0) [1,1,0,0,0,1,1,1,1,1,1])) [1],.inBlock 3]++IR
theorem arx(y:Bool)(s1 s2:Nat->Value)(k:List Item):c7 (cO (alD y) afm 39 [103,102,101,100,10] (cJ (pRe s1 k) [scF s2] (afl y))) [0,5,6] (IQ [0,1,3])=some (⟨wV,12,gsT,[],.run,.normal,[],UT y,[bF 14,uS 26,UN]⟩,[⟨kc,80,afn,[],.run,.normal,[],[],G0.map (·.2)⟩]):=by cases y<;>kernel_rfl
theorem Zr(y:Bool)(s1 s2:Nat->Value)(k:List Item):bR 100 (cJ (pRe s1 k) [scF s2] (afl y))=true:=by cases y<;>kernel_rfl
theorem alE(y:Bool):(OO (alD y) [] afm).low 100=true:=by cases y<;>kernel_rfl
noncomputable def gwF(st:Nat->Value):bH:=⟨kc,80,bZ 80 st G0,afn,[],.run,.normal⟩
noncomputable def gbF(st:Nat->Value):bH:=⟨wV,12,bZ 12 st [],XV,[],.run,.normal⟩
theorem arz(s1 s2:Nat->Value):c7 (cO [] [] 6 [] (cJ (gbF s1) [gwF s2] [])) [0,1,3] Ci=some (⟨kc,80,.code rdB::IR,[],.run,.normal,[],[],G0.map (·.2)⟩,[]):=by kernel_rfl
theorem Zs(s1 s2:Nat->Value):bR 100 (cJ (gbF s1) [gwF s2] [])=true:=by kernel_rfl
end Go.Proofs.Ythaddgfbohmfoaa
