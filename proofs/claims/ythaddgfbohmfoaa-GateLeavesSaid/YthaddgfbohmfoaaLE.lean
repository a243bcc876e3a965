/-
  A symbolic run of the model, proved sound, and the walk of the code: a text of its parts. Conditions: none.
-/
import Derived.Test.YthaddgfbohmfoaaLD
set_option linter.unusedSectionVars false
set_option maxRecDepth 100000
set_option linter.unusedVariables false
set_option linter.unusedSimpArgs false
namespace Go.Proofs.Ythaddgfbohmfoaa.SX
open Go.Conc
open Go.ConcN (upd upd_ne upd_same)
open _root_.List renaming mem_append->ay
open _root_.Nat renaming le_refl->aq,lt_or_ge->bo,le_trans->bp
open _root_.Array renaming getElem?_eq_some_iff->bc
structure FM(base:Nat)(s:Tok.Seat):Prop where
 ge:base≤s.c
 cell:∀l,s.still l->∃b n,l=.cell ⟨b,n,none⟩
 adK:∀w w':World,(∀b n v,s.still (.cell ⟨b,n,none⟩)->w.cell? ⟨b,n,none⟩=some v->w'.cell? ⟨b,n,none⟩=some v)->s.dE w->s.dE w'
 held:∀w b n,s.dE w->s.still (.cell ⟨b,n,none⟩)->∃v,w.cell? ⟨b,n,none⟩=some v
def adL(bJ:Nat->Option Tok.Seat)(b:Nat):Prop:=∃i t,bJ i=some t∧t.c=b
def ny(bJ:Nat->Option Tok.Seat)(b n:Nat):Prop:=∃i t,bJ i=some t∧t.still (.cell ⟨b,n,none⟩)
def SK(P:Program)(base:Nat)(bJ:Nat->Option Tok.Seat):ik:=⟨P,{},fun n=>base≤n∧¬adL bJ n,vC (fun a=>ny bJ a.block a.off),False,ny bJ⟩
def iI(w:World)(b:Nat):Prop:=∃k,w.heap[b]?=some (.chan 0 #[] false k k false)
theorem iI.dE{w w':World}{b:Nat}(h:iI w b){own:Nat->Prop}(kp:cE own w w')(hb:¬own b):iI w' b:=by obtain⟨k,hk⟩:=h;exact⟨k,by rw[kp.heap b hb];exact hk⟩
theorem iI.lt{w:World}{b:Nat}(h:iI w b):b<w.heap.size:=by obtain⟨k,hk⟩:=h;exact iN hk
theorem iI.SQ{w:World}{b n:Nat}{v:Value}(h:iI w b)(hc:w.cell? ⟨b,n,none⟩=some v):False:=by obtain⟨k,hk⟩:=h;simp[World.cell?,hk]at hc
section
variable {P:Program}{base:Nat}{W0:World}{bJ:Nat->Option Tok.Seat}{h N:Nat}{m:Machine}{T:Trace}{a:Goroutine}{w:World}
theorem pJ:(SK P base bJ).Good:=
 ⟨fun a s _=>nT _ a s,fun a s ho hn=>⟨fun a' s' e=>by cases e;exact hn,fun m e=>by cases e⟩,fun b n s hs he=>he.1 ⟨b,n,none⟩ s rfl hs,fun m h=>zQ _ h,zQ _ rfl,fun h=>h.elim,fun r wr s _=>SH _ r wr s⟩
theorem XI(all:∀i t,bJ i=some t->FM base t):∀w w' es,DK (SK P base bJ) w w' es->Tok.HP bJ w w' es:=by
 rintro w w' es ⟨hk,he,di⟩;refine⟨fun i t e OV=>(all i t e).adK w w' (fun b n v hs hc=>di b n v ⟨i,t,e,hs⟩ hc) OV,fun i t e=>hk.heap _ fun h=>h.2 ⟨i,t,e,rfl⟩,fun e hee=>?_⟩;have hE:vC (fun a=>ny bJ a.block a.off) e:=he e hee;refine⟨fun x hx g hg=>?_,fun e1=>?_,fun e1=>?_⟩
 ·obtain⟨t,ht,hl⟩:=hg;obtain⟨b,n,QW⟩:=(all g t ht).cell _ hl;rw[QW]at hl;have hN:ny bJ b n:=⟨g,t,ht,hl⟩;obtain⟨loc,wr,sy⟩:=e;cases loc with
  |cell a=>
   have mE:some (⟨.cell a,wr,if sy then .atomic else .plain⟩:Touch)=some x:=hx;cases mE;have ea:a=⟨b,n,none⟩:=by simpa using QW
   cases wr with
   |false=>rfl
   |true=>exact absurd hN (by have:=hE.1 a sy rfl;rw[ea]at this;exact this)
  |mark m=>have hmk:=hE.2 m rfl;cases m<;>first|(cases hmk;done)|cases hx
  |obj r=>cases wr<;>cases sy<;>(cases hx;try cases QW)
  |output=>have mE:some (⟨.output,wr,if sy then .atomic else .plain⟩:Touch)=some x:=hx;cases mE;cases QW
  |goroutines=>have mE:some (⟨.goroutines,wr,if sy then .atomic else .plain⟩:Touch)=some x:=hx;cases mE;cases QW
 ·have:=hE.2 _ e1;cases this
 ·have:=hE.2 _ e1;cases this
structure dD(P:Program)(base:Nat)(W0:World)(bJ:Nat->Option Tok.Seat)(h N:Nat)(m:Machine)(T:Trace)(a:Goroutine)(w:World):Prop where
 ex:∃gs sl q,m=crowd gs w sl∧gs.size=N∧gs[h]?=some a∧Tok.fM P bJ h 0 T gs w q
 ok:∀i t,bJ i=some t->FM base t
 gX:cE (fun n=>base≤n) W0 w
 size:base≤w.heap.size
theorem dD.new(A:dD P base W0 bJ h N m T a w)(n:Nat)(hn:w.heap.size≤n):(SK P base bJ).own n:=by obtain⟨gs,sl,q,_,_,_,C⟩:=A.ex;refine⟨bp A.size hn,fun⟨i,t,e,ec⟩=>?_⟩;obtain⟨k,hk⟩:=C.qD i t e;have:=iN hk;omega
theorem dD.low(A:dD P base W0 bJ h N m T a w)(b n:Nat)(hs:(SK P base bJ).still b n):b<w.heap.size:=by obtain⟨gs,sl,q,_,_,_,C⟩:=A.ex;obtain⟨i,t,e,hl⟩:=hs;obtain⟨v,hv⟩:=(A.ok i t e).held w b n (C.dE i t e) hl;exact FL hv
theorem dD.real(A:dD P base W0 bJ h N m T a w){b n:Nat}(hs:ny bJ b n):∃v,w.cell? ⟨b,n,none⟩=some v:=by obtain⟨gs,sl,q,_,_,_,C⟩:=A.ex;obtain⟨i,t,e,hl⟩:=hs;exact(A.ok i t e).held w b n (C.dE i t e) hl
theorem dD.chan(A:dD P base W0 bJ h N m T a w){i:Nat}{t:Tok.Seat}(e:bJ i=some t):iI w t.c:=by obtain⟨gs,sl,q,_,_,_,C⟩:=A.ex;exact C.qD i t e
theorem dD.lt(A:dD P base W0 bJ h N m T a w){i:Nat}{t:Tok.Seat}(e:bJ i=some t):i<N:=by
 obtain⟨gs,sl,q,_,hsz,_,C⟩:=A.ex;rcases bo i gs.size with hi|hi
 ·omega
 ·rw[(C.above i hi).2]at e;cases e
theorem dD.dU(A:dD P base W0 bJ h N m T a w):h<N:=by obtain⟨gs,sl,q,_,hsz,ha,C⟩:=A.ex;have:=(bc.1 ha).1;omega
theorem dD.wI(A:dD P base W0 bJ h N m T a w):bJ h=none:=by obtain⟨gs,sl,q,_,_,_,C⟩:=A.ex;exact C.wI
def cm(P:Program)(m:Machine)(T:Trace)(Φ:Machine->Trace->Prop):Prop:=∃M m' T',runNT P M m T=(.next m',T')∧Φ m' T'
theorem cm.refl{Φ:Machine->Trace->Prop}(h:Φ m T):cm P m T Φ:=⟨0,m,T,rfl,h⟩
theorem cm.trans{Φ Ψ:Machine->Trace->Prop}(h:cm P m T Φ)(k:∀m' T',Φ m' T'->cm P m' T' Ψ):cm P m T Ψ:=by obtain⟨M,m1,T1,h1,hp⟩:=h;obtain⟨M2,m2,T2,h2,hq⟩:=k m1 T1 hp;exact⟨M+M2,m2,T2,runNT_then h1 h2,hq⟩
theorem cm.mono{Φ Ψ:Machine->Trace->Prop}(h:cm P m T Φ)(k:∀m' T',Φ m' T'->Ψ m' T'):cm P m T Ψ:=by obtain⟨M,m1,T1,h1,hp⟩:=h;exact⟨M,m1,T1,h1,k m1 T1 hp⟩
theorem dD.uu(A:dD P base W0 bJ h N m T a w){S:Goroutine->World->Prop}{n:Nat}(W:dy P (h==0) (DK (SK P base bJ)) S n a w)(hS:∀a' w',S a' w'->cE (fun n=>base≤n) w w'):
  cm P m T fun m' T'=>∃a' w',dD P base W0 bJ h N m' T' a' w'∧S a' w':=by
 obtain⟨gs,sl,q,rfl,hsz,ha,C⟩:=A.ex;obtain⟨M,iZ,a',w',pY,T',q',hr,wJ,sJ,hs,C'⟩:=Tok.D7 (XI A.ok) W ha C;have kp:=hS a' w' hs;exact⟨M,_,T',hr,a',w',⟨⟨iZ,pY,q',rfl,wJ.trans hsz,sJ,C'⟩,A.ok,A.gX.trans kp,bp A.size kp.size⟩,hs⟩
end
noncomputable def OL(Jv:List FuncId)(ext:List (FuncId×(Array Value->Sem Value)))(l:List (AA×AV)):dP:={mem:=l,Jv:=Jv,ext:=ext}
noncomputable def oN(P:Program)(O:dP)(U:Nat->Prop)(ρ:cn)(cs:List Frame)(B:Nat)(c:dw)(r:BR)(z:Value)(ok:Bool):Tok.Seat:=
 ⟨r.ev ρ,z,ok,wM O ρ,ji O ρ,B,fun g=>kD U c∧jv P ρ c cs g⟩
section
variable {P:Program}{base:Nat}{W0:World}{bJ:Nat->Option Tok.Seat}{h N:Nat}{m:Machine}{T:Trace}{a:Goroutine}{w:World}
variable {O:dP}{U:Nat->Prop}{ρ:cn}{cs:List Frame}{B:Nat}{c c':dw}{r:BR}{z:Value}{ok:Bool}
theorem Ee(hb:O.bs=[])(hi:O.is=[])(qB:base≤r.ev ρ):FM base (oN P O U ρ cs B c r z ok):=by
 refine⟨qB,fun l ⟨p,_,e⟩=>⟨_,_,e.trans (congrArg Loc.cell (AA.pG ρ p.1))⟩,fun w w' hk k=>?_,fun w b n k ⟨p,hp,e⟩=>?_⟩
 ·have k':ji O ρ w:=k;refine⟨k'.bs,k'.is,fun p hp=>?_⟩;have:=k'.mem p hp;rw[AA.pG]at this⊢;exact hk _ _ _ ⟨p,hp,congrArg Loc.cell (AA.pG ρ p.1).symm⟩ this
 ·have k':ji O ρ w:=k;have:=k'.mem p hp;have e':(⟨b,n,none⟩:Addr)=p.1.ev ρ:=by simpa using e
  rw[<-e']at this;exact⟨_,this⟩
theorem Pb:(oN P O U ρ cs B c r z ok).Wf:=by
 refine⟨fun w d k=>Ic k d,fun w c cap buf cl a b tm cap' adq rX a' b' MD hc k=>?_,fun l ⟨p,_,e⟩=>by rw[e];rfl⟩;have k':ji O ρ w:=k;refine⟨k'.bs,k'.is,fun p hp=>?_⟩;have m2:=k'.mem p hp;by_cases e:c=(p.1.ev ρ).block
 ·simp only[World.cell?]at m2;rw[<-e,hc]at m2;cases m2
 ·simp only[World.cell?]at m2⊢;rw[heap_setChan_ne w _ _ _ _ _ _ e];exact m2
theorem wR(k:ji O ρ w)(hc:iI w (r.ev ρ))(ha:∀i t,bJ i=some t->t.c≠r.ev ρ):Tok.wK bJ w (oN P O U ρ cs B c r z ok):=⟨Pb,k,hc,ha⟩
theorem yO(S:ti P O jF)(hO:O.In U){n:Nat}(he:lrun? P O jF n c=.ok c')(hr:recvAt? P c'=some (r,z,ok))(I:kD U c){g:Goroutine}(Γ:jv P ρ c cs g)(k:ji O ρ w)(main:Bool):
  Sits P main (oN P O U ρ cs w.heap.size c' r z ok).dE (oN P O U ρ cs w.heap.size c' r z ok).still w.heap.size (oN P O U ρ cs w.heap.size c' r z ok).base (n+1) g:=
 MT (main:=main) S hO (fun p hp=>zO (k.mem p hp)) he hr I Γ k
noncomputable def sendAt?(da:bH):Option (BR×AV×bH):=
 match HM ⟨da,[],e0⟩with
 |some o=>match o.op with
  |.send x y=>match fC da.tmps x,ey da cx with
   |.chan (some r),.ok gv=>some (r,fC da.tmps y,gv)
   |_,_=>none
  |_=>none
 |none=>none
theorem dD.Bi(A:dD P base W0 bJ h N m T a w)(Γ:jv P ρ c cs a)(I:kD U c){y:AV}{gv:bH}(hs:sendAt? c.da=some (r,y,gv)){j:Nat}{t:Tok.Seat}(hj:bJ j=some t)(hc:t.c=r.ev ρ)
 {so:Option Tok.Seat}(ub:∀s',so=some s'->Tok.wK bJ w s'∧FM base s')(vz:∀g,kD U ⟨gv,c.callers,e0⟩->jv P ρ ⟨gv,c.callers,e0⟩ cs g->∃nh,∀T',Deaf T' h=0->Tok.Rest P T' h nh g so):
  cm P m T fun m' T'=>∃g₂ d k,dD P base W0 (Tok.e_ bJ h j so) j N m' T' (Conc.served g₂ (recvd t.ok (y.ev ρ) true)) ((w.at d).setChan t.c 0 #[] false (k+1) (k+1) false)∧t.home g₂∧w.heap[t.c]?=some (.chan 0 #[] false k k false):=by
 obtain⟨gs,sl,q,rfl,hsz,ha,C⟩:=A.ex;obtain⟨da,callers,hh⟩:=c;unfold sendAt? at hs;dsimp only at hs;split at hs
 rotate_left
 ·cases hs
 rename_i o ho;obtain⟨fn,nt,tmps,ops,i,xz,k,defers,kind,fV,hh',e,KF,Xz,XA⟩:=wP ho;cases e;split at hs
 rotate_left
 ·cases hs
 rename_i x y' fY;split at hs
 rotate_left
 ·cases hs
 rename_i r' gv' hx hfg;cases hs;obtain⟨tm,cC,h1,h2,h3,Q0,ea⟩:=(ml XA).1 Γ;have hw:Region.wanted o (yielded ops tm)=true:=by unfold Region.wanted;rw[Xz]
 have rm:(iD fn kind).kind≠.early:=by rcases h2 with rfl|rfl<;>simp[iD]
 have hR:∀w es,(execOp (⟨tm,defers.map (AD.ev ρ)⟩:Act).eval o).runT P w es=(.ok (.comm #[scase t.c ((fC tmps y').ev ρ) (.tuple #[])] true .send) w,es):=by
  intro w es;unfold execOp;rw[fY];have e1:(⟨tm,defers.map (AD.ev ρ)⟩:Act).eval x=.chan (some t.c):=by rw[jh h1,hx,hc];rfl
  have e2:(⟨tm,defers.map (AD.ev ρ)⟩:Act).eval y'=(fC tmps y').ev ρ:=jh h1 _ y';dsimp only;rw[e1,e2];rfl
 have D8:∀d,stepG P (h==0) a (w.at d)=.comm a #[scase t.c ((fC tmps y').ev ρ) (.tuple #[])] true .send (w.at d) #[]:=by
  intro d;have r1:(execOp (⟨tm,defers.map (AD.ev ρ)⟩:Act).eval o).run P (w.at d)=.ok (.comm #[scase t.c ((fC tmps y').ev ρ) (.tuple #[])] true .send) (w.at d):=by have:=congrArg Prod.fst (hR (w.at d) #[]);rw[Sem.runT_fst]at this;exact this
  rw[ea,stepG_comm KF hw rm r1,listed_none (congrArg Prod.snd (hR (w.at d) #[]))]
 have fJ:a.status=.running:=by rw[ea];rfl
 have Bj:j≠h:=fun e=>by rw[e,C.wI]at hj;cases hj
 have adu:j<gs.size:=by have:=A.lt hj;omega
 obtain⟨QY,QZ⟩:=kU Γ I (v:=cx) (by simp[cx,AV.In,AV.iB]) hfg e0;obtain⟨nh,Ef⟩:=vz (Conc.served a undef) QY QZ;obtain⟨M,m',T',hr,iZ,g₂,d,k',pY,q',rfl,wJ,hJ,Bo,xV,C'⟩:=Tok.Bi (P:=P) (j:=j) (s:=t) (sl:=sl) Bj adu hj ha fJ D8 (by simp) C (fun s' e=>(ub s' e).1) Ef;refine⟨M,_,T',hr,g₂,d,k',⟨⟨iZ,pY,q',rfl,wJ.trans hsz,hJ,C'⟩,fun i t' e=>?_,A.gX.trans ⟨fun n hn=>?_,?_,rfl,rfl,rfl⟩,?_⟩,Bo,xV⟩
 ·unfold Tok.e_ at e;split at e
  ·cases e
  ·split at e
   ·exact(ub t' e).2
   ·exact A.ok i t' e
 ·exact heap_setChan_ne (w.at d) _ _ _ _ _ _ (fun e=>hn (by rw[<-e];exact(A.ok j t hj).ge))
 ·rw[size_setChan];exact aq _
 ·rw[size_setChan];exact A.size
noncomputable def goAt?(da:bH):Option (FuncId×List AV×List AV×bH):=
 match HM ⟨da,[],e0⟩with
 |some o=>match o.op with
  |.go call=>match resolve? (fC da.tmps) call o.type,ey da cx with
   |.ok ⟨.fn (.func f) cap,args⟩,.ok gv=>some (f,cap,args,gv)
   |_,_=>none
  |_=>none
 |none=>none
theorem dD.OU(A:dD P base W0 bJ h N m T a w)(Γ:jv P ρ c cs a)(I:kD U c){f:FuncId}{cap args:List AV}{gv:bH}(hg:goAt? c.da=some (f,cap,args,gv))(hfo:CZ P f=true){fr:bH}(zh:fD P f (args++cap) .deferred=.ok fr)
 (S:ti P O jF)(hO:O.In U)(hob:O.bs=[])(apO:O.is=[]){n:Nat}(he:lrun? P O jF n ⟨fr,[],e0⟩=.ok c')(hr:recvAt? P c'=some (r,z,ok))(k:ji O ρ w)(xV:iI w (r.ev ρ))(uq:∀i t,bJ i=some t->t.c≠r.ev ρ)(qB:base≤r.ev ρ):
  cm P m T fun m' T'=>∃d a',dD P base W0 (upd bJ N (some (oN P O U ρ [fB P] w.heap.size c' r z ok))) h (N+1) m' T' a' (w.at d)∧kD U ⟨gv,c.callers,e0⟩∧jv P ρ ⟨gv,c.callers,e0⟩ cs a':=by
 obtain⟨gs,sl,q,rfl,hsz,ha,C⟩:=A.ex;obtain⟨da,callers,hh⟩:=c;unfold goAt? at hg;dsimp only at hg;split at hg
 rotate_left
 ·cases hg
 rename_i o ho;obtain⟨fn,nt,tmps,ops,i,xz,kk,defers,kind,fV,hh',e,KF,Xz,XA⟩:=wP ho;cases e;split at hg
 rotate_left
 ·cases hg
 rename_i call fY;split at hg
 rotate_left
 ·cases hg
 rename_i f' cap' uI gv' nR hfg;cases hg;obtain⟨tm,cC,h1,h2,h3,Q0,ea⟩:=(ml XA).1 Γ;have hw:Region.wanted o (yielded ops tm)=true:=by unfold Region.wanted;rw[Xz]
 have rm:(iD fn kind).kind≠.early:=by rcases h2 with rfl|rfl<;>simp[iD]
 have hd:(⟨.fn (.func f) cap,args⟩:AD).In U:=pC nR (fun x=>sT I.da.tmps x);have adE:AV.iB U (args++cap):=dg.2 fun v hv=>(ay.1 hv).elim (dg.1 hd.2 v) (dg.1 hd.1 v);have Jw:(⟨tm,defers.map (AD.ev ρ)⟩:Act).eval=fun x=>(fC tmps x).ev ρ:=funext fun x=>jh h1 _ x;have hq:∀w:World,(execOp (⟨tm,defers.map (AD.ev ρ)⟩:Act).eval o).run P w=.ok (.spawn ((⟨.fn (.func f) cap,args⟩:AD).ev ρ)) w∧(execOp (⟨tm,defers.map (AD.ev ρ)⟩:Act).eval o).events P w #[]=#[]:=fun w=>by refine xZ ?_;rw[Jw];unfold execOp;rw[fY];show wq P _ _ (resolve (fun x=>(fC tmps x).ev ρ) call o.type>>= fun d=>pure (Go.Next.spawn d)) _ w;rw[bG];exact rg (K:=⟨P,{},fun _=>True,fun _=>False,False,fun _ _=>False⟩) nR ⟨rfl,rfl⟩
 have yL:∀d,stepG P (h==0) a (w.at d)=.spawn (G ((iD fn kind).at ((⟨tm,defers.map (AD.ev ρ)⟩:Act).put o.dst undef) (.inRegion ops xz::kk)) (cC++cs)) (born P ((⟨.fn (.func f) cap,args⟩:AD).ev ρ)) (w.at d) #[]:=fun d=>by rw[ea,stepG_spawn KF hw rm (hq (w.at d)).1 rfl,listed_none (hq (w.at d)).2]
 have fJ:a.status=.running:=by rw[ea];rfl
 obtain⟨en1,en2,en3,en4,en5⟩:=jW zh (.inr rfl) adE (ρ:=ρ);have ILc:kD U ⟨fr,[],e0⟩:=⟨en2,fun _ x=>by(simp at x)⟩;have Γc:jv P ρ ⟨fr,[],e0⟩ [fB P] (G (Frame.enter P f (AV.cf ρ (args++cap)).toArray .deferred) [fB P]):=⟨_,[],en1,trivial,rfl⟩;have hS:=yO S hO he hr ILc Γc k false;have SM:(AV.cf ρ (args++cap)).toArray=(AV.cf ρ args).toArray++(AV.cf ρ cap).toArray:=by simp[fp]
 rw[SM]at hS;have hS':=Ec hfo hS;obtain⟨M,iZ,d,pY,T',q',hr',wJ,sJ,C'⟩:=Tok.OU (P:=P) (sl:=sl) ha fJ yL (by simp) C (oN P O U ρ [fB P] w.heap.size c' r z ok) (wR k xV uq) hS';obtain⟨QY,QZ⟩:=kU Γ I (v:=cx) (by simp[cx,AV.In,AV.iB]) hfg e0;have wQ:Conc.served a (cx.ev ρ)=G ((iD fn kind).at ((⟨tm,defers.map (AD.ev ρ)⟩:Act).put o.dst undef) (.inRegion ops xz::kk)) (cC++cs):=by rw[ea];show{G ((iD fn kind).at ⟨tm,defers.map (AD.ev ρ)⟩ (.inRegion ops (i::xz)::kk)) (cC++cs)with frame:=((iD fn kind).at ⟨tm,defers.map (AD.ev ρ)⟩ (.inRegion ops (i::xz)::kk)).finish undef,status:=.running,offers:=none}=_;rw[Frame.finish_at,KF];rfl
 rw[wQ]at QZ;subst hsz;refine⟨M,_,T',hr',d,_,⟨⟨iZ,pY,q',rfl,wJ,sJ,C'⟩,fun i t' e=>?_,A.gX.trans ⟨fun n hn=>rfl,aq _,rfl,rfl,rfl⟩,A.size⟩,QY,QZ⟩;by_cases ei:i=gs.size
 ·rw[ei,upd_same]at e;cases e;exact Ee hob apO qB
 ·rw[upd_ne bJ _ ei]at e;exact A.ok i t' e
end
end Go.Proofs.Ythaddgfbohmfoaa.SX
namespace Go.Proofs.Ythaddgfbohmfoaa
open Go.Proofs.Ythaddgfbohmfoaa.SX Go.Conc
open Go.Proofs.Try renaming prog->aa
open _root_.List renaming mem_cons->ac,not_mem_nil->ae
noncomputable def OO(bs:List (BE×Bool))(is:List (IE×IE))(mem:List (AA×AV)):dP:={bs:=bs,is:=is,mem:=mem,Jv:=Jv,ext:=ext}
noncomputable abbrev XX(bs:List (BE×Bool))(is:List (IE×IE))(mem:List (AA×AV)):Ext:=ext? aa (OO bs is mem) Si
theorem mn:∀p∈Si,p.2≠.k7:=by intro p hp;simp only[Si,ac,ae,or_false]at hp;rcases hp with rfl|rfl|rfl|rfl|rfl|rfl|rfl|rfl<;>intro e<;>cases e
def v(n:Nat):IE:=.var n
def bF(b:Nat):AV:=.ptr (some ⟨.cN b,.lit 0⟩)
def i64(e:IE):AV:=.int .i64 e
def TB:AV:=.bool (.lit true)
structure abB(K:ik):Prop where
 prog:K.P=aa
 aw1:K.Good
 rd:∀a s,K.Ev ⟨.cell a,false,s⟩
theorem apP{ρ bL:cn}(A:cz (dR 100) ρ bL){l:List AV}(h:AV.lp 100 l=true):AV.cf bL l=AV.cf ρ l:=AV.f8 A l (AV.gJ l h)
structure aji(K:ik)(w:World):Prop where
 new:∀n,w.heap.size≤n->K.own n
 low:∀b n,K.still b n->b<w.heap.size
theorem Ie{x:Int}(h:-9223372036854775808≤x∧x≤9223372036854775807):IntKind.wrap .i64 x=x:=IntWalk.i64_in _ h
theorem adM{K:ik}{main:Bool}(U:abB K){w:World}(R:aji K w){own:Nat->Prop}(still:Nat->Nat->Prop)(fu:∀n,own n->K.own n)(iS:∀n,w.heap.size≤n->own n){bs:List (BE×Bool)}{is:List (IE×IE)}{mem:List (AA×AV)}{n nb eH:Nat}{ks:List Nat}{da:bH}{callers:List bH}{hp:List (Nat×bM)}{dH:List Nat}{V:fN}
 (hv:see (chunkTo? aa (OO bs is mem) (XX bs is mem) oq 4000 n ks ⟨da,callers,⟨hp,nb,eH⟩⟩) dH=some V)(hl:bR nb ⟨da,callers,⟨hp,nb,eH⟩⟩=true)(hO:(OO bs is mem).low nb=true){ρ:cn}{fr:Frame}{cC cs:List Frame}(hf:dj aa ρ da fr)(iw:c8 aa ρ callers cC)
 (hb:∀p∈bs,p.1.ev ρ=p.2)(hi:∀p∈is,p.1.ev ρ=p.2.ev ρ)(hm:∀p∈mem,¬own (p.1.ev ρ).block∧w.cell? (p.1.ev ρ)=some (p.2.ev ρ))
 (h1:∀p∈hp,∃o,w.heap[ρ.b p.1]?=some o∧p.2.is aa ρ o)(h2:∀p∈hp,own (ρ.b p.1))(h3:(hp.map fun p=>ρ.b p.1).Nodup)(h4:∀p∈hp,∀n,(K.still (ρ.b p.1) n∨still (ρ.b p.1) n)->p.2.i_ aa ρ n)(h5:∀b n,still b n->b<w.heap.size):
  dy aa main (DK K) (fun g' w'=>∃bL c' bT dk,abz K (dR nb) ρ own still (OO bs is mem) cs dH V w g' w' bL c' bT dk) 0 (G fr (cC++cs)) w:=by
 obtain⟨P,O,qu,Ev,kx,SR⟩:=K;obtain⟨hP,Gd,xA⟩:=U;dsimp only at hP;subst hP;have ST:=mT (K:=⟨aa,O,qu,Ev,kx,SR⟩) (O:=OO bs is mem) (own:=own) (still:=still) Gd fu;exact ajf (K:=⟨aa,O,qu,Ev,kx,SR⟩) (own:=own) (still:=still) (O:=OO bs is mem) Gd fu ⟨vr,mi,mixed⟩ (xT ST (.inr mn) mj) uc hv hl rfl hO hf iw
  (rC h1 h2 h3 h4 ⟨hb,hi,fun p hp=>⟨(hm p hp).1,(hm p hp).2,fun s=>⟨xA _ s,fun b n s e=>by cases e⟩⟩⟩ iS fun b n h=>h.elim (R.low b n) (h5 b n))
end Go.Proofs.Ythaddgfbohmfoaa
namespace Go.Proofs.Ythaddgfbohmfoaa.SX
open Go.Conc
open _root_.List renaming map_congr_left->aY
open _root_.Nat renaming le_refl->aq
open _root_.Array renaming getElem?_toList->bl,toList_inj->bD
def ka(w:World)(b:Nat)(cs:List Value)(e:TypeId):Prop:=∃arr,w.heap[b]?=some (.cells arr e (0,0))∧arr.toList=cs
def Ty(w:World)(b:Nat)(e:TypeId):Prop:=∃arr f,w.heap[b]?=some (.cells arr e f)
section
variable {w w':World}{b b':Nat}{cs io:List Value}{e e':TypeId}{own:Nat->Prop}
theorem ka.dE(h:ka w b cs e)(kp:cE own w w')(hb:¬own b):ka w' b cs e:=by obtain⟨arr,h1,h2⟩:=h;exact⟨arr,by rw[kp.heap b hb];exact h1,h2⟩
theorem ka.ty(h:ka w b cs e):Ty w b e:=by obtain⟨arr,h1,_⟩:=h;exact⟨arr,_,h1⟩
theorem ka.lt(h:ka w b cs e):b<w.heap.size:=by obtain⟨arr,h1,_⟩:=h;exact iN h1
theorem Ty.BD(h:Ty w b e)(h':iI w b'):b≠b':=by rintro rfl;obtain⟨arr,f,h1⟩:=h;obtain⟨k,h2⟩:=h';rw[h1]at h2;cases h2
theorem ka.cell(h:ka w b cs e){n:Nat}{v:Value}(hn:cs[n]?=some v):w.cell? ⟨b,n,none⟩=some v:=by obtain⟨arr,h1,h2⟩:=h;rw[j9 h1,<-bl,h2];exact hn
theorem lU.ty{P:Program}{xs:List Value}{c:Nat}(h:lU P w e b xs c):Ty w b e:=by obtain⟨arr,rest,i,h1,_⟩:=h.ex;exact⟨arr,_,h1⟩
theorem ka.is{P:Program}{ρ:cn}{l:List AV}(h:ka w b (AV.cf ρ l) e):∃o,w.heap[b]?=some o∧(bM.cells l e).is P ρ o:=by obtain⟨arr,h1,h2⟩:=h;exact⟨_,h1,.inl ⟨arr,rfl,h2⟩⟩
theorem ka.l9{P:Program}{ρ:cn}{l:List AV}{ls:List Nat}(h:ka w b (AV.cf ρ l) e):∃o,w.heap[b]?=some o∧(bM.fT l e ls).is P ρ o:=by obtain⟨arr,h1,h2⟩:=h;exact⟨_,h1,.inl ⟨arr,rfl,h2⟩⟩
end
theorem Pc{K:ik}{main:Bool}(Gd:K.Good){own:Nat->Prop}{still:Nat->Nat->Prop}(fu:∀n,own n->K.own n){O:dP}{ext:Ext}{sum:om}(F:(K.sub O own still).il)(X:ib (K.sub O own still) ext)(Z:uN (K.sub O own still) main sum){f n:Nat}{ks:List Nat}{c c':dw}
 (hc:chunkTo? K.P O ext sum f n ks c=.ok c'){nb:Nat}(hl:bR nb c=true)(hnb:c.h.nb=nb)(hO:O.low nb=true){ρ:cn}{fr:Frame}{cC cs:List Frame}{w:World}(hf:dj K.P ρ c.da fr)(iw:c8 K.P ρ c.callers cC)(R:Rel (K.sub O own still) ρ c.h w):
  dy K.P main (DK K) (fun g' w'=>∃bL U',cz (dR nb) ρ bL∧cE own w w'∧kD U' c'∧jv K.P bL c' cs g'∧Rel (K.sub O own still) bL c'.h w') 0 (G fr (cC++cs)) w:=by
 obtain⟨_,N,L⟩:=BA (K:=K.sub O own still) (main:=main) (mT Gd fu) F X Z hc;have W:=L (dR nb) ρ cs (G fr (cC++cs)) w (n_ (K:=K.sub O own still) hl hnb hO) ⟨R,fr,cC,hf,iw,rfl⟩;refine(dy.d_ (fun g' w' hd=>?_) (W.Kg (BC fu))).any;obtain⟨bL,A,kp,gr,hin,R',hg⟩:=hd;exact⟨bL,_,A,kp,⟨hin.da,hin.callers⟩,hg,R'⟩
theorem wS{c:dw}{n:Nat}(h:bR n c=true):kD (dR n) c:=by have I:=n_ (K:=⟨default,{},fun _=>True,fun _=>True,True,fun _ _=>False⟩) (c:=⟨c.da,c.callers,⟨c.h.hp,n,n⟩⟩) (n:=n) h rfl rfl;exact⟨I.da,I.callers⟩
section
variable {P:Program}{base:Nat}{W0:World}{N:Nat}{m:Machine}{T:Trace}{a:Goroutine}{w:World}
theorem dD.finish{bJ:Nat->Option Tok.Seat}(pF:∀i,bJ i=none)(A:dD P base W0 bJ 0 N m T a w){f:FuncId}(hE:∃ρ,sV (SK P base bJ) f ρ (.returned (.bool (.lit true))) [] a w)(pb:Bh P f=true):
  ∃K nz o w3 t3,runNT P (K+1) m T=(.ended o w3,t3)∧runN P K m=.next nz∧step P nz=.ended o w3∧Conc.Good P (fun v W'=>v=.bool true∧cE (fun n=>base≤n) W0 W') nz o w3 t3:=by
 obtain⟨gs,sl,q,rfl,hsz,ha,C⟩:=A.ex;obtain⟨ρ,bT,fn',rfl,hb,hd,hf,ajj,BF,hq⟩:=hE;obtain⟨hL,B,hP⟩:=Tok.over C pF;have apQ:∀d,stepG P true (G bT []) (w.at d)=.ended (.done (.bool true)) (w.at d) #[]:=by
  intro d;have qj:bT.fn=f:=hb;unfold Bh at pb;have xx:P.funcs[bT.fn]?=some fn':=hf;rw[<-qj]at pb;rw[xx]at pb;dsimp only at pb;split at pb
  ·rename_i tt ht;have nR:fn'.results=#[.tmp tt]:=by apply bD.1;exact ht
   have km:=hq d (Q:=fun x w2=>x=.bool true∧w2=cM w d) ⟨rfl,rfl⟩;rw[yN nR]at km;have hv:bT.tmps.getD tt undef=.bool true:=((bO _).1 km).1;have hi:P.inits.idxOf? bT.fn=none:=by simpa using pb
   simp[G,stepG,unwind,doReturn,ajj,hd,xx,yN nR,BF,GStep.after,hv,hi,seen_none]
  ·cases pb
 have yL:Goes P true AtRel (fun _ _ _=>False) (AtEnd P (fun _=>False) B (fun v W'=>v=.bool true∧cE (fun n=>base≤n) W0 W')) 0 (G bT []) w:=by intro w₁ hw;obtain⟨d,rfl⟩:=hw;exact⟨rfl,_,_,apQ d,(by simp),rfl,A.gX.trans ⟨fun _ _=>rfl,aq _,rfl,rfl,rfl⟩⟩
 obtain⟨K,nz,o,w3,t3,b1,b2,b3,b4⟩:=beside_ends (D:=fun _ _ _=>False) (fun _ _ _ h=>h.elim) (sl:=sl) ha hL hP yL;exact⟨K,nz,o,w3,t3,b1,b2,b3,b4⟩
theorem KH{Q:Value->World->Prop}{Φ:Machine->Trace->Prop}(h:cm P m T Φ)(k:∀m' T',Φ m' T'->∃K nz o w3 t3,runNT P (K+1) m' T'=(.ended o w3,t3)∧runN P K m'=.next nz∧step P nz=.ended o w3∧Conc.Good P Q nz o w3 t3):
  ∃K nz o w3 t3,runNT P (K+1) m T=(.ended o w3,t3)∧runN P K m=.next nz∧step P nz=.ended o w3∧Conc.Good P Q nz o w3 t3:=by
 obtain⟨M,m',T',Pd,hp⟩:=h;obtain⟨K,nz,o,w3,t3,b1,b2,b3,b4⟩:=k m' T' hp;refine⟨M+K,nz,o,w3,t3,?_,?_,b3,b4⟩
 ·rw[show M+K+1=M+(K+1) by omega,runNT_add,Pd];exact b1
 ·rw[runN_add];have:runN P M m=.next m':=by
   rw[<-runNT_fst _ _ _ T];exact congrArg Prod.fst Pd
  rw[this];exact b2
theorem dD.start(P:Program)(a:Goroutine)(W:World)(C0:Tok.fM P (fun _=>none) 0 0 #[] #[a] W (fun _=>0)):dD P W.heap.size W (fun _=>none) 0 1 (crowd #[a] W none) #[] a W:=
 ⟨⟨_,none,_,rfl,rfl,rfl,C0⟩,fun i t e=>(by cases e),cE.refl _ _,aq _⟩
end
def yP(w:World)(b:Nat)(es:List (Value×Value)):Prop:=∃arr qV,w.heap[b]?=some (.map arr qV)∧arr.toList.map (fun e=>(e.key,e.val))=es
section
variable {w w':World}{b b':Nat}{es:List (Value×Value)}{own:Nat->Prop}
theorem yP.dE(h:yP w b es)(kp:cE own w w')(hb:¬own b):yP w' b es:=by obtain⟨arr,qV,h1,h2⟩:=h;exact⟨arr,qV,by rw[kp.heap b hb];exact h1,h2⟩
theorem yP.lt(h:yP w b es):b<w.heap.size:=by obtain⟨arr,qV,h1,h2⟩:=h;exact iN h1
end
inductive fK where
 |obj(e:TypeId)(cs:List Value)
 |fF(e:TypeId)(cap:Nat)(xs:List Value)
 |map(es:List (Value×Value))
 |chan
def fK.at(P:Program)(w:World)(b:Nat):fK->Prop
 |.obj e cs=>ka w b cs e
 |.fF e cap xs=>lU P w e b xs cap
 |.map es=>yP w b es
 |.chan=>iI w b
def fK.cell:fK->Nat->Option Value
 |.obj _ cs,n=>cs[n]?
 |.fF _ _ xs,n=>xs[n]?
 |_,_=>none
def fK.isChan:fK->Bool
 |.chan=>true
 |_=>false
section
variable {P:Program}{w w':World}{b:Nat}{k:fK}{own:Nat->Prop}
theorem fK.FN(h:k.at P w b)(kp:cE own w w')(hb:¬own b):k.at P w' b:=by
 cases k with
 |obj e cs=>exact ka.dE h kp hb
 |fF e cap xs=>exact lU.dE h kp hb
 |map es=>exact yP.dE h kp hb
 |chan=>exact iI.dE h kp hb
theorem fK.abC(h:k.at P w b):b<w.heap.size:=by
 cases k with
 |obj e cs=>exact ka.lt h
 |fF e cap xs=>exact lU.lt h
 |map es=>exact yP.lt h
 |chan=>exact iI.lt h
theorem fK.XJ(h:k.at P w b){n:Nat}{v:Value}(hn:k.cell n=some v):w.cell? ⟨b,n,none⟩=some v:=by
 cases k with
 |obj e cs=>exact ka.cell h hn
 |fF e cap xs=>have:=lU.arr h n v hn;rwa[Nat.zero_add]at this
 |map es=>cases hn
 |chan=>cases hn
theorem fK.BD(h:k.at P w b)(hk:k.isChan=false)(hc:iI w b):False:=by
 cases k with
 |obj e cs=>exact(ka.ty h).BD hc rfl
 |fF e cap xs=>exact(lU.ty h).BD hc rfl
 |map es=>obtain⟨arr,qV,h1,_⟩:=h;obtain⟨n,h2⟩:=hc;rw[h1]at h2;cases h2
 |chan=>cases hk
theorem fK.adN(h:k.at P w b){d c n m:Nat}(hc:w.heap[c]?=some (.chan 0 #[] false n n false)):k.at P ((w.at d).setChan c 0 #[] false m m false) b:=by
 by_cases e:b=c
 ·subst e;cases hk:k.isChan with
  |false=>exact(fK.BD h hk ⟨n,hc⟩).elim
  |true=>
   cases k with
   |chan=>exact⟨m,heap_setChan_self (w.at d) (c:=b) hc _ _ _ _ _ _⟩
   |_=>cases hk
 ·exact fK.FN (own:=fun b=>b=c) h ⟨fun n hn=>heap_setChan_ne (w.at d) _ _ _ _ _ _ (fun e=>hn e.symm),by rw[Go.Proofs.Ythaddgfbohmfoaa.SX.size_setChan];exact aq _,rfl,rfl,rfl⟩ e
end
def uQ(P:Program)(ρ:cn):bM->fK->Prop
 |.cells l e,.obj e' cs=>e=e'∧AV.cf ρ l=cs
 |.fT l e _,.obj e' cs=>e=e'∧AV.cf ρ l=cs
 |.cH _ s n fs [] [] e c,.fF e' cap xs=>e=e'∧ρ.v s=.agg xs.toArray∧(∀i,P.info? e=some i->xs.length=(n.ev ρ).toNat*i.size)∧(∀p∈fs,xs[(p.1.ev ρ).toNat]?=some (p.2.ev ρ))∧(c.ev ρ).toNat=cap
 |.map l,.map es=>es=l.map fun p=>(p.1.ev ρ,p.2.ev ρ)
 |.iY s n fs ws,.map es=>∃E,ρ.v s=E7 E∧E.length=(n.ev ρ).toNat∧es=E++ws.map (fun p=>(p.1.ev ρ,p.2.ev ρ))∧∀p∈fs,wa ρ E p.1 p.2
 |_,_=>False
theorem SU{P:Program}{w:World}{b:Nat}{k:fK}{ρ:cn}{a:bM}(h:k.at P w b)(ha:uQ P ρ a k):∃o,w.heap[b]?=some o∧a.is P ρ o:=by
 unfold uQ at ha;split at ha
 ·obtain⟨rfl,rfl⟩:=ha;exact ka.is h
 ·obtain⟨rfl,rfl⟩:=ha;exact ka.l9 h
 ·obtain⟨rfl,h1,h2,h3,h4⟩:=ha;exact lU.is h h1 h2 h3 h4
 ·subst ha;obtain⟨arr,qV,h1,h2⟩:=h;exact⟨_,h1,.inr ⟨arr,qV,rfl,h2⟩⟩
 ·obtain⟨E,h1,h2,rfl,h4⟩:=ha;obtain⟨arr,qV,h5,h6⟩:=h;exact⟨_,h5,.inr ⟨arr,qV,E,rfl,h1,h2,h6,h4⟩⟩
 ·exact ha.elim
theorem KI{P:Program}{k:fK}{ρ:cn}{a:bM}(ha:uQ P ρ a k):k.isChan=false:=by unfold uQ at ha;split at ha<;>first|rfl|exact ha.elim
def gy:Value->List Value
 |.agg a=>a.toList
 |_=>[]
def adO(v:Value):List (Value×Value):=(gy v).map fun p=>((gy p).getD 0 undef,(gy p).getD 1 undef)
theorem tu(E:List (Value×Value)):adO (E7 E)=E:=by
 unfold adO E7 gy;simp only[List.map_map]
 conv=>rhs;rw[<-List.map_id E]
 refine aY fun p hp=>?_;rfl
def cY(ρ:cn):bM->fK
 |.cells l e=>.obj e (AV.cf ρ l)
 |.fT l e _=>.obj e (AV.cf ρ l)
 |.row l e c=>.fF e (c.ev ρ).toNat (AV.cf ρ l)
 |.cH _ s _ _ ws cs e c=>.fF e (c.ev ρ).toNat (dF ρ (gy (ρ.v s)) ws++AV.cf ρ cs)
 |.map l=>.map (l.map fun p=>(p.1.ev ρ,p.2.ev ρ))
 |.iY s _ _ ws=>.map (adO (ρ.v s)++ws.map fun p=>(p.1.ev ρ,p.2.ev ρ))
 |.chan=>.chan
theorem KJ{P:Program}{w:World}{b:Nat}{ρ:cn}{a:bM}{o:Obj}(ho:w.heap[b]?=some o)(h:a.is P ρ o):(cY ρ a).at P w b:=by
 rcases h with⟨arr,rfl,hf⟩|h
 ·cases a with
  |cells l e=>exact⟨arr,ho,hf⟩
  |fT l e ls=>exact⟨arr,ho,hf⟩
  |row l e c=>obtain⟨rest,i,h1,h2,h3⟩:=hf;exact⟨arr,rest,i,ho,h2,h1,h3⟩
  |cH lk s n fs ws cs e c=>obtain⟨cH,rest,i,h1,h2,h3⟩:=hf;refine⟨arr,rest,i,ho,h1.o_,?_,h3⟩;rw[h1.val,h2];simp[gy]
  |map l=>exact hf.elim
  |iY s n fs ws=>exact hf.elim
  |chan=>exact hf.elim
 ·cases a with
  |map l=>obtain⟨arr,qV,rfl,h2⟩:=h;exact⟨arr,qV,ho,h2⟩
  |iY s n fs ws=>obtain⟨arr,qV,E,rfl,h2,h3,h4,h5⟩:=h;refine⟨arr,qV,ho,?_⟩;rw[h4,h2,tu]
  |chan=>obtain⟨n,rfl⟩:=h;exact⟨n,ho⟩
  |_=>exact h.elim
structure bK{ι:Type}(P:Program)(base:Nat)(w:World)(L:ι->Option (Nat×fK)):Prop where
 eG:∀r b k,L r=some (b,k)->k.at P w b
 inj:∀r r' b k k',L r=some (b,k)->L r'=some (b,k')->r=r'
 ge:∀r b k,L r=some (b,k)->base≤b
section
variable {ι:Type}{P:Program}{base:Nat}{w w':World}{L L':ι->Option (Nat×fK)}
theorem bK.sub(H:bK P base w L)(h:∀r x,L' r=some x->L r=some x):bK P base w L':=
 ⟨fun r b k e=>H.eG r b k (h _ _ e),fun r r' b k k' e e'=>H.inj r r' b k k' (h _ _ e) (h _ _ e'),fun r b k e=>H.ge r b k (h _ _ e)⟩
theorem bK.dE(H:bK P base w L){own:Nat->Prop}(kp:cE own w w')(hk:∀r b k,L r=some (b,k)->¬own b):bK P base w' L:=
 ⟨fun r b k e=>fK.FN (H.eG r b k e) kp (hk r b k e),H.inj,H.ge⟩
theorem bK.Eg(H:bK P base w L)(kp:cE (fun b=>w.heap.size≤b) w w'):bK P base w' L:=
 H.dE kp fun r b k e=>Nat.not_le.2 (fK.abC (H.eG r b k e))
theorem bK.set(H:bK P base w L){d c n m:Nat}(hc:w.heap[c]?=some (.chan 0 #[] false n n false)):bK P base ((w.at d).setChan c 0 #[] false m m false) L:=
 ⟨fun r b k e=>fK.adN (H.eG r b k e) hc,H.inj,H.ge⟩
theorem bK.draw(H:bK P base w L)(d:Nat):bK P base (w.at d) L:=
 H.dE (own:=fun _=>False) ⟨fun n hn=>rfl,aq _,rfl,rfl,rfl⟩ fun r b k e h=>h
theorem bK.cell(H:bK P base w L){r:ι}{b:Nat}{k:fK}(e:L r=some (b,k)){n:Nat}{v:Value}(hn:k.cell n=some v):w.cell? ⟨b,n,none⟩=some v:=fK.XJ (H.eG r b k e) hn
theorem bK.chan(H:bK P base w L){r:ι}{b:Nat}(e:L r=some (b,.chan)):iI w b:=H.eG r b _ e
theorem bK.lt(H:bK P base w L){r:ι}{b:Nat}{k:fK}(e:L r=some (b,k)):b<w.heap.size:=fK.abC (H.eG r b k e)
variable [DecidableEq ι]
def i0(L:ι->Option (Nat×fK))(drop:List ι)(new:List (ι×Nat×fK)):ι->Option (Nat×fK):=fun r=>match new.find? (fun x=>decide (x.1=r))with
 |some x=>some x.2
 |none=>if r∈drop then none else L r
theorem qG{drop:List ι}{new:List (ι×Nat×fK)}{r:ι}{x:Nat×fK}(h:i0 L drop new r=some x):(∃y∈new,y=(r,x))∨(r∉drop∧L r=some x):=by
 unfold i0 at h;split at h
 ·rename_i y hy;cases h;have h1:=List.mem_of_find?_eq_some hy;have h2:=List.find?_some hy;exact .inl ⟨y,h1,by obtain⟨a,b⟩:=y;simp at h2;rw[h2]⟩
 ·split at h
  ·cases h
  ·rename_i hd;exact .inr ⟨hd,h⟩
theorem bK.i0(H:bK P base w L){own:Nat->Prop}(kp:cE own w w'){drop:List ι}(hk:∀r b k,L r=some (b,k)->r∉drop->¬own b){new:List (ι×Nat×fK)}(hn:∀x∈new,x.2.2.at P w' x.2.1∧own x.2.1∧base≤x.2.1)(hd:(new.map (·.2.1)).Nodup):bK P base w' (i0 L drop new):=by
 refine⟨fun r b k e=>?_,fun r r' b k k' e e'=>?_,fun r b k e=>?_⟩
 ·rcases qG e with⟨y,hy,rfl⟩|⟨h1,h2⟩
  ·exact(hn _ hy).1
  ·exact fK.FN (H.eG r b k h2) kp (hk r b k h2 h1)
 ·rcases qG e with⟨y,hy,rfl⟩|⟨h1,h2⟩
  ·rcases qG e' with⟨y',D4,rfl⟩|⟨Fv,h2'⟩
   ·have:=rA (f:=fun x:ι×Nat×fK=>x.2.1) hd hy D4 rfl;exact congrArg Prod.fst this
   ·exact absurd (hn _ hy).2.1 (hk _ _ _ h2' Fv)
  ·rcases qG e' with⟨y',D4,rfl⟩|⟨Fv,h2'⟩
   ·exact absurd (hn _ D4).2.1 (hk _ _ _ h2 h1)
   ·exact H.inj r r' b k k' h2 h2'
 ·rcases qG e with⟨y,hy,rfl⟩|⟨h1,h2⟩
  ·exact(hn _ hy).2.2
  ·exact H.ge r b k h2
end
def lq{ι:Type}(L:ι->Option (Nat×fK))(drop:List ι)(w:World)(base:Nat)(ρ:cn)(p:AA×AV):Prop:=
 (∃r k,L r=some ((p.1.ev ρ).block,k)∧r∉drop∧k.cell (p.1.ev ρ).off=some (p.2.ev ρ))∨((p.1.ev ρ).block<base∧w.cell? (p.1.ev ρ)=some (p.2.ev ρ))
end Go.Proofs.Ythaddgfbohmfoaa.SX
namespace Go.Proofs.Ythaddgfbohmfoaa
open Go.Proofs.Ythaddgfbohmfoaa.SX Go.Conc
open Go.Proofs.Try renaming prog->aa
open _root_.List renaming mem_cons->ac,map_cons->ah,nodup_nil->ai,mem_cons_of_mem->am,mem_cons_self->an,mem_map->aJ,nodup_cons->bC
open _root_.Nat renaming eq_of_beq_eq_true->aI
noncomputable def uS(b:Nat):AV:=.chan (some (.cN b))
noncomputable def eU:AV:=.slice none (.lit 0) (.lit 0)
noncomputable def ff:AV:=.bool (.lit false)
noncomputable def UN:AV:=.agg []
noncomputable def i8(e:IE):AV:=.int .i8 e
noncomputable def Eh(l:List (AA×AV)):dP:=OL Jv ext l
noncomputable def cO(bs:List (BE×Bool))(mem:List (AA×AV))(n:Nat)(ks:List Nat)(c:dw):M dw:=chunkTo? aa (OO bs [] mem) (XX bs [] mem) oq 4000 n ks c
noncomputable def cJ(da:bH)(callers:List bH)(hp:List (Nat×bM)):dw:=⟨da,callers,⟨hp,100,300000⟩⟩
noncomputable def zm(fr:bH)(v:AV):bH:=match ey fr v with
 |.ok f=>f
 |.error _=>fr
noncomputable def okA(m:M bH):bH:=match m with
 |.ok f=>f
 |.error _=>⟨0,0,.ju,[],[],.run,.normal⟩
noncomputable def okC(m:M dw):bH:=match m with
 |.ok c=>c.da
 |.error _=>⟨0,0,.ju,[],[],.run,.normal⟩
noncomputable def XK(m:M dw):dw:=match m with
 |.ok c=>c
 |.error _=>⟨⟨0,0,.ju,[],[],.run,.normal⟩,[],e0⟩
theorem tv(l:List (AA×AV)):ti aa (Eh l) jF:=⟨fun _ _ _ _=>⟨vr,mi,mixed⟩,fun _ _ _ _=>Bu _⟩
theorem If{l:List (AA×AV)}{U:Nat->Prop}(h:∀p∈l,p.1.In U∧p.2.In U):(Eh l).In U:=⟨fun p hp=>(by cases hp),fun p hp=>(by cases hp),h⟩
theorem BG{α β γ:Type}{f:α->β}{g:α->γ}:∀{l:List α},(l.map g).Nodup->(∀x∈l,∀y∈l,f x=f y->g x=g y)->(l.map f).Nodup
 |[],_,_=>ai
 |x::l,h,e=>by rw[ah,bC]at h⊢;refine⟨fun hx=>?_,BG h.2 fun a ha b hb=>e a (am _ ha) b (am _ hb)⟩;obtain⟨y,hy,h2⟩:=aJ.1 hx;exact h.1 (aJ.2 ⟨y,hy,e y (am _ hy) x (an ..) h2⟩)
theorem FO{α:Type}:∀{l:List (Nat×α)} {i:Nat} {b:α},(l.map (·.1)).Nodup->(i,b)∈l->Go.Proofs.Ythaddgfbohmfoaa.SX.look (fun a b=>Nat.beq a b) i l=some b
 |p::l,i,b,h,hm=>by
  rw[ah,bC]at h;have e1:Go.Proofs.Ythaddgfbohmfoaa.SX.look (fun a b=>Nat.beq a b) i (p::l)=Bool.rec (Go.Proofs.Ythaddgfbohmfoaa.SX.look (fun a b=>Nat.beq a b) i l) (some p.2) (Nat.beq i p.1):=rfl;rw[e1];rcases ac.1 hm with e|hm
  ·subst e;have:Nat.beq i i=true:=Nat.beq_refl i;rw[this]
  ·have:Nat.beq i p.1=false:=by
    cases e:Nat.beq i p.1 with
    |false=>rfl
    |true=>have:=aI e;exact absurd (aJ.2 ⟨_,hm,this⟩) h.1
   rw[this];exact FO h.2 hm
section
variable {base:Nat}{W0:World}{bJ:Nat->Option Tok.Seat}{h N:Nat}{m:Machine}{T:Trace}{a:Goroutine}{w:World}
theorem SV:abB (SK aa base bJ):=⟨rfl,pJ,fun a s=>nT _ a s⟩
theorem FP(A:dD aa base W0 bJ h N m T a w):aji (SK aa base bJ) w:=⟨A.new,A.low⟩
structure ajk(base:Nat)(W0:World)(bJ:Nat->Option Tok.Seat)(h N:Nat)(own:Nat->Prop)(O:dP)(ρ:cn)(cs:List Frame)(dH:List Nat)(dW:FuncId->List Nat)(V:fN)(Vs:List fN)(w:World)(m':Machine)(T':Trace)(w':World)(bL:cn)(hh:AH)(a1:bH)(cl:List bH)(bT:Frame)(dk:List Frame):Prop where
 eG:dD aa base W0 bJ h N m' T' (G bT (dk++cs)) w'
 bE:cz (dR 100) ρ bL
 gX:cE own w w'
 hp:hh.hp=V.hp
 rel:Rel ((SK aa base bJ).sub O own fun _ _=>False) bL hh w'
 da:fW a1 dH=⟨V.fn,V.nt,V.todo,V.defers,V.mode,V.kind,[],[],V.dx⟩
 fr:dj aa bL a1 bT
 cls:cl.map (fun fr=>fW fr (dW fr.fn))=Vs
 cC:c8 aa bL cl dk
theorem ajm{fr:Frame}{cC cs:List Frame}(A:dD aa base W0 bJ h N m T (G fr (cC++cs)) w){own:Nat->Prop}(fu:∀n,own n->(SK aa base bJ).own n)(iS:∀n,w.heap.size≤n->own n){bs:List (BE×Bool)}{mem:List (AA×AV)}{n:Nat}{ks:List Nat}{da:bH}{callers:List bH}{hp:List (Nat×bM)}{dH:List Nat}{dW:FuncId->List Nat}{V:fN}{Vs:List fN}
 (hv:c7 (cO bs mem n ks (cJ da callers hp)) dH dW=some (V,Vs))(hl:bR 100 (cJ da callers hp)=true)(hO:(OO bs [] mem).low 100=true){ρ:cn}(hf:dj aa ρ da fr)(iw:c8 aa ρ callers cC)
 (hb:∀p∈bs,p.1.ev ρ=p.2)(hm:∀p∈mem,¬own (p.1.ev ρ).block∧w.cell? (p.1.ev ρ)=some (p.2.ev ρ))
 (h1:∀p∈hp,∃o,w.heap[ρ.b p.1]?=some o∧p.2.is aa ρ o)(h2:∀p∈hp,own (ρ.b p.1))(h3:(hp.map fun p=>ρ.b p.1).Nodup)(h4:∀p∈hp,∀n,ny bJ (ρ.b p.1) n->p.2.i_ aa ρ n):
  cm aa m T fun m' T'=>∃w' bL hh a1 cl bT dk,ajk base W0 bJ h N own (OO bs [] mem) ρ cs dH dW V Vs w m' T' w' bL hh a1 cl bT dk:=by
 obtain⟨cl,hs,Q0⟩:=XF hv;have W:=adM (K:=SK aa base bJ) (main:=h==0) (cs:=cs) SV (FP A) (own:=own) (fun _ _=>False) fu iS hs hl hO hf iw hb (nofun) hm h1 h2 h3 (fun p hp n hn=>h4 p hp n (hn.elim id False.elim)) (fun b n hn=>hn.elim);refine(A.uu W fun a' w' hd=>?_).mono fun m' T' hd=>?_
 ·obtain⟨bL,c',bT,dk,C⟩:=hd;exact C.gX.mono fun n hn=>(fu n hn).1
 ·obtain⟨a',w',A',bL,c',bT,dk,C⟩:=hd;have pd:c'.callers=cl:=congrArg fN.callers C.seen;have hhp:c'.h.hp=V.hp:=congrArg fN.hp C.seen;obtain⟨apT,fV,hh⟩:=c';dsimp only at pd hhp;subst pd;refine⟨w',bL,hh,apT,fV,bT,dk,C.gor▸A',C.bE,C.gX,hhp,C.rel,?_,C.fr,Q0,C.cC⟩;have hs:=C.seen;unfold fN.under yc at hs;unfold fW;simp only[fN.mk.injEq]at hs⊢;exact⟨hs.1,hs.2.1,hs.2.2.1,hs.2.2.2.1,hs.2.2.2.2.1,hs.2.2.2.2.2.1,trivial,trivial,hs.2.2.2.2.2.2.2.2⟩
theorem ajo{fr:Frame}{cC cs:List Frame}(A:dD aa base W0 bJ h N m T (G fr (cC++cs)) w){own:Nat->Prop}(fu:∀n,own n->(SK aa base bJ).own n)(iS:∀n,w.heap.size≤n->own n){bs:List (BE×Bool)}{mem:List (AA×AV)}{n:Nat}{ks:List Nat}{da:bH}{callers:List bH}{hp:List (Nat×bM)}{c':dw}
 (hv:cO bs mem n ks (cJ da callers hp)=.ok c')(hl:bR 100 (cJ da callers hp)=true)(hO:(OO bs [] mem).low 100=true){ρ:cn}(hf:dj aa ρ da fr)(iw:c8 aa ρ callers cC)
 (hb:∀p∈bs,p.1.ev ρ=p.2)(hm:∀p∈mem,¬own (p.1.ev ρ).block∧w.cell? (p.1.ev ρ)=some (p.2.ev ρ))
 (h1:∀p∈hp,∃o,w.heap[ρ.b p.1]?=some o∧p.2.is aa ρ o)(h2:∀p∈hp,own (ρ.b p.1))(h3:(hp.map fun p=>ρ.b p.1).Nodup)(h4:∀p∈hp,∀n,ny bJ (ρ.b p.1) n->p.2.i_ aa ρ n):
  cm aa m T fun m' T'=>∃a' w' bL U',dD aa base W0 bJ h N m' T' a' w'∧cz (dR 100) ρ bL∧cE own w w'∧kD U' c'∧jv aa bL c' cs a'∧Rel ((SK aa base bJ).sub (OO bs [] mem) own fun _ _=>False) bL c'.h w':=by
 have ST:=mT (K:=SK aa base bJ) (O:=OO bs [] mem) (own:=own) (still:=fun _ _=>False) pJ fu;have W:=Pc (K:=SK aa base bJ) (main:=h==0) (own:=own) (still:=fun _ _=>False) (O:=OO bs [] mem) (cs:=cs) pJ fu ⟨vr,mi,mixed⟩ (xT ST (.inr mn) mj) uc hv hl rfl hO hf iw
  (rC h1 h2 h3 (fun p hp n hn=>h4 p hp n (hn.elim id False.elim)) ⟨hb,(nofun),fun p hp=>⟨(hm p hp).1,(hm p hp).2,fun s=>⟨nT _ _ s,fun b n s e=>by cases e⟩⟩⟩ iS fun b n h=>h.elim (A.low b n) False.elim)
 refine(A.uu W fun a' w' hd=>?_).mono fun m' T' hd=>?_
 ·obtain⟨bL,U',A1,kp,_⟩:=hd;exact kp.mono fun n hn=>(fu n hn).1
 ·obtain⟨a',w',A',bL,U',A1,kp,I,Γ,R⟩:=hd;exact⟨a',w',bL,U',A',A1,kp,I,Γ,R⟩
variable {ι:Type}[DecidableEq ι]{L:ι->Option (Nat×fK)}
def BH(ρ:cn)(w:World)(cH:List (ι×Nat×bM))(b:Nat):Prop:=w.heap.size≤b∨∃x∈cH,ρ.b x.2.1=b
def mo(L:ι->Option (Nat×fK))(ρ:cn)(cH:List (ι×Nat×bM)):Prop:=∀x∈cH,∃k,L x.1=some (ρ.b x.2.1,k)∧uQ aa ρ x.2.2 k
theorem FQ(A:dD aa base W0 bJ h N m T a w)(H:bK aa base w L){ρ:cn}{cH:List (ι×Nat×bM)}(hpre:mo L ρ cH):∀b,BH ρ w cH b->(SK aa base bJ).own b:=by
 rintro b (hb|⟨x,hx,rfl⟩)
 ·exact A.new b hb
 ·obtain⟨k,h1,h2⟩:=hpre x hx;exact⟨H.ge _ _ _ h1,fun⟨i,t,e,ec⟩=>fK.BD (H.eG _ _ _ h1) (KI h2) (ec▸A.chan e)⟩
theorem FR(A:dD aa base W0 bJ h N m T a w)(H:bK aa base w L){ρ:cn}{cH:List (ι×Nat×bM)}(hpre:mo L ρ cH){p:AA×AV}(hm:lq L (cH.map (·.1)) w base ρ p):¬BH ρ w cH (p.1.ev ρ).block∧w.cell? (p.1.ev ρ)=some (p.2.ev ρ):=by
 rcases hm with⟨r,k,h1,h2,h3⟩|⟨h1,h2⟩
 ·refine⟨?_,?_⟩
  ·rintro(hb|⟨x,hx,e⟩)
   ·exact Nat.not_lt.2 hb (H.lt h1)
   ·obtain⟨k',h4,_⟩:=hpre x hx;rw[e]at h4;exact h2 (aJ.2 ⟨x,hx,(H.inj _ _ _ _ _ h1 h4).symm⟩)
  ·have:=H.cell h1 h3;rw[AA.pG ρ p.1];exact this
 ·refine⟨fun hb=>?_,h2⟩;have:=(FQ A H hpre _ hb).1;omega
theorem Ei(H:bK aa base w L){ρ:cn}{cH:List (ι×Nat×bM)}(hpre:mo L ρ cH)(zR:(cH.map (·.1)).Nodup):((cH.map (·.2)).map fun p=>ρ.b p.1).Nodup:=by rw[List.map_map];refine BG zR fun x hx y hy e=>?_;obtain⟨k,h1,_⟩:=hpre x hx;obtain⟨k',h2,_⟩:=hpre y hy;have e':ρ.b x.2.1=ρ.b y.2.1:=e;rw[e']at h1;exact H.inj _ _ _ _ _ h1 h2
def cr(ρ:cn)(post:List (ι×Nat×bM)):List (ι×Nat×fK):=post.map fun x=>(x.1,ρ.b x.2.1,cY ρ x.2.2)
theorem MZ{w':World}{O:dP}{ρ bL:cn}{hh:AH}{a':Goroutine}{m':Machine}{T':Trace}(A:dD aa base W0 bJ h N m T a w)(A':dD aa base W0 bJ h N m' T' a' w')(H:bK aa base w L){cH post:List (ι×Nat×bM)}(hpre:mo L ρ cH)(kp:cE (BH ρ w cH) w w')(Rl:Rel ((SK aa base bJ).sub O (BH ρ w cH) fun _ _=>False) bL hh w')(hp:hh.hp=post.map (·.2))(zR:(post.map (·.2.1)).Nodup):
  bK aa base w' (i0 L (cH.map (·.1)) (cr bL post)):=by
 have jp:∀x∈post,cV x.2.1 hh.hp=some x.2.2:=fun x hx=>by rw[hp];exact FO (by rw[List.map_map];exact zR) (aJ.2 ⟨x,hx,rfl⟩)
 have Hn:∀x∈post,∃o,w'.heap[bL.b x.2.1]?=some o∧x.2.2.is aa bL o:=fun x hx=>Rl.kj _ _ (jp x hx);refine H.i0 kp (fun r b k e hr hb=>?_) (fun y hy=>?_) ?_
 ·rcases hb with hb|⟨x,hx,e'⟩
  ·exact Nat.not_lt.2 hb (H.lt e)
  ·obtain⟨k',h1,_⟩:=hpre x hx;rw[e']at h1;exact hr (aJ.2 ⟨x,hx,(H.inj _ _ _ _ _ e h1).symm⟩)
 ·obtain⟨x,hx,rfl⟩:=aJ.1 hy;obtain⟨o,h1,h2⟩:=Hn x hx;have fu:BH ρ w cH (bL.b x.2.1):=by
   rcases Rl.qu _ _ (jp x hx)with h3|⟨hc,h3⟩
   ·exact h3
   ·exfalso;rcases h3 with h3|h3
    ·obtain⟨v,hv⟩:=A'.real h3;cases hb:x.2.2 with
     |chan=>rw[hb]at h2;have:iI w' (bL.b x.2.1):=KJ h1 h2;exact this.SQ hv
     |_=>rw[hb]at hc;cases hc
    ·exact h3
  exact⟨KJ h1 h2,fu,(FQ A H hpre _ fu).1⟩
 ·rw[cr,List.map_map];refine BG zR fun x hx y hy e=>?_;exact Rl.inj _ _ _ _ (jp x hx) (jp y hy) e
structure FS(base:Nat)(W0:World)(bJ:Nat->Option Tok.Seat)(h N:Nat)(L:ι->Option (Nat×fK))(cH post:List (ι×Nat×bM))(ρ:cn)(cs:List Frame)(dH:List Nat)(dW:FuncId->List Nat)(V:fN)(Vs:List fN)(w:World)(m':Machine)(T':Trace)(w':World)(bL:cn)(a1:bH)(cl:List bH)(bT:Frame)(dk:List Frame):Prop where
 eG:dD aa base W0 bJ h N m' T' (G bT (dk++cs)) w'
 bE:cz (dR 100) ρ bL
 gX:cE (BH ρ w cH) w w'
 heap:bK aa base w' (i0 L (cH.map (·.1)) (cr bL post))
 new:∀x∈post,w.heap.size≤bL.b x.2.1∨∃y∈cH,ρ.b y.2.1=bL.b x.2.1
 da:fW a1 dH=⟨V.fn,V.nt,V.todo,V.defers,V.mode,V.kind,[],[],V.dx⟩
 fr:dj aa bL a1 bT
 cls:cl.map (fun fr=>fW fr (dW fr.fn))=Vs
 cC:c8 aa bL cl dk
theorem ajp{fr:Frame}{cC cs:List Frame}(A:dD aa base W0 bJ h N m T (G fr (cC++cs)) w)(H:bK aa base w L)(cH post:List (ι×Nat×bM)){bs:List (BE×Bool)}{mem:List (AA×AV)}{n:Nat}{ks:List Nat}{da:bH}{callers:List bH}{dH:List Nat}{dW:FuncId->List Nat}{V:fN}{Vs:List fN}
 (hv:c7 (cO bs mem n ks (cJ da callers (cH.map (·.2)))) dH dW=some (V,Vs))(hV:V.hp=post.map (·.2))(hl:bR 100 (cJ da callers (cH.map (·.2)))=true)(hO:(OO bs [] mem).low 100=true){ρ:cn}(hf:dj aa ρ da fr)(iw:c8 aa ρ callers cC)
 (hb:∀p∈bs,p.1.ev ρ=p.2)(hm:∀p∈mem,lq L (cH.map (·.1)) w base ρ p)(hpre:mo L ρ cH)(zR:(cH.map (·.1)).Nodup)(zn:(post.map (·.2.1)).Nodup)(di:∀x∈cH,∀n,ny bJ (ρ.b x.2.1) n->x.2.2.i_ aa ρ n):
  cm aa m T fun m' T'=>∃w' bL a1 cl bT dk,FS base W0 bJ h N L cH post ρ cs dH dW V Vs w m' T' w' bL a1 cl bT dk:=by
 refine(ajm A (own:=BH ρ w cH) (FQ A H hpre) (fun n hn=>.inl hn) hv hl hO hf iw hb (fun p hp=>FR A H hpre (hm p hp)) (fun p hp=>?_) (fun p hp=>?_) (Ei H hpre zR) (fun p hp n hn=>?_)).mono fun m1 T1 hd=>?_
 ·obtain⟨x,hx,rfl⟩:=aJ.1 hp;obtain⟨k,h1,h2⟩:=hpre x hx;exact SU (H.eG _ _ _ h1) h2
 ·obtain⟨x,hx,rfl⟩:=aJ.1 hp;exact .inr ⟨x,hx,rfl⟩
 ·obtain⟨x,hx,rfl⟩:=aJ.1 hp;exact di x hx n hn
 obtain⟨w',bL,hh,a1,cl,bT,dk,C⟩:=hd;have hhp:hh.hp=post.map (·.2):=C.hp.trans hV;refine⟨w',bL,a1,cl,bT,dk,C.eG,C.bE,C.gX,MZ A C.eG H hpre C.gX C.rel hhp zn,fun x hx=>?_,C.da,C.fr,C.cls,C.cC⟩;have jp:cV x.2.1 hh.hp=some x.2.2:=by rw[hhp];exact FO (by rw[List.map_map];exact zn) (aJ.2 ⟨x,hx,rfl⟩)
 rcases C.rel.qu _ _ jp with h3|⟨hc,h3⟩
 ·exact h3
 ·exfalso;rcases h3 with h3|h3
  ·obtain⟨v,hv⟩:=C.eG.real h3;obtain⟨o,h1,h2⟩:=C.rel.kj _ _ jp;cases hb:x.2.2 with
   |chan=>rw[hb]at h2;have:iI w' (bL.b x.2.1):=KJ h1 h2;exact this.SQ hv
   |_=>rw[hb]at hc;cases hc
  ·exact h3
theorem FS.lone{cH post:List (ι×Nat×bM)}{ρ:cn}{cs:List Frame}{dH:List Nat}{dW:FuncId->List Nat}{V:fN}{m':Machine}{T':Trace}{w':World}{bL:cn}{a1:bH}{cl:List bH}{bT:Frame}{dk:List Frame}(C:FS base W0 bJ h N L cH post ρ cs dH dW V [] w m' T' w' bL a1 cl bT dk):cl=[]∧dk=[]:=by
 obtain rfl:cl=[]:=List.map_eq_nil_iff.1 C.cls;refine⟨rfl,?_⟩;have:=C.cC;cases dk with
 |nil=>rfl
 |cons a b=>exact this.elim
theorem FT{fr:Frame}{cC cs:List Frame}(A:dD aa base W0 bJ h N m T (G fr (cC++cs)) w)(H:bK aa base w L)(cH post:List (ι×Nat×bM)){bs:List (BE×Bool)}{mem:List (AA×AV)}{n:Nat}{ks:List Nat}{da:bH}{callers:List bH}{c':dw}
 (hv:cO bs mem n ks (cJ da callers (cH.map (·.2)))=.ok c')(hV:c'.h.hp=post.map (·.2))(hl:bR 100 (cJ da callers (cH.map (·.2)))=true)(hO:(OO bs [] mem).low 100=true){ρ:cn}(hf:dj aa ρ da fr)(iw:c8 aa ρ callers cC)
 (hb:∀p∈bs,p.1.ev ρ=p.2)(hm:∀p∈mem,lq L (cH.map (·.1)) w base ρ p)(hpre:mo L ρ cH)(zR:(cH.map (·.1)).Nodup)(zn:(post.map (·.2.1)).Nodup)(di:∀x∈cH,∀n,ny bJ (ρ.b x.2.1) n->x.2.2.i_ aa ρ n):
  cm aa m T fun m' T'=>∃a' w' bL U',dD aa base W0 bJ h N m' T' a' w'∧cz (dR 100) ρ bL∧cE (BH ρ w cH) w w'∧kD U' c'∧jv aa bL c' cs a'∧bK aa base w' (i0 L (cH.map (·.1)) (cr bL post)):=by
 refine(ajo A (own:=BH ρ w cH) (FQ A H hpre) (fun n hn=>.inl hn) hv hl hO hf iw hb (fun p hp=>FR A H hpre (hm p hp)) (fun p hp=>?_) (fun p hp=>?_) (Ei H hpre zR) (fun p hp n hn=>?_)).mono fun m1 T1 hd=>?_
 ·obtain⟨x,hx,rfl⟩:=aJ.1 hp;obtain⟨k,h1,h2⟩:=hpre x hx;exact SU (H.eG _ _ _ h1) h2
 ·obtain⟨x,hx,rfl⟩:=aJ.1 hp;exact .inr ⟨x,hx,rfl⟩
 ·obtain⟨x,hx,rfl⟩:=aJ.1 hp;exact di x hx n hn
 obtain⟨a',w',bL,U',A',Ag,kp,I,Γ,Rl⟩:=hd;exact⟨a',w',bL,U',A',Ag,kp,I,Γ,MZ A A' H hpre kp Rl hV zn⟩
end
end Go.Proofs.Ythaddgfbohmfoaa
namespace Go.Proofs.Ythaddgfbohmfoaa.SX
open Go.Conc
open _root_.List renaming mem_cons->ac,mem_singleton->ad,all_eq_true->aO,mem_filter->aU
open _root_.Nat renaming eq_of_beq_eq_true->aI,lt_or_ge->bo
open _root_.Bool renaming and_eq_true->ax
open _root_.Array renaming getElem?_eq_getElem->aT
noncomputable def SW(P:Program)(O:dP)(ext:Ext)(nt:Nat)(ops:Array Oper)(dO:List lJ)(tmps:TT)(h:AH):Option (Nat×List Nat×Nat×TT):=
 match dO.filter fun x=>!x.2.2.2 with
 |[x]=>match Nat.ble ops.size 65536&&jx ops dO with
  |false=>none
  |true=>match po P O ext nt ops (ij h) dO [] 0 tmps with
   |.error _=>none
   |.ok (s,m,t)=>match v2 m x&&(dO.all fun y=>Nat.beq y.1 x.1||(match pR m y.1 with
     |true=>pR (nu dO x.2.2.1) y.1
     |false=>!v2 m y))&&pS P O ext nt ops m t (ij h) dO with
    |true=>some (x.1,s,m,t)
    |false=>none
 |_=>none
noncomputable def KK(P:Program)(O:dP)(ext:Ext)(nt:Nat)(ops:Array Oper)(dO:List lJ)(s:List Nat)(m:Nat)(t:TT)(h:AH):Option TT:=
 match jx ops dO with
 |false=>none
 |true=>match po P O ext nt ops (ij h) dO s m t with
  |.error _=>none
  |.ok (_,m3,t3)=>match(dO.all fun y=>pR m3 y.1)&&pS P O ext nt ops (JL dO m3) t3 (ij h) dO with
   |true=>some t3
   |false=>none
structure KM(ops:Array Oper)(j:Nat)(s:List Nat)(m:Nat)(l:List Nat):Prop where
 ex:∃r,(∀a,a∈r↔a∈s)∧wE ops (j::r)∧iq ops (j::r) l
 cons:ut (j::s) (xE m j)
 A9:pe ops (j::s)
section
variable {K:ik}{main:Bool}{nt:Nat}{ops:Array Oper}{k:List Item}
theorem Ej:kz K main (fun _ _ _=>.error "no call"):=fun _ _ _ _ h=>by cases h
theorem SY(Gd:K.Good)(F:K.il){ext:Ext}(X:ib K ext){tmps t:TT}{h:AH}{j m:Nat}{s:List Nat}{id:Nat}(he:SW K.P K.O ext nt ops (dm ops) tmps h=some (j,s,m,t)){fn:FuncId}{defers:List AD}{kind:CallKind}{callers:List bH}
 {U:Nat->Prop}{ρ:cn}{cs:List Frame}{g:Goroutine}{w:World}(I:gq K U ⟨⟨fn,nt,tmps,.code (.region id ops true)::k,defers,.run,kind⟩,callers,h⟩)(Γ:rh K ρ ⟨⟨fn,nt,tmps,.code (.region id ops true)::k,defers,.run,kind⟩,callers,h⟩ cs g w):
  dy K.P main (DK K) (fun g' w'=>∃l bL,KM ops j s m l∧cz U ρ bL∧cE K.own w w'∧gq K U ⟨⟨fn,nt,t,.inRegion ops (j::l)::k,defers,.run,kind⟩,callers,h⟩∧rh K bL ⟨⟨fn,nt,t,.inRegion ops (j::l)::k,defers,.run,kind⟩,callers,h⟩ cs g' w') 0 g w:=by
 unfold SW at he;split at he
 ·rename_i x hx;split at he
  ·cases he
  ·rename_i hb;simp only[ax]at hb;obtain⟨J9,Fj⟩:=hb;split at he
   ·cases he
   ·rename_i s0 m0 t0 ub;split at he
    ·rename_i hz;simp only[ax]at hz;obtain⟨⟨z1,z2⟩,z3⟩:=hz;cases he;have rW:=vn Γ;have S:=li rW (fun _ x=>x) AY (show pe ops []from trivial) ub;have hxm:x∈dm ops:=(aU.1 (show x∈(dm ops).filter fun x=>!x.2.2.2 by rw[hx];exact ad.2 rfl)).1;obtain⟨j,oj,Xg,rfl⟩:=fy.1 hxm;dsimp only at z1 z2⊢;have Km:j∈cZ ops s:=(nO S.cons Xg).1 z1;have hjs:j∉s:=(dL Km).2;rw[aO]at z2;have HF:∀i,i<ops.size->i≠j->(i∈s∧pR (nu (dm ops) (iz oj.after.toList)) i=true)∨(i∉s∧i∉cZ ops s):=by
      intro i hi df;have KF:ops[i]?=some ops[i]:=aT hi;have:=z2 _ (fy.2 ⟨i,ops[i],KF,rfl⟩);simp only[Bool.or_eq_true]at this;rcases this with h1|h1
      ·exact absurd (aI h1) df
      ·cases hm:pR m i with
       |true=>rw[hm]at h1;exact .inl ⟨(S.cons i).1 hm,h1⟩
       |false=>
        rw[hm]at h1;refine .inr ⟨fun hs=>?_,fun hr=>?_⟩
        ·rw[(S.cons i).2 hs]at hm;cases hm
        ·have:=(nO S.cons KF).2 hr;rw[this]at h1;cases h1
     refine(dy.trans (m:=0) (fun g' w' ⟨q,kp,vj⟩=>?_) (ua (main:=main) F Γ)).any;have I0:gq K U ⟨⟨fn,nt,tmps,.inRegion ops (Region.schedule true ops q)::k,defers,.run,kind⟩,callers,ij h⟩:=
      ⟨⟨I.da.tmps,I.da.defers,trivial⟩,I.callers,⟨I.iC.hp,I.iC.keys,I.iC.nodup,fun n h1 h2=>(by simp[ij]at h2),I.iC.zE⟩⟩
     refine(Sb Gd F X Ej Fj S.cons z3 (lK.begin S) (jE ops q) (fun i hi=>by cases hi) I0 vj).d_ fun g2 w2 p=>?_;obtain⟨r',DV,l',rn,dn,N,sc,A2,R5,I2,Γ2,hl⟩:=p;rcases hl with rfl|⟨i,l2,rfl,hi⟩
     ·have:=(N.over S.A9 sc).2.1;rw[this]at Km;cases Km
     ·have Dc:=sc.1;have hrs:i∈cZ ops s:=by
       obtain⟨_,o,ho,hp⟩:=fL.1 Dc;exact fL.2 ⟨hi,o,ho,fun e he hbb=>N.sub _ (hp e he hbb)⟩
      have hij:i=j:=Classical.byContradiction fun df=>by
       rcases HF i (dL Dc).1 df with h1|h1
       ·exact hi h1.1
       ·exact h1.2 hrs
      subst hij;have hpr:∀a,pR (iz oj.after.toList) a=true->a∈r':=by intro a ha;obtain⟨e,he,hbb,rfl⟩:=oH.1 ha;obtain⟨_,o',vm,hp⟩:=fL.1 Dc;rw[Xg]at vm;cases vm;exact hp e he hbb
      have jc:∀a,a∈s->a∈r':=fun a ha=>by
       have dU:a<ops.size:=S.A9.lt a ha;rcases HF a dU (fun e=>hjs (e▸ha))with h1|h1
       ·exact vo dn (fun _ x=>x) hpr a h1.2
       ·exact absurd ha h1.1
      have eL:∀n,DV.get n=t.get n:=fun n=>by
       rcases bo n nt with dU|qB
       ·exact N.eL n dU fun⟨a,o,h1,h2,h3,h4⟩=>h2 (jc a h1)
       ·exact N.out n qB
      have I3:=zK eL I2;exact⟨l2,rn,⟨⟨r',fun a=>⟨N.sub a,jc a⟩,dn.cons Dc,sc.2⟩,S.cons.add,⟨Km,S.A9⟩⟩,A2,kp.trans R5,⟨I3.da,I3.callers,I.iC⟩,Fz eL Γ2⟩
    ·cases he
 ·cases he
theorem Pe(Gd:K.Good)(F:K.il){ext:Ext}(X:ib K ext){t t3:TT}{h:AH}{j m:Nat}{s l:List Nat}(he:KK K.P K.O ext nt ops (dm ops) (j::s) (xE m j) t h=some t3)(hl:KM ops j s m l){fn:FuncId}{defers:List AD}{kind:CallKind}{callers:List bH}
 {U:Nat->Prop}{ρ:cn}{cs:List Frame}{g:Goroutine}{w:World}(I:gq K U ⟨⟨fn,nt,t,.inRegion ops l::k,defers,.run,kind⟩,callers,h⟩)(Γ:rh K ρ ⟨⟨fn,nt,t,.inRegion ops l::k,defers,.run,kind⟩,callers,h⟩ cs g w):
  dy K.P main (DK K) (fun g' w'=>∃bL,cz U ρ bL∧cE K.own w w'∧gq K U ⟨⟨fn,nt,t3,.inRegion ops []::k,defers,.run,kind⟩,callers,h⟩∧rh K bL ⟨⟨fn,nt,t3,.inRegion ops []::k,defers,.run,kind⟩,callers,h⟩ cs g' w') 0 g w:=by
 unfold KK at he;split at he
 ·cases he
 rename_i hok;split at he
 ·cases he
 rename_i s3 m3 t3' ub;split at he
 rotate_left
 ·cases he
 rename_i hz;cases he;simp only[ax]at hz;obtain⟨z1,z2⟩:=hz;obtain⟨r,hr,dn,sc⟩:=hl.ex;have S:=li (vn Γ) (fun _ x=>x) hl.cons hl.A9 ub;have hrj:∀a,a∈j::r↔a∈j::s:=fun a=>by rw[ac,ac,hr a]
 have N:lK ops nt s3 (j::r) t3 t:=by refine⟨fun i hi=>S.sub i ((hrj i).1 hi),fun i hi hn=>S.k7 i hi fun h=>hn ((hrj i).2 h),fun n dU hn=>(S.eL n fun⟨i,o,h1,h2,h3,h4,h5⟩=>hn ⟨i,o,h1,fun h=>h2 ((hrj i).1 h),h3,h4⟩).symm,fun n qB=>(S.eL n fun⟨i,o,h1,h2,h3,h4,h5⟩=>absurd h5 (Nat.not_lt.2 qB)).symm,dn⟩
 have apV:∀i,i<ops.size->i∈s3:=fun i hi=>by have:=aO.1 z1 _ (fy.2 ⟨i,ops[i],aT hi,rfl⟩);exact(S.cons i).1 this
 have I0:gq K U ⟨⟨fn,nt,t,.inRegion ops l::k,defers,.run,kind⟩,callers,ij h⟩:=
  ⟨⟨I.da.tmps,I.da.defers,trivial⟩,I.callers,⟨I.iC.hp,I.iC.keys,I.iC.nodup,fun n h1 h2=>(by simp[ij]at h2),I.iC.zE⟩⟩
 refine(Xj Gd F X Ej hok S.cons z2 N sc I0 Γ).d_ fun g2 w2 p=>?_;obtain⟨r',DV,l',rn,N2,sc2,A2,R5,I2,Γ2,Fx⟩:=p;have hl0:l'=[]:=by
  rcases Fx with h|⟨i,l'',rfl,hi⟩
  ·exact h
  ·exact absurd (apV i (dL sc2.1).1) hi
 subst hl0;have eL:=(N2.over S.A9 sc2).2.2;have I3:=zK eL I2;exact⟨rn,A2,R5,⟨I3.da,I3.callers,I.iC⟩,Fz eL Γ2⟩
end
end Go.Proofs.Ythaddgfbohmfoaa.SX
namespace Go.Proofs.Ythaddgfbohmfoaa
open Go.Proofs.Ythaddgfbohmfoaa.SX Go.Conc
open Go.Proofs.Try renaming prog->aa
open _root_.List renaming all_eq_true->aO
open _root_.Bool renaming and_eq_true->ax
namespace Fn
noncomputable abbrev step:Func:=Try.f11
noncomputable abbrev run:Func:=Try.f12
noncomputable abbrev yd:Func:=Try.f33
noncomputable abbrev M0:Func:=Try.f37
noncomputable abbrev pick:Func:=Try.f38
noncomputable abbrev report:Func:=Try.f39
noncomputable abbrev XL:Func:=Try.f46
noncomputable abbrev begin:Func:=Try.f61
noncomputable abbrev ajq:Func:=Try.f62
noncomputable abbrev goes:Func:=Try.f63
noncomputable abbrev rk:Func:=Try.f64
noncomputable abbrev child:Func:=Try.f76
noncomputable abbrev nz:Func:=Try.f77
end Fn
abbrev pK:Nat:=11
abbrev wT:Nat:=12
abbrev mG:Nat:=33
abbrev kc:Nat:=37
abbrev oO:Nat:=38
abbrev mH:Nat:=39
abbrev wU:Nat:=46
abbrev j5:Nat:=61
abbrev M1:Nat:=62
abbrev wV:Nat:=63
abbrev rY:Nat:=64
abbrev ed:Nat:=76
abbrev oQ:Nat:=77
abbrev ke:Nat:=3
abbrev lV:Nat:=4
abbrev g9:Nat:=30
abbrev tFn:Nat:=35
abbrev dQ:Nat:=61
abbrev wW:Nat:=75
abbrev mU:Nat:=78
abbrev gK:Nat:=87
inductive RK where
 |run|map|XM|rZ|db|cp|ready
 |lW(j:Nat)|c2(j:Nat)|c3(j:Nat)|c5(j:Nat)|wk(j:Nat)|sd(j:Nat)|gG(j:Nat)
 |app(k j:Nat)
 |dN
 deriving DecidableEq
abbrev cD:=Nat×RK
abbrev cg:=cD->Option (Nat×fK)
def Ek:cD->Bool
 |(_,.lW _)=>true
 |_=>false
def Pf:cD->Bool
 |(_,.c5 _)=>true
 |_=>false
def cb(b:Nat):Value:=.pointer (some ⟨b,0,none⟩)
def iV(n:Int):Value:=.int .i64 n
def fO:Value:=.slice none 0 0
def c_(i b c:Nat):Value:=match i with
 |0=>fO
 |i+1=>.slice (some ⟨b,0,none⟩) (i+1) c
theorem cy{i b c:Nat}(h:0<i):c_ i b c=.slice (some ⟨b,0,none⟩) i c:=by
 cases i with
 |zero=>omega
 |succ i=>rfl
structure FU where
 T:Nat
 c2:Nat
 c3:Nat
 c5:Nat
 wk:Nat
 sd:Nat
 gn:Nat
structure Tst where
 v:Value
 a:List Value
 e:Bool
structure GS where
 n:Nat
 th:Nat->FU
 ts:Nat->Tst
 f:Nat->Value
 dz:Nat->Bool
 db:List Value
 cp:List Nat
 ready:List Nat
 mp:List (Value×Value)
 dJ:Bool
 gG:Nat->Option (Nat×List Value)
 R:Nat
 MB:Nat
 TA:Nat
 cT:Nat
 FA:Nat
 cF:Nat
 LA:Nat
 cL:Nat
 WA:Nat
 cW:Nat
 RA:Nat
 cR:Nat
def runV(ta mb l w r fa:Value)(s:Bool):List Value:=[ta,mb,l,w,r,fa,.bool s]
def GS.runV(G:GS):List Value:=Go.Proofs.Ythaddgfbohmfoaa.runV (c_ G.n G.TA G.cT) (.map (some G.MB)) (c_ (G.db.length / 8) G.LA G.cL) (c_ G.cp.length G.WA G.cW) (c_ G.ready.length G.RA G.cR) (c_ G.n G.FA G.cF) G.dJ
def fA(R j:Nat)(t:FU)(x:Tst):List Value:=[cb R,iV j,.chan (some t.wk),.chan (some t.sd),x.v]++x.a++[.bool x.e]
def apW:List Value:=[iV 0,.int .i8 0,iV 0,iV 0,iV 0,iV 0,iV 0,.bool false]
def Pg:Tst:=⟨.pointer none,apW,false⟩
def fH(l:List Nat):List Value:=l.map fun n:Nat=>iV (n:Int)
def zT(G:GS):List Value:=(List.range G.n).map fun j=>cb (G.th j).T
def yQ(G:GS):List Value:=(List.range G.n).map fun j=>.bool (G.dz j)
def eo(G:GS):RK->Option (Nat×fK)
 |.run=>some (G.R,.obj gK G.runV)
 |.map=>some (G.MB,.map G.mp)
 |.XM=>if G.n=0 then none else some (G.TA,.fF g9 G.cT (zT G))
 |.rZ=>if G.n=0 then none else some (G.FA,.fF lV G.cF (yQ G))
 |.db=>if G.db=[]then none else some (G.LA,.fF dQ G.cL G.db)
 |.cp=>if G.cp=[]then none else some (G.WA,.fF ke G.cW (fH G.cp))
 |.ready=>if G.ready=[]then none else some (G.RA,.fF ke G.cR (fH G.ready))
 |.lW j=>if j<G.n then some ((G.th j).T,.obj mU (fA G.R j (G.th j) (G.ts j)))else none
 |.c2 j=>if j<G.n then some ((G.th j).c2,.obj wW [cb G.R])else none
 |.c3 j=>if j<G.n then some ((G.th j).c3,.obj tFn [G.f j])else none
 |.c5 j=>if j<G.n then some ((G.th j).c5,.obj g9 [cb (G.th j).T])else none
 |.wk j=>if j<G.n then some ((G.th j).wk,.chan)else none
 |.sd j=>if j<G.n then some ((G.th j).sd,.chan)else none
 |.gG j=>(G.gG j).map fun p=>(p.1,.obj dQ p.2)
 |.app _ _=>none
 |.dN=>none
def ci(x:Nat)(G:GS)(L0:cg):cg:=fun r=>match r.2 with
 |.app _ _=>L0 r
 |k=>if r.1=x then eo G k else L0 r
def cw(L:cg)(bJ:Nat->Option Tok.Seat):Prop:=∀b n,ny bJ b n->∃r k,L r=some (b,k)∧((Ek r=true∧(n=2∨n=3))∨Pf r=true)
section
variable {base:Nat}{W0:World}{bJ:Nat->Option Tok.Seat}{h N:Nat}{m:Machine}{T:Trace}{w:World}{L:cg}
def BI(x:cD×Nat×bM):Bool:=!Pf x.1&&(!Ek x.1||(x.2.2.l9 2&&x.2.2.l9 3))
theorem BK{w:World}(H:bK aa base w L)(hS:cw L bJ){ρ:cn}{cH:List (cD×Nat×bM)}(hpre:mo L ρ cH)(hl:cH.all BI=true):∀x∈cH,∀n,ny bJ (ρ.b x.2.1) n->x.2.2.i_ aa ρ n:=fun x hx n hn=>by
 obtain⟨r,k,h1,h3⟩:=hS _ _ hn;obtain⟨k',h4,_⟩:=hpre x hx;have e:x.1=r:=H.inj _ _ _ _ _ h4 h1;have hb:=aO.1 hl x hx;unfold BI at hb;rw[e]at hb;simp only[ax]at hb;rcases h3 with⟨h2,h3⟩|h5
 ·have Fj:=hb.2;rw[h2]at Fj;simp only[Bool.not_true,Bool.false_or,ax]at Fj;rcases h3 with rfl|rfl
  ·exact xH Fj.1
  ·exact xH Fj.2
 ·rw[h5]at hb;exact absurd hb.1 (by decide)
theorem SZ{fr:Frame}{cC cs:List Frame}(A:dD aa base W0 bJ h N m T (G fr (cC++cs)) w)(H:bK aa base w L)(hS:cw L bJ)(cH post:List (cD×Nat×bM)){bs:List (BE×Bool)}{mem:List (AA×AV)}{n:Nat}{ks:List Nat}{da:bH}{callers:List bH}{dH:List Nat}{dW:FuncId->List Nat}{V:fN}{Vs:List fN}
 (hv:c7 (cO bs mem n ks (cJ da callers (cH.map (·.2)))) dH dW=some (V,Vs))(hV:V.hp=post.map (·.2))(hl:bR 100 (cJ da callers (cH.map (·.2)))=true)(hO:(OO bs [] mem).low 100=true){ρ:cn}(hf:dj aa ρ da fr)(iw:c8 aa ρ callers cC)
 (hb:∀p∈bs,p.1.ev ρ=p.2)(hm:∀p∈mem,lq L (cH.map (·.1)) w base ρ p)(hpre:mo L ρ cH)(zR:(cH.map (·.1)).Nodup)(zn:(post.map (·.2.1)).Nodup)(S0:cH.all BI=true):
  cm aa m T fun m' T'=>∃w' bL a1 cl bT dk,FS base W0 bJ h N L cH post ρ cs dH dW V Vs w m' T' w' bL a1 cl bT dk:=
 ajp A H cH post hv hV hl hO hf iw hb hm hpre zR zn (BK H hS hpre S0)
end
end Go.Proofs.Ythaddgfbohmfoaa
namespace Go.Proofs.Ythaddgfbohmfoaa.SX
open Go.Conc
open _root_.List renaming mem_cons->ac,map_cons->ah,mem_map->aJ
open _root_.Nat renaming eq_of_beq_eq_true->aI
open _root_.Array renaming getElem?_eq_getElem->aT,getD_eq_getD_getElem?->be
structure tw(P:Program)(fn:FuncId)(nt:Nat)(todo:List Item)(ds:List Deferred)(kind:CallKind)(lv:List (Nat×Value))(fr:Frame):Prop where
 ex:∃tm,fr=(iD fn kind).at ⟨tm,ds⟩ todo∧tm.size=nt∧∀p∈lv,tm.getD p.1 undef=p.2
 le:nt≤60000
 fn:∃f,P.funcs[fn]?=some f
def bU(fr:Frame)(n:Nat):Value:=fr.tmps.getD n undef
def gz(ρ:cn)(lv:List (Nat×AV)):List (Nat×Value):=lv.map fun p=>(p.1,p.2.ev ρ)
section
variable {P:Program}{ρ:cn}{fn:FuncId}{nt:Nat}{todo:List Item}{ds:List Deferred}{kind:CallKind}{lv:List (Nat×Value)}{fr:Frame}
theorem tw.sub(h:tw P fn nt todo ds kind lv fr){lv':List (Nat×Value)}(hs:∀p∈lv',p∈lv):tw P fn nt todo ds kind lv' fr:=by obtain⟨⟨tm,h1,h2,h3⟩,h4,h5⟩:=h;exact⟨⟨tm,h1,h2,fun p hp=>h3 p (hs p hp)⟩,h4,h5⟩
theorem qH{tm:Array Value}(hsz:tm.size=nt)(hle:nt≤60000){lA:List (Nat×AV)}(h:∀p∈gz ρ lA,tm.getD p.1 undef=p.2):pV ρ nt (bZ nt (fun n=>tm.getD n undef) lA) tm:=by
 refine⟨hsz,hle,fun n hn=>?_,fun n hn=>?_⟩
 ·rw[BB hle,if_pos hn];have hg:tm[n]?=some (tm.getD n undef):=by
   rw[be];rw[aT (by omega)];rfl
  rw[hg];cases e:look (fun a b=>Nat.beq a b) n lA with
  |none=>simp[AV.ev]
  |some a=>obtain⟨x,hx,he⟩:=iv e;obtain rfl:=aI he;have:=h (n,a.ev ρ) (aJ.2 ⟨(n,a),hx,rfl⟩);dsimp only at this;rw[this];rfl
 ·rw[BB hle,if_neg (by omega)]
theorem tw.rel(h:tw P fn nt todo ds kind lv fr)(hk:ic kind)(lA:List (Nat×AV))(hl:gz ρ lA=lv){dA:List AD}(hd:dA.map (AD.ev ρ)=ds):dj P ρ ⟨fn,nt,bZ nt (bU fr) lA,todo,dA,.run,kind⟩ fr:=by obtain⟨⟨tm,rfl,h2,h3⟩,h4,h5⟩:=h;subst hl;refine⟨tm,todo,⟨qH h2 h4 h3,.inl hk,fun _=>rfl,h5⟩,?_⟩;unfold dS;dsimp only;rw[lh hk,hd];rfl
theorem tw.yR(h:tw P fn nt todo ds .normal lv fr)(hb:ρ.bt=(none,ds))(lA:List (Nat×AV))(hl:gz ρ lA=lv):dj P ρ ⟨fn,nt,bZ nt (bU fr) lA,todo,[],.run,.wrapped⟩ fr:=by obtain⟨⟨tm,rfl,h2,h3⟩,h4,h5⟩:=h;subst hl;refine⟨tm,todo,⟨qH h2 h4 h3,.inr rfl,fun _=>rfl,h5⟩,?_⟩;unfold dS bB aB dB;rw[hb];rfl
theorem BL{t:TT}:∀{dH:List Nat} {p:Nat×Value},p∈dH.zip (AV.cf ρ (dH.map fun n=>t.get n))->p.2=(t.get p.1).ev ρ
 |[],p,h=>by cases h
 |n::l,p,h=>by
  simp only[ah,AV.cf,List.zip_cons_cons,ac]at h;rcases h with rfl|h
  ·rfl
  ·exact BL h
theorem tw.of{a:bH}{dH:List Nat}{dx:List AV}{dA:List AD}(h:dj P ρ a fr)(s:fW a dH=⟨fn,nt,todo,dA,.run,kind,[],[],dx⟩)(hk:ic kind):tw P fn nt todo (dA.map (AD.ev ρ)) kind (dH.zip (AV.cf ρ dx)) fr:=by
 obtain⟨fn',nt',t,todo',ds',mode,uK⟩:=a;simp only[fW,fN.mk.injEq]at s;obtain⟨rfl,rfl,rfl,rfl,rfl,rfl,_,_,rfl⟩:=s;obtain⟨tm,td,i,rfl⟩:=h;refine⟨⟨tm,?_,i.tmps.size,fun p hp=>?_⟩,i.tmps.le,i.fn⟩
 ·have ht:td=todo':=i.todo rfl;unfold dS;dsimp only;rw[lh hk,ht];rfl
 ·rw[BL hp];exact i.tmps.getD p.1
theorem tw.adP{a:bH}{dH:List Nat}{dx:List AV}(h:dj P ρ a fr)(s:fW a dH=⟨fn,nt,todo,[],.run,.wrapped,[],[],dx⟩)(hb:ρ.bt=(none,ds)):tw P fn nt todo ds .normal (dH.zip (AV.cf ρ dx)) fr:=by
 obtain⟨fn',nt',t,todo',ds',mode,uK⟩:=a;simp only[fW,fN.mk.injEq]at s;obtain⟨rfl,rfl,rfl,rfl,rfl,rfl,_,_,rfl⟩:=s;obtain⟨tm,td,i,rfl⟩:=h;refine⟨⟨tm,?_,i.tmps.size,fun p hp=>?_⟩,i.tmps.le,i.fn⟩
 ·have ht:td=todo':=i.todo rfl;unfold dS bB aB dB;dsimp only;rw[hb,ht];rfl
 ·rw[BL hp];exact i.tmps.getD p.1
end
end Go.Proofs.Ythaddgfbohmfoaa.SX
namespace Go.Proofs.Ythaddgfbohmfoaa
open Go.Proofs.Ythaddgfbohmfoaa.SX Go.Conc
open Go.Proofs.Try renaming prog->aa
open _root_.List renaming map_cons->ah
open _root_.Bool renaming and_eq_true->ax
abbrev FA:=tw aa
def M3:ia->Bool
 |.run=>true
 |_=>false
def kr:CallKind->Bool
 |.normal=>true
 |.deferred=>true
 |_=>false
theorem mV{k:CallKind}(h:kr k=true):ic k:=by cases k<;>first|exact .inl rfl|exact .inr rfl|cases h
def adQ(ρ:cn)(dW:FuncId->List Nat):List fN->List Frame->Prop
 |[],[]=>True
 |V::Vs,f::fs=>FA V.fn V.nt V.todo (V.defers.map (AD.ev ρ)) V.kind ((dW V.fn).zip (AV.cf ρ V.dx)) f∧adQ ρ dW Vs fs
 |_,_=>False
def wX(V:fN):Bool:=M3 V.mode&&kr V.kind
theorem M4{ρ:cn}{dW:FuncId->List Nat}:∀{cl:List bH} {Vs:List fN} {fs:List Frame},cl.map (fun fr=>fW fr (dW fr.fn))=Vs->c8 aa ρ cl fs->Vs.all wX=true->adQ ρ dW Vs fs
 |[],_,fs,h,hr,_=>by
  subst h;cases fs with
  |nil=>exact trivial
  |cons a b=>exact hr.elim
 |a::cl,_,fs,h,hr,ha=>by
  subst h;cases fs with
  |nil=>exact hr.elim
  |cons f fs=>
   simp only[ah,List.all_cons,ax]at ha;refine⟨?_,M4 rfl hr.2 ha.2⟩;have h1:=ha.1;simp only[wX,ax]at h1;refine tw.of (dH:=dW a.fn) hr.1 ?_ (mV h1.2);have hm:a.mode=.run:=by have:=h1.1;cases e:a.mode<;>first|rfl|(simp[fW,e,M3]at this)
   simp only[fW,hm]
section
variable {base:Nat}{W0:World}{bJ:Nat->Option Tok.Seat}{h N:Nat}{m:Machine}{T:Trace}{w:World}{L:cg}
structure BM(base:Nat)(W0:World)(bJ:Nat->Option Tok.Seat)(h N:Nat)(L:cg)(cH post:List (cD×Nat×bM))(ρ:cn)(cs:List Frame)(dH:List Nat)(dW:FuncId->List Nat)(V:fN)(Vs:List fN)(w:World)(m':Machine)(T':Trace)(w':World)(bL:cn)(bT:Frame)(dk:List Frame):Prop where
 eG:dD aa base W0 bJ h N m' T' (G bT (dk++cs)) w'
 bE:cz (dR 100) ρ bL
 gX:cE (BH ρ w cH) w w'
 heap:bK aa base w' (i0 L (cH.map (·.1)) (cr bL post))
 new:∀x∈post,w.heap.size≤bL.b x.2.1∨∃y∈cH,ρ.b y.2.1=bL.b x.2.1
 fr:FA V.fn V.nt V.todo (V.defers.map (AD.ev bL)) V.kind (dH.zip (AV.cf bL V.dx)) bT
 cC:adQ bL dW Vs dk
theorem cQ{fr:Frame}{cC cs:List Frame}(A:dD aa base W0 bJ h N m T (G fr (cC++cs)) w)(H:bK aa base w L)(hS:cw L bJ)(cH post:List (cD×Nat×bM)){bs:List (BE×Bool)}{mem:List (AA×AV)}{n:Nat}{ks:List Nat}{da:bH}{callers:List bH}{dH:List Nat}{dW:FuncId->List Nat}{V:fN}{Vs:List fN}
 (hv:c7 (cO bs mem n ks (cJ da callers (cH.map (·.2)))) dH dW=some (V,Vs))(hV:V.hp=post.map (·.2))(hV':(V::Vs).all wX=true)(hl:bR 100 (cJ da callers (cH.map (·.2)))=true)(hO:(OO bs [] mem).low 100=true){ρ:cn}(hf:dj aa ρ da fr)(iw:c8 aa ρ callers cC)
 (hb:∀p∈bs,p.1.ev ρ=p.2)(hm:∀p∈mem,lq L (cH.map (·.1)) w base ρ p)(hpre:mo L ρ cH)(zR:(cH.map (·.1)).Nodup)(zn:(post.map (·.2.1)).Nodup)(S0:cH.all BI=true):
  cm aa m T fun m' T'=>∃w' bL bT dk,BM base W0 bJ h N L cH post ρ cs dH dW V Vs w m' T' w' bL bT dk:=by
 simp only[List.all_cons,ax]at hV';have h1:=hV'.1;simp only[wX,ax]at h1;refine(SZ A H hS cH post hv hV hl hO hf iw hb hm hpre zR zn S0).mono fun m1 T1 hd=>?_;obtain⟨w',bL,a1,cl,bT,dk,C⟩:=hd;refine⟨w',bL,bT,dk,C.eG,C.bE,C.gX,C.heap,C.new,?_,M4 C.cls C.cC hV'.2⟩;have hm:V.mode=.run:=by have:=h1.1;cases e:V.mode<;>first|rfl|(simp[e,M3]at this)
 have hc:=C.da;rw[hm]at hc;exact tw.of C.fr hc (mV h1.2)
theorem BM.none{cH post:List (cD×Nat×bM)}{ρ:cn}{cs:List Frame}{dH:List Nat}{dW:FuncId->List Nat}{V:fN}{m':Machine}{T':Trace}{w':World}{bL:cn}{bT:Frame}{dk:List Frame}(C:BM base W0 bJ h N L cH post ρ cs dH dW V [] w m' T' w' bL bT dk):dk=[]:=by
 have:=C.cC;cases dk with
 |nil=>rfl
 |cons a b=>exact this.elim
theorem BM.one{cH post:List (cD×Nat×bM)}{ρ:cn}{cs:List Frame}{dH:List Nat}{dW:FuncId->List Nat}{V V1:fN}{m':Machine}{T':Trace}{w':World}{bL:cn}{bT:Frame}{dk:List Frame}(C:BM base W0 bJ h N L cH post ρ cs dH dW V [V1] w m' T' w' bL bT dk):∃f,dk=[f]∧FA V1.fn V1.nt V1.todo (V1.defers.map (AD.ev bL)) V1.kind ((dW V1.fn).zip (AV.cf bL V1.dx)) f:=by
 have:=C.cC;cases dk with
 |nil=>exact this.elim
 |cons a b=>
  cases b with
  |nil=>exact⟨a,rfl,this.1⟩
  |cons c d=>exact this.2.elim
end
theorem jj{L:cg}{drop:List cD}{new:List (cD×Nat×fK)}{r:cD}(h:r∉drop)(hn:∀x∈new,x.1≠r):i0 L drop new r=L r:=by
 unfold i0;have:new.find? (fun x=>decide (x.1=r))=none:=List.find?_eq_none.2 fun x hx=>by simpa using hn x hx
 rw[this];simp[h]
theorem bX{L:cg}{drop:List cD}{new:List (cD×Nat×fK)}{r:cD}{x:Nat×fK}(h:new.find? (fun x=>decide (x.1=r))=some (r,x)):i0 L drop new r=some x:=by unfold i0;rw[h]
inductive JC where
 |none|pM|add|ajt
 deriving DecidableEq
noncomputable def JC.av:JC->AV
 |.none=>.nilFunc
 |.pM=>.func (.func 65) [] [bF 11,bF 12]
 |.add=>.func (.func 32) [] [bF 11]
 |.ajt=>.func (.func 22) [] [bF 11,bF 12,bF 16,bF 17,bF 18]
noncomputable def KN(b:Nat)(l c:IE):AV:=.slice (some ⟨.cN b,.lit 0⟩) l c
noncomputable def M5(z:Bool):List AV:=match z with
 |true=>[eU,.ez 60,.ez 61,.ez 62,.ez 63,eU,.ez 64]
 |false=>[KN 20 (v 2) (v 22),.ez 60,.ez 61,.ez 62,.ez 63,KN 21 (v 2) (v 23),.ez 64]
noncomputable def FV(z:Bool):List AV:=match z with
 |true=>[KN 151 (.lit 1) (v 151),.ez 60,.ez 61,.ez 62,.ez 63,KN 153 (.lit 1) (v 153),.ez 64]
 |false=>[KN 151 (.plus (.tn (v 2)) (.lit 1)) (v 151),.ez 60,.ez 61,.ez 62,.ez 63,KN 153 (.plus (.tn (v 2)) (.lit 1)) (v 153),.ez 64]
noncomputable def apY:List AV:=[i64 (.lit 0),.int .i8 (.lit 0),i64 (.lit 0),i64 (.lit 0),i64 (.lit 0),i64 (.lit 0),i64 (.lit 0),ff]
noncomputable def S5(z:Bool):IE:=match z with
 |true=>.lit 0
 |false=>.tn (v 2)
noncomputable def S6(z:Bool):List AV:=[bF 10,i64 (S5 z),uS 126,uS 130,.ptr none]++apY++[ff]
noncomputable def adS(z:Bool):List (Nat×bM):=match z with
 |true=>[(10,.cells (M5 true) gK)]
 |false=>[(21,.cH false 41 (v 2) [] [] [] lV (v 23)),(20,.cH false 40 (v 2) [] [] [] g9 (v 22)),(10,.cells (M5 false) gK)]
noncomputable def El(z:Bool)(s:Nat)(x:AV)(e:TypeId)(n:Nat):bM:=match z with
 |true=>.row [x] e (v n)
 |false=>.cH false s (v 2) [] [] [x] e (v n)
noncomputable def S7(z:Bool)(f:JC):List (Nat×bM):=[(153,El z 41 ff lV 153),(152,.cells [ff] lV),(151,El z 40 (bF 138) g9 151),(150,.cells [bF 138] g9),(142,.cells [bF 138] g9),(138,.cells (S6 z) mU),(130,.chan),(126,.chan),(101,.cells [f.av] tFn),(100,.cells [bF 10] wW),(10,.cells (FV z) gK)]
noncomputable def XN(z:Bool):List (BE×Bool):=match z with
 |true=>[]
 |false=>[(.cmp .leq (.plus (.tn (v 2)) (.lit 1)) (.lit 1048576),true)]
noncomputable def bgL(f:JC):List (Nat×AV):=[(0,bF 10),(1,f.av)]++(List.range 37).map fun k=>(k+2,cx)
noncomputable def bgE(f:JC)(st:Nat->Value):bH:=⟨j5,39,bZ 39 st (bgL f),[.code (bQ Fn.begin)],[],.run,.normal⟩
noncomputable def XO:List Item:=[.inRegion (fP (pc (bQ Fn.begin) [1,1,1,1,0])) [1],.code (pc (bQ Fn.begin) [1,1,1,1,1])]
theorem bg(z:Bool)(f:JC)(st:Nat->Value):c7 (cO (XN z) [] 15 [153,152,151,150,142,138,130,126,101,100,10] (cJ (bgE f st) [] (adS z))) [5,35] (fun _=>[])=some (⟨j5,39,XO,[],.run,.normal,[],S7 z f,[bF 142,.func (.func ed) [] [bF 100,bF 142,bF 101]]⟩,[]):=by cases z<;>cases f<;>kernel_rfl
theorem aju(z:Bool)(f:JC)(st:Nat->Value):bR 100 (cJ (bgE f st) [] (adS z))=true:=by cases z<;>cases f<;>kernel_rfl
theorem bgO(z:Bool):(OO (XN z) [] []).low 100=true:=by cases z<;>kernel_rfl
noncomputable def goA:AV:=.func (.func ed) [] [bF 16,bF 17,bF 18]
noncomputable def goF(st:Nat->Value):bH:=⟨j5,39,bZ 39 st [(5,bF 17),(35,goA)],XO,[],.run,.normal⟩
noncomputable def goG(st:Nat->Value):bH:=zm (goF st) cx
theorem ap1(st:Nat->Value):goAt? (goF st)=some (ed,[bF 16,bF 17,bF 18],[],goG st):=by kernel_rfl
theorem ajw(st:Nat->Value):bR 100 (cJ (goF st) [] [])=true:=by kernel_rfl
noncomputable def XP:bH:=okA (fD aa ed ([]++[bF 16,bF 17,bF 18]) .deferred)
theorem S8:fD aa ed ([]++[bF 16,bF 17,bF 18]) .deferred=.ok XP:=by kernel_rfl
theorem ajx:CZ aa ed=true:=by kernel_rfl
noncomputable def BN:List (AA×AV):=[(⟨.cN 17,.lit 0⟩,bF 14),(⟨.cN 14,.lit 2⟩,uS 26)]
noncomputable def Ph:bH:=okC (lrun? aa (Eh BN) jF 11 ⟨XP,[],e0⟩)
theorem adT:lrun? aa (Eh BN) jF 11 ⟨XP,[],e0⟩=.ok ⟨Ph,[],e0⟩:=by kernel_rfl
theorem XQ:recvAt? aa ⟨Ph,[],e0⟩=some (.cN 26,.agg #[],false):=by kernel_rfl
noncomputable def adU:bH:=zm Ph UN
theorem XR:ey Ph (tg false UN)=.ok adU:=by kernel_rfl
noncomputable def zo(a b:Nat):List AD:=[⟨.fn (.func oQ) [bF a,bF b],[]⟩]
noncomputable def adV:List Item:=adU.todo
theorem XT:fW adU [0,1,2]=⟨ed,14,adV,zo 16 17,.run,.deferred,[],[],[bF 16,bF 17,bF 18]⟩:=by kernel_rfl
theorem adW:bR 100 (cJ XP [] [])=true:=by kernel_rfl
noncomputable def gsM:List (AA×AV):=[(⟨.cN 17,.lit 0⟩,bF 14),(⟨.cN 14,.lit 2⟩,uS 26)]
noncomputable def gsT:List Item:=[.inRegion (fP (pc (bQ Fn.goes) [0])) [5],.code (pc (bQ Fn.goes) [1])]
noncomputable def gsL:List (Nat×AV):=[(0,bF 14),(5,uS 26),(6,UN)]
noncomputable def gsF(st:Nat->Value):bH:=⟨wV,12,bZ 12 st gsL,gsT,[],.run,.normal⟩
noncomputable def gsG(st:Nat->Value):bH:=zm (gsF st) cx
noncomputable def bgT:List Item:=[.inRegion (fP (pc (bQ Fn.begin) [1,1,1,1,1,0])) [1],.code (pc (bQ Fn.begin) [1,1,1,1,1,1])]
noncomputable def bgW(st:Nat->Value):bH:=⟨j5,39,bZ 39 st [(5,bF 17)],bgT,[],.run,.normal⟩
theorem ap6(st:Nat->Value):c7 (cO [] gsM 12 [] (cJ (goG st) [] [])) [0,5,6] (fun _=>[5])=some (⟨wV,12,gsT,[],.run,.normal,[],[],[bF 14,uS 26,UN]⟩,[⟨j5,39,bgT,[],.run,.normal,[],[],[bF 17]⟩]):=by kernel_rfl
theorem XU(st:Nat->Value):bR 100 (cJ (goG st) [] [])=true:=by kernel_rfl
theorem gsO:(OO [] [] gsM).low 100=true:=by kernel_rfl
theorem adX(st:Nat->Value):sendAt? (gsF st)=some (.cN 26,UN,gsG st):=by kernel_rfl
theorem ajz(st:Nat->Value):bR 100 (cJ (gsF st) [] [])=true:=by kernel_rfl
noncomputable def ajA:List (AA×AV):=[(⟨.cN 14,.lit 3⟩,uS 27)]
noncomputable def gsR(st:Nat->Value):bH:=okC (lrun? aa (Eh ajA) jF 6 ⟨gsG st,[],e0⟩)
theorem ajB(st:Nat->Value)(cl:List bH):lrun? aa (Eh ajA) jF 6 ⟨gsG st,cl,e0⟩=.ok ⟨gsR st,cl,e0⟩:=by kernel_rfl
theorem adY(st:Nat->Value)(cl:List bH):recvAt? aa ⟨gsR st,cl,e0⟩=some (.cN 27,.agg #[],false):=by kernel_rfl
noncomputable def gsB(st:Nat->Value):bH:=zm (gsR st) UN
theorem adZ(st:Nat->Value):ey (gsR st) (tg false UN)=.ok (gsB st):=by kernel_rfl
noncomputable def XV:List Item:=[.inRegion (fP (pc (bQ Fn.goes) [1])) []]
theorem ad0(st:Nat->Value):fW (gsB st) []=⟨wV,12,XV,[],.run,.normal,[],[],[]⟩:=by kernel_rfl
noncomputable def ajC(st:Nat->Value):bH:=⟨wV,12,bZ 12 st [],XV,[],.run,.normal⟩
noncomputable def bgM:List (AA×AV):=[(⟨.cN 17,.lit 0⟩,bF 14)]
theorem ajD(st s61:Nat->Value):c7 (cO [] bgM 9 [] (cJ (ajC st) [bgW s61] [])) [4] (fun _=>[])=some (⟨j5,39,[.code .ret],[],.run,.normal,[],[],[bF 14]⟩,[]):=by kernel_rfl
theorem S9(st s61:Nat->Value):bR 100 (cJ (ajC st) [bgW s61] [])=true:=by kernel_rfl
theorem ad2:(OO [] [] bgM).low 100=true:=by kernel_rfl
inductive M6 where
 |load|plain|GR
 deriving DecidableEq
noncomputable def tr(x:Bool):AV:=.bool (.lit x)
noncomputable def uT:AV:=.ptr (some ⟨.cN 13,v 9⟩)
noncomputable def BO:M6->IE
 |.load=>.lit 0
 |_=>v 4
noncomputable def BP:M6->IE
 |.GR=>v 5
 |_=>.lit 0
noncomputable def zq(k:M6):List AV:=[i64 (v 2),.int .i8 (v 3),i64 (.lit (-1)),i64 (BO k),i64 (BP k),i64 (.lit 0),i64 (.lit 0),ff]
noncomputable def Pi:List AV:=[.ez 50,.ez 51,.ez 52,.ez 53,.ez 54,.ez 55,.ez 56,.ez 57,.ez 58]
noncomputable def FW(l:List AV):bM:=.fT ([bF 10,i64 (v 2),uS 26,uS 27]++l++[ff]) mU [2,3]
noncomputable def Pj(k:M6):List (BE×Bool):=[(.cmp .lss (v 3) (.lit 1),false),(.cmp .gtr (v 3) (.lit 6),false),(.cmp .eql (v 3) (.lit 1),match k with
 |.load=>true
 |_=>false),(.cmp .neq (v 3) (.lit 3),match k with
 |.GR=>false
 |_=>true)]
noncomputable def S_:List (AA×AV):=[(⟨.cN 10,.lit 6⟩,ff)]
noncomputable def Ta:List (Nat×AV):=[(0,bF 14),(1,uT),(2,.int .i8 (v 3)),(3,i64 (v 4)),(4,i64 (v 5))]
noncomputable def M7(st:Nat->Value):bH:=⟨pK,127,bZ 127 st Ta,[.code (bQ Fn.step)],[],.run,.normal⟩
noncomputable def stepT:List Item:=[.inRegion (fP (pc (bQ Fn.step) [1,1,1,1,1,0])) [3],.code (pc (bQ Fn.step) [1,1,1,1,1,1])]
noncomputable def ajE:List Nat:=[0,1,2,3,4,13]
noncomputable def abD(k:M6)(gG:Nat):List AV:=[bF 14,uT,.int .i8 (v 3),i64 (BO k),i64 (BP k),bF gG]
noncomputable def XW:List Item:=[.inRegion (fP (pc (bQ Fn.yd) [1,0,1,0,1,0])) [5],.code (pc (bQ Fn.yd) [1,0,1,0,1,1]),.code (pc (bQ Fn.yd) [1,1])]
noncomputable def nSi:M6->Nat
 |.load=>118
 |.plain=>116
 |.GR=>114
noncomputable def XY:List (Nat×bM):=[(14,FW Pi)]
noncomputable def ajF(k:M6):List (Nat×bM):=[(101,.cells (zq k) dQ),(100,.cells (zq k) dQ),(14,FW (uT::zq k))]
theorem si(k:M6)(st:Nat->Value):c7 (cO (Pj k) S_ (nSi k) [101,100,14] (cJ (M7 st) [] XY)) [0,25,26] (fun _=>ajE)=some (⟨mG,41,XW,[],.run,.normal,[],ajF k,[bF 14,uS 27,UN]⟩,[⟨pK,127,stepT,[],.run,.normal,[],[],abD k 100⟩]):=by cases k<;>kernel_rfl
theorem ajG(st:Nat->Value):bR 100 (cJ (M7 st) [] XY)=true:=by kernel_rfl
theorem siO(k:M6):(OO (Pj k) [] S_).low 100=true:=by cases k<;>kernel_rfl
noncomputable def ajH:List (Nat×AV):=[(0,bF 14),(25,uS 27),(26,UN)]
noncomputable def XZ(st:Nat->Value):bH:=⟨mG,41,bZ 41 st ajH,XW,[],.run,.normal⟩
noncomputable def ad3(st:Nat->Value):bH:=zm (XZ st) cx
theorem ajI(st:Nat->Value):sendAt? (XZ st)=some (.cN 27,UN,ad3 st):=by kernel_rfl
noncomputable def abE:List (AA×AV):=[(⟨.cN 14,.lit 2⟩,uS 26)]
noncomputable def X5(st:Nat->Value):bH:=okC (lrun? aa (Eh abE) jF 6 ⟨ad3 st,[],e0⟩)
theorem ad4(st:Nat->Value)(cl:List bH):lrun? aa (Eh abE) jF 6 ⟨ad3 st,cl,e0⟩=.ok ⟨X5 st,cl,e0⟩:=by kernel_rfl
theorem ajJ(st:Nat->Value)(cl:List bH):recvAt? aa ⟨X5 st,cl,e0⟩=some (.cN 26,.agg #[],false):=by kernel_rfl
noncomputable def ajK(st:Nat->Value):bH:=zm (X5 st) UN
theorem ajL(st:Nat->Value):ey (X5 st) (tg false UN)=.ok (ajK st):=by kernel_rfl
theorem ad5(st:Nat->Value):bR 100 (cJ (XZ st) [] [])=true:=by kernel_rfl
noncomputable def X6:List Item:=[.inRegion (fP (pc (bQ Fn.yd) [1,0,1,0,1,1])) [],.code (pc (bQ Fn.yd) [1,1])]
theorem X7(st:Nat->Value):fW (ajK st) [0]=⟨mG,41,X6,[],.run,.normal,[],[],[bF 14]⟩:=by kernel_rfl
inductive pg where
 |load|store|GR|wY|add|swap|KO
 deriving DecidableEq
def pg.i4:pg->Nat
 |.load=>1
 |.store=>2
 |.GR=>3
 |.wY=>3
 |.add=>4
 |.swap=>5
 |.KO=>6
noncomputable def pg.oR:pg->IE
 |.load=>v 7
 |.store=>v 4
 |.GR=>v 5
 |.wY=>v 7
 |.add=>.op .add .i64 (v 7) (v 4)
 |.swap=>v 4
 |.KO=>v 7
def pg.ok:pg->Bool
 |.GR=>true
 |_=>false
noncomputable def pg.ws:pg->List (IE×AV)
 |.load=>[]
 |.wY=>[]
 |.KO=>[]
 |o=>[(v 9,i64 o.oR)]
def pg.oT:pg->Nat
 |.load=>125
 |.store=>123
 |.GR=>142
 |.wY=>142
 |.add=>144
 |.swap=>126
 |.KO=>125
noncomputable def pg.bs:pg->List (BE×Bool)
 |.GR=>[(.cmp .eql (v 7) (v 4),true)]
 |.wY=>[(.cmp .eql (v 7) (v 4),false)]
 |_=>[]
noncomputable def tz:AA:=⟨.cN 13,v 9⟩
noncomputable def opA(o:pg):AV:=.int .i8 (.lit o.i4)
noncomputable def abF(o:pg):List AV:=[i64 (v 2),opA o,i64 (.lit (-1)),i64 (v 4),i64 (v 5),i64 (.lit 0),i64 (.lit 0),ff]
noncomputable def M8(gP:Bool):AV:=match gP with
 |true=>i64 (v 6)
 |false=>i64 (.tn (v 11))
noncomputable def tA(o:pg)(gP:Bool):List AV:=[i64 (v 2),opA o,M8 gP,i64 (v 4),i64 (v 5),i64 (v 7),i64 o.oR,tr o.ok]
noncomputable def Pk(b:Nat):AV:=.map (some (.cN b))
noncomputable def Q1(b:Nat)(l c:IE):AV:=.slice (some ⟨.cN b,.lit 0⟩) l c
noncomputable def Ig(l:AV):List AV:=[.ez 60,Pk 15,l,.ez 61,.ez 62,.ez 63,ff]
noncomputable def Em(lg:Bool):AV:=match lg with
 |true=>Q1 39 (v 36) (v 38)
 |false=>eU
noncomputable def rE(lg:Bool):AV:=match lg with
 |true=>Q1 101 (.plus (.tn (v 36)) (.lit 1)) (v 101)
 |false=>Q1 101 (.lit 1) (v 101)
noncomputable def Tc(gP:Bool):Option AV:=match gP with
 |true=>some (i64 (v 6))
 |false=>none
noncomputable def ad6(e:TypeId)(o:pg)(gP lg:Bool):List (Nat×bM):=(match lg with
 |true=>[(39,.cH false 49 (v 36) [] [] [] dQ (v 38))]
 |false=>[])++[(25,.cells (abF o) dQ),(15,.iY 48 (v 11) [(tz,Tc gP)] []),(13,.cH false 47 (v 8) [(v 9,i64 (v 7))] [] [] e (v 10)),(10,.cells (Ig (Em lg)) gK)]
noncomputable def X8(o:pg)(gP lg:Bool):bM:=match lg with
 |true=>.cH false 49 (v 36) [] [] (tA o gP) dQ (v 101)
 |false=>.row (tA o gP) dQ (v 101)
noncomputable def X_(gP:Bool):bM:=match gP with
 |true=>.iY 48 (v 11) [(tz,some (i64 (v 6)))] []
 |false=>.iY 48 (v 11) [(tz,none)] [(uT,i64 (.tn (v 11)))]
noncomputable def Td(e:TypeId)(o:pg)(gP lg:Bool):List (Nat×bM):=[(101,X8 o gP lg),(100,.cells (tA o gP) dQ),(25,.cells (tA o gP) dQ),(15,X_ gP),(13,.cH false 47 (v 8) [(v 9,i64 (v 7))] o.ws [] e (v 10)),(10,.cells (Ig (rE lg)) gK)]
noncomputable def Te(o:pg)(lg:Bool):List (BE×Bool):=o.bs++match lg with
 |true=>[(.cmp .leq (.plus (.tn (v 36)) (.lit 1)) (.lit 1048576),true)]
 |false=>[]
noncomputable def tB:List (AA×AV):=[(⟨.cN 14,.lit 0⟩,bF 10)]
def soN(o:pg):Bool->Nat
 |true=>o.oT
 |false=>o.oT+23
noncomputable def BQ(st:Nat->Value):bH:=⟨mG,41,bZ 41 st [(0,bF 14)],X6,[],.run,.normal⟩
noncomputable def Tf(o:pg):List (Nat×AV):=[(0,bF 14),(1,uT),(2,opA o),(3,i64 (v 4)),(4,i64 (v 5)),(13,bF 25)]
noncomputable def Ih(o:pg)(st:Nat->Value):bH:=⟨pK,127,bZ 127 st (Tf o),stepT,[],.run,.normal⟩
set_option maxHeartbeats 4000000 in
theorem so(e:TypeId)(o:pg)(gP lg:Bool)(Ya s11:Nat->Value):c7 (cO (Te o lg) tB (soN o gP) [101,100,25,15,13,10] (cJ (BQ Ya) [Ih o s11] (ad6 e o gP lg))) [10,11,12] (fun _=>[])=some (⟨pK,127,[.code .ret],[],.run,.normal,[],Td e o gP lg,[i64 (v 7),i64 o.oR,tr o.ok]⟩,[]):=by cases o<;>cases gP<;>cases lg<;>kernel_rfl
theorem ajM(e:TypeId)(o:pg)(gP lg:Bool)(Ya s11:Nat->Value):bR 100 (cJ (BQ Ya) [Ih o s11] (ad6 e o gP lg))=true:=by cases o<;>cases gP<;>cases lg<;>kernel_rfl
theorem soO(o:pg)(lg:Bool):(OO (Te o lg) [] tB).low 100=true:=by cases o<;>cases lg<;>kernel_rfl
end Go.Proofs.Ythaddgfbohmfoaa
namespace Go.Proofs.Ythaddgfbohmfoaa
open Go.Proofs.Ythaddgfbohmfoaa.SX Go.Conc
open Go.ConcN (upd upd_ne upd_same)
open Go.Proofs.Try renaming prog->aa
open _root_.List renaming mem_cons->ac,mem_singleton->ad,not_mem_nil->ae,map_cons->ah,nodup_nil->ai,map_nil->ak,find?_cons->aw,mem_append->ay,cons_append->az,nil_append->aA,length_append->aD,length_pos_iff->aG,getElem?_eq_some_iff->aH,append_nil->aX,map_congr_left->aY,toList_toArray->bm
open _root_.Option renaming map_some->af
open _root_.Int renaming toNat_natCast->ap
open _root_.Nat renaming le_trans->bp
open _root_.Option.some renaming inj->au
def cv(a n:Nat):Value:=.pointer (some ⟨a,n,none⟩)
def chV(b:Nat):Value:=.chan (some b)
def qn(n:Int):Value:=.int .i8 n
def jH(op arg:Int):Int:=if op=1 then 0 else arg
def mW(op nw:Int):Int:=if op=3 then nw else 0
def qc(j:Nat)(op arg nw:Int):List Value:=[iV j,qn op,iV (-1),iV (jH op arg),iV (mW op nw),iV 0,iV 0,.bool false]
def GS.lX(Y:GS)(j:Nat)(p:Value)(a:List Value)(AB:Nat):GS:={Y with ts:=upd Y.ts j ⟨p,a,false⟩,gG:=upd Y.gG j (some (AB,a))}
abbrev StepF(T ca co:Nat)(op arg nw:Int)(AB:Nat)(fr:Frame):Prop:=FA pK 127 stepT [] .normal [(0,cb T),(1,cv ca co),(2,qn op),(3,iV (jH op arg)),(4,iV (mW op nw)),(13,cb AB)] fr
abbrev Tg(T sd:Nat)(fr:Frame):Prop:=FA mG 41 XW [] .normal [(0,cb T),(25,chV sd),(26,.agg #[])] fr
abbrev ye(T:Nat)(fr:Frame):Prop:=FA mG 41 X6 [] .normal [(0,cb T)] fr
abbrev BS(T ca co:Nat)(op arg nw:Int)(fr:Frame):Prop:=FA pK 127 [.code (bQ Fn.step)] [] .normal [(0,cb T),(1,cv ca co),(2,qn op),(3,iV arg),(4,iV nw)] fr
theorem KP{x:Nat}{Y Y':GS}{L0:cg}{drop:List cD}{new:List (cD×Nat×fK)}(ks:List RK)(pU:∀k,k∉ks->eo Y' k=eo Y k)(ap7:∀k∈ks,∀a b,k≠.app a b)(hd:∀r∈drop,r.1=x∧r.2∈ks)(hn:∀p∈new,p.1.1=x∧p.1.2∈ks)(Pm:∀k∈ks,∀y,eo Y' k=some y->i0 (ci x Y L0) drop new (x,k)=some y):∀r y,ci x Y' L0 r=some y->i0 (ci x Y L0) drop new r=some y:=by
 rintro⟨z,k⟩ y hy;by_cases hk:k∈ks∧z=x
 ·obtain⟨hk,rfl⟩:=hk;refine Pm k hk y ?_;unfold ci at hy;dsimp only at hy;split at hy
  ·exact absurd rfl (ap7 _ hk _ _)
  ·rw[if_pos rfl]at hy;exact hy
 ·rw[jj (fun h=>hk ⟨(hd _ h).2,(hd _ h).1⟩) (fun p hp e=>hk (by
   have:=hn p hp;rw[e]at this;exact⟨this.2,this.1⟩))]
  unfold ci at hy⊢;dsimp only at hy⊢;split at hy
  ·exact hy
  ·split at hy
   ·rename_i hz;rw[if_pos hz];rw[<-pU k fun h=>hk ⟨h,hz⟩];exact hy
   ·rename_i hz;rw[if_neg hz];exact hy
theorem r_{l:List Value}(h:l.length=8):∃a b c d e f g k,l=[a,b,c,d,e,f,g,k]:=by
 match l,h with
 |[a,b,c,d,e,f,g,k],_=>exact⟨a,b,c,d,e,f,g,k,rfl⟩
noncomputable def FX(j T R wk sd ca co:Nat)(op arg nw:Int)(p:Value)(a:List Value):cn:=gY [(2,j),(3,op),(4,arg),(5,nw),(9,co)] [(10,R),(14,T),(13,ca),(26,wk),(27,sd)] [(50,p),(51,a.getD 0 undef),(52,a.getD 1 undef),(53,a.getD 2 undef),(54,a.getD 3 undef),(55,a.getD 4 undef),(56,a.getD 5 undef),(57,a.getD 6 undef),(58,a.getD 7 undef)]
def JD(op:Int):M6:=if op=1 then .load else if op=3 then .GR else .plain
section
variable {base:Nat}{W0:World}{bJ:Nat->Option Tok.Seat}{h N:Nat}{m:Machine}{T:Trace}{w:World}{x:Nat}{Y:GS}{L0:cg}{cs:List Frame}{fr:Frame}{j:Nat}
theorem jr{k:RK}(hk:∀a b,k≠.app a b){y:Nat×fK}(h:eo Y k=some y):ci x Y L0 (x,k)=some y:=by
 unfold ci;dsimp only;split
 ·exact absurd rfl (hk _ _)
 ·rw[if_pos rfl];exact h
theorem Yb{ca co:Nat}{op arg nw:Int}(A:dD aa base W0 bJ h N m T (G fr cs) w)(H:bK aa base w (ci x Y L0))(hS:cw (ci x Y L0) bJ)(hj:j<Y.n)(di:Y.dJ=false)(he:(Y.ts j).e=false)(dI:(Y.ts j).a.length=8)(hf:BS (Y.th j).T ca co op arg nw fr)(h1:1≤op)(h6:op≤6):
  cm aa m T fun m' T'=>∃w' bT f11 AB,dD aa base W0 bJ h N m' T' (G bT (f11::cs)) w'∧bK aa base w' (ci x (Y.lX j (cv ca co) (qc j op arg nw) AB) L0)∧Tg (Y.th j).T (Y.th j).sd bT∧StepF (Y.th j).T ca co op arg nw AB f11:=by
 obtain⟨a0,a1,a2,a3,a4,a5,a6,a7,ha⟩:=r_ dI;have iM:eo Y (.lW j)=some ((Y.th j).T,.obj mU (fA Y.R j (Y.th j) (Y.ts j))):=if_pos hj;let ρ:=FX j (Y.th j).T Y.R (Y.th j).wk (Y.th j).sd ca co op arg nw (Y.ts j).v (Y.ts j).a;let cH:List (cD×Nat×bM):=[((x,.lW j),14,FW Pi)];let post:List (cD×Nat×bM):=[((x,.dN),101,.cells (zq (JD op)) dQ),((x,.gG j),100,.cells (zq (JD op)) dQ),((x,.lW j),14,FW (uT::zq (JD op)))];refine(cQ (cC:=[]) (cs:=cs) A H hS cH post (si (JD op) (bU fr)) rfl rfl (ajG _) (siO _) (ρ:=ρ) (hf.rel (.inl rfl) Ta rfl rfl) trivial (fun p hp=>?_) (fun p hp=>?_) (fun p hp=>?_) (by simp[cH]) (by simp[post]) rfl).mono fun m1 T1 hd=>?_
 ·simp only[Pj,ac,ae,or_false]at hp;rcases hp with rfl|rfl|rfl|rfl
  ·show decide (op<1)=false;exact decide_eq_false (by omega)
  ·show decide (op>6)=false;exact decide_eq_false (by omega)
  ·show decide (op=1)=_;unfold JD;by_cases e1:op=1
   ·simp[e1]
   ·by_cases e3:op=3<;>simp[e1,e3]
  ·show(!decide (op=3))=_;unfold JD;by_cases e1:op=1
   ·simp[e1]
   ·by_cases e3:op=3<;>simp[e1,e3]
 ·simp only[S_,ac,ae,or_false]at hp;subst hp;refine .inl ⟨(x,.run),.obj gK Y.runV,jr (fun _ _ e=>by cases e) rfl,by simp[cH],?_⟩;show some (Value.bool Y.dJ)=_;rw[di];rfl
 ·simp only[cH,ac,ae,or_false]at hp;subst hp;refine⟨_,jr (fun _ _ e=>by cases e) iM,rfl,?_⟩;show _=[cb Y.R,iV j,_,_,(Y.ts j).v]++(Y.ts j).a++[.bool (Y.ts j).e];rw[he,ha];simp only[ρ,FX,ha];rfl
 obtain⟨w',bL,bT,dk,C⟩:=hd;obtain⟨f11,rfl,Dj⟩:=C.one;have x2:bL.i 2=j:=C.bE.ii 2;have x3:bL.i 3=op:=C.bE.ii 3;have x4:bL.i 4=arg:=C.bE.ii 4;have x5:bL.i 5=nw:=C.bE.ii 5;have x9:bL.i 9=co:=C.bE.ii 9;have mr:bL.b 10=Y.R:=C.bE.bb 10;have KQ:bL.b 13=ca:=C.bE.bb 13;have jY:bL.b 14=(Y.th j).T:=C.bE.bb 14;have Pn:bL.b 26=(Y.th j).wk:=C.bE.bb 26;have Th:bL.b 27=(Y.th j).sd:=C.bE.bb 27;have eA:(BO (JD op)).ev bL=jH op arg:=by
  unfold JD jH;by_cases e1:op=1
  ·simp[e1,BO,IE.ev]
  ·by_cases e3:op=3<;>simp[e1,e3,BO,v,IE.ev,x4]
 have eN:(BP (JD op)).ev bL=mW op nw:=by
  unfold JD mW;by_cases e1:op=1
  ·simp[e1,BP,IE.ev]
  ·by_cases e3:op=3<;>simp[e1,e3,BP,v,IE.ev,x5]
 have eV:AV.cf bL (zq (JD op))=qc j op arg nw:=by simp only[zq,AV.cf,i64,ff,v,AV.ev,IE.ev,BE.ev,eA,eN,x2,x3];rfl
 have eC:uT.ev bL=cv ca co:=by simp only[uT,v,AV.ev,af,AA.ev,BR.ev,IE.ev,KQ,x9];rfl
 refine⟨w',bT,f11,bL.b 100,C.eG,C.heap.sub (KP [.lW j,.gG j,.dN] (fun k hk=>?_) (fun k hk a b e=>?_) (fun r hr=>?_) (fun p hp=>?_) fun k hk y hy=>?_),?_,?_⟩
 ·simp only[ac,ae,or_false,not_or]at hk;cases k with
  |lW i=>have hi:i≠j:=fun e=>hk.1 (by rw[e]);simp[eo,GS.lX,upd_ne _ _ hi]
  |gG i=>have hi:i≠j:=fun e=>hk.2.1 (by rw[e]);simp[eo,GS.lX,upd_ne _ _ hi]
  |_=>rfl
 ·subst e;simp at hk
 ·simp only[cH,ah,ak,ad]at hr;subst hr;simp
 ·simp only[cr,post,ah,ak,ac,ae,or_false]at hp;rcases hp with rfl|rfl|rfl<;>simp
 ·simp only[ac,ae,or_false]at hk;rcases hk with rfl|rfl|rfl
  ·simp only[eo,GS.lX,hj,if_true,upd_same,Option.some.injEq]at hy;subst hy;refine bX ?_;simp only[cr,post,ah,ak,aw,Prod.mk.injEq,reduceCtorEq,and_false,decide_false,true_and,decide_true,RK.lW.injEq];simp only[FW,cY,az,aA,fp,AV.cf,eV,eC,jY,mr,Pn,Th,bF,i64,uS,ff,v,AV.ev,IE.ev,BE.ev,af,AA.ev,BR.ev,x2];rfl
  ·simp only[eo,GS.lX,upd_same,af,Option.some.injEq]at hy;subst hy;refine bX ?_;simp only[cr,post,ah,ak,aw,Prod.mk.injEq,reduceCtorEq,and_false,decide_false,true_and,decide_true,RK.gG.injEq];simp only[cY,eV]
  ·cases hy
 ·have:=C.fr;simp only[AV.cf,bF,uS,UN,AV.ev,af,AA.ev,BR.ev,IE.ev,jY,Th]at this;exact this
 ·simp only[abD,AV.cf,eC,bF,i64,AV.ev,af,AA.ev,BR.ev,IE.ev,eA,eN,v,jY,x3]at Dj;exact Dj
end
def unV:Value:=.agg #[]
structure j4(s:Tok.Seat)(c T C:Nat)(B:Frame->Prop)(cs:List Frame):Prop where
 c:s.c=c
 ad8:∀g,s.home g->∃fr,Conc.served g (recvd s.ok unV true)=G fr cs∧B fr
 still:∀b n,s.still (.cell ⟨b,n,none⟩)->(b=T∧(n=2∨n=3))∨(b=C∧n=0)
section
variable {base:Nat}{W0:World}{bJ:Nat->Option Tok.Seat}{h N:Nat}{m:Machine}{T:Trace}{w:World}{L:cg}{cs tC:List Frame}{fr:Frame}{j:Nat}
theorem Ii{da gv rv bk:bH}{r r2:BR}{n2 nw:Nat}{t:Tok.Seat}{B BJ:Frame->Prop}{ρ:cn}(A:dD aa base W0 bJ h N m T (G fr cs) w)(H:bK aa base w L)(hf:dj aa ρ da fr)(jG:bR 100 (cJ da [] [])=true)(hs:sendAt? da=some (r,UN,gv))(hj:bJ j=some t){z zC C:Nat}(W:j4 t (r.ev ρ) z zC BJ tC)
 (hT:∃v,w.cell? ⟨(ρ.b 14),n2,none⟩=some v∧v=(uS nw).ev ρ)(OI:n2=2∨n2=3)(hnw:nw<100)(Yc:∀cl,lrun? aa (Eh [(⟨.cN 14,.lit n2⟩,uS nw)]) jF 6 ⟨gv,cl,e0⟩=.ok ⟨rv,cl,e0⟩)(hrc:∀cl,recvAt? aa ⟨rv,cl,e0⟩=some (r2,.agg #[],false))(hbk:ey rv (tg false UN)=.ok bk)(hB:∀bT,dj aa ρ bk bT->B bT)
 (xV:iI w (r2.ev ρ))(uq:∀i t,bJ i=some t->t.c≠r2.ev ρ)(qB:base≤r2.ev ρ):
  cm aa m T fun m' T'=>∃w' s iJ,dD aa base W0 (Tok.e_ bJ h j (some s)) j N m' T' (G iJ tC) w'∧bK aa base w' L∧BJ iJ∧j4 s (r2.ev ρ) (ρ.b 14) C B cs:=by
 have I:=wS jG;obtain⟨v,hv,rfl⟩:=hT;have kn:ji (Eh [(⟨.cN 14,.lit n2⟩,uS nw)]) ρ w:=⟨fun p hp=>(by cases hp),fun p hp=>(by cases hp),fun p hp=>by obtain rfl:=ad.1 hp;exact hv⟩
 refine(dD.Bi (c:=⟨da,[],e0⟩) (cs:=cs) (ρ:=ρ) (U:=dR 100) A ⟨fr,[],hf,trivial,rfl⟩ ⟨I.da,I.callers⟩ hs hj W.c (so:=some (oN aa (Eh [(⟨.cN 14,.lit n2⟩,uS nw)]) (dR 100) ρ cs w.heap.size ⟨rv,[],e0⟩ r2 (.agg #[]) false)) (fun s' e=>by cases e;exact⟨wR kn xV uq,Ee rfl rfl qB⟩) (fun gg I' vj=>⟨_,fun T' _=>yO (tv _) (If fun p hp=>by obtain rfl:=ad.1 hp;exact⟨⟨(by decide:(14:Nat)<100),trivial⟩,hnw⟩) (Yc _) (hrc _) I' vj kn _⟩)).mono fun m1 T1 hd=>?_
 obtain⟨g₂,d,kk,A2,hh,Ti⟩:=hd;obtain⟨iJ,e,hB'⟩:=W.ad8 _ hh;have e2:Conc.served g₂ (recvd t.ok (UN.ev ρ) true)=G iJ tC:=e;rw[e2]at A2;refine⟨_,_,iJ,A2,H.set Ti,hB',rfl,fun g hg=>?_,fun b n hs=>?_⟩
 ·obtain⟨IL,Γ⟩:=hg;obtain⟨IL',vj⟩:=kU Γ IL (v:=UN) trivial hbk e0;obtain⟨bT,dk,h1,h2,h3⟩:=vj;cases dk with
  |nil=>exact⟨bT,h3,hB _ h1⟩
  |cons a b=>exact h2.elim
 ·obtain⟨p,hp,e⟩:=hs;obtain rfl:=ad.1 hp;simp only[AA.ev,BR.ev,IE.ev,Loc.cell.injEq,Addr.mk.injEq]at e;refine .inl ⟨e.1,?_⟩;have:=e.2.1;omega
end
noncomputable def Tk(T wk sd:Nat):cn:=gY [] [(14,T),(26,wk),(27,sd)] []
section
variable {base:Nat}{W0:World}{bJ:Nat->Option Tok.Seat}{h N:Nat}{m:Machine}{T:Trace}{w:World}{L:cg}{cs tC:List Frame}{fr:Frame}{j th wk sd z zC C:Nat}
theorem KR{t:Tok.Seat}{BJ:Frame->Prop}(A:dD aa base W0 bJ h N m T (G fr cs) w)(H:bK aa base w L)(hf:Tg th sd fr)(hj:bJ j=some t)(W:j4 t sd z zC BJ tC)(hT:w.cell? ⟨th,2,none⟩=some (chV wk))(xV:iI w wk)(uq:∀i t,bJ i=some t->t.c≠wk)(qB:base≤wk):
  cm aa m T fun m' T'=>∃w' s iJ,dD aa base W0 (Tok.e_ bJ h j (some s)) j N m' T' (G iJ tC) w'∧bK aa base w' L∧BJ iJ∧j4 s wk th C (ye th) cs:=
 Ii (ρ:=Tk th wk sd) (da:=XZ (bU fr)) (n2:=2) (nw:=26) A H (hf.rel (.inl rfl) ajH rfl rfl) (ad5 _) (ajI _) hj W ⟨_,hT,rfl⟩ (.inl rfl) (by decide) (ad4 _) (ajJ _) (ajL _) (fun bT h1=>tw.of h1 (X7 _) (.inl rfl)) xV uq qB
end
def cg.set(L:cg)(r:cD)(y:Nat×fK):cg:=fun z=>if z=r then some y else L z
theorem cg.cj{L:cg}{r:cD}{y:Nat×fK}:cg.set L r y r=some y:=if_pos rfl
theorem cg.b7{L:cg}{r z:cD}{y:Nat×fK}(h:z≠r):cg.set L r y z=L z:=if_neg h
theorem cX{L L':cg}{drop:List cD}{new:List (cD×Nat×fK)}(rs:List cD)(pU:∀r,r∉rs->L' r=L r)(hd:∀r∈drop,r∈rs)(hn:∀p∈new,p.1∈rs)(Pm:∀r∈rs,∀y,L' r=some y->i0 L drop new r=some y):∀r y,L' r=some y->i0 L drop new r=some y:=by
 intro r y hy;by_cases hr:r∈rs
 ·exact Pm r hr y hy
 ·rw[jj (fun h=>hr (hd _ h)) fun p hp e=>hr (e▸hn p hp),<-pU r hr];exact hy
def fm:RK->Bool
 |.app _ _=>true
 |_=>false
theorem fz{x:Nat}{Y Y':GS}{L L':cg}{rs:List cD}(h1:∀k,fm k=false->(x,k)∉rs->eo Y' k=eo Y k)(h2:∀r,r∉rs->(fm r.2=true∨r.1≠x)->L' r=L r):∀r,r∉rs->ci x Y' L' r=ci x Y L r:=by
 rintro⟨z,k⟩ hr;unfold ci;dsimp only;split
 ·exact h2 _ hr (.inl rfl)
 ·rename_i hk;split
  ·rename_i hz;subst hz;refine h1 _ ?_ hr;cases k<;>first|rfl|exact absurd rfl (hk _ _)
  ·rename_i hz;exact h2 _ hr (.inr hz)
theorem ct{x:Nat}{Y:GS}{L:cg}{r:cD}(h:fm r.2=true):ci x Y L r=L r:=by obtain⟨z,k⟩:=r;cases k<;>first|cases h;done|rfl
theorem bY{x:Nat}{Y:GS}{L:cg}{k:RK}(h:fm k=false):ci x Y L (x,k)=eo Y k:=by unfold ci;cases k<;>first|cases h;done|exact if_pos rfl
theorem oU(no:TypeInfo)(hi:Try.prog.info? dQ=some no):no.size=8:=by
 have e2:(Try.prog.info? dQ).map (fun x=>x.size)=some 8:=by kernel_rfl
 rw[hi]at e2;exact au e2
def pg.eu(o:pg)(lY arg nw:Int):Int:=match o with
 |.load=>lY
 |.store=>arg
 |.GR=>nw
 |.wY=>lY
 |.add=>IntKind.i64.wrap (lY+arg)
 |.swap=>arg
 |.KO=>lY
def pg.jg(o:pg)(lY arg:Int):Prop:=match o with
 |.GR=>lY=arg
 |.wY=>lY≠arg
 |_=>True
def nD(j:Nat)(o:pg)(i4 arg nw lY:Int):List Value:=[iV j,qn o.i4,iV i4,iV arg,iV nw,iV lY,iV (o.eu lY arg nw),.bool o.ok]
def GS.M9(Y:GS)(j:Nat)(d:List Value)(mp:List (Value×Value))(LA cL:Nat):GS:={Y with db:=Y.db++d,mp:=mp,LA:=LA,cL:=cL,gG:=upd Y.gG j none}
def wZ(Y:GS)(gP:Bool)(k:Value):List (Value×Value):=if gP then Y.mp else Y.mp++[(k,iV Y.mp.length)]
def uU(Y:GS)(gP:Bool)(k:Value)(i4:Int):Prop:=match gP with
 |true=>∃E1 E2,Y.mp=E1++(k,iV i4)::E2∧∀q∈E1,q.1≠k
 |false=>i4=Y.mp.length∧∀q∈Y.mp,q.1≠k
noncomputable def ad9(j T R MB AB LA ca co:Nat)(arg nw i4 lY:Int)(nn cap nm nl cL:Nat)(vs:List (Nat×Value)):cn:=gY [(2,j),(4,arg),(5,nw),(6,i4),(7,lY),(8,nn),(9,co),(10,cap),(11,nm),(36,nl),(38,cL)] [(10,R),(13,ca),(14,T),(15,MB),(25,AB),(39,LA)] vs
abbrev Yd(lY oR:Int)(ok:Bool)(fr:Frame):Prop:=FA pK 127 [.code .ret] [] .normal [(10,iV lY),(11,iV oR),(12,.bool ok)] fr
def tD.lr(x:Nat):Bool->List (cD×Nat×bM)
 |true=>[((x,.db),39,.cH false 49 (v 36) [] [] [] dQ (v 38))]
 |false=>[]
noncomputable def tD(x j:Nat)(rc:cD)(e:TypeId)(o:pg)(gP lg:Bool):List (cD×Nat×bM):=tD.lr x lg++[((x,.gG j),25,.cells (abF o) dQ),((x,.map),15,.iY 48 (v 11) [(tz,Tc gP)] []),(rc,13,.cH false 47 (v 8) [(v 9,i64 (v 7))] [] [] e (v 10)),((x,.run),10,.cells (Ig (Em lg)) gK)]
noncomputable def yS(x j:Nat)(rc:cD)(e:TypeId)(o:pg)(gP lg:Bool):List (cD×Nat×bM):=[((x,.db),101,X8 o gP lg),((x,.dN),100,.cells (tA o gP) dQ),((x,.gG j),25,.cells (tA o gP) dQ),((x,.map),15,X_ gP),(rc,13,.cH false 47 (v 8) [(v 9,i64 (v 7))] o.ws [] e (v 10)),((x,.run),10,.cells (Ig (rE lg)) gK)]
theorem Ij(x j:Nat)(rc:cD)(e:TypeId)(o:pg)(gP lg:Bool):(tD x j rc e o gP lg).map (·.2)=ad6 e o gP lg:=by cases lg<;>rfl
theorem Po(x j:Nat)(rc:cD)(e:TypeId)(o:pg)(gP lg:Bool):(yS x j rc e o gP lg).map (·.2)=Td e o gP lg:=rfl
section
variable {base:Nat}{W0:World}{bJ:Nat->Option Tok.Seat}{h N:Nat}{m:Machine}{T:Trace}{w:World}{x:Nat}{Y:GS}{L0:cg}{cs:List Frame}{fr f11:Frame}{j:Nat}
theorem Tl{ca co AB cap nn:Nat}{arg nw i4 lY:Int}{e:TypeId}{xs:List Value}{rc:cD}{gP:Bool}(o:pg)(A:dD aa base W0 bJ h N m T (G fr (f11::cs)) w)(H:bK aa base w (ci x Y L0))(hS:cw (ci x Y L0) bJ)(hj:j<Y.n)(di:Y.dJ=false)(hf:ye (Y.th j).T fr)
 (Dj:FA pK 127 stepT [] .normal [(0,cb (Y.th j).T),(1,cv ca co),(2,qn o.i4),(3,iV arg),(4,iV nw),(13,cb AB)] f11)(ur:o.jg lY arg)(w9:Y.gG j=some (AB,[iV j,qn o.i4,iV (-1),iV arg,iV nw,iV 0,iV 0,.bool false]))(hra:fm rc.2=true)(hrc:L0 rc=some (ca,.fF e cap xs))(hsz:∀i,Try.prog.info? e=some i->xs.length=nn*i.size)(ajP:xs[co]?=some (iV lY))(En:∀q∈Y.mp,∃off,q.1=cv ca off)(qI:uU Y gP (cv ca co) i4)(pi:Y.db.length=8*(Y.db.length / 8))(jC:Y.db.length / 8+1≤1048576):
  cm aa m T fun m' T'=>∃w' bT LA cL,dD aa base W0 bJ h N m' T' (G bT cs) w'∧bK aa base w' (ci x (Y.M9 j (nD j o i4 arg nw lY) (wZ Y gP (cv ca co)) LA cL) (L0.set rc (ca,.fF e cap (xs.set co (iV (o.eu lY arg nw))))))∧Yd lY (o.eu lY arg nw) o.ok bT:=by
 obtain⟨lg,jZ⟩:∃b,b=!(Y.db.isEmpty):=⟨_,rfl⟩;let ρ:=ad9 j (Y.th j).T Y.R Y.MB AB Y.LA ca co arg nw i4 lY nn cap Y.mp.length (Y.db.length / 8) Y.cL [(47,.agg xs.toArray),(48,E7 Y.mp),(49,.agg Y.db.toArray),(60,c_ Y.n Y.TA Y.cT),(61,c_ Y.cp.length Y.WA Y.cW),(62,c_ Y.ready.length Y.RA Y.cR),(63,c_ Y.n Y.FA Y.cF)];have nrc:∀k,fm k=false->(x,k)≠rc:=fun k hk e=>by rw[<-e]at hra;rw[hk]at hra;cases hra
 have n1:=nrc (.gG j) rfl;have n2:=nrc .map rfl;have n3:=nrc .run rfl;have n4:=nrc .db rfl;have n5:=nrc .dN rfl;have BT:lg=true->Y.db≠[]:=fun e e2=>by rw[e2,e]at jZ;cases jZ
 have kG:lg=false->Y.db=[]:=fun e=>by
  cases hl:Y.db with
  |nil=>rfl
  |cons a b=>rw[hl,e]at jZ;cases jZ
 have hb:∀p∈Te o lg,p.1.ev ρ=p.2:=fun p hp=>by
  unfold Te at hp;rcases ay.1 hp with hp|hp
  ·cases o<;>simp only[pg.bs,ac,ae,or_false]at hp
   ·subst hp;show decide (lY=arg)=true;exact decide_eq_true ur
   ·subst hp;show decide (lY=arg)=false;exact decide_eq_false ur
  ·split at hp
   ·obtain rfl:=ad.1 hp;show decide ((((Y.db.length / 8:Nat):Int).toNat:Int)+1≤1048576)=true;exact decide_eq_true (by omega)
   ·cases hp
 have hm:∀p∈tB,lq (ci x Y L0) ((tD x j rc e o gP lg).map (·.1)) w base ρ p:=fun p hp=>by obtain rfl:=ad.1 hp;refine .inl ⟨(x,.lW j),.obj mU (fA Y.R j (Y.th j) (Y.ts j)),by rw[bY rfl];exact if_pos hj,?_,rfl⟩;have n6:=nrc (.lW j) rfl;cases lg<;>simp[tD,tD.lr,n6]
 have hpre:mo (ci x Y L0) ρ (tD x j rc e o gP lg):=fun p hp=>by
  unfold tD at hp;rcases ay.1 hp with hp|hp
  ·cases lg with
   |false=>cases hp
   |true=>obtain rfl:=ad.1 hp;refine⟨.fF dQ Y.cL Y.db,by rw[bY rfl];exact if_neg (BT rfl),rfl,rfl,fun i hi=>?_,(nofun),rfl⟩;rw[oU i hi];show _=(((Y.db.length / 8:Nat):Int)).toNat*8;rw[ap];omega
  ·simp only[ac,ae,or_false]at hp;rcases hp with rfl|rfl|rfl|rfl
   ·refine⟨.obj dQ [iV j,qn o.i4,iV (-1),iV arg,iV nw,iV 0,iV 0,.bool false],by rw[bY rfl];exact congrArg (Option.map _) w9,rfl,rfl⟩
   ·refine⟨.map Y.mp,by rw[bY rfl];rfl,Y.mp,rfl,rfl,(aX _).symm,fun q hq=>?_⟩;obtain rfl:=ad.1 hq;refine⟨En,?_⟩;cases gP with
    |true=>exact qI
    |false=>exact qI.2
   ·refine⟨.fF e cap xs,by rw[ct hra];exact hrc,rfl,rfl,hsz,fun q hq=>?_,rfl⟩;obtain rfl:=ad.1 hq;exact ajP
   ·refine⟨.obj gK Y.runV,by rw[bY rfl];rfl,rfl,?_⟩;unfold GS.runV;rw[di];cases lg with
    |true=>
     obtain⟨k,hk⟩:∃k,Y.db.length / 8=k+1:=⟨Y.db.length / 8-1,by have:=aG.2 (BT rfl);omega⟩
     rw[cy (by omega:0<Y.db.length / 8)];rfl
    |false=>rw[kG rfl];rfl
 have zR:((tD x j rc e o gP lg).map (·.1)).Nodup:=by cases lg<;>simp[tD,tD.lr,n1,n2,n3,n4,n1.symm,n2.symm,n3.symm,n4.symm]
 have hv:c7 (cO (Te o lg) tB (soN o gP) [101,100,25,15,13,10] (cJ (BQ (bU fr)) [Ih o (bU f11)] ((tD x j rc e o gP lg).map (·.2)))) [10,11,12] (fun _=>[])=some (⟨pK,127,[.code .ret],[],.run,.normal,[],Td e o gP lg,[i64 (v 7),i64 o.oR,tr o.ok]⟩,[]):=by rw[Ij];exact so e o gP lg _ _
 have od:bR 100 (cJ (BQ (bU fr)) [Ih o (bU f11)] ((tD x j rc e o gP lg).map (·.2)))=true:=by rw[Ij];exact ajM e o gP lg _ _
 have hth:Ek rc=false:=by obtain⟨z,k⟩:=rc;cases k<;>first|rfl|cases hra
 have hc5:Pf rc=false:=by obtain⟨z,k⟩:=rc;cases k<;>first|rfl|cases hra
 have iw:c8 aa ρ [Ih o (bU f11)] [f11]:=⟨Dj.rel (.inl rfl) (Tf o) rfl rfl,trivial⟩;refine(cQ (cC:=[f11]) (cs:=cs) A H hS (tD x j rc e o gP lg) (yS x j rc e o gP lg) hv (Po x j rc e o gP lg).symm rfl od (soO o lg) (ρ:=ρ) (hf.rel (.inl rfl) [(0,bF 14)] rfl rfl) iw hb hm hpre zR (by simp[yS]) (by unfold tD;simp only[List.all_append,List.all_cons,List.all_nil,BI,hth,hc5,Bool.not_false,Bool.true_or,Bool.true_and,Bool.and_true];cases lg<;>rfl)).mono fun m1 T1 hd=>?_
 obtain⟨w',bL,bT,dk,C⟩:=hd;obtain rfl:=C.none;have x2:bL.i 2=j:=C.bE.ii 2;have x4:bL.i 4=arg:=C.bE.ii 4;have x5:bL.i 5=nw:=C.bE.ii 5;have x6:bL.i 6=i4:=C.bE.ii 6;have x7:bL.i 7=lY:=C.bE.ii 7;have x9:bL.i 9=co:=C.bE.ii 9;have x10:bL.i 10=cap:=C.bE.ii 10;have x11:bL.i 11=Y.mp.length:=C.bE.ii 11;have Ye:bL.i 36=(Y.db.length / 8:Nat):=C.bE.ii 36;have mr:bL.b 10=Y.R:=C.bE.bb 10;have KQ:bL.b 13=ca:=C.bE.bb 13;have Wz:bL.b 15=Y.MB:=C.bE.bb 15;have z47:bL.v 47=.agg xs.toArray:=congrFun C.bE.v 47;have z48:bL.v 48=E7 Y.mp:=congrFun C.bE.v 48;have z49:bL.v 49=.agg Y.db.toArray:=congrFun C.bE.v 49;have Yf:bL.v 60=c_ Y.n Y.TA Y.cT:=congrFun C.bE.v 60;have Ik:bL.v 61=c_ Y.cp.length Y.WA Y.cW:=congrFun C.bE.v 61;have Pp:bL.v 62=c_ Y.ready.length Y.RA Y.cR:=congrFun C.bE.v 62;have Pq:bL.v 63=c_ Y.n Y.FA Y.cF:=congrFun C.bE.v 63;have eN:o.oR.ev bL=o.eu lY arg nw:=by cases o<;>simp only[pg.oR,pg.eu,v,IE.ev,x4,x5,x7]<;>rfl
 have eM:(M8 gP).ev bL=iV i4:=by
  cases gP with
  |true=>simp only[M8,i64,v,AV.ev,IE.ev,x6];rfl
  |false=>simp only[M8,i64,v,AV.ev,IE.ev,x11];rw[qI.1];show Value.int .i64 ((Y.mp.length:Int).toNat:Int)=_;rw[ap];rfl
 have eD:AV.cf bL (tA o gP)=nD j o i4 arg nw lY:=by simp only[tA,opA,AV.cf,i64,tr,v,AV.ev,IE.ev,BE.ev,eN,eM,x2,x4,x5,x7];rfl
 have eC:uT.ev bL=cv ca co:=by simp only[uT,v,AV.ev,af,AA.ev,BR.ev,IE.ev,KQ,x9];rfl
 have dl:(nD j o i4 arg nw lY).length=8:=rfl;refine⟨w',bT,bL.b 101,(bL.i 101).toNat,C.eG,C.heap.sub (cX [(x,.db),(x,.dN),(x,.gG j),(x,.map),rc,(x,.run)] (fz (fun k hk hr=>?_) fun r hr _=>cg.b7 fun e=>hr (by simp[e])) (fun r hr=>?_) (fun p hp=>?_) fun r hr y hy=>?_),?_⟩
 ·simp only[ac,Prod.mk.injEq,true_and,ae,or_false,not_or]at hr;cases k with
  |db=>exact absurd rfl hr.1
  |map=>exact absurd rfl hr.2.2.2.1
  |run=>exact absurd rfl hr.2.2.2.2.2
  |gG i=>have hi:i≠j:=fun e=>hr.2.2.1 (by rw[e]);simp[eo,GS.M9,upd_ne _ _ hi]
  |_=>rfl
 ·cases lg<;>simp only[tD,tD.lr,List.map_append,ah,ak,az,aA,ac,ae,or_false]at hr<;>simp only[ac,ae,or_false]
  ·rcases hr with rfl|rfl|rfl|rfl<;>simp
  ·rcases hr with rfl|rfl|rfl|rfl|rfl<;>simp
 ·simp only[cr,yS,ah,ak,ac,ae,or_false]at hp;rcases hp with rfl|rfl|rfl|rfl|rfl|rfl<;>simp
 ·simp only[ac,ae,or_false]at hr;rcases hr with rfl|rfl|rfl|rfl|rfl|rfl
  ·rw[bY rfl]at hy;simp only[eo,GS.M9]at hy;have df:¬(Y.db++nD j o i4 arg nw lY=[]):=by simp[nD]
   simp only[df,if_false]at hy;rw[<-au hy];refine bX ?_;simp only[cr,yS,ah,ak,aw,decide_true];cases lg with
   |true=>simp only[X8,cY,v,IE.ev,z49,eD,gy];rfl
   |false=>rw[kG rfl];simp only[X8,cY,v,IE.ev,eD];rfl
  ·rw[bY rfl]at hy;cases hy
  ·rw[bY rfl]at hy;simp only[eo,GS.M9,upd_same]at hy;cases hy
  ·rw[bY rfl]at hy;rw[<-au hy];refine bX ?_;simp only[cr,yS,ah,ak,aw,Prod.mk.injEq,reduceCtorEq,and_false,decide_false,decide_true];cases gP with
   |true=>simp only[X_,cY,z48,tu,ak,aX,GS.M9,wZ,if_true,Wz]
   |false=>simp only[X_,cY,z48,tu,ak,ah,GS.M9,wZ,Wz,eC,i64,v,AV.ev,IE.ev,x11,ap];rfl
  ·rw[ct hra,cg.cj]at hy;rw[<-au hy];refine bX ?_;simp only[cr,yS,ah,ak,aw,n1,n2,n3,n4,n5,decide_false,decide_true];have ew:dF bL xs o.ws=xs.set co (iV (o.eu lY arg nw)):=by
    have CP:xs.set co (iV lY)=xs:=by obtain⟨hl,he⟩:=aH.1 ajP;rw[<-he];exact List.set_getElem_self hl
    cases o with
    |load=>exact CP.symm
    |wY=>exact CP.symm
    |KO=>exact CP.symm
    |_=>simp only[pg.ws,dF,List.foldr_cons,List.foldr_nil,i64,v,AV.ev,eN,IE.ev,x9,ap];simp only[pg.oR,pg.eu,v,IE.ev,x4,x5,x7];rfl
   simp only[cY,z47,gy,bm,ew,AV.cf,aX,v,IE.ev,x10,KQ,ap]
  ·rw[bY rfl]at hy;rw[<-au hy];refine bX ?_;simp only[cr,yS,ah,ak,aw,Prod.mk.injEq,reduceCtorEq,and_false,decide_false,decide_true,n3.symm];have hz:(Y.db++nD j o i4 arg nw lY).length / 8=Y.db.length / 8+1:=by
    rw[aD,dl];omega
   simp only[cY,Ig,AV.cf,Pk,ff,AV.ev,BE.ev,Yf,Ik,Pp,Pq,af,BR.ev,Wz,mr,GS.M9,GS.runV,runV,hz,di];rw[cy (Nat.succ_pos _)];cases lg with
   |true=>simp only[rE,Q1,v,AV.ev,IE.ev,af,AA.ev,BR.ev,Ye,ap];rfl
   |false=>rw[kG rfl];rfl
 ·have:=C.fr;simp only[AV.cf,i64,tr,v,AV.ev,IE.ev,BE.ev,eN,x7]at this;exact this
end
noncomputable def w_(f:JC)(c:Nat->Nat):Value:=f.av.ev (gY [] [(11,c 11),(12,c 12),(16,c 16),(17,c 17),(18,c 18)] [])
theorem Tm{f:JC}{c:Nat->Nat}{ρ:cn}(h1:ρ.b 11=c 11)(h2:ρ.b 12=c 12)(h3:ρ.b 16=c 16)(h4:ρ.b 17=c 17)(h5:ρ.b 18=c 18):f.av.ev ρ=w_ f c:=by cases f<;>simp only[w_,JC.av,bF,AV.ev,AV.cf,af,AA.ev,BR.ev,IE.ev,h1,h2,h3,h4,h5]<;>rfl
def GS.begun(Y:GS)(t:FU)(fv:Value)(TA cT FA cF:Nat):GS:={Y with n:=Y.n+1,th:=upd Y.th Y.n t,ts:=upd Y.ts Y.n Pg,f:=upd Y.f Y.n fv,dz:=upd Y.dz Y.n false,TA:=TA,cT:=cT,FA:=FA,cF:=cF}
theorem Pr(Y:GS)(t:FU)(fv:Value)(a b c d:Nat):zT (Y.begun t fv a b c d)=zT Y++[cb t.T]:=by
 unfold zT GS.begun;dsimp only;rw[List.range_succ,List.map_append];congr 1
 ·refine aY fun i hi=>?_;rw[upd_ne _ _ (Nat.ne_of_lt (List.mem_range.1 hi))]
 ·simp[upd_same]
theorem Ps(Y:GS)(t:FU)(fv:Value)(a b c d:Nat):yQ (Y.begun t fv a b c d)=yQ Y++[.bool false]:=by
 unfold yQ GS.begun;dsimp only;rw[List.range_succ,List.map_append];congr 1
 ·refine aY fun i hi=>?_;rw[upd_ne _ _ (Nat.ne_of_lt (List.mem_range.1 hi))]
 ·simp[upd_same]
theorem KS(Y:GS):(zT Y).length=Y.n:=by simp[zT]
theorem BU(Y:GS):(yQ Y).length=Y.n:=by simp[yQ]
theorem BV(no:TypeInfo)(hi:Try.prog.info? g9=some no):no.size=1:=by
 have e2:(Try.prog.info? g9).map (fun x=>x.size)=some 1:=by kernel_rfl
 rw[hi]at e2;exact au e2
theorem Eo(no:TypeInfo)(hi:Try.prog.info? lV=some no):no.size=1:=by
 have e2:(Try.prog.info? lV).map (fun x=>x.size)=some 1:=by kernel_rfl
 rw[hi]at e2;exact au e2
def KT(a n:Nat):List (Nat×Value):=(List.range n).map fun k=>(k+a,undef)
abbrev Ep(R:Nat)(fv:Value)(fr:Frame):Prop:=FA j5 39 [.code (bQ Fn.begin)] [] .normal ([(0,cb R),(1,fv)]++KT 2 37) fr
abbrev ajT(t:FU)(fr:Frame):Prop:=FA j5 39 XO [] .normal [(5,cb t.c5),(35,.func (.func ed) #[] #[cb t.c2,cb t.c5,cb t.c3])] fr
noncomputable def yT(x:Nat)(z:Bool):List (cD×Nat×bM):=match z with
 |true=>[((x,.run),10,.cells (M5 true) gK)]
 |false=>[((x,.rZ),21,.cH false 41 (v 2) [] [] [] lV (v 23)),((x,.XM),20,.cH false 40 (v 2) [] [] [] g9 (v 22)),((x,.run),10,.cells (M5 false) gK)]
noncomputable def BW(x n:Nat)(z:Bool)(f:JC):List (cD×Nat×bM):=[((x,.rZ),153,El z 41 ff lV 153),((x,.dN),152,.cells [ff] lV),((x,.XM),151,El z 40 (bF 138) g9 151),((x,.dN),150,.cells [bF 138] g9),((x,.c5 n),142,.cells [bF 138] g9),((x,.lW n),138,.cells (S6 z) mU),((x,.sd n),130,.chan),((x,.wk n),126,.chan),((x,.c3 n),101,.cells [f.av] tFn),((x,.c2 n),100,.cells [bF 10] wW),((x,.run),10,.cells (FV z) gK)]
theorem Er(x:Nat)(z:Bool):(yT x z).map (·.2)=adS z:=by cases z<;>rfl
theorem KU(x n:Nat)(z:Bool)(f:JC):(BW x n z f).map (·.2)=S7 z f:=rfl
noncomputable def ajU(R TA FA n cT cF:Nat)(c:Nat->Nat)(vs:List (Nat×Value)):cn:=gY [(2,n),(22,cT),(23,cF)] [(10,R),(11,c 11),(12,c 12),(16,c 16),(17,c 17),(18,c 18),(20,TA),(21,FA)] vs
section
variable {base:Nat}{W0:World}{bJ:Nat->Option Tok.Seat}{h N:Nat}{m:Machine}{T:Trace}{w:World}{x:Nat}{Y:GS}{L0:cg}{cs:List Frame}{fr:Frame}
theorem Tn{f:JC}{c:Nat->Nat}(gn:Nat)(A:dD aa base W0 bJ h N m T (G fr cs) w)(H:bK aa base w (ci x Y L0))(hS:cw (ci x Y L0) bJ)(hf:Ep Y.R (w_ f c) fr)(hn:Y.n+1≤1048576):
  cm aa m T fun m' T'=>∃w' t bT TA cT FA cF,dD aa base W0 bJ h N m' T' (G bT cs) w'∧bK aa base w' (ci x (Y.begun t (w_ f c) TA cT FA cF) L0)∧ajT t bT∧t.gn=gn:=by
 obtain⟨z,hz⟩:∃z:Bool,z=decide (Y.n=0):=⟨_,rfl⟩;have yf:z=true->Y.n=0:=fun e=>by rw[e]at hz;exact of_decide_eq_true hz.symm
 have hz0:z=false->0<Y.n:=fun e=>by rw[e]at hz;have:=of_decide_eq_false hz.symm;omega
 let ρ:=ajU Y.R Y.TA Y.FA Y.n Y.cT Y.cF c [(40,.agg (zT Y).toArray),(41,.agg (yQ Y).toArray),(60,.map (some Y.MB)),(61,c_ (Y.db.length / 8) Y.LA Y.cL),(62,c_ Y.cp.length Y.WA Y.cW),(63,c_ Y.ready.length Y.RA Y.cR),(64,.bool Y.dJ)];have hb:∀p∈XN z,p.1.ev ρ=p.2:=fun p hp=>by
  cases z with
  |true=>cases hp
  |false=>obtain rfl:=ad.1 hp;show decide ((((Y.n:Nat):Int).toNat:Int)+1≤1048576)=true;exact decide_eq_true (by omega)
 have hpre:mo (ci x Y L0) ρ (yT x z):=fun p hp=>by
  cases z with
  |true=>obtain rfl:=ad.1 hp;refine⟨.obj gK Y.runV,by rw[bY rfl];rfl,rfl,?_⟩;unfold GS.runV;rw[yf rfl];rfl
  |false=>
   have Mu:=hz0 rfl;have df:¬(Y.n=0):=by omega
   simp only[yT,ac,ae,or_false]at hp;rcases hp with rfl|rfl|rfl
   ·refine⟨.fF lV Y.cF (yQ Y),by rw[bY rfl];exact if_neg df,rfl,rfl,fun i hi=>?_,(nofun),rfl⟩;rw[Eo i hi,BU];show _=(((Y.n:Nat):Int)).toNat*1;omega
   ·refine⟨.fF g9 Y.cT (zT Y),by rw[bY rfl];exact if_neg df,rfl,rfl,fun i hi=>?_,(nofun),rfl⟩;rw[BV i hi,KS];show _=(((Y.n:Nat):Int)).toNat*1;omega
   ·refine⟨.obj gK Y.runV,by rw[bY rfl];rfl,rfl,?_⟩;unfold GS.runV;rw[cy Mu,cy Mu];rfl
 have hv:c7 (cO (XN z) [] 15 [153,152,151,150,142,138,130,126,101,100,10] (cJ (bgE f (bU fr)) [] ((yT x z).map (·.2)))) [5,35] (fun _=>[])=some (⟨j5,39,XO,[],.run,.normal,[],S7 z f,[bF 142,.func (.func ed) [] [bF 100,bF 142,bF 101]]⟩,[]):=by rw[Er];exact bg z f _
 have od:bR 100 (cJ (bgE f (bU fr)) [] ((yT x z).map (·.2)))=true:=by rw[Er];exact aju z f _
 have hfa:f.av.ev ρ=w_ f c:=Tm rfl rfl rfl rfl rfl;refine(cQ (cC:=[]) (cs:=cs) A H hS (yT x z) (BW x Y.n z f) hv (KU x Y.n z f).symm rfl od (bgO z) (ρ:=ρ) (hf.rel (.inl rfl) (bgL f) (by simp only[bgL,gz,List.map_append,ah,ak,hfa,KT,List.map_map];rfl) rfl) trivial hb (nofun) hpre (by cases z<;>simp[yT]) (by simp[BW]) (by cases z<;>rfl)).mono fun m1 T1 hd=>?_
 obtain⟨w',bL,bT,dk,C⟩:=hd;obtain rfl:=C.none;have x2:bL.i 2=Y.n:=C.bE.ii 2;have mr:bL.b 10=Y.R:=C.bE.bb 10;have ap9:f.av.ev bL=w_ f c:=Tm (C.bE.bb 11) (C.bE.bb 12) (C.bE.bb 16) (C.bE.bb 17) (C.bE.bb 18);have Yg:bL.v 40=.agg (zT Y).toArray:=congrFun C.bE.v 40;have zU:bL.v 41=.agg (yQ Y).toArray:=congrFun C.bE.v 41;have Yf:bL.v 60=.map (some Y.MB):=congrFun C.bE.v 60;have Ik:bL.v 61=c_ (Y.db.length / 8) Y.LA Y.cL:=congrFun C.bE.v 61;have Pp:bL.v 62=c_ Y.cp.length Y.WA Y.cW:=congrFun C.bE.v 62;have Pq:bL.v 63=c_ Y.ready.length Y.RA Y.cR:=congrFun C.bE.v 63;have To:bL.v 64=.bool Y.dJ:=congrFun C.bE.v 64;have eI:(S5 z).ev bL=(Y.n:Int):=by
  cases z with
  |true=>rw[yf rfl];rfl
  |false=>simp only[S5,v,IE.ev,x2];show(((Y.n:Nat):Int).toNat:Int)=_;rw[ap]
 let t:FU:=⟨bL.b 138,bL.b 100,bL.b 101,bL.b 142,bL.b 126,bL.b 130,gn⟩;refine⟨w',t,bT,bL.b 151,(bL.i 151).toNat,bL.b 153,(bL.i 153).toNat,C.eG,C.heap.sub (cX [(x,.rZ),(x,.dN),(x,.XM),(x,.c5 Y.n),(x,.lW Y.n),(x,.sd Y.n),(x,.wk Y.n),(x,.c3 Y.n),(x,.c2 Y.n),(x,.run)] (fz (fun k hk hr=>?_) fun r hr _=>rfl) (fun r hr=>?_) (fun p hp=>?_) fun r hr y hy=>?_),?_,rfl⟩
 ·simp only[ac,Prod.mk.injEq,true_and,ae,or_false,not_or]at hr;obtain⟨r1,r2,r3,r4,r5,r6,r7,r8,r9,r10⟩:=hr;have lt:∀i,i≠Y.n->((i<Y.n+1)=(i<Y.n)):=fun i hi=>propext (by omega);cases k with
  |rZ=>exact absurd rfl r1
  |XM=>exact absurd rfl r3
  |run=>exact absurd rfl r10
  |c5 i=>have hi:i≠Y.n:=fun e=>r4 (by rw[e]);simp only[eo,GS.begun,upd_ne _ _ hi,lt i hi]
  |lW i=>have hi:i≠Y.n:=fun e=>r5 (by rw[e]);simp only[eo,GS.begun,upd_ne _ _ hi,lt i hi]
  |sd i=>have hi:i≠Y.n:=fun e=>r6 (by rw[e]);simp only[eo,GS.begun,upd_ne _ _ hi,lt i hi]
  |wk i=>have hi:i≠Y.n:=fun e=>r7 (by rw[e]);simp only[eo,GS.begun,upd_ne _ _ hi,lt i hi]
  |c3 i=>have hi:i≠Y.n:=fun e=>r8 (by rw[e]);simp only[eo,GS.begun,upd_ne _ _ hi,lt i hi]
  |c2 i=>have hi:i≠Y.n:=fun e=>r9 (by rw[e]);simp only[eo,GS.begun,upd_ne _ _ hi,lt i hi]
  |_=>rfl
 ·cases z<;>simp only[yT,ah,ak,ac,ae,or_false]at hr<;>simp only[ac,ae,or_false]
  ·rcases hr with rfl|rfl|rfl<;>simp
  ·subst hr;simp
 ·simp only[cr,BW,ah,ak,ac,ae,or_false]at hp;rcases hp with rfl|rfl|rfl|rfl|rfl|rfl|rfl|rfl|rfl|rfl|rfl<;>simp
 ·have df:¬(Y.n+1=0):=by omega
  have dU:Y.n<Y.n+1:=by omega
  simp only[ac,ae,or_false]at hr;rcases hr with rfl|rfl|rfl|rfl|rfl|rfl|rfl|rfl|rfl|rfl<;>rw[bY rfl]at hy<;>refine bX ?_<;>simp only[cr,BW,ah,ak,aw,Prod.mk.injEq,reduceCtorEq,and_false,decide_false,true_and,decide_true,RK.c5.injEq,RK.lW.injEq,RK.sd.injEq,RK.wk.injEq,RK.c3.injEq,RK.c2.injEq]
  ·have D4:some ((bL.b 153),fK.fF lV (bL.i 153).toNat (yQ (Y.begun t (w_ f c) (bL.b 151) (bL.i 151).toNat (bL.b 153) (bL.i 153).toNat)))=some y:=by
    rw[<-hy];show _=if Y.n+1=0 then none else _
    rw[if_neg df];rfl
   rw[<-au D4,Ps];cases z with
   |true=>
    have:yQ Y=[]:=by rw[yQ,yf rfl];rfl
    rw[this];rfl
   |false=>simp only[El,cY,v,IE.ev,zU,gy];rfl
  ·cases hy
  ·have D4:some ((bL.b 151),fK.fF g9 (bL.i 151).toNat (zT (Y.begun t (w_ f c) (bL.b 151) (bL.i 151).toNat (bL.b 153) (bL.i 153).toNat)))=some y:=by
    rw[<-hy];show _=if Y.n+1=0 then none else _
    rw[if_neg df];rfl
   rw[<-au D4,Pr];cases z with
   |true=>
    have:zT Y=[]:=by rw[zT,yf rfl];rfl
    rw[this];rfl
   |false=>simp only[El,cY,v,IE.ev,Yg,gy];rfl
  ·simp only[eo,GS.begun,dU,if_true,upd_same,Option.some.injEq]at hy;subst hy;rfl
  ·simp only[eo,GS.begun,dU,if_true,upd_same,Option.some.injEq]at hy;subst hy;simp only[cY,S6,az,aA,fp,AV.cf,i64,AV.ev,eI,bF,af,AA.ev,BR.ev,IE.ev,mr];rfl
  ·simp only[eo,GS.begun,dU,if_true,upd_same,Option.some.injEq]at hy;subst hy;rfl
  ·simp only[eo,GS.begun,dU,if_true,upd_same,Option.some.injEq]at hy;subst hy;rfl
  ·simp only[eo,GS.begun,dU,if_true,upd_same,Option.some.injEq]at hy;subst hy;simp only[cY,AV.cf,ap9];rfl
  ·simp only[eo,GS.begun,dU,if_true,upd_same,Option.some.injEq]at hy;subst hy;simp only[cY,AV.cf,bF,AV.ev,af,AA.ev,BR.ev,IE.ev,mr];rfl
  ·rw[<-au hy];simp only[cY,GS.begun,GS.runV,runV];rw[cy (Nat.succ_pos Y.n),cy (Nat.succ_pos Y.n)];cases z with
   |true=>simp only[FV,AV.cf,AV.ev,Yf,Ik,Pp,Pq,To,mr];rw[yf rfl];rfl
   |false=>simp only[FV,KN,AV.cf,v,AV.ev,IE.ev,af,AA.ev,BR.ev,x2,ap,Yf,Ik,Pp,Pq,To,mr];rfl
 ·exact C.fr
end
abbrev GsS(T wk:Nat)(fr:Frame):Prop:=FA wV 12 gsT [] .normal [(0,cb T),(5,chV wk),(6,unV)] fr
abbrev GsB(fr:Frame):Prop:=FA wV 12 XV [] .normal [] fr
abbrev BgW(c5:Nat)(fr:Frame):Prop:=FA j5 39 bgT [] .normal [(5,cb c5)] fr
def FY(c2 c5:Nat):List Deferred:=[{target:=.fn (.func oQ) #[cb c2,cb c5],args:=#[]}]
abbrev Pt(t:FU)(fr:Frame):Prop:=FA ed 14 adV (FY t.c2 t.c5) .deferred [(0,cb t.c2),(1,cb t.c5),(2,cb t.c3)] fr
noncomputable def vE(t:FU):cn:=gY [] [(14,t.T),(16,t.c2),(17,t.c5),(18,t.c3),(26,t.wk),(27,t.sd)] []
section
variable {base:Nat}{W0:World}{bJ:Nat->Option Tok.Seat}{h N:Nat}{m:Machine}{T:Trace}{w:World}{L:cg}{cs tC:List Frame}{fr:Frame}{j C:Nat}{t:FU}
theorem Es{s:Tok.Seat}{z zC:Nat}{BJ:Frame->Prop}(A:dD aa base W0 bJ h N m T (G fr cs) w)(H:bK aa base w L)(hf:GsS t.T t.wk fr)(hj:bJ j=some s)(W:j4 s t.wk z zC BJ tC)(hT:w.cell? ⟨t.T,3,none⟩=some (chV t.sd))(xV:iI w t.sd)(uq:∀i t',bJ i=some t'->t'.c≠t.sd)(qB:base≤t.sd):
  cm aa m T fun m' T'=>∃w' s' iJ,dD aa base W0 (Tok.e_ bJ h j (some s')) j N m' T' (G iJ tC) w'∧bK aa base w' L∧BJ iJ∧j4 s' t.sd t.T C GsB cs:=
 Ii (ρ:=Tk t.T t.wk t.sd) (da:=gsF (bU fr)) (n2:=3) (nw:=27) A H (hf.rel (.inl rfl) gsL rfl rfl) (ajz _) (adX _) hj W ⟨_,hT,rfl⟩ (.inr rfl) (by decide) (ajB _) (adY _) (adZ _) (fun bT h1=>tw.of h1 (ad0 _) (.inl rfl)) xV uq qB
theorem ajY(A:dD aa base W0 bJ h N m T (G fr cs) w)(H:bK aa base w L)(hS:cw L bJ){x j:Nat}{c5v Tv:fK}(hf:ajT t fr)(r5:L (x,.c5 j)=some (t.c5,c5v))(h5:c5v.cell 0=some (cb t.T))(rT:L (x,.lW j)=some (t.T,Tv))(hT:Tv.cell 2=some (chV t.wk))(rw_:L (x,.wk j)=some (t.wk,.chan))(uq:∀i t',bJ i=some t'->t'.c≠t.wk):
  cm aa m T fun m' T'=>∃w' s bT f61,dD aa base W0 (upd bJ N (some s)) h (N+1) m' T' (G bT (f61::cs)) w'∧bK aa base w' L∧cw L (upd bJ N (some s))∧j4 s t.wk t.T t.c5 (Pt t) [fB aa]∧GsS t.T t.wk bT∧BgW t.c5 f61:=by
 have I:=wS (ajw (bU fr));have Yh:dj aa (vE t) (goF (bU fr)) fr:=hf.rel (.inl rfl) [(5,bF 17),(35,goA)] rfl rfl;have kn:ji (Eh BN) (vE t) w:=⟨fun p hp=>(by cases hp),fun p hp=>(by cases hp),fun p hp=>by
  have Az:p∈BN:=hp;simp only[BN,ac,ae,or_false]at Az;rcases Az with rfl|rfl
  ·exact H.cell r5 h5
  ·exact H.cell rT hT⟩
 have qB:base≤t.wk:=H.ge _ _ _ rw_;have jG:=wS adW;refine(dD.OU (c:=⟨goF (bU fr),[],e0⟩) (cs:=cs) (ρ:=vE t) (U:=dR 100) A ⟨fr,[],Yh,trivial,rfl⟩ ⟨I.da,I.callers⟩ (ap1 _) ajx S8 (tv BN) (If fun p hp=>by
  simp only[BN,ac,ae,or_false]at hp;rcases hp with rfl|rfl
  ·exact⟨⟨(by decide:(17:Nat)<100),trivial⟩,(by decide:(14:Nat)<100),trivial⟩
  ·exact⟨⟨(by decide:(14:Nat)<100),trivial⟩,(by decide:(26:Nat)<100)⟩) rfl rfl adT XQ kn (H.chan rw_) uq qB).trans fun m1 T1 hd=>?_
 obtain⟨d,a1,A1,_,Γ1⟩:=hd;obtain⟨c9,d9,h1,h2,rfl⟩:=Γ1;obtain rfl:d9=[]:=by
  cases d9 with
  |nil=>rfl
  |cons a b=>exact h2.elim
 have hw:j4 (oN aa (Eh BN) (dR 100) (vE t) [fB aa] w.heap.size ⟨Ph,[],e0⟩ (.cN 26) (.agg #[]) false) t.wk t.T t.c5 (Pt t) [fB aa]:=by
  refine⟨rfl,fun g hg=>?_,fun b n hs=>?_⟩
  ·obtain⟨IL,Γ⟩:=hg;obtain⟨IL',vj⟩:=kU Γ IL (v:=UN) trivial XR e0;obtain⟨bT,dk,h1,h2,h3⟩:=vj;cases dk with
   |nil=>exact⟨bT,h3,tw.of h1 XT (.inr rfl)⟩
   |cons a b=>exact h2.elim
  ·obtain⟨p,hp,e⟩:=hs;have Az:p∈BN:=hp;simp only[BN,ac,ae,or_false]at Az;rcases Az with rfl|rfl
   ·simp only[AA.ev,BR.ev,IE.ev,Loc.cell.injEq,Addr.mk.injEq]at e;exact .inr ⟨e.1,by have:=e.2.1;omega⟩
   ·simp only[AA.ev,BR.ev,IE.ev,Loc.cell.injEq,Addr.mk.injEq]at e;exact .inl ⟨e.1,.inl (by have:=e.2.1;omega)⟩
 generalize hs:oN aa (Eh BN) (dR 100) (vE t) [fB aa] w.heap.size ⟨Ph,[],e0⟩ (.cN 26) (.agg #[]) false=s at*;have lM:cw L (upd bJ N (some s)):=by
  rintro b n ⟨i,t',e,di⟩;by_cases hi:i=N
  ·rw[hi,upd_same]at e;cases e;rcases hw.still _ _ di with⟨rfl,h3⟩|⟨rfl,h3⟩
   ·exact⟨_,_,rT,.inl ⟨rfl,h3⟩⟩
   ·exact⟨_,_,r5,.inr rfl⟩
  ·rw[upd_ne _ _ hi]at e;exact hS b n ⟨i,t',e,di⟩
 have H1:=H.draw d;refine(cQ (cC:=[]) (cs:=cs) A1 H1 lM [] [] (ap6 (bU fr)) rfl rfl (XU _) gsO (ρ:=vE t) h1 trivial (nofun) (fun p hp=>?_) (nofun) ai ai rfl).mono fun m2 T2 hd=>?_
 ·simp only[gsM,ac,ae,or_false]at hp;rcases hp with rfl|rfl
  ·exact .inl ⟨_,_,r5,by simp,h5⟩
  ·exact .inl ⟨_,_,rT,by simp,hT⟩
 obtain⟨w2,rn,iE,ad',C⟩:=hd;obtain⟨f61,rfl,h61⟩:=C.one;have jY:rn.b 14=t.T:=C.bE.bb 14;have Yi:rn.b 17=t.c5:=C.bE.bb 17;have Pn:rn.b 26=t.wk:=C.bE.bb 26;refine⟨w2,s,iE,f61,C.eG,C.heap.sub fun r y hy=>?_,lM,hw,?_,?_⟩
 ·rw[jj (by simp) (by simp[cr])];exact hy
 ·have:=C.fr;simp only[AV.cf,bF,uS,UN,AV.ev,af,AA.ev,BR.ev,IE.ev,jY,Pn]at this;exact this
 ·simp only[AV.cf,bF,AV.ev,af,AA.ev,BR.ev,IE.ev,Yi]at h61;exact h61
def Tp(L:cg)(bJ:Nat->Option Tok.Seat):Prop:=∀i s,bJ i=some s->∃r,L r=some (s.c,.chan)
def gD(L L':cg):Prop:=∀r b k,L r=some (b,k)->(Ek r=true∨Pf r=true∨k=.chan)->∃k',L' r=some (b,k')∧(k=.chan->k'=.chan)
theorem gD.still{L L':cg}(h:gD L L'){bJ:Nat->Option Tok.Seat}(hS:cw L bJ):cw L' bJ:=fun b n hs=>by obtain⟨r,k,h1,h2⟩:=hS b n hs;obtain⟨k',h3,_⟩:=h r b k h1 (h2.elim (fun x=>.inl x.1) fun x=>.inr (.inl x));exact⟨r,k',h3,h2⟩
theorem gD.trans{L L' L'':cg}(h:gD L L')(h':gD L' L''):gD L L'':=fun r b k e hk=>by obtain⟨k',h1,h2⟩:=h r b k e hk;obtain⟨k'',h3,h4⟩:=h' r b k' h1 (hk.elim .inl fun x=>x.elim (fun y=>.inr (.inl y)) fun y=>.inr (.inr (h2 y)));exact⟨k'',h3,fun y=>h4 (h2 y)⟩
theorem lu{x z:Nat}{k:RK}{Y:GS}{L:cg}(h:¬z=x):ci x Y L (z,k)=L (z,k):=by
 unfold ci;dsimp only;split
 ·rfl
 ·exact if_neg h
theorem Il{x:Nat}{Y:GS}{L0:cg}(t:FU)(fv:Value)(TA cT FA cF:Nat):gD (ci x Y L0) (ci x (Y.begun t fv TA cT FA cF) L0):=by
 rintro⟨z,k⟩ b bk e hk;refine⟨bk,?_,id⟩;by_cases ha:fm k=true
 ·rw[ct ha]at e⊢;exact e
 have sJ:fm k=false:=by
  cases e:fm k
  ·rfl
  ·exact absurd e ha
 by_cases hz:z=x
 ·subst hz;rw[bY sJ]at e⊢;cases k with
  |XM=>
   rcases hk with hk|hk|hk
   ·cases hk
   ·cases hk
   ·subst hk;simp only[eo]at e;split at e<;>cases e
  |rZ=>
   rcases hk with hk|hk|hk
   ·cases hk
   ·cases hk
   ·subst hk;simp only[eo]at e;split at e<;>cases e
  |run=>
   rcases hk with hk|hk|hk
   ·cases hk
   ·cases hk
   ·subst hk;cases e
  |lW i=>
   simp only[eo,GS.begun]at e⊢;split at e
   ·rename_i hi;have nN:i<Y.n+1:=by omega
    simp only[nN,if_true,upd_ne _ _ (Nat.ne_of_lt hi)];exact e
   ·cases e
  |c2 i=>
   simp only[eo,GS.begun]at e⊢;split at e
   ·rename_i hi;have nN:i<Y.n+1:=by omega
    simp only[nN,if_true,upd_ne _ _ (Nat.ne_of_lt hi)];exact e
   ·cases e
  |c3 i=>
   simp only[eo,GS.begun]at e⊢;split at e
   ·rename_i hi;have nN:i<Y.n+1:=by omega
    simp only[nN,if_true,upd_ne _ _ (Nat.ne_of_lt hi)];exact e
   ·cases e
  |c5 i=>
   simp only[eo,GS.begun]at e⊢;split at e
   ·rename_i hi;have nN:i<Y.n+1:=by omega
    simp only[nN,if_true,upd_ne _ _ (Nat.ne_of_lt hi)];exact e
   ·cases e
  |wk i=>
   simp only[eo,GS.begun]at e⊢;split at e
   ·rename_i hi;have nN:i<Y.n+1:=by omega
    simp only[nN,if_true,upd_ne _ _ (Nat.ne_of_lt hi)];exact e
   ·cases e
  |sd i=>
   simp only[eo,GS.begun]at e⊢;split at e
   ·rename_i hi;have nN:i<Y.n+1:=by omega
    simp only[nN,if_true,upd_ne _ _ (Nat.ne_of_lt hi)];exact e
   ·cases e
  |_=>exact e
 ·rw[lu hz]at e⊢;exact e
theorem Pu{x:Nat}{Y:GS}{L0:cg}{f:JC}{c:Nat->Nat}(A:dD aa base W0 bJ h N m T (G fr cs) w)(H:bK aa base w (ci x Y L0))(hS:cw (ci x Y L0) bJ)(hC:Tp (ci x Y L0) bJ)(hf:Ep Y.R (w_ f c) fr)(hn:Y.n+1≤1048576):
  cm aa m T fun m' T'=>∃w' t frK f61 TA cT FA cF s p,dD aa base W0 (Tok.e_ (upd bJ N (some s)) h N (some p)) N (N+1) m' T' (G frK [fB aa]) w'∧bK aa base w' (ci x (Y.begun t (w_ f c) TA cT FA cF) L0)∧t.gn=N∧Pt t frK∧BgW t.c5 f61∧j4 p t.sd t.T t.c5 GsB (f61::cs):=by
 refine(Tn N A H hS hf hn).trans fun m1 T1 hd=>?_;obtain⟨w1,t,c9,TA,cT,FA,cF,A1,H1,ht,hg⟩:=hd;have dU:Y.n<Y.n+1:=by omega
 have ck:=Il (x:=x) (Y:=Y) (L0:=L0) t (w_ f c) TA cT FA cF;have r5:ci x (Y.begun t (w_ f c) TA cT FA cF) L0 (x,.c5 Y.n)=some (t.c5,.obj g9 [cb t.T]):=by rw[bY rfl];simp only[eo,GS.begun,dU,if_true,upd_same]
 have rT:ci x (Y.begun t (w_ f c) TA cT FA cF) L0 (x,.lW Y.n)=some (t.T,.obj mU (fA Y.R Y.n t Pg)):=by rw[bY rfl];simp only[eo,GS.begun,dU,if_true,upd_same]
 have rw_:ci x (Y.begun t (w_ f c) TA cT FA cF) L0 (x,.wk Y.n)=some (t.wk,.chan):=by rw[bY rfl];simp only[eo,GS.begun,dU,if_true,upd_same]
 have rs:ci x (Y.begun t (w_ f c) TA cT FA cF) L0 (x,.sd Y.n)=some (t.sd,.chan):=by rw[bY rfl];simp only[eo,GS.begun,dU,if_true,upd_same]
 have new:∀{k:RK},k=.wk Y.n∨k=.sd Y.n->∀i s',bJ i=some s'->∀{b:Nat},ci x (Y.begun t (w_ f c) TA cT FA cF) L0 (x,k)=some (b,.chan)->s'.c≠b:=fun{k} hk i s' e b hb ec=>by obtain⟨r,hr⟩:=hC i s' e;obtain⟨k',h3,h4⟩:=ck r _ _ hr (.inr (.inr rfl));have:r=(x,k):=H1.inj _ _ _ _ _ h3 (by rw[ec];exact hb);subst this;rcases hk with rfl|rfl<;>rw[bY rfl]at hr<;>simp only[eo,Nat.lt_irrefl,if_false]at hr<;>cases hr
 refine(ajY A1 H1 (ck.still hS) ht r5 rfl rT rfl rw_ fun i s' e=>new (.inl rfl) i s' e rw_).trans fun m2 T2 hd=>?_;obtain⟨w2,s,iE,f61,A2,H2,Q2,hw,h63,h61⟩:=hd;have hsw:t.sd≠t.wk:=fun e=>by have:=H2.inj _ _ _ _ _ rs (by rw[e];exact rw_);cases this
 refine(Es (C:=t.c5) A2 H2 h63 (upd_same _ _ _) hw (H2.cell rT rfl) (H2.chan rs) (fun i s' e=>?_) (H2.ge _ _ _ rs)).mono fun m3 T3 hd=>?_
 ·by_cases hi:i=N
  ·rw[hi,upd_same]at e;cases e;rw[hw.c];exact hsw.symm
  ·rw[upd_ne _ _ hi]at e;exact new (.inr rfl) i s' e rs
 obtain⟨w3,p,frK,A3,H3,hk,hp⟩:=hd;exact⟨w3,t,frK,f61,TA,cT,FA,cF,s,p,A3,H3,hg,hk,h61,hp⟩
theorem cU{L:cg}{w':World}{ρ:cn}(h:bK aa base w' (i0 L [] (cr ρ []))):bK aa base w' L:=h.sub fun r y hy=>by rw[jj (by simp) (by simp[cr])];exact hy
abbrev BY(T:Nat)(fr:Frame):Prop:=FA j5 39 [.code .ret] [] .normal [(4,cb T)] fr
theorem Pv{f61:Frame}{r5:cD}{c5v:fK}{c5 Tb:Nat}(A:dD aa base W0 bJ h N m T (G fr (f61::cs)) w)(H:bK aa base w L)(hS:cw L bJ)(hf:GsB fr)(h61:BgW c5 f61)(hr:L r5=some (c5,c5v))(h5:c5v.cell 0=some (cb Tb)):
  cm aa m T fun m' T'=>∃w' bT,dD aa base W0 bJ h N m' T' (G bT cs) w'∧bK aa base w' L∧BY Tb bT:=by
 let ρ:cn:=gY [] [(14,Tb),(17,c5)] [];have iw:c8 aa ρ [bgW (bU f61)] [f61]:=⟨h61.rel (.inl rfl) [(5,bF 17)] rfl rfl,trivial⟩;refine(cQ (cC:=[f61]) (cs:=cs) A H hS [] [] (ajD (bU fr) (bU f61)) rfl rfl (S9 _ _) ad2 (ρ:=ρ) (hf.rel (.inl rfl) [] rfl rfl) iw (nofun) (fun p hp=>?_) (nofun) ai ai rfl).mono fun m2 T2 hd=>?_
 ·obtain rfl:=ad.1 hp;exact .inl ⟨_,_,hr,by simp,h5⟩
 obtain⟨w2,rn,iE,ad',C⟩:=hd;obtain rfl:=C.none;have jY:rn.b 14=Tb:=C.bE.bb 14;refine⟨w2,iE,C.eG,cU C.heap,?_⟩;have:=C.fr;simp only[AV.cf,bF,AV.ev,af,AA.ev,BR.ev,IE.ev,jY]at this;exact this
end
abbrev Mid:Type:=Option (Nat×List Nat×Nat×TT)
noncomputable def tE(bs:List (BE×Bool))(mem:List (AA×AV))(nt:Nat)(ops:Array Oper)(tmps:TT):Mid:=SW aa (OO bs [] mem) (XX bs [] mem) nt ops (dm ops) tmps ⟨[],100,300000⟩
noncomputable def Mid.j:Mid->Nat
 |some x=>x.1
 |none=>0
noncomputable def Mid.s:Mid->List Nat
 |some x=>x.2.1
 |none=>[]
noncomputable def Mid.m:Mid->Nat
 |some x=>x.2.2.1
 |none=>0
noncomputable def Mid.t:Mid->TT
 |some x=>x.2.2.2
 |none=>.ju
theorem Mid.is{r:Mid}(h:r.isSome=true):r=some (r.j,r.s,r.m,r.t):=by
 cases r with
 |none=>cases h
 |some x=>rfl
section
variable {base:Nat}{W0:World}{bJ:Nat->Option Tok.Seat}{h N:Nat}{m:Machine}{T:Trace}{w:World}{L:cg}{cs:List Frame}{fr:Frame}
theorem FZ{bs:List (BE×Bool)}{mem:List (AA×AV)}{fn:FuncId}{nt:Nat}{tmps:TT}{id:Nat}{ops:Array Oper}{k:List Item}{dA:List AD}{kind:CallKind}{dH:List Nat}{dx:List AV}{ρ:cn}(A:dD aa base W0 bJ h N m T (G fr cs) w)(H:bK aa base w L)
 (he:(tE bs mem nt ops tmps).isSome=true)(hl:bR 100 (cJ ⟨fn,nt,tmps,.code (.region id ops true)::k,dA,.run,kind⟩ [] [])=true)(hO:(OO bs [] mem).low 100=true)(hf:dj aa ρ ⟨fn,nt,tmps,.code (.region id ops true)::k,dA,.run,kind⟩ fr)
 (hb:∀p∈bs,p.1.ev ρ=p.2)(hm:∀p∈mem,lq L [] w base ρ p)(hk:kr kind=true)(hv:(dH.map fun n=>(tE bs mem nt ops tmps).t.get n)=dx):
  cm aa m T fun m' T'=>∃w' bL l bT,dD aa base W0 bJ h N m' T' (G bT cs) w'∧bK aa base w' L∧cz (dR 100) ρ bL∧KM ops (tE bs mem nt ops tmps).j (tE bs mem nt ops tmps).s (tE bs mem nt ops tmps).m l∧FA fn nt (.inRegion ops ((tE bs mem nt ops tmps).j::l)::k) (dA.map (AD.ev bL)) kind (dH.zip (AV.cf bL dx)) bT:=by
 have fu:∀n,w.heap.size≤n->(SK aa base bJ).own n:=A.new;have ST:=mT (K:=SK aa base bJ) (O:=OO bs [] mem) (own:=fun n=>w.heap.size≤n) (still:=fun _ _=>False) pJ fu;have hpre:mo L ρ ([]:List (cD×Nat×bM)):=fun p hp=>by cases hp
 have R:Rel ((SK aa base bJ).sub (OO bs [] mem) (fun n=>w.heap.size≤n) fun _ _=>False) ρ ⟨[],100,300000⟩ w:=rC (nofun) (nofun) ai (nofun) ⟨hb,(nofun),fun p hp=>by obtain⟨q1,q2⟩:=FR A H hpre (hm p hp);exact⟨fun hh=>q1 (.inl hh),q2,fun s=>⟨nT _ _ s,fun b n s e=>by cases e⟩⟩⟩ (fun n hn=>hn) fun b n h=>h.elim (A.low b n) False.elim
 have W:=SY (K:=(SK aa base bJ).sub (OO bs [] mem) (fun n=>w.heap.size≤n) fun _ _=>False) (main:=h==0) ST ⟨vr,mi,mixed⟩ (xT ST (.inr mn) mj) (Mid.is he) (k:=k) (id:=id) (fn:=fn) (defers:=dA) (kind:=kind) (callers:=[]) (U:=dR 100) (ρ:=ρ) (cs:=cs) (g:=G fr cs) (w:=w) (n_ (K:=(SK aa base bJ).sub (OO bs [] mem) (fun n=>w.heap.size≤n) fun _ _=>False) hl rfl hO) ⟨R,fr,[],hf,trivial,rfl⟩;have W2:=(dy.d_ (fun _ _ hd=>hd) (W.Kg (BC (K:=SK aa base bJ) fu))).any (m:=0);refine(A.uu W2 fun a' w' hd=>?_).mono fun m1 T1 hd=>?_
 ·obtain⟨l,bL,_,_,kp,_⟩:=hd;exact kp.mono fun n hn=>bp A.size hn
 ·obtain⟨a',w',A',l,bL,we,Ag,kp,I,R',bT,dk,h1,h2,rfl⟩:=hd;obtain rfl:dk=[]:=by
   cases dk with
   |nil=>rfl
   |cons a b=>exact h2.elim
  refine⟨w',bL,l,bT,A',H.Eg kp,Ag,we,?_⟩;refine tw.of (dH:=dH) (dx:=dx) h1 ?_ (mV hk);rw[<-hv];rfl
noncomputable def M_(bs:List (BE×Bool))(mem:List (AA×AV))(nt:Nat)(ops:Array Oper)(j:Nat)(s:List Nat)(m:Nat)(tmps:TT):Option TT:=KK aa (OO bs [] mem) (XX bs [] mem) nt ops (dm ops) (j::s) (xE m j) tmps ⟨[],100,300000⟩
noncomputable def Yj:Option TT->TT
 |some t=>t
 |none=>.ju
theorem Yk{r:Option TT}(h:r.isSome=true):r=some (Yj r):=by
 cases r with
 |none=>cases h
 |some x=>rfl
theorem Im{bs:List (BE×Bool)}{mem:List (AA×AV)}{fn:FuncId}{nt:Nat}{tmps:TT}{ops:Array Oper}{k:List Item}{dA:List AD}{kind:CallKind}{dH:List Nat}{dx:List AV}{ρ:cn}{j mm:Nat}{s l:List Nat}(A:dD aa base W0 bJ h N m T (G fr cs) w)(H:bK aa base w L)(we:KM ops j s mm l)
 (he:(M_ bs mem nt ops j s mm tmps).isSome=true)(hl:bR 100 (cJ ⟨fn,nt,tmps,.inRegion ops l::k,dA,.run,kind⟩ [] [])=true)(hO:(OO bs [] mem).low 100=true)(hf:dj aa ρ ⟨fn,nt,tmps,.inRegion ops l::k,dA,.run,kind⟩ fr)
 (hb:∀p∈bs,p.1.ev ρ=p.2)(hm:∀p∈mem,lq L [] w base ρ p)(hk:kr kind=true)(hv:(dH.map fun n=>(Yj (M_ bs mem nt ops j s mm tmps)).get n)=dx):
  cm aa m T fun m' T'=>∃w' bL bT,dD aa base W0 bJ h N m' T' (G bT cs) w'∧bK aa base w' L∧cz (dR 100) ρ bL∧FA fn nt (.inRegion ops []::k) (dA.map (AD.ev bL)) kind (dH.zip (AV.cf bL dx)) bT:=by
 have fu:∀n,w.heap.size≤n->(SK aa base bJ).own n:=A.new;have ST:=mT (K:=SK aa base bJ) (O:=OO bs [] mem) (own:=fun n=>w.heap.size≤n) (still:=fun _ _=>False) pJ fu;have hpre:mo L ρ ([]:List (cD×Nat×bM)):=fun p hp=>by cases hp
 have R:Rel ((SK aa base bJ).sub (OO bs [] mem) (fun n=>w.heap.size≤n) fun _ _=>False) ρ ⟨[],100,300000⟩ w:=rC (nofun) (nofun) ai (nofun) ⟨hb,(nofun),fun p hp=>by obtain⟨q1,q2⟩:=FR A H hpre (hm p hp);exact⟨fun hh=>q1 (.inl hh),q2,fun s=>⟨nT _ _ s,fun b n s e=>by cases e⟩⟩⟩ (fun n hn=>hn) fun b n h=>h.elim (A.low b n) False.elim
 have W:=Pe (K:=(SK aa base bJ).sub (OO bs [] mem) (fun n=>w.heap.size≤n) fun _ _=>False) (main:=h==0) ST ⟨vr,mi,mixed⟩ (xT ST (.inr mn) mj) (Yk he) we (k:=k) (fn:=fn) (defers:=dA) (kind:=kind) (callers:=[]) (U:=dR 100) (ρ:=ρ) (cs:=cs) (g:=G fr cs) (w:=w) (n_ (K:=(SK aa base bJ).sub (OO bs [] mem) (fun n=>w.heap.size≤n) fun _ _=>False) hl rfl hO) ⟨R,fr,[],hf,trivial,rfl⟩;have W2:=(dy.d_ (fun _ _ hd=>hd) (W.Kg (BC (K:=SK aa base bJ) fu))).any (m:=0);refine(A.uu W2 fun a' w' hd=>?_).mono fun m1 T1 hd=>?_
 ·obtain⟨bL,_,kp,_⟩:=hd;exact kp.mono fun n hn=>bp A.size hn
 ·obtain⟨a',w',A',bL,Ag,kp,I,R',bT,dk,h1,h2,rfl⟩:=hd;obtain rfl:dk=[]:=by
   cases dk with
   |nil=>rfl
   |cons a b=>exact h2.elim
  refine⟨w',bL,bT,A',H.Eg kp,Ag,?_⟩;refine tw.of (dH:=dH) (dx:=dx) h1 ?_ (mV hk);rw[<-hv];rfl
end
end Go.Proofs.Ythaddgfbohmfoaa
namespace Go.Proofs.Ythaddgfbohmfoaa
open Go.Proofs.Ythaddgfbohmfoaa.SX Go.Conc
abbrev d7:Nat:=80
abbrev dh:Nat:=67
abbrev BZ:Nat:=65
abbrev yU:Nat:=81
abbrev Tq:Nat:=85
abbrev rF:Nat:=66
abbrev iA:Nat:=96
abbrev fe:Nat:=52
namespace Fn
noncomputable abbrev one:Func:=Try.f80
noncomputable abbrev oT:Func:=Try.f67
noncomputable abbrev body:Func:=Try.f65
noncomputable abbrev held:Func:=Try.f81
end Fn
noncomputable def F2:AV:=.agg [i8 (v 3),i64 (v 6),i64 (v 4),i64 (v 5)]
noncomputable def lN:List AV:=[i8 (v 3),i64 (v 6),i64 (v 4),i64 (v 5)]
noncomputable def Dk:List (Nat×AV):=[(0,bF 40),(1,bF 14),(2,F2)]
def fE:Bool->CallKind
 |true=>.deferred
 |false=>.normal
theorem eO(kd:Bool):ic (fE kd):=by cases kd<;>first|exact .inl rfl|exact .inr rfl
noncomputable def B0(kd:Bool)(st:Nat->Value):bH:=⟨d7,117,bZ 117 st Dk,[.code (bQ Fn.one)],[],.run,fE kd⟩
noncomputable def M':List (BE×Bool):=[(.cmp .eql (v 3) (.lit 7),false),(.cmp .eql (v 3) (.lit 8),false),(.cmp .geq (v 3) (.lit 1),true),(.cmp .leq (v 3) (.lit 8),true)]
noncomputable def Tr:List Item:=[.code (pc (bQ Fn.one) [1,1,1,1,0]),.code (pc (bQ Fn.one) [1,1,1,1,1])]
theorem abJ(kd:Bool)(st:Nat->Value):c7 (cO M' [] 49 [100] (cJ (B0 kd st) [] [])) [0,1,5] (fun _=>[])=some (⟨d7,117,Tr,[],.run,fE kd,[],[(100,.cells lN iA)],[bF 40,bF 14,bF 100]⟩,[]):=by cases kd<;>kernel_rfl
theorem tF(kd:Bool)(st:Nat->Value):bR 100 (cJ (B0 kd st) [] [])=true:=by cases kd<;>kernel_rfl
theorem Ts:(OO M' [] []).low 100=true:=by kernel_rfl
noncomputable def uw:List (Nat×AV):=[(0,bF 40),(1,bF 14),(5,bF 38)]
noncomputable def qd:Array Oper:=fP (pc (bQ Fn.one) [1,1,1,1,0])
noncomputable def rG:List (AA×AV):=[(⟨.cN 38,.lit 0⟩,i8 (v 3)),(⟨.cN 38,.lit 1⟩,i64 (v 6)),(⟨.cN 38,.lit 2⟩,i64 (v 4)),(⟨.cN 38,.lit 3⟩,i64 (v 5))]
noncomputable def rH:List (BE×Bool):=[(.cmp .lss (v 6) (.lit 6),true),(.cmp .leq (.lit 0) (v 6),true)]
noncomputable def Tt(st:Nat->Value):Mid:=tE rH rG 117 qd (bZ 117 st uw)
theorem Na(st:Nat->Value):(Tt st).isSome=true:=by kernel_rfl
noncomputable def Dl:List Nat:=[12,11,10,9,8,7,6,5,4,3,2,1,0]
theorem aj0(st:Nat->Value):(Tt st).j=13:=by kernel_rfl
theorem aj1(st:Nat->Value):(Tt st).s=Dl:=by kernel_rfl
theorem aj2(st:Nat->Value):(Tt st).m=8191:=by kernel_rfl
noncomputable def Io:AV:=.ptr (some ⟨.cN 40,.plus (.tn (.lit 4)) (.tn (v 6))⟩)
noncomputable def pA(b:Nat)(n:Int):AV:=.ptr (some ⟨.cN b,.lit n⟩)
noncomputable def zr:List (Nat×AV):=[(0,bF 40),(1,bF 14),(5,bF 38),(85,bF 14),(86,bF 40),(87,pA 38 1),(88,i64 (v 6)),(89,bF 40),(90,pA 40 4),(91,Io),(92,bF 38),(93,i8 (v 3)),(94,pA 38 2),(95,i64 (v 4)),(96,pA 38 3),(97,i64 (v 5))]
noncomputable def Pw:List Nat:=[0,1,5,85,86,87,88,89,90,91,92,93,94,95,96,97]
noncomputable def Px:List AV:=zr.map (·.2)
theorem Nb(st:Nat->Value):(Pw.map fun n=>(Tt st).t.get n)=Px:=by kernel_rfl
noncomputable def KV(kd:Bool)(st:Nat->Value):bH:=⟨d7,117,bZ 117 st uw,Tr,[],.run,fE kd⟩
theorem Tu(kd:Bool)(st:Nat->Value):bR 100 (cJ (KV kd st) [] [])=true:=by cases kd<;>kernel_rfl
theorem Ip:(OO rH [] rG).low 100=true:=by kernel_rfl
noncomputable def Dm:List Item:=[.code (pc (bQ Fn.one) [1,1,1,1,1])]
noncomputable def aj3:Nat:=match pc (bQ Fn.one) [1,1,1,1,0]with
 |.region id _ _=>id
 |_=>0
theorem Nc:Tr=.code (.region aj3 qd true)::Dm:=by kernel_rfl
noncomputable def onC(kd:Bool)(l:List Nat)(st:Nat->Value):bH:=⟨d7,117,bZ 117 st zr,.inRegion qd (13::l)::Dm,[],.run,fE kd⟩
theorem Tw(kd:Bool)(l:List Nat)(st:Nat->Value):c7 (cO [] [] 1 [] (cJ (onC kd l st) [] [])) [0,1,2,3,4] (fun _=>Pw)=some (⟨pK,127,[.code (bQ Fn.step)],[],.run,.normal,[],[],[bF 14,Io,i8 (v 3),i64 (v 4),i64 (v 5)]⟩,[⟨d7,117,.inRegion qd (13::l)::Dm,[],.run,fE kd,[],[],Px⟩]):=by cases kd<;>kernel_rfl
theorem Et(kd:Bool)(l:List Nat)(st:Nat->Value):bR 100 (cJ (onC kd l st) [] [])=true:=by cases kd<;>kernel_rfl
noncomputable def aj5(ok:Bool)(st:Nat->Value):bH:=⟨pK,127,bZ 127 st [(10,i64 (v 7)),(11,i64 (v 8)),(12,tr ok)],[.code .ret],[],.run,.normal⟩
noncomputable def aj6(ok:Bool):AV:=.tuple [i64 (v 7),i64 (v 8),tr ok]
theorem aj7(kd ok:Bool)(l:List Nat)(s11 st:Nat->Value):c7 (cO [] [] 2 [] (cJ (aj5 ok s11) [onC kd l st] [])) (Pw++[98]) (fun _=>[])=some (⟨d7,117,.inRegion qd l::Dm,[],.run,fE kd,[],[],Px++[aj6 ok]⟩,[]):=by cases kd<;>kernel_rfl
theorem Tx(kd ok:Bool)(l:List Nat)(s11 st:Nat->Value):bR 100 (cJ (aj5 ok s11) [onC kd l st] [])=true:=by cases kd<;>cases ok<;>kernel_rfl
noncomputable def Yl(ok:Bool):List (Nat×AV):=zr++[(98,aj6 ok)]
noncomputable def aj8(ok:Bool)(st:Nat->Value):Option TT:=M_ rH rG 117 qd 13 Dl 8191 (bZ 117 st (Yl ok))
theorem Ym(ok:Bool)(st:Nat->Value):(aj8 ok st).isSome=true:=by cases ok<;>kernel_rfl
theorem Yn(ok:Bool)(st:Nat->Value):([0,1,10,11,12].map fun n=>(Yj (aj8 ok st)).get n)=[bF 40,bF 14,i64 (v 7),i64 (v 8),tr ok]:=by cases ok<;>kernel_rfl
theorem aea(kd ok:Bool)(l:List Nat)(st:Nat->Value):bR 100 (cJ ⟨d7,117,bZ 117 st (Yl ok),.inRegion qd l::Dm,[],.run,fE kd⟩ [] [])=true:=by cases kd<;>cases ok<;>kernel_rfl
theorem nU:(OO [] [] []).low 100=true:=by kernel_rfl
noncomputable def abK(ok:Bool):List (Nat×AV):=[(0,bF 40),(1,bF 14),(10,i64 (v 7)),(11,i64 (v 8)),(12,tr ok)]
noncomputable def Yo(kd ok:Bool)(st:Nat->Value):bH:=⟨d7,117,bZ 117 st (abK ok),.inRegion qd []::Dm,[],.run,fE kd⟩
noncomputable def xa(lg:Bool):AV:=match lg with
 |true=>.slice (some ⟨.cN 43,.lit 0⟩) (v 46) (v 47)
 |false=>eU
noncomputable def tG(lg:Bool):AV:=match lg with
 |true=>.slice (some ⟨.cN 101,.lit 0⟩) (.plus (.tn (v 46)) (.lit 1)) (v 101)
 |false=>.slice (some ⟨.cN 101,.lit 0⟩) (.lit 1) (v 101)
noncomputable def Py(ok:Bool):List AV:=[i64 (v 2),i8 (.lit 0),i64 (.lit 0),i64 (.lit 0),i64 (.lit 0),i64 (v 7),i64 (v 8),tr ok]
noncomputable def ap'(lg:Bool):List (Nat×bM):=match lg with
 |true=>[(43,.cH false 45 (v 46) [] [] [] dQ (v 47))]
 |false=>[]
noncomputable def Tz(lg:Bool):List (Nat×bM):=ap' lg++[(40,.cH false 44 (v 41) [(.lit 10,xa lg)] [] [] fe (v 42))]
noncomputable def Yp(lg ok:Bool):bM:=match lg with
 |true=>.cH false 45 (v 46) [] [] (Py ok) dQ (v 101)
 |false=>.row (Py ok) dQ (v 101)
noncomputable def TC(lg ok:Bool):List (Nat×bM):=[(101,Yp lg ok),(100,.cells (Py ok) dQ),(40,.cH false 44 (v 41) [(.lit 10,xa lg)] [(.lit 10,tG lg)] [] fe (v 42))]
noncomputable def KW(lg:Bool):List (BE×Bool):=match lg with
 |true=>[(.cmp .leq (.plus (.tn (v 46)) (.lit 1)) (.lit 1048576),true)]
 |false=>[]
noncomputable def nE:List (AA×AV):=[(⟨.cN 14,.lit 0⟩,bF 10),(⟨.cN 14,.lit 1⟩,i64 (v 2)),(⟨.cN 14,.lit 13⟩,ff)]
theorem aqa(kd ok lg:Bool)(st:Nat->Value):c7 (cO (KW lg) nE 2 [101,100,40] (cJ (Yo kd ok st) [] (Tz lg))) [] (fun _=>[])=some (⟨d7,117,[],[],.run,fE kd,[],TC lg ok,[]⟩,[]):=by cases kd<;>cases lg<;>cases ok<;>kernel_rfl
theorem Yq(kd ok lg:Bool)(st:Nat->Value):bR 100 (cJ (Yo kd ok st) [] (Tz lg))=true:=by cases kd<;>cases lg<;>cases ok<;>kernel_rfl
theorem abL(lg:Bool):(OO (KW lg) [] nE).low 100=true:=by cases lg<;>kernel_rfl
end Go.Proofs.Ythaddgfbohmfoaa
namespace Go.Proofs.Ythaddgfbohmfoaa
open Go.Proofs.Ythaddgfbohmfoaa.SX Go.Conc
open Go.ConcN (upd upd_ne upd_same)
open Go.Proofs.Try renaming prog->aa
open _root_.List renaming mem_cons->ac,mem_singleton->ad,not_mem_nil->ae,map_cons->ah,nodup_nil->ai,map_nil->ak,find?_cons->aw,length_append->aD,getElem?_append_right->aE
open _root_.Option renaming map_some->af
open _root_.Int renaming toNat_natCast->ap
open _root_.Option.some renaming inj->au
def iu(op cell arg nw:Int):List Value:=[qn op,iV cell,iV arg,iV nw]
abbrev qJ(kd:Bool)(S T:Nat)(op cell arg nw:Int)(fr:Frame):Prop:=FA d7 117 [.code (bQ Fn.one)] [] (fE kd) [(0,cb S),(1,cb T),(2,.agg (iu op cell arg nw).toArray)] fr
def TD(S T BX c:Nat)(op arg nw:Int):List (Nat×Value):=[(0,cb S),(1,cb T),(5,cb BX),(85,cb T),(86,cb S),(87,cv BX 1),(88,iV c),(89,cb S),(90,cv S 4),(91,cv S (4+c)),(92,cb BX),(93,qn op),(94,cv BX 2),(95,iV arg),(96,cv BX 3),(97,iV nw)]
abbrev Iq(kd:Bool)(l:List Nat)(S T BX c:Nat)(op arg nw:Int)(fr:Frame):Prop:=FA d7 117 (.inRegion qd (13::l)::Dm) [] (fE kd) (TD S T BX c op arg nw) fr
noncomputable def qe(S T BX c:Nat)(op arg nw:Int):cn:=gY [(3,op),(4,arg),(5,nw),(6,c)] [(14,T),(38,BX),(40,S)] []
theorem uh{x:Nat}{Y:GS}{L0:cg}{r:cD}{y:Nat×fK}(hr:fm r.2=true)(hc:∀b,L0 r≠some (b,.chan)):gD (ci x Y L0) (ci x Y (L0.set r y)):=by
 intro z b k e hk;by_cases hz:z=r
 ·subst hz;exfalso;obtain⟨q,kk⟩:=z;rw[ct hr]at e;rcases hk with hk|hk|hk
  ·cases kk<;>first|cases hr;done|cases hk
  ·cases kk<;>first|cases hr;done|cases hk
  ·subst hk;exact hc b e
 ·refine⟨k,?_,id⟩;obtain⟨q,kk⟩:=z;by_cases ha:fm kk=true
  ·rw[ct ha]at e⊢;rw[cg.b7 hz];exact e
  ·have sJ:fm kk=false:=by
    cases e:fm kk
    ·rfl
    ·exact absurd e ha
   by_cases hq:q=x
   ·subst hq;rw[bY sJ]at e⊢;exact e
   ·rw[lu hq]at e⊢;rw[cg.b7 hz];exact e
theorem xb{ρ:cn}{S c:Nat}(Yr:ρ.b 40=S)(h6:ρ.i 6=c):Io.ev ρ=cv S (4+c):=by simp only[Io,v,AV.ev,af,AA.ev,BR.ev,IE.ev,Yr,h6];show Value.pointer (some ⟨S,(((4:Int).toNat:Int)+((c:Int).toNat:Int)).toNat,none⟩)=_;rw[ap];congr 2
theorem rI{ρ:cn}{S T BX c:Nat}{op arg nw:Int}(h3:ρ.i 3=op)(h4:ρ.i 4=arg)(h5:ρ.i 5=nw)(h6:ρ.i 6=c)(h14:ρ.b 14=T)(h38:ρ.b 38=BX)(Yr:ρ.b 40=S):gz ρ zr=TD S T BX c op arg nw:=by have hc:=xb Yr h6;simp only[gz,zr,ah,ak,hc,bF,pA,i8,i64,v,AV.ev,af,AA.ev,BR.ev,IE.ev,h3,h4,h5,h6,h14,h38,Yr];rfl
theorem F3{ρ:cn}:Pw.zip (AV.cf ρ Px)=gz ρ zr:=rfl
section
variable {base:Nat}{W0:World}{bJ:Nat->Option Tok.Seat}{h N:Nat}{m:Machine}{T:Trace}{w:World}{x a:Nat}{Y:GS}{L0:cg}{cs:List Frame}{fr:Frame}{j:Nat}
theorem aec{kd:Bool}{S c:Nat}{op arg nw:Int}(A:dD aa base W0 bJ h N m T (G fr cs) w)(H:bK aa base w (ci x Y L0))(hS:cw (ci x Y L0) bJ)(hj:j<Y.n)(di:Y.dJ=false)(he:(Y.ts j).e=false)(dI:(Y.ts j).a.length=8)(hf:qJ kd S (Y.th j).T op c arg nw fr)(h1:1≤op)(h6:op≤6)(hc:c<6)(Pz:∀b,L0 (a,.app 9 j)≠some (b,.chan)):
  cm aa m T fun m' T'=>∃w' bT f11 f80 AB BX l,dD aa base W0 bJ h N m' T' (G bT (f11::f80::cs)) w'∧bK aa base w' (ci x (Y.lX j (cv S (4+c)) (qc j op arg nw) AB) (L0.set (a,.app 9 j) (BX,.obj iA (iu op c arg nw))))∧Tg (Y.th j).T (Y.th j).sd bT∧StepF (Y.th j).T S (4+c) op arg nw AB f11∧Iq kd l S (Y.th j).T BX c op arg nw f80∧KM qd 13 Dl 8191 l:=by
 refine(cQ (cC:=[]) (cs:=cs) A H hS [] [((a,.app 9 j),100,.cells lN iA)] (abJ kd (bU fr)) rfl (by cases kd<;>rfl) (tF kd _) Ts (ρ:=qe S (Y.th j).T 0 c op arg nw) (hf.rel (eO kd) Dk rfl rfl) trivial (fun p hp=>?_) (nofun) (nofun) ai (by simp) rfl).trans fun m1 T1 hd=>?_
 ·simp only[M',ac,ae,or_false]at hp;rcases hp with rfl|rfl|rfl|rfl
  ·show decide (op=7)=false;exact decide_eq_false (by omega)
  ·show decide (op=8)=false;exact decide_eq_false (by omega)
  ·show decide (op≥1)=true;exact decide_eq_true (by omega)
  ·show decide (op≤8)=true;exact decide_eq_true (by omega)
 obtain⟨w1,bW,c9,d9,C⟩:=hd;obtain rfl:=C.none;have x3:bW.i 3=op:=C.bE.ii 3;have x4:bW.i 4=arg:=C.bE.ii 4;have x5:bW.i 5=nw:=C.bE.ii 5;have x6:bW.i 6=c:=C.bE.ii 6;have jY:bW.b 14=(Y.th j).T:=C.bE.bb 14;have lx:bW.b 40=S:=C.bE.bb 40;let BX:=bW.b 100;have f1:FA d7 117 Tr [] (fE kd) [(0,cb S),(1,cb (Y.th j).T),(5,cb BX)] c9:=by have:=C.fr;simp only[AV.cf,bF,AV.ev,af,AA.ev,BR.ev,IE.ev,jY,lx]at this;exact this
 have eS:AV.cf bW lN=iu op c arg nw:=by simp only[lN,AV.cf,i8,i64,v,AV.ev,IE.ev,x3,x4,x5,x6];rfl
 have H1:bK aa base w1 (ci x Y (L0.set (a,.app 9 j) (BX,.obj iA (iu op c arg nw)))):=by
  refine C.heap.sub (cX [(a,.app 9 j)] (fz (fun k hk hr=>rfl) fun r hr _=>cg.b7 fun e=>hr (by simp[e])) (fun r hr=>by cases hr) (fun p hp=>?_) fun r hr y hy=>?_)
  ·simp only[cr,ah,ak,ad]at hp;subst hp;simp
  ·simp only[ac,ae,or_false]at hr;subst hr;rw[ct rfl,cg.cj]at hy;rw[<-au hy];refine bX ?_;simp only[cr,ah,ak,aw,decide_true,cY,eS];rfl
 have ck:=uh (x:=x) (Y:=Y) (L0:=L0) (r:=(a,.app 9 j)) (y:=(BX,.obj iA (iu op c arg nw))) rfl Pz;have lM:=ck.still hS;have rB:ci x Y (L0.set (a,.app 9 j) (BX,.obj iA (iu op c arg nw))) (a,.app 9 j)=some (BX,.obj iA (iu op c arg nw)):=by rw[ct rfl];exact cg.cj
 have g1:dj aa (qe S (Y.th j).T BX c op arg nw) (KV kd (bU c9)) c9:=f1.rel (eO kd) uw rfl rfl;unfold KV at g1;have od:=Tu kd (bU c9);unfold KV at od;rw[Nc]at g1 od;refine(FZ (dH:=Pw) (dx:=Px) (dA:=[]) C.eG H1 (Na (bU c9)) od Ip g1 (fun p hp=>?_) (fun p hp=>?_) (by cases kd<;>rfl) (Nb _)).trans fun m2 T2 hd=>?_
 ·simp only[rH,ac,ae,or_false]at hp;rcases hp with rfl|rfl
  ·show decide ((c:Int)<6)=true;exact decide_eq_true (by omega)
  ·show decide ((0:Int)≤(c:Int))=true;exact decide_eq_true (by omega)
 ·simp only[rG,ac,ae,or_false]at hp;rcases hp with rfl|rfl|rfl|rfl<;>exact .inl ⟨_,_,rB,by simp,rfl⟩
 obtain⟨w2,rn,l,iE,A2,H2,B3,Fx,f2⟩:=hd;have q1:(tE rH rG 117 qd (bZ 117 (bU c9) uw)).j=13:=aj0 _;have q2:(tE rH rG 117 qd (bZ 117 (bU c9) uw)).s=Dl:=aj1 _;have q3:(tE rH rG 117 qd (bZ 117 (bU c9) uw)).m=8191:=aj2 _;rw[q1,q2,q3]at Fx;rw[q1]at f2;have Ys:Iq kd l S (Y.th j).T BX c op arg nw iE:=by have e:=rI (ρ:=rn) (B3.i 3 (by decide)) (B3.i 4 (by decide)) (B3.i 5 (by decide)) (B3.i 6 (by decide)) (B3.b 14 (by decide)) (B3.b 38 (by decide)) (B3.b 40 (by decide));rw[F3,e]at f2;exact f2
 have e0:gz (qe S (Y.th j).T BX c op arg nw) zr=TD S (Y.th j).T BX c op arg nw:=rI rfl rfl rfl rfl rfl rfl rfl;refine(cQ (cC:=[]) (cs:=cs) A2 H2 lM [] [] (Tw kd l (bU iE)) rfl (by cases kd<;>rfl) (Et kd l _) nU (ρ:=qe S (Y.th j).T BX c op arg nw) (Ys.rel (eO kd) zr e0 rfl) trivial (nofun) (nofun) (nofun) ai ai rfl).trans fun m3 T3 hd=>?_;obtain⟨w3,qm,kH,KX,C3⟩:=hd;obtain⟨f80,rfl,tH⟩:=C3.one;have e3:=rI (ρ:=qm) (C3.bE.ii 3) (C3.bE.ii 4) (C3.bE.ii 5) (C3.bE.ii 6) (C3.bE.bb 14) (C3.bE.bb 38) (C3.bE.bb 40);have aed:Iq kd l S (Y.th j).T BX c op arg nw f80:=by have:=tH;dsimp only at this;rw[F3,e3]at this;exact this
 have f11:BS (Y.th j).T S (4+c) op arg nw kH:=by have z14:qm.b 14=(Y.th j).T:=C3.bE.bb 14;have Yg:qm.b 40=S:=C3.bE.bb 40;have z3:qm.i 3=op:=C3.bE.ii 3;have z4:qm.i 4=arg:=C3.bE.ii 4;have z5:qm.i 5=nw:=C3.bE.ii 5;have z6:qm.i 6=c:=C3.bE.ii 6;have:=C3.fr;simp only[AV.cf,bF,i8,i64,v,AV.ev,af,AA.ev,BR.ev,IE.ev,xb Yg z6,z14,z3,z4,z5]at this;exact this
 refine(Yb C3.eG (cU C3.heap) lM hj di he dI f11 h1 h6).mono fun m4 T4 hd=>?_;obtain⟨w4,zV,aqc,AB,A4,H4,hs4,hp4⟩:=hd;exact⟨w4,zV,aqc,f80,AB,BX,l,A4,H4,hs4,hp4,aed,Fx⟩
end
structure SS where
 S:Nat
 q:List Value
 cells:Nat->Int
 tl:List Value
 TO:Nat
 jI:Nat
 f0:List Value
 TH:Nat
 kt:Nat
 ended:Int
 holds:Int
 box:Nat->Option (Nat×List Value)
def SS.xs(s:SS):List Value:=s.q++[iV (s.cells 0),iV (s.cells 1),iV (s.cells 2),iV (s.cells 3),iV (s.cells 4),iV (s.cells 5),c_ (s.tl.length / 8) s.TO s.jI,c_ s.f0.length s.TH s.kt,.bool false,iV s.ended,iV s.holds]
def eQ(a:Nat)(s:SS)(L:cg):cg:=fun r=>if r.1=a then(match r.2 with
 |.app 0 _=>if r.2=.app 0 0 then some (s.S,.fF fe 1 s.xs)else none
 |.app 1 _=>if r.2=.app 1 0 then(if s.tl=[]then none else some (s.TO,.fF dQ s.jI s.tl))else none
 |.app 2 _=>if r.2=.app 2 0 then(if s.f0=[]then none else some (s.TH,.fF g9 s.kt s.f0))else none
 |.app 9 j=>(s.box j).map fun p=>(p.1,.obj iA p.2)
 |_=>L r)else L r
theorem i5{a:Nat}{s:SS}{L:cg}:eQ a s L (a,.app 0 0)=some (s.S,.fF fe 1 s.xs):=by simp[eQ]
theorem Nd{a:Nat}{s:SS}{L:cg}(h:s.tl≠[]):eQ a s L (a,.app 1 0)=some (s.TO,.fF dQ s.jI s.tl):=by simp[eQ,h]
theorem TE{a:Nat}{s:SS}{L:cg}{j:Nat}{p:Nat×List Value}(h:s.box j=some p):eQ a s L (a,.app 9 j)=some (p.1,.obj iA p.2):=by simp[eQ,h]
theorem vF{a:Nat}{s:SS}{L:cg}{j b:Nat}:eQ a s L (a,.app 9 j)≠some (b,.chan):=by simp only[eQ,if_true];cases s.box j<;>simp
theorem mX(no:TypeInfo)(hi:Try.prog.info? fe=some no):no.size=15:=by
 have e2:(Try.prog.info? fe).map (fun x=>x.size)=some 15:=by kernel_rfl
 rw[hi]at e2;exact au e2
def SS.setCell(s:SS)(c:Nat)(n:Int):SS:={s with cells:=upd s.cells c n}
theorem aee{s:SS}{c:Nat}{n:Int}(hq:s.q.length=4)(hc:c<6):s.xs.set (4+c) (iV n)=(s.setCell c n).xs:=by unfold SS.xs;rw[List.set_append_right _ _ (by omega),show 4+c-s.q.length=c by omega];rcases(by omega:c=0∨c=1∨c=2∨c=3∨c=4∨c=5)with rfl|rfl|rfl|rfl|rfl|rfl<;>rfl
theorem F4{s:SS}{c:Nat}(hq:s.q.length=4)(hc:c<6):s.xs[4+c]?=some (iV (s.cells c)):=by unfold SS.xs;rw[aE (by omega),show 4+c-s.q.length=c by omega];rcases(by omega:c=0∨c=1∨c=2∨c=3∨c=4∨c=5)with rfl|rfl|rfl|rfl|rfl|rfl<;>rfl
theorem rJ{s:SS}(hq:s.q.length=4):s.xs.length=15:=by unfold SS.xs;rw[aD,hq];rfl
theorem Ir{a:Nat}{s:SS}{L:cg}{c:Nat}{n:Int}(hq:s.q.length=4)(hc:c<6):(eQ a s L).set (a,.app 0 0) (s.S,.fF fe 1 (s.xs.set (4+c) (iV n)))=eQ a (s.setCell c n) L:=by
 funext r;by_cases hr:r=(a,.app 0 0)
 ·subst hr;rw[cg.cj,i5,aee hq hc];rfl
 ·rw[cg.b7 hr];obtain⟨z,k⟩:=r;unfold eQ;by_cases hz:z=a
  ·subst hz;simp only[if_true];cases k with
   |app i i'=>
    rcases i with _|_|_|i
    ·have hi:¬(RK.app 0 i'=RK.app 0 0):=fun e=>hr (by rw[e]);simp only[hi,if_false]
    ·rfl
    ·rfl
    ·rfl
   |_=>rfl
  ·simp only[hz,if_false]
theorem zW{a:Nat}{s:SS}{L:cg}{j:Nat}{p:Nat×List Value}:(eQ a s L).set (a,.app 9 j) (p.1,.obj iA p.2)=eQ a {s with box:=upd s.box j (some p)} L:=by
 funext r;by_cases hr:r=(a,.app 9 j)
 ·subst hr;rw[cg.cj,TE (upd_same _ _ _)]
 ·rw[cg.b7 hr];obtain⟨z,k⟩:=r;unfold eQ;by_cases hz:z=a
  ·subst hz;simp only[if_true];cases k with
   |app i i'=>
    by_cases h9:i=9
    ·subst h9;have hi:i'≠j:=fun e=>hr (by rw[e]);simp only[upd_ne _ _ hi]
    ·split<;>first|rfl|(rename_i e;cases e;exact absurd rfl h9)|skip
     all_goals (split<;>first|rfl|skip)
   |_=>rfl
  ·simp only[hz,if_false]
end Go.Proofs.Ythaddgfbohmfoaa
