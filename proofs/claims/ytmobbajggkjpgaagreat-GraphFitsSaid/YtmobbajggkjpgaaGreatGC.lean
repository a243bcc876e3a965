/-
  A symbolic run of the model, proved sound, and the walk of the code: a text of its parts. Conditions: none.
-/
import Derived.Test.YtmobbajggkjpgaaGreatGB
import Derived.Calls
import Derived.Test.YtmobbajggkjpgaaGreatRows
import Derived.ChangeSame
import Derived.ChangeVars
import Derived.JoinedOf
import Derived.RowKit
import Derived.RowKitTokens
import Derived.LaidLaws
import Derived.LaidHandle
import Derived.Stop.Joined
import Derived.Conc.TokenWalk
set_option linter.unusedSectionVars false
set_option maxRecDepth 100000
set_option linter.unusedVariables false
set_option linter.unusedSimpArgs false
namespace Go.Proofs.YtmobbajggkjpgaaGreat.SX
open Go.Conc
open _root_.List renaming mem_cons_of_mem->af,mem_singleton->ah,mem_cons->ai,mem_cons_self->aj,all_eq_true->aE,mem_filter->aO,mem_append->aT,map_cons->aU
open _root_.Bool renaming and_eq_true->aq
open _root_.Option renaming map_some->av
open _root_.Nat renaming le_trans->ax,le_refl->ay,eq_of_beq_eq_true->aJ,mul_le_mul_right->bk
open _root_.Array renaming getElem?_eq_getElem->aS
section
variable {K:Ctx}{main:Bool}{nt:Nat}{ops:Array Oper}
theorem Next.before{U:Nat->Prop}{ρ ρ':Env}{cs:List Frame}{w w' w'':World}{h0:AH}{c:ee}{CS:Goroutine}(A:cz U ρ ρ')(k:bU K.own w w')(n:Next K U ρ' cs w' h0 c CS w''):Next K U ρ cs w h0 c CS w'':=by obtain⟨ze,a1,a2,a3,a4,a5⟩:=n;exact⟨ze,A.trans a1 (fun _ x=>x),k.trans a2,a3,a4,a5⟩
theorem Next.grow{U:Nat->Prop}{ρ ρ':Env}{cs:List Frame}{w w' w'':World}{h0 h1:AH}{c:ee}{CS:Goroutine}(A:cz U ρ ρ')(k:bU K.own w w')(gr:dg K U h0 h1)
 (n:Next K (plus U h0.nb h1.nb) ρ' cs w' h1 c CS w''):Next K U ρ cs w h0 c CS w'':=by
 obtain⟨ze,a1,a2,a3,a4,a5⟩:=n;exact⟨ze,A.trans a1 ck,k.trans a2,gr.trans a3,a4.congr fun n=>lV gr.nb a3.nb n,a5⟩
theorem fJ.before{U:Nat->Prop}{ρ ρ':Env}{cs:List Frame}{w w' w'':World}{h0:AH}{fn:FuncId}{todo:List Item}{defers:List AD}{kind:CallKind}{callers:List bW}{r:AR}{CS:Goroutine}(A:cz U ρ ρ')(k:bU K.own w w')
 (n:fJ K U ρ' cs w' h0 fn nt todo defers kind callers r CS w''):fJ K U ρ cs w h0 fn nt todo defers kind callers r CS w'':=by
 cases r with
 |on t h=>exact Next.before A k n
 |panic t c h=>exact fun td=>Next.before A k (n td)
theorem fJ.grow{U:Nat->Prop}{ρ ρ':Env}{cs:List Frame}{w w' w'':World}{h0 h1:AH}{fn:FuncId}{todo:List Item}{defers:List AD}{kind:CallKind}{callers:List bW}{r:AR}{CS:Goroutine}(A:cz U ρ ρ')(k:bU K.own w w')(gr:dg K U h0 h1)
 (n:fJ K (plus U h0.nb h1.nb) ρ' cs w' h1 fn nt todo defers kind callers r CS w''):fJ K U ρ cs w h0 fn nt todo defers kind callers r CS w'':=by
 cases r with
 |on t h=>exact Next.grow A k gr n
 |panic t c h=>exact fun td=>Next.grow A k gr (n td)
def S1(K:Ctx)(U0:Nat->Prop)(s:List Nat)(cur:bW)(callers:List bW)(h:AH):Option AH->Prop
 |none=>gy K U0 ⟨cur,callers,h⟩
 |some h0=>gf K U0 h0∧gy K (Us U0 h0 s) ⟨cur,callers,bare h⟩
theorem FY(Gd:K.Good)(F:K.iQ){ext:Ext}(X:iR K ext){call:FuncId->List AV->AH->M (AE×AH)}(C:j0 K main call)(hops:ops.size≤65536):
  ∀{n:Nat} {fork:Option AH} {L:Hp} {r:AR},m6 K.P K.O ext call nt ops n fork L=.ok r->
   ∃N,∀s t h,(s,t,h)∈L->∀{fn defers kind callers U0 ρ cs g w l k},(∀j∈s,j<ops.size)->jl ops s l->
    S1 K U0 s ⟨fn,nt,t,.inRegion ops l::k,defers,.run,kind⟩ callers h fork->qu K ρ ⟨⟨fn,nt,t,.inRegion ops l::k,defers,.run,kind⟩,callers,h⟩ cs g w->
    Walk K.P main (DK K) (fJ K U0 ρ cs w (fork.getD h) fn nt k defers kind callers r) N g w:=by
 intro n
 induction n with
 |zero=>intro fork L r he;simp only[m6]at he;cases he
 |succ n ih=>
  intro fork L r he;simp only[m6]at he;split at he
  ·rename_i s t h h0;obtain⟨N,hN⟩:=ih he;refine⟨N,fun s' t' h' hm {fn defers kind callers U0 ρ cs g w l k} hb hs I Γ=>?_⟩;cases ah.1 hm;obtain⟨I0,I⟩:=I;have hst:ops.size*iE h0≤h0.lim-h0.nb:=ax (bk _ hops) (Nat.mul_div_le _ _);have hI:gy K (plus U0 h0.nb (jN h0 ops.size h).nb) ⟨⟨fn,nt,t,.inRegion ops l::k,defers,.run,kind⟩,callers,jN h0 ops.size h⟩:=by
    refine I.lax rfl (fun m x=>?_) fun m x1 x2 x3=>?_
    ·rcases x with x|⟨j,j1,j2,j3⟩
     ·exact .inl x
     ·refine .inr ⟨by omega,Nat.lt_of_lt_of_le j3 (Nat.add_le_add_left (bk _ (hb j j1)) _)⟩
    ·have hx1:h0.nb+ops.size*iE h0≤m:=x1;rcases x3 with x|x
     ·exact I0.fresh m (by omega) x2 x
     ·have:=x.2;exact absurd this (Nat.not_lt.2 x1)
   have gr:dg K U0 h0 (jN h0 ops.size h):=⟨Nat.le_add_right _ _,rfl,hI.ids⟩;have:=hN s t _ (ah.2 rfl) hb hs hI (Γ.hp rfl);exact this.weaken fun g' w' x=>fJ.grow (cz.refl _ _) (bU.refl _ _) gr x
  ·rename_i s t h;split at he
   ·rename_i hr;cases he;refine⟨1,fun s' t' h' hm {fn defers kind callers U0 ρ cs g w l k} hb hs I Γ=>?_⟩;cases ah.1 hm;cases l with
    |cons i l=>have:=hs.1;rw[hr]at this;cases this
    |nil=>exact fq (fun ρ tm w cs R T b ds=>mz) U0 ρ cs g w I Γ
   ·rename_i i hr;have front:∀{l},jl ops s l->∃l',l=i::l'∧jl ops (i::s) l':=fun{l} hs=>by
     cases l with
     |nil=>have:cH ops s=[]:=hs;rw[hr]at this;cases this
     |cons j l=>have:=hs.1;rw[hr]at this;obtain rfl:=ah.1 this;exact⟨l,rfl,hs.2⟩
    have hi:i<ops.size:=(dw (s:=s) (by rw[hr];exact ah.2 rfl)).1;split at he
    ·cases he
    ·rename_i t' c h' hop;cases he;obtain⟨N,hN⟩:=jd Gd F X C hop;refine⟨N,fun s' t' h' hm {fn defers kind callers U0 ρ cs g w l k} hb hs I Γ=>?_⟩;cases ah.1 hm;obtain⟨l',rfl,hs'⟩:=front hs;exact hN I Γ
    ·rename_i t' h' hop;obtain⟨N,hN⟩:=jd Gd F X C hop;obtain⟨M,hM⟩:=ih he;refine⟨N+M,fun s' t2 h2 hm {fn defers kind callers U0 ρ cs g w l k} hb hs I Γ=>?_⟩;cases ah.1 hm;obtain⟨l',rfl,hs'⟩:=front hs;refine Walk.trans (fun g' w' nx=>?_) (hN I Γ);obtain⟨ρ',a1,a2,a3,a4,a5⟩:=nx;refine(hM (i::s) t' h' (ah.2 rfl) ?_ hs' a4 a5).weaken fun g2 w2 x=>fJ.grow a1 a2 a3 x;intro j hj;rcases ai.1 hj with rfl|hj
     ·exact hi
     ·exact hb j hj
   ·rename_i HB hn2;split at he
    ·rename_i L' hst;obtain⟨_,N,hN⟩:=rW Gd F X C hops hst;obtain⟨M,hM⟩:=ih he;refine⟨N+M,fun s' t2 h2 hm {fn defers kind callers U0 ρ cs g w l k} hb hs I Γ=>?_⟩;cases ah.1 hm;cases l with
     |nil=>exact absurd hs HB
     |cons i l=>
      obtain⟨hi1,hi2⟩:=dw hs.1;have I':gy K U0 ⟨⟨fn,nt,t,.inRegion ops (i::l)::k,defers,.run,kind⟩,callers,h⟩:=I;refine Walk.trans (fun g' w' fk=>?_) (hN i hs.1 hi1 hi2 I'.ids (I'.lax rfl (fun n x=>.inl x) fun n x1 x2=>by simp[bare]at x2) Γ);obtain⟨s',t',h',b1,b2,ρ',b3,b4,b5,b6⟩:=fk;refine(hM s' t' h' b1 (fun j hj=>?_) (hs.2.congr b2) ⟨I'.ids,b5⟩ b6).weaken fun g2 w2 x=>fJ.before b3 b4 x;rcases ai.1 ((b2 j).2 hj)with rfl|hj
      ·exact hi1
      ·exact hb j hj
    ·cases he
  ·rename_i h0 hn;split at he
   ·rename_i L' hst;obtain⟨_,N,hN⟩:=xH Gd F X C hops hst;obtain⟨M,hM⟩:=ih he;refine⟨N+M,fun s' t2 h2 hm {fn defers kind callers U0 ρ cs g w l k} hb hs I Γ=>?_⟩;obtain⟨c1,c2⟩:=hN s' t2 h2 hm;cases l with
    |nil=>exact absurd hs c1
    |cons i l=>
     obtain⟨hi1,hi2⟩:=dw hs.1;obtain⟨I0,I⟩:=I;refine Walk.trans (fun g' w' fk=>?_) (c2 i hs.1 I0 I Γ);obtain⟨s',t',h',b1,b2,ρ',b3,b4,b5,b6⟩:=fk;refine(hM s' t' h' b1 (fun j hj=>?_) (hs.2.congr b2) ⟨I0,b5⟩ b6).weaken fun g2 w2 x=>fJ.before b3 b4 x;rcases ai.1 ((b2 j).2 hj)with rfl|hj
     ·exact hi1
     ·exact hb j hj
   ·cases he
  ·cases he
theorem uE(F:K.iQ){tmps:TT}{h:AH}{id:Nat}{fn:FuncId}{defers:List AD}{kind:CallKind}{callers:List bW}{ρ:Env}{cs:List Frame}{g:Goroutine}{w:World}{k:List Item}
 (Γ:qu K ρ ⟨⟨fn,nt,tmps,.code (.region id ops true)::k,defers,.run,kind⟩,callers,h⟩ cs g w):
  Walk K.P main (DK K) (fun g' w'=>∃t,bU K.own w w'∧qu K ρ ⟨⟨fn,nt,tmps,.inRegion ops (Region.schedule true ops t)::k,defers,.run,kind⟩,callers,h⟩ cs g' w') 1 g w:=by
 refine Walk.one Γ.running fun d=>?_;obtain⟨R,tm,fY,h1,h2,h3,hc,rfl⟩:=kT.1 (Γ.drawn d);obtain⟨d',t,e⟩:=J' (main:=main) (ops:=ops) (b:=bB ρ fn kind) (a:=aB ρ kind tm defers) (k:=k) (cs:=fY++cs) (w:=cA w d) (id:=id) F.mixed;rw[e];exact⟨⟨⟨fun _ _=>rfl,ay _,rfl,rfl,rfl⟩,fun e he=>(by simp at he),fun _ _ _ _ x=>x⟩,t,⟨fun _ _=>rfl,ay _,rfl,rfl,rfl⟩,kT.2 ⟨R.at rfl,tm,fY,h1,h2,h3,hc,rfl⟩⟩
theorem u9(Gd:K.Good)(F:K.iQ){ext:Ext}(X:iR K ext){call:FuncId->List AV->AH->M (AE×AH)}(C:j0 K main call){tmps:TT}{h:AH}{r:AR}{id:Nat}(he:sM K.P K.O ext call nt ops tmps h=.ok r):
  ∃N,∀{fn defers kind callers U ρ cs g w k},gy K U ⟨⟨fn,nt,tmps,.code (.region id ops true)::k,defers,.run,kind⟩,callers,h⟩->qu K ρ ⟨⟨fn,nt,tmps,.code (.region id ops true)::k,defers,.run,kind⟩,callers,h⟩ cs g w->
   Walk K.P main (DK K) (fJ K U ρ cs w h fn nt k defers kind callers r) N g w:=by
 unfold sM at he;split at he
 ·rename_i hops;obtain⟨N,hN⟩:=FY Gd F X C hops he;refine⟨1+N,fun{fn defers kind callers U ρ cs g w k} I Γ=>?_⟩;have hs:=uE (main:=main) F Γ;refine Walk.trans (fun g' w' ⟨t,kp,Vj⟩=>?_) hs;refine(hN [] tmps h (ah.2 rfl) (fun j hj=>by cases hj) (j4 ops t) (U0:=U) ⟨⟨I.cur.tmps,I.cur.defers,trivial⟩,I.callers,I.ids⟩ Vj).weaken fun g2 w2 x=>fJ.before (cz.refl _ _) kp x
 ·cases he
end
section
variable {K:Ctx}{main:Bool}{nt:Nat}{ops:Array Oper}
theorem MO{ρ:Env}{fn:FuncId}{t t':TT}{todo:List Item}{defers:List AD}{mode:gU}{kind:CallKind}{callers:List bW}{h:AH}{cs:List Frame}{g:Goroutine}{w:World}(e:∀n,t'.get n=t.get n)
 (Γ:qu K ρ ⟨⟨fn,nt,t',todo,defers,mode,kind⟩,callers,h⟩ cs g w):qu K ρ ⟨⟨fn,nt,t,todo,defers,mode,kind⟩,callers,h⟩ cs g w:=by
 obtain⟨R,fr,fY,⟨tm,td,is,rfl⟩,hc,rfl⟩:=Γ;exact⟨R,_,fY,⟨tm,td,⟨⟨is.tmps.size,is.tmps.le,fun n hn=>by rw[is.tmps.get n hn,e],fun n hn=>by rw[<-e];exact is.tmps.out n hn⟩,is.kind,is.todo,is.fn⟩,rfl⟩,hc,rfl⟩
theorem HK{U:Nat->Prop}{fn:FuncId}{t t':TT}{todo:List Item}{defers:List AD}{mode:gU}{kind:CallKind}{callers:List bW}{h:AH}(e:∀n,t'.get n=t.get n)
 (I:gy K U ⟨⟨fn,nt,t',todo,defers,mode,kind⟩,callers,h⟩):gy K U ⟨⟨fn,nt,t,todo,defers,mode,kind⟩,callers,h⟩:=
 ⟨⟨fun n=>by have:=I.cur.tmps n;rw[e]at this;exact this,I.cur.defers,I.cur.mode⟩,I.callers,I.ids⟩
theorem xL{ρ:Env}{fn:FuncId}{t:TT}{todo:List Item}{defers:List AD}{mode:gU}{kind:CallKind}{callers:List bW}{h:AH}{cs:List Frame}{g:Goroutine}{w:World}(Γ:qu K ρ ⟨⟨fn,nt,t,todo,defers,mode,kind⟩,callers,h⟩ cs g w):nt≤60000:=by obtain⟨R,fr,fY,⟨tm,td,is,rfl⟩,hc,rfl⟩:=Γ;exact is.tmps.le
def MP(K:Ctx)(nt:Nat)(ops:Array Oper)(U:Nat->Prop)(s:List Nat)(t:TT)(h:AH)(ρ:Env)(cs:List Frame)(w:World)(fn:FuncId)(k:List Item)(defers:List AD)(kind:CallKind)(callers:List bW)(g':Goroutine)(w':World):Prop:=
 ∃r' CY l' ρ',k8 ops nt s r' t CY∧jl ops r' l'∧cz U ρ ρ'∧bU K.own w w'∧gy K U ⟨⟨fn,nt,CY,.inRegion ops l'::k,defers,.run,kind⟩,callers,bare h⟩∧qu K ρ' ⟨⟨fn,nt,CY,.inRegion ops l'::k,defers,.run,kind⟩,callers,h⟩ cs g' w'∧
  (l'=[]∨∃i l'',l'=i::l''∧i∉s)
theorem Vl(Gd:K.Good)(F:K.iQ){ext:Ext}(X:iR K ext){call:FuncId->List AV->AH->M (AE×AH)}(C:j0 K main call)(hok:jW ops (cZ ops)=true){s:List Nat}{m:Nat}{t:TT}{h:AH}(hc:Cons s m)
 (hq:pF K.P K.O ext nt ops (JC (cZ ops) m) t (bare h) (cZ ops)=true){U:Nat->Prop}{cs:List Frame}{fn:FuncId}{k:List Item}{defers:List AD}{kind:CallKind}{callers:List bW}:
  ∀{l r:List Nat} {tr:TT} {ρ:Env} {g:Goroutine} {w:World},k8 ops nt s r t tr->jl ops r l->gy K U ⟨⟨fn,nt,tr,.inRegion ops l::k,defers,.run,kind⟩,callers,bare h⟩->
   qu K ρ ⟨⟨fn,nt,tr,.inRegion ops l::k,defers,.run,kind⟩,callers,h⟩ cs g w->Walk K.P main (DK K) (MP K nt ops U s t h ρ cs w fn k defers kind callers) 0 g w
 |[],r,tr,ρ,g,w,N,sc,I,Γ=>Walk.stop ⟨r,tr,[],ρ,N,sc,cz.refl _ _,bU.refl _ _,I,Γ,.inl rfl⟩
 |i::l,r,tr,ρ,g,w,N,sc,I,Γ=>by
  by_cases hi:i∈s
  ·obtain⟨hir,hsc⟩:=sc;obtain⟨_,o,ho,_⟩:=fZ.1 hir;obtain⟨o',ho',hqo⟩:=N.quiet i hi (dw hir).2;rw[ho]at ho';cases ho';obtain⟨v,hv,hd⟩:=uD hq _ (fH.2 ⟨i,o,ho,rfl⟩) hqo (N.rem hc hi (dw hir).2);have al:=N.alike hok ho hir;have hop:jJ K.P K.O ext call nt ops i tr (bare h)=.ok (.on (jx nt tr o.dst v) (bare h)):=tu ho hqo (by
    rcases hv with⟨a,b⟩|⟨a,h',b⟩
    ·exact .inl ⟨by rw[al.wanted];exact a,b⟩
    ·exact .inr ⟨by rw[al.wanted];exact a,h',by rw[uC al.eval];exact b⟩)
   obtain⟨M,hM⟩:=jd Gd F X C hop;refine(Walk.trans (m:=0) (fun g' w' nx=>?_) (hM I (Γ.hp rfl))).any;obtain⟨ρ',a1,a2,a3,a4,a5⟩:=nx;have I':=a4.congr (U':=U) fun n=>(kK U _ n).symm;refine(Vl Gd F X C hok hc hq (N.drawn (xL Γ) ho hi hir hd) hsc I' (a5.hp rfl)).weaken fun g2 w2 p=>?_;obtain⟨r',CY,l',QN,b1,b2,b3,b4,b5⟩:=p;exact⟨r',CY,l',QN,b1,b2,a1.trans b3 (fun _ x=>x),a2.trans b4,b5⟩
  ·exact Walk.stop ⟨r,tr,i::l,ρ,N,sc,cz.refl _ _,bU.refl _ _,I,Γ,.inr ⟨i,l,rfl,hi⟩⟩
def pW(ops:Array Oper)(L:qG):Prop:=∀e∈L,Cons e.1 e.2.1∧oc ops e.1
theorem xM{s:List Nat}{m:Nat}{t:TT}{h:AH}:∀{L L':qG},sK s m t h L=.ok L'->(∀e∈L,e∈L')∧(pW ops L->Cons s m->oc ops s->pW ops L')∧∃s' h',(s',m,t,h')∈L'∧h'.hp=h.hp
 |[],L',he=>by simp only[sK]at he;cases he;refine⟨(fun e x=>by cases x),fun _ a b e he=>?_,s,h,ah.2 rfl,rfl⟩;cases ah.1 he;exact⟨a,b⟩
 |(s',m',t',h')::L,L',he=>by
  simp only[sK]at he;split at he
  ·rename_i hs;obtain rfl:=aJ hs;split at he
   ·rename_i hq;cases he;simp only[aq]at hq;obtain rfl:=TT.cM hq.1;exact⟨fun e x=>x,fun a _ _=>a,s',h',aj ..,(Ck hq.2).symm⟩
   ·cases he
  ·split at he
   ·rename_i l hl;cases he;obtain⟨a,ag,s2,h2,b,c⟩:=xM (L:=L) hl;refine⟨fun e x=>?_,fun g1 g2 g3 e x=>?_,s2,h2,af _ b,c⟩
    ·rcases ai.1 x with rfl|x
     ·exact aj ..
     ·exact af _ (a e x)
    ·rcases ai.1 x with rfl|x
     ·exact g1 _ (aj ..)
     ·exact ag (fun e he=>g1 e (af _ he)) g2 g3 e x
   ·cases he
theorem HL{P:Program}{O:dN}{ext:Ext}{call:FuncId->List AV->AH->M (AE×AH)}{infos:List Info}{s:List Nat}{m:Nat}{t:TT}{h:AH}{i:Nat}{s2:List Nat}{m2:Nat}{t2:TT}{h1:AH}
 (he:Qv P O ext call nt ops infos s m t h i=.ok (s2,m2,t2,h1)):∃t1,jJ P O ext call nt ops i t h=.ok (.on t1 h1)∧oR P O ext nt ops (bare h1) infos (i::s) (zd m i) t1=.ok (s2,m2,t2):=by
 unfold Qv at he;split at he
 ·cases he
 ·cases he
 ·rename_i t1 Cf hop;split at he
  ·cases he
  ·rename_i hs;cases he;exact⟨t1,hop,hs⟩
def MQ(P:Program)(O:dN)(ext:Ext)(call:FuncId->List AV->AH->M (AE×AH))(nt:Nat)(ops:Array Oper)(h0:AH)(s:List Nat)(m:Nat)(t:TT)(h:AH)(i:Nat)(L':qG):Prop:=
 ∃t1 h1 s2 m2 t2 s' h',jJ P O ext call nt ops i t (l9 h0 i h)=.ok (.on t1 h1)∧h1.nb≤h1.lim∧oR P O ext nt ops (bare h1) (cZ ops) (i::s) (zd m i) t1=.ok (s2,m2,t2)∧(s',m2,t2,h')∈L'∧h'.hp=h1.hp
theorem pX{P:Program}{O:dN}{ext:Ext}{call:FuncId->List AV->AH->M (AE×AH)}(hnt:nt≤60000){h0:AH}{s:List Nat}{m:Nat}{t:TT}{h:AH}(hc:Cons s m)(tp:oc ops s):
  ∀{js:List Info},(∀x∈js,x∈cZ ops∧vT m x=true)->∀{L L':qG},nU P O ext call nt ops (cZ ops) h0 s m t h js L=.ok L'->(∀e∈L,e∈L')∧(pW ops L->pW ops L')∧∀x∈js,MQ P O ext call nt ops h0 s m t h x.1 L'
 |[],_,L,L',he=>by simp only[nU]at he;cases he;exact⟨fun e x=>x,fun g=>g,fun x hx=>by cases hx⟩
 |x::js,hj,L,L',he=>by
  simp only[nU]at he;split at he
  ·cases he
  ·rename_i s2 m2 t2 h1 hone;split at he
   ·rename_i hlim;split at he
    ·rename_i L1 hput;obtain⟨t1,hop,QV⟩:=HL hone;obtain⟨hx,hcan⟩:=hj x (aj ..);obtain⟨i,o,ho,rfl⟩:=fH.1 hx;have hr:=(oG hc ho).1 hcan;have S:=mC hnt (fun _ x=>x) (hc.add (i:=i)) (show oc ops (i::s)from⟨hr,tp⟩) QV;obtain⟨a1,a2,s',h',a3,a4⟩:=xM (ops:=ops) hput;obtain⟨b1,b2,b3⟩:=pX hnt hc tp (fun y hy=>hj y (af _ hy)) he;refine⟨fun e x=>b1 e (a1 e x),fun g=>b2 (a2 g S.cons S.MN),fun y hy=>?_⟩;rcases ai.1 hy with rfl|hy
     ·exact⟨t1,h1,s2,m2,t2,s',h',hop,hlim,QV,b1 _ a3,a4⟩
     ·exact b3 y hy
    ·cases he
   ·cases he
theorem u_{P:Program}{O:dN}{ext:Ext}{call:FuncId->List AV->AH->M (AE×AH)}(hnt:nt≤60000){h0:AH}:
  ∀{A:qG},pW ops A->∀{L L':qG},pG P O ext call nt ops (cZ ops) h0 A L=.ok L'->(∀e∈L,e∈L')∧(pW ops L->pW ops L')∧
   ∀s m t h,(s,m,t,h)∈A->(cZ ops).filter (vT m)≠[]∧∀x∈(cZ ops).filter (vT m),MQ P O ext call nt ops h0 s m t h x.1 L'
 |[],_,L,L',he=>by simp only[pG]at he;cases he;exact⟨fun e x=>x,fun g=>g,fun _ _ _ _ x=>by cases x⟩
 |(s,m,t,h)::A,gA,L,L',he=>by
  simp only[pG]at he;split at he
  ·cases he
  ·rename_i hne;split at he
   ·rename_i L1 h1;obtain⟨hc,tp⟩:=gA _ (aj ..);obtain⟨a1,a2,a3⟩:=pX hnt hc tp (fun x hx=>by
     obtain⟨p,q⟩:=aO.1 hx;exact⟨p,q⟩) h1
    obtain⟨b1,b2,b3⟩:=u_ hnt (fun e he=>gA e (af _ he)) he;refine⟨fun e x=>b1 e (a1 e x),fun g=>b2 (a2 g),fun s' m' t' h' hm=>?_⟩;rcases ai.1 hm with hq|hm
    ·cases hq;refine⟨hne,fun x hx=>?_⟩;obtain⟨t1,h1,s2,m2,t2,s',h',c1,c2,c3,c4,c5⟩:=a3 x hx;exact⟨t1,h1,s2,m2,t2,s',h',c1,c2,c3,b1 _ c4,c5⟩
    ·exact b3 s' m' t' h' hm
   ·cases he
theorem k8.head{s r:List Nat}{m:Nat}{t tr:TT}(N:k8 ops nt s r t tr)(hc:Cons s m){i:Nat}(hi:i∈cH ops r)(hn:i∉s):∃o,ops[i]?=some o∧i∈cH ops s∧(i,o,iA o.after.toList,jV o)∈(cZ ops).filter (vT m):=by obtain⟨_,o,ho,hp⟩:=fZ.1 hi;have hr:i∈cH ops s:=fZ.2 ⟨hn,o,ho,fun e he hb=>N.sub _ (hp e he hb)⟩;exact⟨o,ho,hr,aO.2 ⟨fH.2 ⟨i,o,ho,rfl⟩,(oG hc ho).2 hr⟩⟩
theorem z8(Gd:K.Good)(F:K.iQ){ext:Ext}(X:iR K ext){call:FuncId->List AV->AH->M (AE×AH)}(C:j0 K main call)(hops:ops.size≤65536)(hok:jW ops (cZ ops)=true){h0:AH}{s r:List Nat}{m:Nat}{t tr:TT}{h:AH}{i:Nat}{L':qG}
 (hc:Cons s m)(tp:oc ops s)(gL:pW ops L')(Md:MQ K.P K.O ext call nt ops h0 s m t h i L')(N:k8 ops nt s r t tr)(hi:i∈cH ops r)(hn:i∉s){U0:Nat->Prop}{ρ:Env}{cs:List Frame}{g:Goroutine}{w:World}{fn:FuncId}{l:List Nat}{k:List Item}{defers:List AD}{kind:CallKind}{callers:List bW}
 (I0:gf K U0 h0)(I:gy K (Us U0 h0 s) ⟨⟨fn,nt,tr,.inRegion ops (i::l)::k,defers,.run,kind⟩,callers,bare h⟩)(Γ:qu K ρ ⟨⟨fn,nt,tr,.inRegion ops (i::l)::k,defers,.run,kind⟩,callers,h⟩ cs g w):
  Walk K.P main (DK K) (fun g' w'=>∃s' m' t' h' CY ρ',(s',m',t',h')∈L'∧k8 ops nt s' (i::r) t' CY∧cz U0 ρ ρ'∧bU K.own w w'∧gy K (Us U0 h0 s') ⟨⟨fn,nt,CY,.inRegion ops l::k,defers,.run,kind⟩,callers,bare h'⟩∧
   qu K ρ' ⟨⟨fn,nt,CY,.inRegion ops l::k,defers,.run,kind⟩,callers,h'⟩ cs g' w') 0 g w:=by
 obtain⟨t1,h1,s2,m2,t2,s',h',c1,c2,c3,c4,c5⟩:=Md;obtain⟨o,ho,hr,_⟩:=N.head hc hi hn;have hnt:=xL Γ;obtain⟨v,rfl,hop⟩:=tq ho (N.alike hok ho hi) c1;have S:=mC hnt (fun _ x=>x) (hc.add (i:=i)) (show oc ops (i::s)from⟨hr,tp⟩) c3;have hi1:=(dw hr).1;obtain⟨M,hM⟩:=jd Gd F X C hop;have I':gy K (Us U0 h0 s) ⟨⟨fn,nt,tr,.inRegion ops (i::l)::k,defers,.run,kind⟩,callers,l9 h0 i h⟩:=
  I.lax rfl (fun n x=>x) fun n x1 x2=>CV I0 (by omega) hn x1 x2
 have mem:∀j,j∈s2↔j∈s':=fun j=>((S.cons j).symm).trans ((gL _ c4).1 j);refine((hM I' (Γ.hp rfl)).weaken fun g' w' nx=>?_).any;obtain⟨ρ',a1,a2,a3,a4,a5⟩:=nx;have NN:=N.next hnt ho hn hi S;have NN':k8 ops nt s' (i::r) t2 (jx nt tr o.dst v):=⟨fun j hj=>(mem j).1 (NN.sub j hj),fun j hj hx=>NN.quiet j ((mem j).2 hj) hx,fun n hlt hx=>NN.same n hlt fun⟨j,oj,x1,x2⟩=>hx ⟨j,oj,(mem j).1 x1,x2⟩,NN.out,NN.down⟩;refine⟨s',m2,t2,h',_,ρ',c4,NN',a1.mono (fun n x=>.inl x),a2,?_,a5.hp c5⟩;refine a4.lax c5 (fun n x=>?_) fun n x1 x2=>by simp[bare]at x2
 rcases x with(x|⟨q,q1,q2⟩)|x
 ·exact .inl x
 ·exact .inr ⟨q,(mem q).1 (S.sub q (af _ q1)),q2⟩
 ·have hl:h1.lim=(l9 h0 i h).lim:=a3.lim;refine .inr ⟨i,(mem i).1 (S.sub i (aj ..)),x.1,?_⟩;have ZG:h1.lim=h0.nb+(i+1)*iE h0:=hl;have hx:=x.2;dsimp only at hx;omega
theorem CZ(Gd:K.Good)(F:K.iQ){ext:Ext}(X:iR K ext){call:FuncId->List AV->AH->M (AE×AH)}(C:j0 K main call)(hops:ops.size≤65536)(hok:jW ops (cZ ops)=true)(hnt:nt≤60000):
  ∀{n:Nat} {fork:Option AH} {L:qG} {R:AR},kZ K.P K.O ext call nt ops (cZ ops) n fork L=.ok R->pW ops L->
   ∀s m t h,(s,m,t,h)∈L->∀{fn defers kind callers U0 ρ cs g w l k r tr},k8 ops nt s r t tr->jl ops r l->
    S1 K U0 s ⟨fn,nt,tr,.inRegion ops l::k,defers,.run,kind⟩ callers h fork->qu K ρ ⟨⟨fn,nt,tr,.inRegion ops l::k,defers,.run,kind⟩,callers,h⟩ cs g w->
    Walk K.P main (DK K) (fJ K U0 ρ cs w (fork.getD h) fn nt k defers kind callers R) 0 g w:=by
 intro n
 induction n with
 |zero=>intro fork L R he;simp only[kZ]at he;cases he
 |succ n ih=>
  intro fork L R he gL;simp only[kZ]at he;split at he
  ·cases he
  rename_i JF;rw[aE]at JF;have hold:∀s m t h,(s,m,t,h)∈L->pF K.P K.O ext nt ops (JC (cZ ops) m) t (bare h) (cZ ops)=true:=fun s m t h hm=>by have:=JF _ hm;unfold settled at this;rw[aq]at this;exact this.2
  split at he
  ·rename_i s m t h h0;intro s' m' t' h' hm fn defers kind callers U0 ρ cs g w l k r tr N sc I Γ;cases ah.1 hm;obtain⟨I0,I⟩:=I;obtain⟨hc,tp⟩:=gL _ (ah.2 rfl);have hst:ops.size*iE h0≤h0.lim-h0.nb:=ax (bk _ hops) (Nat.mul_div_le _ _);have hI:gy K (plus U0 h0.nb (jN h0 ops.size h).nb) ⟨⟨fn,nt,tr,.inRegion ops l::k,defers,.run,kind⟩,callers,jN h0 ops.size h⟩:=by
    refine I.lax rfl (fun m x=>?_) fun m x1 x2 x3=>?_
    ·rcases x with x|⟨j,j1,j2,j3⟩
     ·exact .inl x
     ·refine .inr ⟨by omega,Nat.lt_of_lt_of_le j3 (Nat.add_le_add_left (bk _ (tp.lt j j1)) _)⟩
    ·have hx1:h0.nb+ops.size*iE h0≤m:=x1;rcases x3 with x|x
     ·exact I0.fresh m (by omega) x2 x
     ·have:=x.2;exact absurd this (Nat.not_lt.2 x1)
   have gr:dg K U0 h0 (jN h0 ops.size h):=⟨Nat.le_add_right _ _,rfl,hI.ids⟩;have:=ih he (fun e he=>by cases ah.1 he;exact⟨hc,tp⟩) s m t _ (ah.2 rfl) N sc hI (Γ.hp rfl);exact this.weaken fun g' w' x=>fJ.grow (cz.refl _ _) (bU.refl _ _) gr x
  ·rename_i s m t h;intro s' m' t' h' hm fn defers kind callers U0 ρ cs g w l k r tr N sc I Γ;cases ah.1 hm;obtain⟨hc,tp⟩:=gL _ (ah.2 rfl);have I1:gy K U0 ⟨⟨fn,nt,tr,.inRegion ops l::k,defers,.run,kind⟩,callers,h⟩:=I;have Wp:=Vl Gd F X C hok hc (hold _ _ _ _ (ah.2 rfl)) N sc (I1.lax (h':=bare h) rfl (fun n x=>x) fun n x1 x2=>by simp[bare]at x2) Γ;refine(Walk.trans (m:=0) (fun g1 w1 p=>?_) Wp).any;obtain⟨r1,tr1,l1,ρ1,N1,E4,A1,Vm,Ib,Γ1,Qs⟩:=p;have J1:gy K U0 ⟨⟨fn,nt,tr1,.inRegion ops l1::k,defers,.run,kind⟩,callers,h⟩:=⟨Ib.cur,Ib.callers,I1.ids⟩;split at he
   ·rename_i hr;cases he;rcases Qs with rfl|⟨i,l2,rfl,hi⟩
    ·obtain⟨_,_,e⟩:=N1.over tp E4;have L1:=fq (K:=K) (main:=main) (fn:=fn) (nt:=nt) (tmps:=t) (todo:=.inRegion ops []::k) (todo':=k) (defers:=defers) (kind:=kind) (callers:=callers) (h:=h) (fun ρ tm w cs R T b ds=>mz);exact((L1 U0 ρ1 cs g1 w1 (HK e J1) (MO e Γ1)).weaken fun g2 w2 x=>fJ.before A1 Vm (r:=.on t h) x).any
    ·obtain⟨o,_,_,hx⟩:=N1.head hc E4.1 hi;rw[hr]at hx;cases hx
   ·rename_i x hr;split at he
    ·cases he
    ·rename_i e hone;obtain⟨s2,m2,t2,h2⟩:=e;obtain⟨t1,hop,QV⟩:=HL hone;rcases Qs with rfl|⟨i,l2,rfl,hi⟩
     ·obtain⟨_,e,_⟩:=N1.over tp E4;have hx:x∈(cZ ops).filter (vT m):=by rw[hr];exact ah.2 rfl
      obtain⟨p,q⟩:=aO.1 hx;obtain⟨i,o,ho,rfl⟩:=fH.1 p;have:=(oG hc ho).1 q;rw[e]at this;cases this
     ·obtain⟨o,ho,hrs,hx⟩:=N1.head hc E4.1 hi;rw[hr]at hx;obtain rfl:=ah.1 hx;dsimp only at hop QV;obtain⟨v,rfl,afp⟩:=tq ho (N1.alike hok ho E4.1) hop;have S:=mC hnt (fun _ x=>x) (hc.add (i:=i)) (show oc ops (i::s)from⟨hrs,tp⟩) QV;obtain⟨M,hM⟩:=jd Gd F X C afp;refine(Walk.trans (m:=0) (fun g2 w2 nx=>?_) (hM J1 Γ1)).any;obtain⟨QN,a1,a2,a3,a4,a5⟩:=nx;refine(ih he (fun e he=>by cases ah.1 he;exact⟨S.cons,S.MN⟩) s2 m2 t2 h2 (ah.2 rfl) (N1.next hnt ho hi E4.1 S) E4.2 a4 a5).weaken fun g3 w3 y=>?_;exact fJ.before A1 Vm (fJ.grow a1 a2 a3 y)
   ·rename_i HB hn2;split at he
    ·rename_i L' hst;obtain⟨_,g2,C0⟩:=pX hnt hc tp (fun x hx=>by
      obtain⟨p,q⟩:=aO.1 hx;exact⟨p,q⟩) hst
     have gL':pW ops L':=g2 fun e he=>by cases he
     rcases Qs with rfl|⟨i,l2,rfl,hi⟩
     ·obtain⟨_,e,_⟩:=N1.over tp E4;refine absurd (List.eq_nil_iff_forall_not_mem.2 fun x hx=>?_) HB;obtain⟨p,q⟩:=aO.1 hx;obtain⟨i,o,ho,rfl⟩:=fH.1 p;have:=(oG hc ho).1 q;rw[e]at this;cases this
     ·obtain⟨o,ho,hrs,hx⟩:=N1.head hc E4.1 hi;have Md:=C0 _ hx;refine(Walk.trans (m:=0) (fun g2 w2 nx=>?_) (z8 Gd F X C hops hok hc tp gL' Md N1 E4.1 hi J1.ids (Ib.lax rfl (fun n x=>.inl x) fun n x1 x2=>by simp[bare]at x2) Γ1)).any;obtain⟨s3,m3,t3,h3,tr3,ρ3,b1,b2,b3,b4,b5,b6⟩:=nx;refine(ih he gL' s3 m3 t3 h3 b1 b2 E4.2 ⟨J1.ids,b5⟩ b6).weaken fun g3 w3 y=>?_;exact fJ.before A1 Vm (fJ.before b3 b4 y)
    ·cases he
  ·rename_i h0 hn;split at he
   ·rename_i L' hst;obtain⟨_,g2,C0⟩:=u_ hnt gL hst;have gL':pW ops L':=g2 fun e he=>by cases he
    intro s m t h hm fn defers kind callers U0 ρ cs g w l k r tr N sc I Γ;obtain⟨hc,tp⟩:=gL _ hm;obtain⟨hne,C0⟩:=C0 s m t h hm;obtain⟨I0,I⟩:=I;have Wp:=Vl Gd F X C hok hc (hold _ _ _ _ hm) N sc I Γ;refine(Walk.trans (m:=0) (fun g1 w1 p=>?_) Wp).any;obtain⟨r1,tr1,l1,ρ1,N1,E4,A1,Vm,Ib,Γ1,Qs⟩:=p;rcases Qs with rfl|⟨i,l2,rfl,hi⟩
    ·obtain⟨_,e,_⟩:=N1.over tp E4;refine absurd (List.eq_nil_iff_forall_not_mem.2 fun x hx=>?_) hne;obtain⟨p,q⟩:=aO.1 hx;obtain⟨i,o,ho,rfl⟩:=fH.1 p;have:=(oG hc ho).1 q;rw[e]at this;cases this
    ·obtain⟨o,ho,hrs,hx⟩:=N1.head hc E4.1 hi;have Md:=C0 _ hx;refine(Walk.trans (m:=0) (fun g2 w2 nx=>?_) (z8 Gd F X C hops hok hc tp gL' Md N1 E4.1 hi I0 Ib Γ1)).any;obtain⟨s3,m3,t3,h3,tr3,ρ3,b1,b2,b3,b4,b5,b6⟩:=nx;refine(ih he gL' s3 m3 t3 h3 b1 b2 E4.2 ⟨I0,b5⟩ b6).weaken fun g3 w3 y=>?_;exact fJ.before (A1.mono fun n x=>.inl x) Vm (fJ.before b3 b4 y)
   ·cases he
  ·cases he
theorem C1(Gd:K.Good)(F:K.iQ){ext:Ext}(X:iR K ext){call:FuncId->List AV->AH->M (AE×AH)}(C:j0 K main call){tmps:TT}{h:AH}{r:AR}{id:Nat}(he:drawn K.P K.O ext call nt ops tmps h=.ok r):
  ∃N,∀{fn defers kind callers U ρ cs g w k},gy K U ⟨⟨fn,nt,tmps,.code (.region id ops true)::k,defers,.run,kind⟩,callers,h⟩->qu K ρ ⟨⟨fn,nt,tmps,.code (.region id ops true)::k,defers,.run,kind⟩,callers,h⟩ cs g w->
   Walk K.P main (DK K) (fJ K U ρ cs w h fn nt k defers kind callers r) N g w:=by
 unfold drawn at he;split at he
 ·exact u9 Gd F X C he
 ·rename_i hb;rw[aq]at hb;have hops:ops.size≤65536:=Nat.le_of_ble_eq_true hb.1;split at he
  ·rename_i r' hm;cases he;refine⟨0,fun{fn defers kind callers U ρ cs g w k} I Γ=>?_⟩;unfold LZ at hm;split at hm
   ·cases hm
   ·rename_i s m t QV;have hnt:=xL Γ;have S:=mC hnt (fun _ x=>x) CX (show oc ops []from trivial) QV;refine(Walk.trans (m:=0) (fun g' w' ⟨q,kp,Vj⟩=>?_) (uE (main:=main) F Γ)).any;refine(CZ Gd F X C hops hb.2 hnt hm (fun e he=>by cases ah.1 he;exact⟨S.cons,S.MN⟩) s m t h (ah.2 rfl) (k8.begin S) (j4 ops q) (U0:=U) ⟨⟨I.cur.tmps,I.cur.defers,trivial⟩,I.callers,I.ids⟩ Vj).weaken fun g2 w2 x=>fJ.before (cz.refl _ _) kp x
  ·exact u9 Gd F X C he
end
section
variable {K:Ctx}{main:Bool}{nt:Nat}{ops:Array Oper}
theorem xN{r:List Nat}(d:Down ops r):∀{l:List Info},(∀x∈l,x∈cZ ops)->∀{m:Nat},(∀i,o6 m i=true->i∈r)->∀i,o6 (nG l m) i=true->i∈r
 |[],_,m,hm,i,hi=>hm i hi
 |x::l,hl,m,hm,i,hi=>by
  have ih:=xN d (l:=l) (fun y hy=>hl y (af _ hy)) hm;simp only[nG]at hi;split at hi
  ·rename_i hx;have h1:o6 (nG l m) i=true∨o6 x.2.2.1 i=true:=by
    rw[ek]at hi⊢;rw[ek];have e:Nat.lor (nG l m) x.2.2.1=nG l m ||| x.2.2.1:=rfl
    rw[e,Nat.testBit_or,Bool.or_eq_true]at hi;exact hi
   rcases h1 with h1|h1
   ·exact ih i h1
   ·obtain⟨j,o,ho,rfl⟩:=fH.1 (hl x (aj ..));obtain⟨e,he,hb,rfl⟩:=n_.1 h1;exact d j (ih j hx) o ho e he hb
  ·exact ih i hi
theorem S2(Gd:K.Good)(F:K.iQ){ext:Ext}(X:iR K ext){call:FuncId->List AV->AH->M (AE×AH)}(C:j0 K main call)(hok:jW ops (cZ ops)=true){s:List Nat}{m:Nat}{t:TT}{h:AH}(hc:Cons s m)
 (hq:pF K.P K.O ext nt ops m t (bare h) (cZ ops)=true){U:Nat->Prop}{cs:List Frame}{fn:FuncId}{k:List Item}{defers:List AD}{kind:CallKind}{callers:List bW}:
  ∀{l r:List Nat} {tr:TT} {ρ:Env} {g:Goroutine} {w:World},k8 ops nt s r t tr->jl ops r l->Down ops r->gy K U ⟨⟨fn,nt,tr,.inRegion ops l::k,defers,.run,kind⟩,callers,bare h⟩->
   qu K ρ ⟨⟨fn,nt,tr,.inRegion ops l::k,defers,.run,kind⟩,callers,h⟩ cs g w->Walk K.P main (DK K) (fun g' w'=>∃r' CY l' ρ',Down ops r'∧k8 ops nt s r' t CY∧jl ops r' l'∧cz U ρ ρ'∧bU K.own w w'∧gy K U ⟨⟨fn,nt,CY,.inRegion ops l'::k,defers,.run,kind⟩,callers,bare h⟩∧qu K ρ' ⟨⟨fn,nt,CY,.inRegion ops l'::k,defers,.run,kind⟩,callers,h⟩ cs g' w'∧
  (l'=[]∨∃i l'',l'=i::l''∧i∉s)) 0 g w
 |[],r,tr,ρ,g,w,N,sc,dn,I,Γ=>Walk.stop ⟨r,tr,[],ρ,dn,N,sc,cz.refl _ _,bU.refl _ _,I,Γ,.inl rfl⟩
 |i::l,r,tr,ρ,g,w,N,sc,dn,I,Γ=>by
  by_cases hi:i∈s
  ·obtain⟨hir,hsc⟩:=sc;obtain⟨_,o,ho,_⟩:=fZ.1 hir;obtain⟨o',ho',hqo⟩:=N.quiet i hi (dw hir).2;rw[ho]at ho';cases ho';obtain⟨v,hv,hd⟩:=uD hq _ (fH.2 ⟨i,o,ho,rfl⟩) hqo ((hc i).2 hi);have al:=N.alike hok ho hir;have hop:jJ K.P K.O ext call nt ops i tr (bare h)=.ok (.on (jx nt tr o.dst v) (bare h)):=tu ho hqo (by
    rcases hv with⟨a,b⟩|⟨a,h',b⟩
    ·exact .inl ⟨by rw[al.wanted];exact a,b⟩
    ·exact .inr ⟨by rw[al.wanted];exact a,h',by rw[uC al.eval];exact b⟩)
   obtain⟨M,hM⟩:=jd Gd F X C hop;refine(Walk.trans (m:=0) (fun g' w' nx=>?_) (hM I (Γ.hp rfl))).any;obtain⟨ρ',a1,a2,a3,a4,a5⟩:=nx;have I':=a4.congr (U':=U) fun n=>(kK U _ n).symm;refine(S2 Gd F X C hok hc hq (N.drawn (xL Γ) ho hi hir hd) hsc (dn.cons hir) I' (a5.hp rfl)).weaken fun g2 w2 p=>?_;obtain⟨r',CY,l',QN,b0,b1,b2,b3,b4,b5⟩:=p;exact⟨r',CY,l',QN,b0,b1,b2,a1.trans b3 (fun _ x=>x),a2.trans b4,b5⟩
  ·exact Walk.stop ⟨r,tr,i::l,ρ,dn,N,sc,cz.refl _ _,bU.refl _ _,I,Γ,.inr ⟨i,l,rfl,hi⟩⟩
theorem Kd(Gd:K.Good)(F:K.iQ){ext:Ext}(X:iR K ext){call:FuncId->List AV->AH->M (AE×AH)}(C:j0 K main call){tmps t:TT}{h:AH}{j id:Nat}(he:Fc K.P K.O ext nt ops (cZ ops) tmps h=some (j,t)){fn:FuncId}{defers:List AD}{kind:CallKind}{callers:List bW}{k:List Item}:
  k7 K main ⟨⟨fn,nt,tmps,.code (.region id ops true)::k,defers,.run,kind⟩,callers,h⟩ ⟨⟨fn,nt,t,.inRegion ops [j]::k,defers,.run,kind⟩,callers,h⟩ 0:=by
 intro U ρ cs g w I Γ;unfold Fc at he;split at he
 ·rename_i x hx;split at he
  ·cases he
  ·rename_i hb;simp only[aq]at hb;obtain⟨_,zV,o7⟩:=hb;split at he
   ·cases he
   ·rename_i s m t' QV;split at he
    ·rename_i hz;simp only[aq]at hz;obtain⟨⟨z1,z2⟩,z3⟩:=hz;cases he;have hnt:=xL Γ;have S:=mC hnt (fun _ x=>x) CX (show oc ops []from trivial) QV;have hxm:x∈cZ ops:=(aO.1 (show x∈(cZ ops).filter fun x=>!x.2.2.2 by rw[hx];exact ah.2 rfl)).1;obtain⟨j,oj,ZH,rfl⟩:=fH.1 hxm;dsimp only at z1 z2⊢;have SZ:j∈cH ops s:=(oG S.cons ZH).1 z1;have C4:j∉s:=(dw SZ).2;rw[aE]at z2;have cover:∀i,i<ops.size->i≠j->i∈s∧o6 (nG (cZ ops) (iA oj.after.toList)) i=true:=by
      intro i hi hne;have:=z2 _ (fH.2 ⟨i,ops[i],aS hi,rfl⟩);simp only[Bool.or_eq_true,aq]at this;rcases this with h1|⟨h1,h2⟩
      ·exact absurd (aJ h1) hne
      ·exact⟨(S.cons i).1 h1,h2⟩
     refine(Walk.trans (m:=0) (fun g' w' ⟨q,kp,Vj⟩=>?_) (uE (main:=main) F Γ)).any;have I0:gy K U ⟨⟨fn,nt,tmps,.inRegion ops (Region.schedule true ops q)::k,defers,.run,kind⟩,callers,bare h⟩:=
      ⟨⟨I.cur.tmps,I.cur.defers,trivial⟩,I.callers,⟨I.ids.hp,I.ids.keys,I.ids.nodup,fun n h1 h2=>(by simp[bare]at h2),I.ids.Co⟩⟩
     refine(S2 Gd F X C o7 S.cons z3 (k8.begin S) (j4 ops q) (fun i hi=>by cases hi) I0 Vj).weaken fun g2 w2 p=>?_;obtain⟨r',CY,l',QN,dn,N,sc,A2,MI,I2,Γ2,hl⟩:=p;rcases hl with rfl|⟨i,l2,rfl,hi⟩
     ·have:=(N.over S.MN sc).2.1;rw[this]at SZ;cases SZ
     ·have hir:=sc.1;have hij:i=j:=Classical.byContradiction fun hne=>hi (cover i (dw hir).1 hne).1;subst hij;have hpr:∀a,o6 (iA oj.after.toList) a=true->a∈r':=by
       intro a ha;obtain⟨e,he,MR,rfl⟩:=n_.1 ha;obtain⟨_,o',ho',hp⟩:=fZ.1 hir;rw[ZH]at ho';cases ho';exact hp e he MR
      have hall:∀a,a<ops.size->a≠i->a∈r':=fun a ha hne=>xN dn (fun _ x=>x) hpr a (cover a ha hne).2;have ZG:l2=[]:=by
       cases l2 with
       |nil=>rfl
       |cons b l3=>
        have hb:=dw sc.2.1;refine absurd (show b∈i::r' from ?_) hb.2;by_cases e:b=i
        ·subst e;exact aj ..
        ·exact af _ (hall b hb.1 e)
      subst ZG;have same:∀n,CY.get n=t.get n:=fun n=>by
       rcases Nat.lt_or_ge n nt with hlt|hge
       ·refine N.same n hlt fun⟨a,o,h1,h2,h3,h4⟩=>h2 (hall a (Array.getElem?_eq_some_iff.1 h3).1 fun e=>C4 (e▸h1))
       ·exact N.out n hge
      have I3:=HK same I2;exact⟨QN,A2,kp.trans MI,dg.refl I.ids,gy.congr (U:=U) ⟨I3.cur,I3.callers,I.ids⟩ (kK U _),MO same Γ2⟩
    ·cases he
 ·cases he
end
section
variable {K:Ctx}{main:Bool}{U:Nat->Prop}{ρ:Env}{cs:List Frame}
variable {fn:FuncId}{nt:Nat}{tmps:TT}{todo todo':List Item}{defers:List AD}{kind:CallKind}{callers:List bW}{h:AH}
variable {k:List Item}
theorem QW(Gd:K.Good)(F:K.iQ){ext:Ext}(X:iR K ext){call:FuncId->List AV->AH->M (AE×AH)}(C:j0 K main call){c':ee}(he:exec? K.P K.O ext call fn nt tmps todo defers kind callers h=.ok c'):
  ∃N,k7 K main ⟨⟨fn,nt,tmps,todo,defers,.run,kind⟩,callers,h⟩ c' N:=by
 unfold exec? at he;split at he
 ·split at he
  ·cases he
  ·rename_i ht;cases he;exact⟨1,zZ ht fun _ _ _ _ hb=>QK hb⟩
 ·rename_i ops is k;split at he
  ·cases he;exact⟨1,fq fun _ _ _ _ _ _ _ _=>mz⟩
  ·rename_i i rest;split at he
   ·cases he
   ·rename_i o ho;split at he
    ·cases he
    ·rename_i hw;cases he;exact⟨1,pS ho hw⟩
    ·rename_i hw;split at he
     ·cases he
     ·rename_i n h' hop;split at he
      ·cases he
      rename_i xD;split at he
      ·exact⟨1,fun U ρ cs g w I Γ=>(qv Gd F X ho hw hop xD I Γ).weaken fun g' w' post=>qw he ho I post⟩
      ·split at he
       ·rename_i t h'' hf;cases he;obtain⟨N,hN⟩:=jd Gd F X C hf;exact⟨N,fun U ρ cs g w I Γ=>hN I Γ⟩
       ·rename_i t ch h'' hf;cases he;obtain⟨N,hN⟩:=jd Gd F X C hf;exact⟨N,fun U ρ cs g w I Γ=>(hN I Γ).weaken fun g' w' x=>x _⟩
       ·cases he
 ·cases he;exact⟨1,fq fun _ _ _ _ _ _ _ _=>CO⟩
 ·cases he;exact⟨1,fq fun _ _ _ _ _ _ _ _=>CP⟩
 ·cases he;exact⟨1,fq fun _ _ _ _ _ _ _ _=>FR⟩
 ·rename_i c k;split at he
  ·split at he
   ·cases he
   ·rename_i ht;cases he;exact⟨1,zZ ht fun _ _ _ _ hb=>QL hb⟩
  ·cases he;exact⟨1,fq fun _ _ _ _ _ _ _ _=>Mz⟩
  ·cases he;exact⟨1,fq fun _ _ _ _ _ _ _ _=>J3⟩
  ·cases he;exact⟨1,fq fun _ _ _ _ _ _ _ _=>QJ⟩
  ·rename_i x thn els;split at he
   ·rename_i b hx;split at he
    ·rename_i hb;cases he;refine⟨1,fq fun ρ tm w cs R T b ds=>?_⟩;have:Act.eval ⟨tm,ds⟩ x=.bool true:=by rw[th T,hx];simp only[AV.ev,jY R hb]
     exact CQ this
    ·rename_i hb;cases he;refine⟨1,fq fun ρ tm w cs R T b ds=>?_⟩;have:Act.eval ⟨tm,ds⟩ x=.bool false:=by rw[th T,hx];simp only[AV.ev,jY R hb]
     exact CQ this
    ·cases he
   ·cases he
  ·cases he;exact⟨1,fq fun _ _ _ _ _ _ _ _=>J4⟩
  ·cases he;exact⟨1,fq fun _ _ _ _ _ _ _ _=>MA⟩
  ·cases he;exact⟨1,fq fun _ _ _ _ _ _ _ _=>J5⟩
  ·split at he
   ·rename_i hx;cases he;exact⟨1,fq fun _ _ _ _ _ _ _ _=>MB hx⟩
   ·cases he
  ·split at he
   ·rename_i hx;cases he;exact⟨1,fq fun _ _ _ _ _ _ _ _=>MC hx⟩
   ·cases he
  ·rename_i id ops draw;split at he
   ·cases he;exact⟨1,fq fun _ _ _ _ _ _ _ _=>FT⟩
   ·split at he
    ·rename_i j t hd;cases he;exact⟨0,Kd Gd F X C hd⟩
    ·split at he
     ·rename_i t h' hd;cases he;obtain⟨N,hN⟩:=C1 Gd F X C (id:=id) hd;exact⟨N,fun U ρ cs g w I Γ=>hN I Γ⟩
     ·rename_i t ch h' hd;cases he;obtain⟨N,hN⟩:=C1 Gd F X C (id:=id) hd;exact⟨N,fun U ρ cs g w I Γ=>(hN I Γ).weaken fun g' w' x=>x k⟩
     ·cases he
  ·cases he
 ·cases he
theorem tv(Gd:K.Good){w:World}{tm:Array Value}(R:Rel K ρ h w)(T:o8 ρ nt tmps tm){E:Value->World->Prop}:∀{l:List ResultVar} {vs:List AV},i_ K.P K.O h tmps l=.ok vs->
  ∀{Q:List Value->World->Prop},Q (AV.evs ρ vs) w->wq K.P K.Ev E (l.mapM fun|.tmp t=>(pure (tm.getD t undef):Sem Value)|.cell a t=>do loadVar t (<-asAddr (tm.getD a undef))) Q w
 |[],vs,he,Q,hq=>by simp only[i_]at he;cases he;simpa only[List.mapM_nil,bI,AV.evs] using hq
 |r::l,vs,he,Q,hq=>by
  simp only[i_]at he;split at he
  ·rename_i v hv;split at he
   ·rename_i vs' hvs;cases he;simp only[List.mapM_cons,bH];have tail:wq K.P K.Ev E (l.mapM fun|.tmp t=>(pure (tm.getD t undef):Sem Value)|.cell a t=>do loadVar t (<-asAddr (tm.getD a undef))) (fun xs w=>wq K.P K.Ev E (pure (v.ev ρ::xs)) Q w) w:=
     tv Gd R T hvs (by rw[bI];exact hq)
    cases r with
    |tmp t=>simp only[pE]at hv;cases hv;simp only[bI];rw[T.getD t];exact tail
    |cell a t=>
     simp only[pE]at hv;split at hv
     ·rename_i x hx;simp only[bH];rw[T.getD a,hx];simp only[AV.ev,av,asAddr,bI];exact kI R Gd hv tail
     ·cases hv
   ·cases he
  ·cases he
theorem oH(I:gf K U h)(ht:tmps.In U):∀{l:List ResultVar} {vs:List AV},i_ K.P K.O h tmps l=.ok vs->AV.Ins U vs
 |[],vs,he=>by simp only[i_]at he;cases he;trivial
 |r::l,vs,he=>by
  simp only[i_]at he;split at he
  ·rename_i v hv;split at he
   ·rename_i vs' hvs;cases he;refine⟨?_,oH I ht hvs⟩;cases r with
    |tmp t=>simp only[pE]at hv;cases hv;exact ht t
    |cell a t=>
     simp only[pE]at hv;split at hv
     ·exact m8 I hv
     ·cases hv
   ·cases he
  ·cases he
theorem va(Gd:K.Good){v:AV}(he:results? K.P K.O h fn tmps=.ok v):∃f,K.P.funcs[fn]?=some f∧(∀{U},gf K U h->tmps.In U->v.In U)∧
  ∀{ρ:Env} {nt:Nat} {w:World} {tm:Array Value} {E:Value->World->Prop},Rel K ρ h w->o8 ρ nt tmps tm->∀{Q:Value->World->Prop},Q (v.ev ρ) w->wq K.P K.Ev E (results f tm) Q w:=by
 unfold results? at he;split at he
 ·rename_i f hf;have run:∀{ρ:Env} {nt:Nat} {w:World} {tm:Array Value} {E:Value->World->Prop} {vs:List AV},i_ K.P K.O h tmps f.results.toList=.ok vs->Rel K ρ h w->o8 ρ nt tmps tm->∀{Q:Value->World->Prop},
    Q (if hs:(AV.evs ρ vs).toArray.size=1 then(AV.evs ρ vs).toArray[0]else .tuple (AV.evs ρ vs).toArray) w->wq K.P K.Ev E (results f tm) Q w:=by
   intro ρ nt w tm E vs hvs R T Q hq;unfold results;rw[Array.mapM_eq_mapM_toList];simp only[bH,L6,bI];exact tv Gd R T hvs hq
  split at he
  ·rename_i v' hv;cases he;refine⟨f,hf,fun I ht=>(oH I ht hv).1,fun{ρ nt w tm E} R T {Q} hq=>run hv R T ?_⟩;simpa[AV.evs] using hq
  ·rename_i vs hne hv;cases he;refine⟨f,hf,fun I ht=>oH I ht hv,fun{ρ nt w tm E} R T {Q} hq=>run hv R T ?_⟩;have:¬(AV.evs ρ vs).toArray.size=1:=by
    simp only[List.size_toArray,cO];intro h1;obtain⟨x,rfl⟩:=List.length_eq_one_iff.1 h1;exact hne x rfl
   rw[dif_neg this];exact hq
  ·cases he
 ·cases he
end
section
variable {P:Program}{main:Bool}{fr:Frame}{cs:List Frame}{w w':World}{D:Deferred}{Ds:List Deferred}
theorem xO(hm:fr.mode≠.run)(hd:fr.defers=D::Ds)(ht:(∃f c,D.target=.fn f c)∨∃b a t c,D.target=.builtin b a t c):
  stepG P main (G fr cs) w=callDeferred P {fr with defers:=Ds} cs none D w:=by
 obtain⟨fn,tmps,todo,defers,mode,kind,ro⟩:=fr;obtain⟨target,args⟩:=D;dsimp only at hm hd ht;subst hd;have h1:stepG P main (G ⟨fn,tmps,todo,⟨target,args⟩::Ds,mode,kind,ro⟩ cs) w=unwind P main ⟨fn,tmps,todo,⟨target,args⟩::Ds,mode,kind,ro⟩ cs none w:=by
  cases mode with
  |run=>exact absurd rfl hm
  |returning=>rfl
  |panicking c=>rfl
 rw[h1];rcases ht with⟨f,c,rfl⟩|⟨b,a,t,c,rfl⟩<;>rfl
theorem rX{f:FuncId}{args:Array Value}(hn:(∃f c,D.target=.fn f c)∨∃b a t c,D.target=.builtin b a t c)(hr:(invoke D.target D.args).run P w=.ok (.enter f args) w'):
  callDeferred P fr cs none D w=.go (G (Frame.enter P f args .deferred) (fr::cs)) w' (seen P fr.fn ((invoke D.target D.args).events P w #[])):=by
 rcases hn with⟨f,c,hn⟩|⟨b,a,t,c,hn⟩<;>(rw[hn]at hr;simp[callDeferred,hn,hr,GStep.after,G])
theorem rY{v:Value}(hn:(∃f c,D.target=.fn f c)∨∃b a t c,D.target=.builtin b a t c)(hr:(invoke D.target D.args).run P w=.ok (.value v) w'):
  callDeferred P fr cs none D w=.go (G fr cs) w' (seen P fr.fn ((invoke D.target D.args).events P w #[])):=by
 rcases hn with⟨f,c,hn⟩|⟨b,a,t,c,hn⟩<;>(rw[hn]at hr;simp[callDeferred,hn,hr,GStep.after,G])
end
section
variable {K:Ctx}{main:Bool}{U:Nat->Prop}{ρ:Env}{cs:List Frame}
variable {fn:FuncId}{nt:Nat}{tmps:TT}{todo:List Item}{mode:gU}{kind:CallKind}{callers:List bW}{h:AH}
theorem AD.uF(ρ:Env)(d:AD):(∃f c,(d.ev ρ).target=.fn f c)∨∃b a t c,(d.ev ρ).target=.builtin b a t c:=by
 obtain⟨t,a⟩:=d;cases t with
 |fn f c=>exact .inl ⟨_,_,rfl⟩
 |builtin b a t c=>exact .inr ⟨_,_,_,_,rfl⟩
theorem FZ(ρ:Env)(hm:mode≠.run):mode.ev ρ≠.run:=by
 cases mode with
 |run=>exact absurd rfl hm
 |returning=>exact fun x=>by cases x
 |panicking c=>exact fun x=>by cases x
theorem C5(Gd:K.Good)(F:K.iQ){ext:Ext}(X:iR K ext){d:AD}{ds:List AD}{c':ee}(hm:mode≠.run)(he:defer? K.P K.O ext fn nt tmps todo d ds mode kind callers h=.ok c'):
  k7 K main ⟨⟨fn,nt,tmps,todo,d::ds,mode,kind⟩,callers,h⟩ c' 1:=fun U ρ cs g w I Γ=>Walk.one Γ.running fun dr=>by
 obtain⟨R,fr,fY,⟨tm,td,is,rfl⟩,hc,rfl⟩:=Γ.drawn dr;have aaq:d.In U:=I.cur.defers d (aj ..);have step:=xO (P:=K.P) (main:=main) (fr:=d_ ρ ⟨fn,nt,tmps,todo,d::ds,mode,kind⟩ tm td) (cs:=fY++cs) (w:=cA w dr) (D:=d.ev ρ) (Ds:=dB ρ kind (ds.map (AD.ev ρ))) (FZ ρ hm) (by show dB ρ kind (d.ev ρ::ds.map (AD.ev ρ))=_;rw[HG]) (AD.uF ρ d);rw[step];have hfr:({d_ ρ ⟨fn,nt,tmps,todo,d::ds,mode,kind⟩ tm td with defers:=dB ρ kind (ds.map (AD.ev ρ))}:Frame)=d_ ρ ⟨fn,nt,tmps,todo,ds,mode,kind⟩ tm td:=rfl;rw[hfr];have hds:∀x∈ds,x.In U:=fun x hx=>I.cur.defers x (af _ hx);have hin:(⟨fn,nt,tmps,todo,ds,mode,kind⟩:bW).In U:=⟨I.cur.tmps,hds,I.cur.mode⟩;have base:∀{ρ':Env},cz U ρ ρ'->ku K.P ρ' ⟨fn,nt,tmps,todo,ds,mode,kind⟩ (d_ ρ ⟨fn,nt,tmps,todo,ds,mode,kind⟩ tm td):=fun A=>ku.agree A ⟨tm,td,⟨is.tmps,is.kind,(fun x=>absurd x hm),is.fn⟩,rfl⟩ hin
 unfold defer? at he;split at he
 ·rename_i f args h' hi;split at he
  ·rename_i fr' Vk;cases he;have N:=rU Gd F X R I.ids aaq hi;obtain⟨run,hes⟩:=me (Bw Gd.Qy _ (N.run (E:=fun _ _=>False) (Q:=fun nx w'=>After K U ρ (cA w dr) h' (fun ρ'=>AN.is ρ' (.enter f args) nx) w') (fun nx w' x=>x) (fun v hn _=>by cases hn)));generalize hr:(invoke (d.target.ev ρ) (AV.evs ρ d.args).toArray).run K.P (cA w dr)=r at run;cases r with
   |halt x w'=>cases x<;>exact run.elim
   |ok nx w'=>
    obtain⟨⟨ρ',A,R',kp,Kc⟩,hst⟩:=run;have is2:nx=.enter f (AV.evs ρ' args).toArray:=Kc;subst is2;rw[rX (AD.uF ρ d) hr];obtain⟨e1,e2,e3,e4,e5⟩:=gZ Vk (.inr rfl) N.mem (ρ:=ρ');refine⟨⟨kp,fun e he=>hes e (mem_seen he),hst⟩,ρ',A,(ie _ _ _).trans kp,N.qP,⟨e2,?_,N.qP.ids⟩,R',_,d_ ρ ⟨fn,nt,tmps,todo,ds,mode,kind⟩ tm td::fY,e1,⟨base A,iC A hc I.callers⟩,rfl⟩;intro fr hf;rcases ai.1 hf with rfl|hf
    ·exact hin.mono ck
    ·exact(I.callers fr hf).mono ck
  ·cases he
 ·rename_i v h' hi;cases he;have N:=rU Gd F X R I.ids aaq hi;obtain⟨run,hes⟩:=me (Bw Gd.Qy _ (N.run (E:=fun _ _=>False) (Q:=fun nx w'=>After K U ρ (cA w dr) h' (fun ρ'=>AN.is ρ' (.value v) nx) w') (fun nx w' x=>x) (fun v hn _=>by cases hn)));generalize hr:(invoke (d.target.ev ρ) (AV.evs ρ d.args).toArray).run K.P (cA w dr)=r at run;cases r with
  |halt x w'=>cases x<;>exact run.elim
  |ok nx w'=>obtain⟨⟨ρ',A,R',kp,Kc⟩,hst⟩:=run;have is2:nx=.value (v.ev ρ'):=Kc;subst is2;rw[rY (AD.uF ρ d) hr];exact⟨⟨kp,fun e he=>hes e (mem_seen he),hst⟩,ρ',A,(ie _ _ _).trans kp,N.qP,⟨hin.mono ck,fun fr hf=>(I.callers fr hf).mono ck,N.qP.ids⟩,R',_,fY,base A,iC A hc I.callers,rfl⟩
 ·cases he
 ·cases he
theorem F0{P:Program}{fr caller:Frame}{f:Func}{v:Value}{w:World}(hm:fr.mode=.returning)(hd:fr.defers=[])(hk:fr.kind=.deferred)(hf:P.funcs[fr.fn]?=some f)(hr:(results f fr.tmps).run P w=.ok v w):
  stepG P main (G fr (caller::cs)) w=.go (G (match caller.mode with
   |.panicking ({recovered:=true,..}::older)=>
    match older.dropWhile (!·.goexit)with
    |[]=>{caller with mode:=.returning}
    |rest=>{caller with mode:=.panicking rest}
   |_=>caller) cs) w (seen P fr.fn ((results f fr.tmps).events P w #[])):=by
 simp[G,stepG,unwind,doReturn,hm,hd,hf,hr,hk,GStep.after];rfl
theorem xP(ρ:Env):∀(l:List (AV×Bool)),(l.map fun x=>({v:=x.1.ev ρ,recovered:=x.2}:PanicEntry)).dropWhile (!·.goexit)=[]
 |[]=>rfl
 |y::l=>by simp only[aU,List.dropWhile_cons,Bool.not_false,if_true];exact xP ρ l
theorem QX{P:Program}{c:bW}{f:Frame}(hc:ku P ρ c f):ku P ρ (wV c) (match f.mode with
    |.panicking ({recovered:=true,..}::older)=>
     match older.dropWhile (!·.goexit)with
     |[]=>{f with mode:=.returning}
     |rest=>{f with mode:=.panicking rest}
    |_=>f):=by
 obtain⟨tm,td,is,rfl⟩:=hc;obtain⟨fn,nt,tmps,todo,defers,mode,kind⟩:=c;have hm:(d_ ρ ⟨fn,nt,tmps,todo,defers,mode,kind⟩ tm td).mode=mode.ev ρ:=rfl;rw[hm];cases mode with
 |run=>exact⟨tm,td,is,rfl⟩
 |returning=>exact⟨tm,td,is,rfl⟩
 |panicking chain=>
  cases chain with
  |nil=>exact⟨tm,td,is,rfl⟩
  |cons x older=>
   obtain⟨v,b⟩:=x;cases b with
   |false=>exact⟨tm,td,is,rfl⟩
   |true=>simp only[gU.ev,aU,xP];exact⟨tm,td,⟨is.tmps,is.kind,(fun x=>by cases x),is.fn⟩,rfl⟩
theorem Ke{c:bW}(hc:c.In U):(wV c).In U:=by
 obtain⟨fn,nt,tmps,todo,defers,mode,kind⟩:=c;cases mode with
 |run=>exact hc
 |returning=>exact hc
 |panicking chain=>
  cases chain with
  |nil=>exact hc
  |cons x older=>
   obtain⟨v,b⟩:=x;cases b with
   |false=>exact hc
   |true=>exact⟨hc.tmps,hc.defers,trivial⟩
theorem MS{P:Program}{c:bW}{f:Frame}{chain:List (AV×Bool)}(hc:ku P ρ c f):ku P ρ (pz c chain) (f.raise (chain.map fun x=>{v:=x.1.ev ρ,recovered:=x.2})):=by
 obtain⟨tm,td,is,rfl⟩:=hc;obtain⟨fn,nt,tmps,todo,defers,mode,kind⟩:=c;cases mode with
 |run=>exact⟨tm,td,⟨is.tmps,is.kind,(fun x=>by cases x),is.fn⟩,rfl⟩
 |returning=>exact⟨tm,td,⟨is.tmps,is.kind,(fun x=>by cases x),is.fn⟩,rfl⟩
 |panicking older=>exact⟨tm,td,⟨is.tmps,is.kind,(fun x=>by cases x),is.fn⟩,by simp[pz,Frame.raise,d_,gU.ev]⟩
theorem Kg{c:bW}{chain:List (AV×Bool)}(hc:c.In U)(hx:∀x∈chain,x.1.In U):(pz c chain).In U:=by
 obtain⟨fn,nt,tmps,todo,defers,mode,kind⟩:=c;cases mode with
 |run=>exact⟨hc.tmps,hc.defers,hx⟩
 |returning=>exact⟨hc.tmps,hc.defers,hx⟩
 |panicking older=>
  refine⟨hc.tmps,hc.defers,fun x hm=>?_⟩;rcases aT.1 hm with hm|hm
  ·exact hx x hm
  ·exact hc.mode x hm
theorem xQ(own:Nat->Prop){w w':World}(h:∃d,w'=cA w d):bU own w w':=by obtain⟨d,rfl⟩:=h;exact ie _ _ _
theorem C6{w w':World}(R:Rel K ρ h w)(e:∃d,w'=cA w d):Rel K ρ h w':=by obtain⟨d,rfl⟩:=e;exact R.drawn _
def MT(K:Ctx)(main:Bool)(c:ee):ee⊕(AE×AH)->Prop
 |.inl c'=>∃N,k7 K main c c' N
 |.inr e=>∃N,Ends K main c e N
theorem wj(Gd:K.Good)(F:K.iQ){ext:Ext}(X:iR K ext){call:FuncId->List AV->AH->M (AE×AH)}(C:j0 K main call){c:ee}{r:ee⊕(AE×AH)}(he:step? K.P K.O ext call c=.ok r):MT K main c r:=by
 obtain⟨⟨fn,nt,tmps,todo,defers,mode,kind⟩,callers,h⟩:=c;unfold step? at he;dsimp only at he;split at he
 ·split at he
  ·rename_i c' hx;cases he;exact QW Gd F X C hx
  ·cases he
 ·split at he
  ·cases he
  rename_i ht;split at he
  ·rename_i d ds;split at he
   ·rename_i c' hx;cases he;exact⟨1,C5 Gd F X (by simp) hx⟩
   ·cases he
  ·split at he
   ·cases he
   ·rename_i v hv;obtain⟨f,hf,hin,hrun⟩:=va Gd hv;have ends:∀{ρ:Env} {cs:List Frame} {w:World} {fY:List Frame} {tm:Array Value} {td:List Item},kind=.normal->Rel K ρ h w->Vi K.P ρ ⟨fn,nt,tmps,todo,[],.returning,kind⟩ tm td->
      xB K fn ρ (.returned v) cs (G (d_ ρ ⟨fn,nt,tmps,todo,[],.returning,kind⟩ tm td) cs) w:=fun{ρ cs w fY tm td} hk R is=>by
     have hp:=pQ is.kind ht;have e1:(d_ ρ ⟨fn,nt,tmps,todo,[],.returning,kind⟩ tm td).fn=fn:=SV ρ fn kind;exact⟨_,f,rfl,e1,xz hp ρ [],by rw[e1];exact hf,rfl,by show(bB ρ fn kind).kind=.normal;rw[pR hp];exact hk,fun d {Q} hq=>hrun (R.drawn d) is.tmps hq⟩
    split at he
    ·split at he
     ·cases he;refine⟨0,fun U ρ cs g w I Γ=>?_⟩;obtain⟨R,fr,fY,⟨tm,td,is,rfl⟩,hc,rfl⟩:=Γ;cases fY with
      |cons a b=>exact absurd hc (by simp[iq])
      |nil=>exact Walk.stop ⟨ρ,cz.refl _ _,bU.refl _ _,dg.refl I.ids,AV.In.mono ck _ (hin I.ids I.cur.tmps),R,ends (fY:=[]) rfl R is⟩
     ·cases he
    ·rename_i caller rest;split at he
     ·split at he
      ·rename_i caller' ME;cases he;obtain⟨fn',nt',tmps',ops,i,rst,k,defers',kind',rfl,rfl⟩:=xE ME;refine⟨1,fun U ρ cs g w I Γ=>?_⟩;obtain⟨R,fr,fY,⟨tm,td,is,rfl⟩,hc,rfl⟩:=Γ;cases fY with
       |nil=>exact absurd hc (by simp[iq])
       |cons c1 fY=>
        obtain⟨⟨tm1,td1,is1,rfl⟩,hc⟩:=hc;have htd:td1=.inRegion ops (i::rst)::k:=is1.todo rfl;subst htd;have hcin:=I.callers _ (aj ..);refine(xF (ends (fY:=[]) rfl R is)).weaken fun g' w' ⟨hw,hg⟩=>?_;subst hg;have:=mA (U:=U) (ρ:=ρ) (h:=h) (cs:=cs) (fn:=fn') (kind:=kind') (ops:=ops) (rest:=rst) (k:=k) (dst:=(ops[i]?).bind (·.dst)) (ds:=defers') (cz.refl U ρ) (xQ K.own hw) (C6 R hw) (dg.refl I.ids)
         (AV.In.mono ck _ (hin I.ids I.cur.tmps)) hcin.tmps (fun x hx=>(hcin.defers x hx).mono ck) (fun fr hf=>(I.callers fr (af _ hf)).mono ck) is1.tmps is1.kind is1.fn hc
        have hb:d_ ρ ⟨fn',nt',tmps',.inRegion ops (i::rst)::k,defers',.run,kind'⟩ tm1 (.inRegion ops (i::rst)::k)=(bB ρ fn' kind').atR (aB ρ kind' tm1 defers') (.inRegion ops (i::rst)::k):=rfl;rw[hb,Frame.finish_atR];exact this
      ·cases he
     ·cases he;refine⟨1,fun U ρ cs g w I Γ=>Walk.one Γ.running fun d=>?_⟩;obtain⟨R,fr,fY,⟨tm,td,is,rfl⟩,hc,rfl⟩:=Γ.drawn d;cases fY with
      |nil=>exact absurd hc (by simp[iq])
      |cons c1 fY=>
       obtain⟨hc1,hc⟩:=hc;obtain⟨run,hes⟩:=me (hrun (E:=fun _ _=>False) R is.tmps (Q:=fun x w'=>x=v.ev ρ∧w'=cA w d) ⟨rfl,rfl⟩);generalize hr:(results f tm).run K.P (cA w d)=r at run;cases r with
       |halt x w'=>cases x<;>exact run.elim
       |ok x w'=>obtain⟨rfl,rfl⟩:=run;rw[List.cons_append,F0 (fr:=d_ ρ ⟨fn,nt,tmps,todo,[],.returning,.deferred⟩ tm td) rfl rfl rfl hf hr];refine⟨⟨bU.refl _ _,fun e he=>hes e (mem_seen he),fun _ _ _ _ x=>x⟩,ρ,cz.refl _ _,ie _ _ _,dg.refl I.ids,?_,R,_,fY,QX hc1,hc,rfl⟩;exact gy.congr (U:=U) ⟨Ke (I.callers _ (aj ..)),fun fr hf=>I.callers fr (af _ hf),I.ids⟩ (kK U _)
     ·cases he
 ·rename_i chain;split at he
  ·cases he
  rename_i ht;split at he
  ·rename_i d ds;split at he
   ·rename_i c' hx;cases he;exact⟨1,C5 Gd F X (by simp) hx⟩
   ·cases he
  ·have ends:∀{ρ:Env} {cs:List Frame} {w:World} {tm:Array Value} {td:List Item},Vi K.P ρ ⟨fn,nt,tmps,todo,[],.panicking chain,kind⟩ tm td->
      xB K fn ρ (.panicked chain) cs (G (d_ ρ ⟨fn,nt,tmps,todo,[],.panicking chain,kind⟩ tm td) cs) w:=fun{ρ cs w tm td} is=>by
    obtain⟨f,hf⟩:=is.fn;have e1:(d_ ρ ⟨fn,nt,tmps,todo,[],.panicking chain,kind⟩ tm td).fn=fn:=SV ρ fn kind;exact⟨_,f,rfl,e1,xz (pQ is.kind ht) ρ [],by rw[e1];exact hf,rfl⟩
   split at he
   ·cases he;refine⟨0,fun U ρ cs g w I Γ=>?_⟩;obtain⟨R,fr,fY,⟨tm,td,is,rfl⟩,hc,rfl⟩:=Γ;cases fY with
    |cons a b=>exact absurd hc (by simp[iq])
    |nil=>exact Walk.stop ⟨ρ,cz.refl _ _,bU.refl _ _,dg.refl I.ids,fun x hx=>AV.In.mono ck _ (I.cur.mode x hx),R,ends is⟩
   ·rename_i caller rest;cases he;refine⟨1,fun U ρ cs g w I Γ=>?_⟩;obtain⟨R,fr,fY,⟨tm,td,is,rfl⟩,hc,rfl⟩:=Γ;cases fY with
    |nil=>exact absurd hc (by simp[iq])
    |cons c1 fY=>obtain⟨hc1,hc⟩:=hc;refine(xG (ends is)).weaken fun g' w' ⟨hw,hg⟩=>?_;subst hg;refine⟨ρ,cz.refl _ _,xQ _ hw,dg.refl I.ids,?_,C6 R hw,_,fY,MS hc1,hc,rfl⟩;exact gy.congr (U:=U) ⟨Kg (I.callers _ (aj ..)) I.cur.mode,fun fr hf=>I.callers fr (af _ hf),I.ids⟩ (kK U _)
theorem kL{fr fr':bW}{v:AV}(h:ig fr v=.ok fr'):fr'.fn=fr.fn:=by obtain⟨fn,nt,tmps,ops,i,rest,k,defers,kind,rfl,rfl⟩:=xE h;rfl
theorem z_{fr:bW}{vs:List (AV×Bool)}:(pz fr vs).fn=fr.fn:=by obtain⟨fn,nt,tmps,todo,defers,mode,kind⟩:=fr;cases mode<;>rfl
theorem MU{P:Program}{fr:bW}{callers:List bW}{n:AN}{h:AH}{c':ee}(he:upon P fr callers n h=.ok c'):bot c'.cur.fn c'.callers=bot fr.fn callers:=by
 obtain⟨fn,nt,tmps,todo,defers,mode,kind⟩:=fr;unfold upon at he;split at he
 ·split at he
  ·rename_i hx;cases he;show bot _ callers=_;rw[kL hx]
  ·cases he
 ·split at he
  ·rename_i hx;cases he;show bot _ callers=_;rw[kL hx]
  ·cases he
 ·split at he
  ·cases he;rfl
  ·cases he
 ·dsimp only at he;split at he
  ·rename_i hx;cases he;show bot _ callers=_;rw[kL hx]
  ·cases he
 ·split at he
  ·cases he
  ·rename_i v callers' hr;split at he
   ·rename_i hx;cases he;show bot _ callers'=_;rw[kL hx];unfold wS at hr;split at hr
    ·cases hr
    ·split at hr
     ·cases hr
     ·split at hr
      ·cases hr;rfl
      ·cases hr
    ·cases hr
   ·cases he
  ·split at he
   ·rename_i hx;cases he;show bot _ callers=_;rw[kL hx]
   ·cases he
 ·cases he;show bot (pz _ _).fn callers=_;rw[z_]
theorem MV{P:Program}{O:dN}{ext:Ext}{call:FuncId->List AV->AH->M (AE×AH)}{defers:List AD}{c':ee}(he:exec? P O ext call fn nt tmps todo defers kind callers h=.ok c'):bot c'.cur.fn c'.callers=bot fn callers:=by
 unfold exec? at he;split at he
 ·split at he
  ·cases he
  ·cases he;rfl
 ·split at he
  ·cases he;rfl
  ·split at he
   ·cases he
   ·split at he
    ·cases he
    ·cases he;rfl
    ·split at he
     ·cases he
     ·split at he
      ·cases he
      split at he
      ·exact MU he
      ·split at he
       ·cases he;rfl
       ·cases he;rfl
       ·cases he
 ·cases he;rfl
 ·cases he;rfl
 ·cases he;rfl
 ·split at he
  ·split at he
   ·cases he
   ·cases he;rfl
  ·cases he;rfl
  ·cases he;rfl
  ·cases he;rfl
  ·split at he
   ·split at he
    ·cases he;rfl
    ·cases he;rfl
    ·cases he
   ·cases he
  ·cases he;rfl
  ·cases he;rfl
  ·cases he;rfl
  ·split at he
   ·cases he;rfl
   ·cases he
  ·split at he
   ·cases he;rfl
   ·cases he
  ·split at he
   ·cases he;rfl
   ·split at he
    ·cases he;rfl
    ·split at he
     ·cases he;rfl
     ·cases he;rfl
     ·cases he
  ·cases he
 ·cases he
theorem Aa{P:Program}{O:dN}{ext:Ext}{d:AD}{ds:List AD}{c':ee}(he:defer? P O ext fn nt tmps todo d ds mode kind callers h=.ok c'):bot c'.cur.fn c'.callers=bot fn callers:=by
 unfold defer? at he;split at he
 ·split at he
  ·cases he;rfl
  ·cases he
 ·cases he;rfl
 ·cases he
 ·cases he
theorem C7{P:Program}{O:dN}{ext:Ext}{call:FuncId->List AV->AH->M (AE×AH)}{c c':ee}(he:step? P O ext call c=.ok (.inl c')):bot c'.cur.fn c'.callers=bot c.cur.fn c.callers:=by
 obtain⟨⟨fn,nt,tmps,todo,defers,mode,kind⟩,callers,h⟩:=c;unfold step? at he;dsimp only at he;split at he
 ·split at he
  ·rename_i hx;cases he;exact MV hx
  ·cases he
 ·split at he
  ·cases he
  split at he
  ·split at he
   ·rename_i hx;cases he;exact Aa hx
   ·cases he
  ·split at he
   ·cases he
   ·split at he
    ·split at he<;>cases he
    ·split at he
     ·split at he
      ·rename_i hx;cases he;simp only[bot,kL hx]
      ·cases he
     ·cases he;show bot (wV _).fn _=bot _ _;unfold wV;split<;>rfl
     ·cases he
 ·split at he
  ·cases he
  split at he
  ·split at he
   ·rename_i hx;cases he;exact Aa hx
   ·cases he
  ·split at he
   ·cases he
   ·cases he;simp only[bot,z_]
def Ab(K:Ctx)(main:Bool)(sum:qH):Prop:=
 ∀f args h r,sum f args h=some (.ok r)->∃fr N,bT K.P f args .normal=.ok fr∧Ends K main ⟨fr,[],h⟩ r N
theorem Kh:Ab K main L3:=fun _ _ _ _ h=>by cases h
theorem Ac{sum:qH}(Z:Ab K main sum){k:ee->M (AE×AH)}(ih:∀{c r},k c=.ok r->∃N,Ends K main c r N):
  j0 K main (fun f args h=>match sum f args h with
   |some r=>r
   |none=>match bT K.P f args .normal with
    |.ok fr=>k ⟨fr,[],h⟩
    |.error e=>.error e):=by
 intro f args h r hr;dsimp only at hr;split at hr
 ·rename_i r' hs;subst hr;exact Z _ _ _ _ hs
 ·split at hr
  ·rename_i fr Vk;obtain⟨N,E⟩:=ih hr;exact⟨fr,N,Vk,E⟩
  ·cases hr
theorem Vn(Gd:K.Good)(F:K.iQ){ext:Ext}(X:iR K ext){sum:qH}(Z:Ab K main sum):∀{n:Nat} {c:ee} {r:AE×AH},run? K.P K.O ext sum n c=.ok r->∃N,Ends K main c r N:=by
 intro n
 induction n with
 |zero=>intro c r he;cases he
 |succ n ih=>
  intro c r he;have he':(match step? K.P K.O ext (fun f args h=>match sum f args h with
   |some r=>r
   |none=>match bT K.P f args .normal with
    |.ok fr=>run? K.P K.O ext sum n ⟨fr,[],h⟩
    |.error e=>.error e) c with
   |.ok (.inl c)=>run? K.P K.O ext sum n c
   |.ok (.inr r)=>.ok r
   |.error e=>.error e)=.ok r:=he
  have C:=Ac (K:=K) (main:=main) Z (k:=run? K.P K.O ext sum n) ih;split at he'
  ·rename_i c' hs;obtain⟨N,L⟩:=wj Gd F X C hs;obtain⟨M,E⟩:=ih he';exact⟨N+M,L.ends (C7 hs) E⟩
  ·rename_i r' hs;cases he';exact wj Gd F X C hs
  ·cases he'
end
def qU(g:Goroutine)(w:World):Machine:={world:=w,gs:=#[g],rest:={timers:=#[],alone:=none,slice:=none}}
theorem F_{P:Program}{g:Goroutine}{w:World}(h:g.status=.running):move P (qU g w)=.goroutine (qU g w) 0:=by simp[move,ask,askOn,qU,runnable_eq,due,ahead,Goroutine.canRun,h,List.range_succ,choose,pure,Sem.run,Question.forced]
theorem rZ{P:Program}{g g':Goroutine}{w w':World}{es:Array Event}(h:g.status=.running)(hs:stepG P true g w=.go g' w' es):step P (qU g w)=.next (qU g' w'):=by rw[step,stepT,F_ h];simp[runT,qU,Array.swapAt!,hs]
theorem Ga{P:Program}{D:World->World->Array Event->Prop}{S:Goroutine->World->Prop}{n:Nat}{g:Goroutine}{w:World}(h:Walk P true D S n g w):∃g' w',Steps P (qU g w) (qU g' w')∧S g' w':=by
 change fT P true D S 0 g w at h;generalize(0:Nat)=k at h
 induction h with
 |stop g w hs=>exact⟨g,w,.refl _ _,hs⟩
 |step n g w g' w' es hr hs hd hw ih=>obtain⟨g2,w2,h1,h2⟩:=ih w.drawn;exact⟨g2,w2,.head (rZ hr (hs w.drawn)) h1,h2⟩
 |off n g w g' hr hs hw ih=>obtain⟨g2,w2,h1,h2⟩:=ih w.drawn;exact⟨g2,w2,.head (rZ hr (hs w.drawn)) h1,h2⟩
 |on n g w g' hr hs hw ih=>obtain⟨g2,w2,h1,h2⟩:=ih w.drawn;exact⟨g2,w2,.head (rZ hr (hs w.drawn)) h1,h2⟩
end Go.Proofs.YtmobbajggkjpgaaGreat.SX
namespace Go.Proofs.YtmobbajggkjpgaaGreat.SX
open _root_.Bool renaming and_eq_true->aq,false_eq_true->aH
open _root_.Option renaming map_some->av
open _root_.Nat renaming le_refl->ay
def XE.sem:XE->(Array Value->Sem Value)->Prop
 |.ld k,e=>e=Extern.Atomic.loadT (.int k)
 |.st,e=>e=Extern.Atomic.storeT
 |.sw k,e=>e=Extern.Atomic.swapT (.int k)
 |.cas k,e=>e=Extern.Atomic.casT (.int k)
 |.add k,e=>e=Extern.Atomic.update (Op.intArith .add) k true
 |.acquire,e=>e=Extern.Race.marked .acquire
 |.release,e=>e=Extern.Race.marked .release
 |.releaseMerge,e=>e=Extern.Race.marked .releaseMerge
 |.quiet,e=>∃m,e=fun _=>do mark m;pure Extern.Race.none_
 |.typeOf,e=>e=Extern.ReflectliteType.typeOf
 |.valueOf,e=>e=fun args=>Extern.ReflectliteValue.unpack (args.getD 0 (.tuple #[]))
 |.vType,e=>∃z,e=Extern.ReflectliteValue.methodAny z fun t _ _ _=>Extern.ReflectliteType.toType t
 |.L4,e=>∃z,e=Extern.ReflectliteValue.method z Extern.ReflectliteValue.isNil
 |.SQ,e=>∃z,e=Extern.ReflectliteValue.method z Extern.ReflectliteValue.elem
 |.Z2,e=>e=Extern.ReflectliteValue.set
section
variable {K:Ctx}{ρ:Env}{h:AH}{w:World}{U:Nat->Prop}
theorem pY(R:Rel K ρ h w)(G:K.Good){a:AA}{k:IntKind}{e:IE}(hl:qL K.O h a k=.ok e):w.cell? (a.ev ρ)=some (.int k (e.ev ρ))∧(∀s,K.Ev ⟨.cell (a.ev ρ),false,s⟩)∧∀{U},gf K U h->e.In U:=by
 unfold qL at hl;rw[bJ]at hl;obtain⟨v,hv,hl⟩:=hl;obtain⟨h1,h2⟩:=pJ R G hv;split at hl
 ·split at hl
  ·rename_i hk;cases hl;subst hk;exact⟨h1,h2,fun I=>xd I hv⟩
  ·cases hl
 ·cases hl
theorem wm{E:Value->World->Prop}{a:Addr}{k:IntKind}{n:Int}(hc:w.cell? a=some (.int k n))(he:∀s,K.Ev ⟨.cell a,false,s⟩){Q:Value->World->Prop}(hq:Q (.int k n) w):wq K.P K.Ev E (Extern.Atomic.read (.int k) a) Q w:=by unfold Extern.Atomic.read;simp only[bH,v_];refine⟨_,hc,he _,?_⟩;simp only[if_true,bI];exact hq
theorem qx{E:Value->World->Prop}{a:AA}{v:AV}{h':AH}(R:Rel K ρ h w)(G:K.Good)(hs:gT h a v=.ok h'){Q:Unit->World->Prop}(hq:Q () (w.setCell (a.ev ρ) (v.ev ρ))):wq K.P K.Ev E (store (a.ev ρ) (v.ev ρ) .atomic) Q w:=by obtain⟨s1,s2,s3,s4,_⟩:=ij R G hs;rw[pH];exact⟨s1,s2,s3,s4 _,hq⟩
theorem lN(I:gf K U h){a:AA}{v:AV}{h':AH}(hs:gT h a v=.ok h')(ha:a.In U)(hv:v.In U)(hn:h'.nb=h.nb)(hl:h'.lim=h.lim):dg K U h h':=
 ⟨by rw[hn];exact ay _,hl,by rw[hn];exact(xe I hs ha hv).congr (fun n=>⟨.inl,qq n⟩)⟩
theorem nq(R:Rel K ρ h w)(G:K.Good){a:AA}{v:AV}{h':AH}(hs:gT h a v=.ok h'){Q:Env->Prop}(hq:Q ρ):After K U ρ w h' Q (w.setCell (a.ev ρ) (v.ev ρ)):=by obtain⟨_,_,_,_,s5,s6,_⟩:=ij R G hs;exact⟨ρ,cz.refl _ _,s5,s6,hq⟩
theorem aas(G:K.Good)(R:Rel K ρ h w)(I:gf K U h){a:AA}{k:IntKind}{e:IE}(hl:qL K.O h a k=.ok e):nP K U ρ h w (Extern.Atomic.loadT (.int k) (AV.evs ρ [.ptr (some a)]).toArray) (.int k e) h:=by obtain⟨h1,h2,h3⟩:=pY R G hl;refine nP.pure R I (h3 I) fun{E Q} hq=>?_;show wq K.P K.Ev E (do Extern.Atomic.read (.int k) (<-asAddr (.pointer (some (a.ev ρ))))) Q w;simp only[bH,asAddr,bI];exact wm h1 h2 hq
theorem aat(G:K.Good)(R:Rel K ρ h w)(I:gf K U h){a:AA}{v:AV}{h':AH}(ha:a.In U)(hv:v.In U)(hs:gT h a v=.ok h'):nP K U ρ h w (Extern.Atomic.storeT (AV.evs ρ [.ptr (some a),v]).toArray) cL h':=by obtain⟨_,_,_,_,_,_,hn,hl⟩:=ij R G hs;refine⟨by simp[cL,AV.In,AV.Ins],lN I hs ha hv hn hl,fun{E Q} hq=>?_⟩;show wq K.P K.Ev E (do store (<-asAddr (.pointer (some (a.ev ρ)))) (v.ev ρ) .atomic;pure Extern.Atomic.none_) Q w;simp only[bH,asAddr,bI];exact qx R G hs (hq _ _ (nq R G hs rfl))
theorem aau(G:K.Good)(R:Rel K ρ h w)(I:gf K U h){a:AA}{v:AV}{k:IntKind}{e:IE}{h':AH}(ha:a.In U)(hv:v.In U)(hl:qL K.O h a k=.ok e)(hs:gT h a v=.ok h'):
  nP K U ρ h w (Extern.Atomic.swapT (.int k) (AV.evs ρ [.ptr (some a),v]).toArray) (.int k e) h':=by
 obtain⟨h1,h2,h3⟩:=pY R G hl;obtain⟨_,_,_,_,_,_,hn,hl'⟩:=ij R G hs;refine⟨IE.In.mono ck (h3 I),lN I hs ha hv hn hl',fun{E Q} hq=>?_⟩;show wq K.P K.Ev E (do let a<-asAddr (.pointer (some (a.ev ρ)));let old<-Extern.Atomic.read (.int k) a;store a (v.ev ρ) .atomic;pure old) Q w;simp only[bH,asAddr,bI];refine wm h1 h2 ?_;exact qx R G hs (hq _ _ (nq R G hs rfl))
theorem Vo(G:K.Good)(R:Rel K ρ h w)(I:gf K U h){a:AA}{k k':IntKind}{e d:IE}{h':AH}(ha:a.In U)(hd:d.In U)(hl:qL K.O h a k=.ok e)(hs:gT h a (.int k (K.O.int (.op .add k e d)))=.ok h')
 (hin:(K.O.int (.op .add k e d)).In U):
  nP K U ρ h w (Extern.Atomic.update (Op.intArith .add) k true (AV.evs ρ [.ptr (some a),.int k' d]).toArray) (.int k (K.O.int (.op .add k e d))) h':=by
 obtain⟨h1,h2,h3⟩:=pY R G hl;obtain⟨_,_,_,_,_,_,hn,hl'⟩:=ij R G hs;refine⟨IE.In.mono ck hin,lN I hs ha hin hn hl',fun{E Q} hq=>?_⟩;show wq K.P K.Ev E (do
  let a<-asAddr (.pointer (some (a.ev ρ)));let old<-Extern.Atomic.read (.int k) a;let new<-Op.intArith .add k (<-asInt old) (<-asInt (.int k' (d.ev ρ)))
  store a new .atomic
  pure (if true then new else old)) Q w
 simp only[bH,asAddr,bI];refine wm h1 h2 ?_;simp only[asInt,asIntOf,bI,bH];have hx:Op.intArith .add k (e.ev ρ) (d.ev ρ)=(pure ((AV.int k (K.O.int (.op .add k e d))).ev ρ):Sem Value):=by simp only[AV.ev,mq R,IE.ev,iz];rfl
 rw[hx];simp only[bI,if_true];exact qx R G hs (hq _ _ (nq R G hs rfl))
theorem Ki{a:AA}{v:AV}{h':AH}(hs:oz h a v=.ok h'):∃i off b,a=⟨.dyn i,off⟩∧cG i h.hp=some b∧b.nS=true:=by
 obtain⟨blk,off⟩:=a;unfold oz at hs;dsimp only at hs;split at hs
 ·rename_i i n;split at hs
  ·rename_i b hb;split at hs
   ·rename_i hc;simp only[aq,decide_eq_true_eq]at hc;exact⟨i,_,b,rfl,hb,sR hc.1.1⟩
   ·cases hs
  ·cases hs
 ·cases hs
theorem Kj{a:AA}{v:AV}{h':AH}(hs:gT h a v=.ok h'):∃i off b,a=⟨.dyn i,off⟩∧cG i h.hp=some b∧b.nS=true:=by
 unfold gT at hs;split at hs
 ·rename_i h1 hh;exact Ki hh
 ·split at hs
  ·rename_i h1 hh;obtain⟨blk,off⟩:=a;unfold preSet? at hh;dsimp only at hh;split at hh
   ·rename_i i _;split at hh
    ·rename_i b hb;split at hh
     ·rename_i b' hb';exact⟨i,off,b,rfl,hb,by cases b<;>first|rfl|cases hb'⟩
     ·cases hh
    ·cases hh
   ·cases hh
  ·cases hs
theorem Vp(G:K.Good)(R:Rel K ρ h w)(I:gf K U h){a:AA}{v:AV}{k k':IntKind}{e old:IE}{h':AH}{b:Bool}(ha:a.In U)(hv:v.In U)(hl:qL K.O h a k=.ok e)(hb:K.O.dec (.cmp .eql e old)=.ok b)(hs:gT h a v=.ok h'):
  nP K U ρ h w (Extern.Atomic.casT (.int k) (AV.evs ρ [.ptr (some a),.int k' old,v]).toArray) (.bool (.lit b)) (if b then h' else h):=by
 obtain⟨h1,h2,h3⟩:=pY R G hl;obtain⟨_,_,hfz,_,_,_,hn,hl'⟩:=ij R G hs;obtain⟨i,off,blk,rfl,hblk,hmem⟩:=Kj hs;obtain⟨arr,Bs,_⟩:=R.arr hblk hmem;have hd:=lq R hb;refine⟨trivial,?_,fun{E Q} hq=>?_⟩
 ·cases b
  ·exact dg.refl I
  ·exact lN I hs ha hv hn hl'
 ·have hsh:(w.shape? (AA.ev ρ ⟨.dyn i,off⟩).block)=some (blk.elem,arr.size):=by
   show w.shape? (ρ.b i)=_;simp[World.shape?,Bs]
  have hcmp:(e.ev ρ==old.ev ρ)=b:=by simpa[BE.ev,Ci] using hd
  show wq K.P K.Ev E (asAddr (.pointer (some (AA.ev ρ ⟨.dyn i,off⟩)))>>= _) Q w;refine(bH _ _).2 ?_;show wq K.P K.Ev E (Extern.Atomic.touchesFrozen (AA.ev ρ ⟨.dyn i,off⟩)>>= _) Q w;refine(bH _ _).2 ?_;simp only[bH,bI,Extern.Atomic.touchesFrozen,viewAt,sP,hsh,Option.isSome_some,if_true,nY,hfz];show wq K.P K.Ev E (Extern.Atomic.read (.int k) (AA.ev ρ ⟨.dyn i,off⟩)>>= _) Q w;refine(bH _ _).2 (wm h1 h2 ?_);show wq K.P K.Ev E (pure (IE.ev ρ e==IE.ev ρ old)>>= _) Q w;refine(bH _ _).2 ?_;rw[bI,hcmp];cases b with
  |true=>simp only[if_true,bH,bI];exact qx R G hs (hq _ _ (nq R G hs rfl))
  |false=>simp only[aH,if_false,bI,bH];exact hq _ _ (After.same R rfl)
theorem BA(G:K.Good)(R:Rel K ρ h w)(I:gf K U h)(m:Addr->Mark)(m1:∀a,L7 (m a)=true){a:AA}:nP K U ρ h w (Extern.Race.marked m (AV.evs ρ [.ptr (some a)]).toArray) cL h:=by refine nP.pure R I (by simp[cL,AV.In,AV.Ins]) fun{E Q} hq=>?_;show wq K.P K.Ev E (do mark (m (<-(pure (a.ev ρ):Sem Addr)));pure Extern.Race.none_) Q w;simp only[bH,bI,oA];exact⟨G.ext _ (m1 _),hq⟩
theorem MW(G:K.Good)(L:K.lock)(R:Rel K ρ h w)(I:gf K U h)(m:Mark):nP K U ρ h w (do mark m;pure Extern.Race.none_) cL h:=by refine nP.pure R I (by simp[cL,AV.In,AV.Ins]) fun{E Q} hq=>?_;simp only[bH,bI,oA];exact⟨G.lock L _,hq⟩
end
section
variable {K:Ctx}{ρ:Env}{h:AH}{w:World}{U:Nat->Prop}{E:Value->World->Prop}
theorem C8{P:Program}{t:TypeId}{n:Nat}(hk:kind? P t=.ok n):gd P (Extern.Rtype.kind t)=some n:=by
 unfold kind? at hk;split at hk
 ·rename_i h;cases hk;exact h
 ·cases hk
theorem Kk{t:TypeId}{Q:Value->World->Prop}(hq:Q (.pointer (some ⟨K.P.globals.size,t,none⟩)) w):wq K.P K.Ev E (Extern.Rtype.handle t) Q w:=by simp only[Extern.Rtype.handle,bH,iM,bI];exact hq
theorem S3{t:TypeId}{a:AA}{fl:Nat}{r:AV}(hr:mkV? K.P t a fl=.ok r){Q:Value->World->Prop}(hq:Q (r.ev ρ) w):wq K.P K.Ev E (Extern.ReflectliteValue.mk t (a.ev ρ) fl) Q w:=by unfold mkV? at hr;rw[bJ]at hr;obtain⟨n,hn,hr⟩:=hr;cases hr;unfold Extern.ReflectliteValue.mk;simp only[bH];refine Kk (gu (C8 hn) ?_);rw[bI];exact hq
theorem HM{P:Program}{t:TypeId}{a:AA}{fl:Nat}{r:AV}(hr:mkV? P t a fl=.ok r)(ha:a.In U):r.In U:=by unfold mkV? at hr;rw[bJ]at hr;obtain⟨n,hn,hr⟩:=hr;cases hr;exact⟨⟨trivial,trivial⟩,ha,trivial,trivial⟩
theorem Gc{P:Program}{x:AV}{t:TypeId}(hx:handle? P x=some t)(ρ:Env):handleType P (x.ev ρ)=some t:=by
 unfold handle? at hx;split at hx
 ·split at hx
  ·rename_i b o hb;cases hx;simp only[AV.ev,av,AA.ev,BR.ev,IE.ev,handleType,hb,if_true];rfl
  ·cases hx
 ·cases hx
structure oI(P:Program)(x:AV)(t:TypeId)(a:AA)(f:Nat):Prop where
 ex:∃h,x=.agg [h,.ptr (some a),.int .u64 (.lit (.ofNat f))]∧handle? P h=some t
 pos:f≠0
 pack:P.packed t=false
theorem mD{P:Program}{x:AV}{t:TypeId}{a:AA}{f:Nat}(hp:partsV? P x=.ok (t,a,f)):oI P x t a f:=by
 unfold partsV? at hp;split at hp
 ·split at hp
  ·rename_i hh;split at hp
   ·cases hp
   ·rename_i hc;cases hp;simp only[Bool.or_eq_true,decide_eq_true_eq,not_or,Bool.not_eq_true]at hc;exact⟨⟨_,rfl,hh⟩,hc.1,hc.2⟩
  ·cases hp
 ·cases hp
theorem oI.in{x:AV}{t:TypeId}{a:AA}{f:Nat}(p:oI K.P x t a f)(hx:x.In U):a.In U:=by obtain⟨hh,rfl,_⟩:=p.ex;exact hx.2.1
theorem vb{x:AV}{t:TypeId}{a:AA}{f:Nat}(p:oI K.P x t a f){Q:Option (TypeId×Addr×Nat)->World->Prop}(hq:Q (some (t,a.ev ρ,f)) w):wq K.P K.Ev E (Extern.ReflectliteValue.partsAny (x.ev ρ)) Q w:=by obtain⟨hh,rfl,ht⟩:=p.ex;have hne:f≠0:=p.pos;obtain⟨m,rfl⟩:∃m,f=m+1:=⟨f-1,by omega⟩;show wq K.P K.Ev E (Extern.Rtype.ofHandle (hh.ev ρ)>>= fun t=>pure (some (t,a.ev ρ,m+1))) Q w;simp only[bH,Extern.Rtype.ofHandle,iM,Gc ht,bI];exact hq
theorem Kl{s:String}{t:TypeId}(hp:K.P.packed t=false){Q:Unit->World->Prop}(hq:Q () w):wq K.P K.Ev E (Extern.Rtype.noPack s t) Q w:=by unfold Extern.Rtype.noPack;simp only[bH,iM,hp,aH,if_false,bI];exact hq
theorem xR{x:AV}{t:TypeId}{a:AA}{f:Nat}(p:oI K.P x t a f){Q:Option (TypeId×Addr×Nat)->World->Prop}(hq:Q (some (t,a.ev ρ,f)) w):wq K.P K.Ev E (Extern.ReflectliteValue.parts (x.ev ρ)) Q w:=by unfold Extern.ReflectliteValue.parts;rw[bH];refine vb p ?_;simp only[bH];refine Kl p.pack ?_;rw[bI];exact hq
theorem r5{z:Sem Value}{g:TypeId->Addr->Nat->Nat->Sem Value}{x:AV}{t:TypeId}{a:AA}{f:Nat}(p:oI K.P x t a f){Q:Value->World->Prop}(hq:wq K.P K.Ev E (g t (a.ev ρ) f (f % 32)) Q w):
  wq K.P K.Ev E (Extern.ReflectliteValue.method z g (AV.evs ρ [x]).toArray) Q w:=by
 show wq K.P K.Ev E (Extern.ReflectliteValue.parts (x.ev ρ)>>= _) Q w;rw[bH];exact xR p hq
theorem zx{z:Sem Value}{g:TypeId->Addr->Nat->Nat->Sem Value}{x:AV}{t:TypeId}{a:AA}{f:Nat}(p:oI K.P x t a f){Q:Value->World->Prop}(hq:wq K.P K.Ev E (g t (a.ev ρ) f (f % 32)) Q w):
  wq K.P K.Ev E (Extern.ReflectliteValue.methodAny z g (AV.evs ρ [x]).toArray) Q w:=by
 show wq K.P K.Ev E (Extern.ReflectliteValue.partsAny (x.ev ρ)>>= _) Q w;rw[bH];exact vb p hq
theorem Ad(G:K.Good)(R:Rel K ρ h w)(I:gf K U h){x r:AV}{h':AH}(hx:x.In U)(hu:unpackV? K.P h x=.ok (r,h')):nP K U ρ h w (Extern.ReflectliteValue.unpack (x.ev ρ)) r h':=by
 unfold unpackV? at hu;split at hu
 ·rename_i t v;rw[bJ]at hu;obtain⟨cs,hc,hu⟩:=hu;rw[bJ]at hu;obtain⟨⟨y,h1⟩,ha,hu⟩:=hu;dsimp only at hu;split at hu
  ·rename_i a;rw[bJ]at hu;obtain⟨r',hr,hu⟩:=hu;cases hu;obtain⟨_,g1,g2,g3⟩:=oD R I ha (kH hc hx);refine⟨HM hr g1,g2,fun{E Q} hq=>?_⟩;show wq K.P K.Ev E (newVar t (v.ev ρ)>>= fun b=>Extern.ReflectliteValue.mk t b 0) Q w;rw[bH];refine lM (gW hc ρ) ?_;obtain⟨ρ',a1,a2,a3,a4⟩:=g3 (AV.evs ρ cs).toArray (by simp[bQ.fits]);have ha4:a.ev ρ'=⟨w.heap.size,0,none⟩:=by simpa[AV.ev] using a4
   rw[<-ha4];exact S3 hr (hq _ _ ⟨ρ',a1,a2,a3,rfl⟩)
  ·cases hu
 ·cases hu;exact nP.pure R I ⟨trivial,trivial,trivial,trivial⟩ fun{E Q} hq=>hq
 ·cases hu
theorem Ae(R:Rel K ρ h w)(I:gf K U h){t:TypeId}{v:Value}(hv:gd K.P (Extern.ReflectliteType.toType t)=some v):nP K U ρ h w (Extern.ReflectliteType.toType t) (ofValue v) h:=
 nP.pure R I (mj v) fun{E Q} hq=>gu hv (by rw[mh]at hq;exact hq)
theorem MX{v:AV}{b:Bool}(hb:isNil? v=.ok b){Q:Value->World->Prop}(hq:Q (.bool b) w):
  wq K.P K.Ev E (match v.ev ρ with
   |.chan none|.nilFunc|.nilIface|.map none|.pointer none|.slice none _ _=>(pure (.bool true):Sem Value)
   |_=>pure (.bool false)) Q w:=by
 unfold isNil? at hb;split at hb<;>cases hb<;>exact hq
theorem Km(G:K.Good)(R:Rel K ρ h w)(I:gf K U h){z:Sem Value}{x r:AV}{h':AH}(hx:x.In U)(he:xIsNil? K.P K.O h x=.ok (r,h')):nP K U ρ h w (Extern.ReflectliteValue.method z Extern.ReflectliteValue.isNil (AV.evs ρ [x]).toArray) r h':=by
 unfold xIsNil? at he;rw[bJ]at he;obtain⟨⟨t,a,fl⟩,hp,he⟩:=he;dsimp only at he;split at he
 ·rename_i hk;rw[bJ]at he;obtain⟨v,hv,he⟩:=he;rw[bJ]at he;obtain⟨b,hb,he⟩:=he;cases he;have p:=mD hp;refine nP.pure R I trivial fun{E Q} hq=>r5 p ?_;unfold Extern.ReflectliteValue.isNil;simp only[hk,Bool.not_true,aH,if_false,bH,bI];exact kI R G hv (MX hb hq)
 ·cases he
theorem Kn{P:Program}{t e:TypeId}(he:elemT? P t=.ok e):gd P (Extern.Rtype.elem? t)=some (some e):=by
 unfold elemT? at he;split at he
 ·rename_i h;cases he;exact h
 ·cases he
theorem MY(G:K.Good)(R:Rel K ρ h w)(I:gf K U h){z:Sem Value}{x r:AV}{h':AH}(hx:x.In U)(he:xElem? K.P K.O h x=.ok (r,h')):nP K U ρ h w (Extern.ReflectliteValue.method z Extern.ReflectliteValue.elem (AV.evs ρ [x]).toArray) r h':=by
 unfold xElem? at he;rw[bJ]at he;obtain⟨⟨t,a,fl⟩,hp,he⟩:=he;dsimp only at he;have p:=mD hp;rw[bJ]at he;obtain⟨v,hv,he⟩:=he;have Ko:=m8 I hv;split at he
 ·rename_i hk;rw[bJ]at he;obtain⟨e,hel,he⟩:=he;have jL:=Kn hel;have front:∀{E:Value->World->Prop} {Q:Value->World->Prop},wq K.P K.Ev E (match(22:Nat),v.ev ρ,some e with
    |20,i,_=>Extern.ReflectliteValue.unpack i
    |22,.pointer none,_=>pure Extern.ReflectliteValue.zeroV
    |22,.pointer (some p),some e=>Extern.ReflectliteValue.mk e p Extern.ReflectliteValue.flagAddr
    |_,_,_=>Extern.ReflectliteValue.valueError "reflectlite.Value.Elem" 22) Q w->wq K.P K.Ev E (Extern.ReflectliteValue.method z Extern.ReflectliteValue.elem (AV.evs ρ [x]).toArray) Q w:=by
   intro E Q hq;refine r5 p ?_;rw[hk];show wq K.P K.Ev E (loadVar t (a.ev ρ)>>= _) Q w;rw[bH];refine kI R G hv ?_;rw[bH];exact gu jL hq
  split at he
  ·cases he;exact nP.pure R I ⟨trivial,trivial,trivial,trivial⟩ fun{E Q} hq=>front hq
  ·rename_i q;rw[bJ]at he;obtain⟨r',hr,he⟩:=he;cases he;exact nP.pure R I (HM hr Ko) fun{E Q} hq=>front (S3 hr hq)
  ·cases he
 ·split at he
  ·rename_i hk;rw[bJ]at he;obtain⟨e,hel,he⟩:=he;have jL:gd K.P (Extern.Rtype.elem? t)=some e:=by
    split at hel
    ·rename_i h;cases hel;exact h
    ·cases hel
   have H:=Ad G R I Ko he;refine⟨H.mem,H.qP,fun{E Q} hq=>?_⟩;refine r5 p ?_;rw[hk];show wq K.P K.Ev E (loadVar t (a.ev ρ)>>= _) Q w;rw[bH];refine kI R G hv ?_;rw[bH];refine gu jL ?_;exact H.run hq
  ·cases he
theorem xS{P:Program}{s:Sem Bool}{b:Bool}(h:Hr P s=.ok b):gd P s=some b:=by
 unfold Hr at h;split at h
 ·rename_i h';cases h;exact h'
 ·cases h
theorem QY(G:K.Good)(R:Rel K ρ h w)(I:gf K U h){v x r:AV}{h':AH}(hv:v.In U)(hx:x.In U)(he:xSet? K.P K.O h v x=.ok (r,h')):nP K U ρ h w (Extern.ReflectliteValue.set (AV.evs ρ [v,x]).toArray) r h':=by
 unfold xSet? at he;rw[bJ]at he;obtain⟨⟨dst,a,fl⟩,hp,he⟩:=he;dsimp only at he;have p:=mD hp;rw[bJ]at he;obtain⟨⟨src,b,fl2⟩,hp2,he⟩:=he;dsimp only at he;have p2:=mD hp2;split at he
 ·cases he
 ·rename_i hfl;rw[bJ]at he;obtain⟨val,hval,he⟩:=he;rw[bJ]at he;obtain⟨Vq,g_,he⟩:=he;rw[bJ]at he;obtain⟨h1,hst,he⟩:=he;cases he;have Ko:=m8 I hval;unfold setVal? at g_;have aav:Vq.In U:=by
   split at g_
   ·cases g_
   ·cases g_;exact Ko
   ·split at g_
    ·split at g_
     ·split at g_
      ·split at g_
       ·cases g_;exact Ko
       ·cases g_
      ·cases g_;exact Ko
     ·cases g_
    ·cases g_
    ·cases g_
  have ids':=qM I hst (p.in hv) aav;have fin:∀{E:Value->World->Prop} {Q:Value->World->Prop},(∀x w',After K U ρ w h' (fun ρ'=>x=cL.ev ρ') w'->Q x w')->wq K.P K.Ev E (storeVar dst (a.ev ρ) (Vq.ev ρ)) (fun _ w=>Q (.tuple #[]) w) w:=fun hq=>m9 R G hst fun w' R' kp _ _=>hq _ _ ⟨ρ,cz.refl _ _,R',kp,rfl⟩
  have nb:h'.nb=h.nb∧h'.lim=h.lim:=by
   have:=(me (P:=K.P) (Ev:=K.Ev) (E:=fun _ _=>False) (Q:=fun _ _=>h'.nb=h.nb∧h'.lim=h.lim) (m9 (ρ:=ρ) R G hst (Q:=fun _ _=>h'.nb=h.nb∧h'.lim=h.lim) fun w' _ _ a b=>⟨a,b⟩)).1;generalize(storeVar dst (a.ev ρ) (Vq.ev ρ)).run K.P w=r at this;cases r with
   |ok u w'=>exact this
   |halt y w'=>cases y<;>exact this.elim
  refine⟨by simp[cL,AV.In,AV.Ins],⟨by rw[nb.1];exact ay _,nb.2,by rw[nb.1];exact ids'.congr (fun n=>⟨.inl,qq n⟩)⟩,fun{E Q} hq=>?_⟩;show wq K.P K.Ev E (Extern.ReflectliteValue.parts (v.ev ρ)>>= _) Q w;rw[bH];refine xR p ?_;rw[bH];refine xR p2 ?_;have afr:(fl / Extern.ReflectliteValue.flagAddr % 2==0)=false:=by simpa[Extern.ReflectliteValue.flagAddr] using hfl
  simp only[afr,aH,if_false,bH];refine kI R G hval ?_;split at g_
  ·cases g_
  ·rename_i hda;cases g_;refine gu (xS hda) ?_;simp only[if_true,bH,bI];exact fin hq
  ·rename_i hda;refine gu (xS hda) ?_;simp only[aH,if_false,bH];split at g_
   ·rename_i him;rw[wO]at him;refine gu (xS him) ?_;simp only[if_true,bH];split at g_
    ·rename_i k hk;refine gu (C8 hk) ?_;split at g_
     ·rename_i h20;subst h20;simp only[beq_self_eq_true,if_true];split at g_
      ·cases g_;simp only[AV.ev,bH,bI];exact fin hq
      ·cases g_
     ·rename_i h20;have:(k==20)=false:=by simpa using h20
      cases g_;simp only[this,aH,if_false,bH,bI];exact fin hq
    ·cases g_
   ·cases g_
   ·cases g_
def C9(P:Program)(Qp:List (FuncId×XE)):Prop:=∀p∈Qp,∃e,s_ P p.1 e∧p.2.sem e
theorem MZ(G:K.Good){Qp:List (FuncId×XE)}(L:K.lock∨∀p∈Qp,p.2≠.quiet)(T:C9 K.P Qp):iR K (ext? K.P K.O Qp):=by
 intro U ρ h w f args v h' R I ha he;have lift:∀{e:Array Value->Sem Value},s_ K.P f e->nP K U ρ h w (e (AV.evs ρ args).toArray) v h'->sB K U ρ h w (callFunc f (AV.evs ρ args).toArray) (.value v) h':=fun hf H=>⟨H.mem,H.qP,fun hq _=>zY G hf (H.run fun x w' ⟨ρ',a1,a2,a3,a4⟩=>hq _ _ ⟨ρ',a1,a2,a3,by rw[a4];rfl⟩)⟩
 unfold ext? at he;split at he
 ·cases he
 ·rename_i x hx;obtain⟨f',hm,hf'⟩:=jc hx;have:f=f':=by simpa using hf'
  subst this;obtain⟨e,aaw,pZ⟩:=T _ hm;refine lift aaw ?_;dsimp only at pZ;split at he
  ·
   have hs:e=_:=pZ;subst hs;rw[bJ]at he;obtain⟨n,hn,he⟩:=he;cases he;exact aas G R I hn
  ·have hs:e=_:=pZ;subst hs;rw[bJ]at he;obtain⟨n,hn,he⟩:=he;cases he;exact aat G R I ha.1 ha.2.1 hn
  ·have hs:e=_:=pZ;subst hs;rw[bJ]at he;obtain⟨n,hn,he⟩:=he;rw[bJ]at he;obtain⟨h1,hh,he⟩:=he;cases he;exact aau G R I ha.1 ha.2.1 hn hh
  ·have hs:e=_:=pZ;subst hs;rw[bJ]at he;obtain⟨n,hn,he⟩:=he;rw[bJ]at he;obtain⟨b,hb,he⟩:=he;rw[bJ]at he;obtain⟨h1,hh,he⟩:=he;cases he;exact Vp G R I ha.1 ha.2.2.1 hn hb hh
  ·have hs:e=_:=pZ;subst hs;rw[bJ]at he;obtain⟨n,hn,he⟩:=he;rw[bJ]at he;obtain⟨h1,hh,he⟩:=he;cases he;exact Vo G R I ha.1 ha.2.1 hn hh (rR I ⟨(pY R G hn).2.2 I,ha.2.1⟩)
  ·have hs:e=_:=pZ;subst hs;cases he;exact BA G R I _ (fun _=>rfl)
  ·have hs:e=_:=pZ;subst hs;cases he;exact BA G R I _ (fun _=>rfl)
  ·have hs:e=_:=pZ;subst hs;cases he;exact BA G R I _ (fun _=>rfl)
  ·obtain⟨m,rfl⟩:=pZ;cases he;exact MW G (L.resolve_right fun x=>x _ hm rfl) R I m
  ·have hs:e=_:=pZ;subst hs;split at he
   ·rename_i t _ vv hv;cases he;exact Ae R I hv
   ·cases he
  ·have hs:e=_:=pZ;subst hs;cases he;exact nP.pure R I trivial fun{E Q} hq=>hq
  ·have hs:e=_:=pZ;subst hs;exact Ad G R I ha.1 he
  ·obtain⟨z,rfl⟩:=pZ;rw[bJ]at he;obtain⟨⟨t,a,fl⟩,hp,he⟩:=he;dsimp only at he;split at he
   ·rename_i vv hv;cases he;have H:=Ae R I hv (U:=U);exact⟨H.mem,H.qP,fun{E Q} hq=>zx (mD hp) (H.run hq)⟩
   ·cases he
  ·obtain⟨z,rfl⟩:=pZ;exact Km G R I ha.1 he
  ·obtain⟨z,rfl⟩:=pZ;exact MY G R I ha.1 he
  ·have hs:e=_:=pZ;subst hs;exact QY G R I ha.1 ha.2.1 he
  ·cases he
end
end Go.Proofs.YtmobbajggkjpgaaGreat.SX
namespace Go.Proofs.YtmobbajggkjpgaaGreat
open Go.ChangeShapes Go.WideShapes Go.RowKit Go.Proofs.YtmobbajggkjpgaaGreat.SX
def fns:List Nat:=[2,3,4,5,6,7,8,9,10,11,12,13,14,15,16,17,18,19,20,21,22,23,24,25,26,27,28,29,30,31,32,33,34,35,36,37,38,39,40,41,42,43,44,45,46,47,48,49,50,51,52,53,54,55,56,57,58,59,60,61,62,63,64,65,66,67,68,69,70,71,72,73,74,75,76,77,78,79,80,81,82,83,84,85,86,87,88,89,90,91,92,93,94,95,96,97,98,99,100,101,102,103,104,105,106,107,108,109,110,127,128]
def ext:List (FuncId×(Array Value->Sem Value)):=[]
def Qp:List (FuncId×XE):=[]
theorem Af:∀p∈ext,s_ Tryz.prog p.1 p.2:=by intro p hp;cases hp
theorem Ah:C9 Tryz.prog Qp:=by intro p hp;cases hp
theorem M6:fns.all (Mu Tryz.prog)=true:=by kernel_rfl
theorem Tryz.own:ownKnob Tryz.prog.godebug=none:=by kernel_rfl
theorem mixed:Tryz.prog.follows .mixedOrders=true:=by kernel_rfl
end Go.Proofs.YtmobbajggkjpgaaGreat
namespace Go.Proofs.YtmobbajggkjpgaaGreat.SX
noncomputable section
def steps?(P:Program)(O:dN)(ext:Ext)(sum:qH)(f n:Nat):ee->M (ee⊕(AE×AH)):=
 Nat.rec (fun c=>.ok (.inl c)) (fun _ ih c=>
  match step? P O ext (fun g args h=>match sum g args h with
   |some r=>r
   |none=>match bT P g args .normal with
    |.ok fr=>run? P O ext sum f ⟨fr,[],h⟩
    |.error e=>.error e) c with
  |.ok (.inl c)=>ih c
  |.ok (.inr r)=>.ok (.inr r)
  |.error e=>.error e) n
def ao5(f:FuncId):qH:=fun g args h=>match args with
 |[]=>Bool.rec none (some (.ok (.returned (.bool (.lit true)),h))) (Nat.beq g f)
 |_=>none
namespace Short
def I(n:Nat):AV:=.int .i64 (.lit (.ofNat n))
def A(i n:Nat):AV:=.ptr (some ⟨.dyn i,.lit (.ofNat n)⟩)
def T:AV:=.bool (.lit true)
def F:AV:=.bool (.lit false)
def Z:AV:=cL
def L:TT:=.leaf
def N(v:AV)(l r:TT):TT:=.node v l r
def N1(v:AV):TT:=.node v .leaf .leaf
end Short
def pc(c:Code)(p:List Nat):Code:=
 match p with
 |[]=>c
 |i::p=>match c with
  |.seq a b=>match i with
   |0=>pc a p
   |_=>pc b p
  |.cond _ a b=>match i with
   |0=>pc a p
   |_=>pc b p
  |.block _ b=>pc b p
  |.loop b=>pc b p
  |.scope b=>pc b p
  |c=>c
def opsOf(c:Code):Array Oper:=
 match c with
 |.region _ ops _=>ops
 |_=>#[]
def bD(f:Func):Code:=
 match f.body with
 |some c=>c
 |none=>.skip
end
noncomputable section
def e0:AH:=⟨[],0,0⟩
end
noncomputable section
structure Ai where
 id:Nat
 cfg:ee
 ch:Nat
 z:Value
 ok:Bool
 Vr:List (AA×AV)
def dN.bare(O:dN):dN:={O with bs:=[],is:=[],mem:=[]}
end
end Go.Proofs.YtmobbajggkjpgaaGreat.SX
namespace Go.Proofs.YtmobbajggkjpgaaGreat.SX
open Go.Conc
open _root_.List renaming mem_cons_of_mem->af,mem_cons->ai,mem_cons_self->aj,mem_map->bf
open _root_.Nat renaming eq_of_beq_eq_true->aJ
def aqs(P:Program)(ρ:Env)(c:ee)(cs:List Frame)(g:Goroutine):Prop:=∃fr fY,ku P ρ c.cur fr∧iq P ρ c.callers fY∧g=G fr (fY++cs)
structure aqt(U:Nat->Prop)(c:ee):Prop where
 cur:c.cur.In U
 callers:∀fr∈c.callers,fr.In U
section
variable {P:Program}{main:Bool}{O:dN}{ext:Ext}{U:Nat->Prop}{ρ:Env}{cs:List Frame}
def aax(P:Program):Frame:={(default:Frame)with fn:=P.funcs.size,defers:=[],mode:=.panicking [goexitEntry]}
end
theorem Aj(i:Nat)(p:Nat×bQ)(l:List (Nat×bQ)):cG i (p::l)=Bool.rec (cG i l) (some p.2) (Nat.beq i p.1):=rfl
theorem k9{i:Nat}{b:bQ}:∀{l:List (Nat×bQ)},cG i l=some b->(i,b)∈l
 |[],h=>by cases h
 |p::l,h=>by
  rw[Aj]at h;cases e:Nat.beq i p.1 with
  |true=>rw[e]at h;have h':some p.2=some b:=h;have e2:=aJ e;cases h';rw[e2];exact aj ..
  |false=>rw[e]at h;exact af _ (k9 (l:=l) h)
theorem C_{i:Nat}{b:bQ}:∀{l:List (Nat×bQ)},(keys l).Nodup->(i,b)∈l->cG i l=some b
 |[],_,h=>by cases h
 |p::l,hn,h=>by
  rw[Aj];have hn':(p.1::keys l).Nodup:=hn;rcases ai.1 h with rfl|h
  ·simp
  ·cases e:Nat.beq i p.1 with
   |true=>have e2:=aJ e;have:i∈keys l:=bf.2 ⟨(i,b),h,rfl⟩;rw[e2]at this;exact absurd this (List.nodup_cons.1 hn').1
   |false=>exact C_ (List.nodup_cons.1 hn').2 h
section
variable {K:Ctx}{main:Bool}{U:Nat->Prop}{ρ:Env}{cs:List Frame}
theorem M7(Gd:K.Good)(F:K.iQ){ext:Ext}(X:iR K ext){sum:qH}(Z:Ab K main sum){f:Nat}:∀{n:Nat} {c:ee} {r:ee⊕(AE×AH)},steps? K.P K.O ext sum f n c=.ok r->
  match r with
  |.inl c'=>bot c'.cur.fn c'.callers=bot c.cur.fn c.callers∧∃N,k7 K main c c' N
  |.inr r=>∃N,Ends K main c r N:=by
 intro n
 induction n with
 |zero=>intro c r he;have:(Except.ok (.inl c):M (ee⊕(AE×AH)))=.ok r:=he;cases this;exact⟨rfl,0,fun U ρ cs g w I Γ=>Walk.stop ⟨ρ,cz.refl _ _,bU.refl _ _,dg.refl I.ids,I.congr (kK U _),Γ⟩⟩
 |succ n ih=>
  intro c r he;have he':(match step? K.P K.O ext (fun g args h=>match sum g args h with
   |some r=>r
   |none=>match bT K.P g args .normal with
    |.ok fr=>run? K.P K.O ext sum f ⟨fr,[],h⟩
    |.error e=>.error e) c with
   |.ok (.inl c)=>steps? K.P K.O ext sum f n c
   |.ok (.inr r)=>.ok (.inr r)
   |.error e=>.error e)=.ok r:=he
  have C:=Ac (K:=K) (main:=main) Z (k:=run? K.P K.O ext sum f) (Vn Gd F X Z);split at he'
  ·rename_i c' hs;obtain⟨N,L⟩:=wj Gd F X C hs;have hb:=C7 hs;have h2:=ih he';cases r with
   |inl c2=>obtain⟨b2,M,L2⟩:=h2;exact⟨b2.trans hb,N+M,L.trans L2⟩
   |inr r2=>obtain⟨M,E⟩:=h2;exact⟨N+M,L.ends hb E⟩
  ·rename_i r' hs;cases he';exact wj Gd F X C hs
  ·cases he'
theorem bU.mono{o o':Nat->Prop}{w w':World}(h:bU o w w')(hs:∀n,o n->o' n):bU o' w w':=⟨fun n hn=>h.heap n fun x=>hn (hs n x),h.size,h.tape,h.os,h.output⟩
end
def Vt(qV:List Ai)(ρ:Env)(b:Nat):Prop:=∃s∈qV,b=ρ.b s.ch
def Vu(qV:List Ai)(ρ:Env)(b n:Nat):Prop:=∃s∈qV,∃p∈s.Vr,p.1.ev ρ=⟨b,n,none⟩
def Vv(qV:List Ai)(ρ:Env)(b n:Nat):Prop:=Vu qV ρ b n∨(n=0∧Vt qV ρ b)
def ao6(O:dN)(qV:List Ai)(ρ:Env)(a:Addr):Prop:=Vv qV ρ a.block a.off∨∃p∈O.mem,p.1.ev ρ=a
def aqu(P:Program)(cs:List Frame)(i:Nat):List Frame:=if i=0 then cs else[aax P]
end Go.Proofs.YtmobbajggkjpgaaGreat.SX
namespace Go.Proofs.YtmobbajggkjpgaaGreat.SX
open _root_.List renaming mem_cons->ai,map_cons->aU,mem_map->bf
noncomputable section
structure Sub where
 is:List (Nat×IE):=[]
 bs:List (Nat×Nat):=[]
 vs:List (Nat×AV):=[]
def Sub.i(s:Sub)(n:Nat):IE:=
 match look (fun a b=>Nat.beq a b) n s.is with
 |some e=>e
 |none=>.var n
def Sub.b(s:Sub)(n:Nat):Nat:=
 match look (fun a b=>Nat.beq a b) n s.bs with
 |some m=>m
 |none=>n
def Sub.v(s:Sub)(n:Nat):AV:=
 match look (fun a b=>Nat.beq a b) n s.vs with
 |some a=>a
 |none=>.bF n
def HN:AV->Bool
 |.tuple []=>true
 |_=>false
def Sub.full(s:Sub):Bool:=s.vs.all fun p=>!HN p.2
end
noncomputable def Env.sub(s:Sub)(ρ:Env):Env:={i:=fun n=>(s.i n).ev ρ,p:=ρ.p,v:=fun n=>(s.v n).ev ρ,b:=fun n=>ρ.b (s.b n),bt:=ρ.bt,s:=ρ.s}
section
variable {s:Sub}{ρ:Env}
theorem tw{α β:Type}{f:α->β}:∀{l:List α},(l.map f).Nodup->∀{a b:α},a∈l->b∈l->f a=f b->a=b
 |x::l,h,a,b,ha,hb,e=>by
  rw[aU,List.nodup_cons]at h;rcases ai.1 ha with e1|h1
  ·rcases ai.1 hb with e2|h2
   ·rw[e1,e2]
   ·exact absurd (bf.2 ⟨b,h2,by rw[<-e,e1]⟩) h.1
  ·rcases ai.1 hb with e2|h2
   ·exact absurd (bf.2 ⟨a,h1,by rw[e,e2]⟩) h.1
   ·exact tw h.2 h1 h2 e
structure QZ(K:Ctx)(O:dN)(ρ:Env)(w:World):Prop where
 bs:∀p∈O.bs,p.1.ev ρ=p.2
 is:∀p∈O.is,p.1.ev ρ=p.2.ev ρ
 mem:∀p∈O.mem,¬K.own (p.1.ev ρ).block∧w.cell? (p.1.ev ρ)=some (p.2.ev ρ)∧∀s,K.Ev ⟨.cell (p.1.ev ρ),false,s⟩
def Ctx.with(K:Ctx)(O:dN):Ctx:={K with O:=O}
end
end Go.Proofs.YtmobbajggkjpgaaGreat.SX
namespace Go.Proofs.YtmobbajggkjpgaaGreat.SX
open Go.Conc
open _root_.List renaming mem_cons->ai,getElem?_eq_some_iff->ak,length_map->aD,all_eq_true->aE,getElem?_append_left->aK,getElem?_map->aL,length_range->aP,mem_map->bf,getD_eq_getElem?_getD->bn
open _root_.Bool renaming and_eq_true->aq
open _root_.Option.some renaming inj->au
open _root_.Nat renaming zero_add->aF
open _root_.Array renaming getElem?_toList->aY
section
noncomputable section
def IE.low(n:Nat):IE->Bool
 |.lit _=>true
 |.var i=>Nat.ble (i+1) n
 |.op _ _ a b=>a.low n&&b.low n
 |.conv _ a=>a.low n
 |.plus a b=>a.low n&&b.low n
 |.times a b=>a.low n&&b.low n
 |.tn a=>a.low n
 |.jH _=>true
def BE.low(n:Nat):BE->Bool
 |.cmp _ a b=>a.low n&&b.low n
 |_=>true
def BR.low(n:Nat):BR->Bool
 |.rF _=>true
 |.dyn i=>Nat.ble (i+1) n
def AA.low(n:Nat)(a:AA):Bool:=a.blk.low n&&a.off.low n
def uG{α:Type}(f:α->Bool):Option α->Bool
 |none=>true
 |some a=>f a
mutual
def AV.low(n:Nat):AV->Bool
 |.bool b=>b.low n
 |.int _ e=>e.low n
 |.ptr a=>uG (AA.low n) a
 |.slice a l c=>uG (AA.low n) a&&l.low n&&c.low n
 |.map r=>uG (BR.low n) r
 |.chan r=>uG (BR.low n) r
 |.func _ x y=>AV.qI n x&&AV.qI n y
 |.iface _ v=>v.low n
 |.agg x=>AV.qI n x
 |.tuple x=>AV.qI n x
 |.str _=>true
 |.nilFunc=>true
 |.nilIface=>true
 |.bF _=>true
 |.raw _=>true
 |.ss _=>true
def AV.qI(n:Nat):List AV->Bool
 |[]=>true
 |a::x=>a.low n&&AV.qI n x
end
def TT.low(n:Nat):TT->Bool
 |.leaf=>true
 |.node v l r=>v.low n&&l.low n&&r.low n
def AD.low(n:Nat)(d:AD):Bool:=
 match d with
 |⟨.fn _ c,args⟩=>AV.qI n c&&AV.qI n args
 |⟨.builtin _ _ _ _,args⟩=>AV.qI n args
def gU.low(n:Nat):gU->Bool
 |.panicking chain=>chain.all fun x=>x.1.low n
 |_=>true
def bW.low(n:Nat)(fr:bW):Bool:=fr.tmps.low n&&fr.defers.all (AD.low n)&&fr.mode.low n
def bQ.low(n:Nat):bQ->Bool
 |.cells cs _=>AV.qI n cs
 |.row cs _ c=>AV.qI n cs&&c.low n
 |.gp cs _ _=>AV.qI n cs
 |.map es=>es.all fun p=>p.1.low n&&p.2.low n
 |.chan=>true
 |.jI _ m fs ws=>m.low n&&fs.all (fun p=>p.1.low n&&uG (AV.low n) p.2)&&ws.all fun p=>p.1.low n&&p.2.low n
 |.pre _ _ m fs ws cs _ c=>m.low n&&fs.all (fun p=>p.1.low n&&p.2.low n)&&ws.all (fun p=>p.1.low n&&p.2.low n)&&AV.qI n cs&&c.low n
def uH:List Nat->Bool
 |[]=>true
 |a::l=>l.all (fun b=>!Nat.beq a b)&&uH l
def r6(n:Nat)(c:ee):Bool:=
 c.cur.low n&&c.callers.all (bW.low n)&&c.h.hp.all (fun p=>Nat.ble (p.1+1) n&&p.2.low n)&&uH (c.h.hp.map (·.1))
def dN.low(n:Nat)(O:dN):Bool:=
 O.bs.all (fun p=>p.1.low n)&&O.is.all (fun p=>p.1.low n&&p.2.low n)&&O.mem.all (fun p=>p.1.low n&&p.2.low n)
def Ak(hp:List (Nat×bQ)):List Nat->Option (List (Nat×bQ))
 |[]=>some []
 |k::ks=>match cG k hp,Ak hp ks with
  |some b,some l=>some ((k,b)::l)
  |_,_=>none
def chunkTo?(P:Program)(O:dN)(ext:Ext)(sum:qH)(f n:Nat)(ks:List Nat)(c:ee):M ee:=
 match steps? P O ext sum f n c with
 |.ok (.inl ⟨cur,callers,⟨hp,nb,lim⟩⟩)=>match uH ks,Ak hp ks with
  |true,some hp=>.ok ⟨cur,callers,⟨hp,nb,lim⟩⟩
  |_,_=>.error "chunk blocks"
 |.ok (.inr _)=>.error "chunk it ends"
 |.error e=>.error e
end
section
variable {n:Nat}
abbrev Below(n:Nat):Nat->Prop:=fun m=>m<n
theorem IE.cP:∀{e:IE},e.low n=true->e.In (Below n):=by
 intro e
 induction e with
 |lit _=>intro _;trivial
 |var i=>intro h;exact Nat.le_of_ble_eq_true h
 |op o k a b wY y9=>intro h;simp only[IE.low,aq]at h;exact⟨wY h.1,y9 h.2⟩
 |conv k a ih=>exact ih
 |plus a b wY y9=>intro h;simp only[IE.low,aq]at h;exact⟨wY h.1,y9 h.2⟩
 |times a b wY y9=>intro h;simp only[IE.low,aq]at h;exact⟨wY h.1,y9 h.2⟩
 |tn a ih=>exact ih
 |jH a=>exact fun _=>trivial
theorem BE.cP{e:BE}(h:e.low n=true):e.In (Below n):=by
 cases e with
 |cmp o a b=>simp only[BE.low,aq]at h;exact⟨IE.cP h.1,IE.cP h.2⟩
 |_=>trivial
theorem BR.cP{e:BR}(h:e.low n=true):e.In (Below n):=by
 cases e with
 |rF g=>trivial
 |dyn i=>exact Nat.le_of_ble_eq_true h
theorem AA.cP{a:AA}(h:a.low n=true):a.In (Below n):=by simp only[AA.low,aq]at h;exact⟨BR.cP h.1,IE.cP h.2⟩
theorem od{α:Type}{f:α->Bool}{g:α->Prop}(hf:∀{a},f a=true->g a):∀{o:Option α},uG f o=true->lz g o
 |none,_=>trivial
 |some _,h=>hf h
mutual
theorem AV.cP:∀(a:AV),a.low n=true->a.In (Below n)
 |.bool b,h=>by simp only[AV.low]at h;exact BE.cP h
 |.int _ e,h=>by simp only[AV.low]at h;exact IE.cP h
 |.ptr a,h=>by simp only[AV.low]at h;exact od AA.cP h
 |.slice a l c,h=>by simp only[AV.low,aq]at h;exact⟨od AA.cP h.1.1,IE.cP h.1.2,IE.cP h.2⟩
 |.map r,h=>by simp only[AV.low]at h;exact od BR.cP h
 |.chan r,h=>by simp only[AV.low]at h;exact od BR.cP h
 |.func _ x y,h=>by simp only[AV.low,aq]at h;exact⟨AV.je x h.1,AV.je y h.2⟩
 |.iface _ v,h=>by simp only[AV.low]at h;exact AV.cP v h
 |.agg x,h=>by simp only[AV.low]at h;exact AV.je x h
 |.tuple x,h=>by simp only[AV.low]at h;exact AV.je x h
 |.str _,_=>trivial
 |.nilFunc,_=>trivial
 |.nilIface,_=>trivial
 |.bF _,_=>trivial
 |.raw _,_=>trivial
 |.ss _,_=>trivial
theorem AV.je:∀(l:List AV),AV.qI n l=true->AV.Ins (Below n) l
 |[],_=>trivial
 |a::x,h=>by simp only[AV.qI,aq]at h;exact⟨AV.cP a h.1,AV.je x h.2⟩
end
theorem TT.cP:∀{t:TT},t.low n=true->t.In (Below n):=by
 intro t
 induction t with
 |leaf=>intro _ m;show cL.In _;simp[cL,AV.In,AV.Ins]
 |node v l r ihl ihr=>
  intro h m;simp only[TT.low,aq]at h;cases m with
  |zero=>exact AV.cP _ h.1.1
  |succ m=>
   rw[TT.iB];split
   ·exact ihr h.2 _
   ·exact ihl h.1.2 _
theorem AD.cP{d:AD}(h:d.low n=true):d.In (Below n):=by
 obtain⟨t,a⟩:=d;cases t with
 |fn f c=>simp only[AD.low,aq]at h;exact⟨AV.je _ h.1,AV.je _ h.2⟩
 |builtin b x t c=>exact⟨trivial,AV.je _ h⟩
theorem bW.cP{fr:bW}(h:fr.low n=true):fr.In (Below n):=by
 simp only[bW.low,aq]at h;refine⟨TT.cP h.1.1,fun d hd=>AD.cP (aE.1 h.1.2 d hd),?_⟩;have h2:=h.2;cases e:fr.mode with
 |panicking chain=>rw[e]at h2;exact fun x hx=>AV.cP _ (aE.1 h2 x hx)
 |_=>trivial
theorem bQ.cP{b:bQ}(h:b.low n=true):b.In (Below n):=by
 cases b with
 |cells cs e=>exact AV.je _ h
 |row cs e c=>simp only[bQ.low,aq]at h;exact⟨AV.je _ h.1,IE.cP h.2⟩
 |gp cs e l=>exact AV.je _ h
 |map es=>intro p hp;have:=aE.1 h p hp;simp only[aq]at this;exact⟨AV.cP _ this.1,AV.cP _ this.2⟩
 |chan=>trivial
 |jI s m fs ws=>
  simp only[bQ.low,aq]at h;obtain⟨⟨h1,h2⟩,h3⟩:=h;refine⟨IE.cP h1,fun p hp=>?_,fun p hp=>?_⟩
  ·have:=aE.1 h2 p hp;simp only[aq]at this;exact⟨AA.cP this.1,od (fun h=>AV.cP _ h) this.2⟩
  ·have:=aE.1 h3 p hp;simp only[aq]at this;exact⟨AV.cP _ this.1,AV.cP _ this.2⟩
 |pre lk s m fs ws cs e c=>
  simp only[bQ.low,aq]at h;obtain⟨⟨⟨⟨h1,h2⟩,h3⟩,h4⟩,h5⟩:=h;have two:∀{l:List (IE×AV)},(l.all fun p=>p.1.low n&&p.2.low n)=true->∀p∈l,p.1.In (Below n)∧p.2.In (Below n):=fun h p hp=>by have:=aE.1 h p hp;simp only[aq]at this;exact⟨IE.cP this.1,AV.cP _ this.2⟩
  exact⟨IE.cP h1,two h2,two h3,AV.je _ h4,IE.cP h5⟩
theorem uI:∀{l:List Nat},uH l=true->l.Nodup
 |[],_=>List.nodup_nil
 |a::l,h=>by simp only[uH,aq]at h;refine List.nodup_cons.2 ⟨fun hm=>?_,uI h.2⟩;have:=aE.1 h.1 a hm;simp at this
theorem dN.cP{O:dN}(h:O.low n=true):O.In (Below n):=by
 simp only[dN.low,aq]at h;refine⟨fun p hp=>BE.cP (aE.1 h.1.1 p hp),fun p hp=>?_,fun p hp=>?_⟩
 ·have:=aE.1 h.1.2 p hp;simp only[aq]at this;exact⟨IE.cP this.1,IE.cP this.2⟩
 ·have:=aE.1 h.2 p hp;simp only[aq]at this;exact⟨AA.cP this.1,AV.cP _ this.2⟩
theorem Al{K:Ctx}{c:ee}(h:r6 n c=true)(hn:c.h.nb=n)(hO:K.O.low n=true):gy K (Below n) c:=by
 simp only[r6,aq]at h;obtain⟨⟨⟨h1,h2⟩,h3⟩,h4⟩:=h;have blk:∀p∈c.h.hp,p.1<n∧p.2.In (Below n):=fun p hp=>by have:=aE.1 h3 p hp;simp only[aq]at this;exact⟨Nat.le_of_ble_eq_true this.1,bQ.cP this.2⟩
 refine⟨bW.cP h1,fun fr hf=>bW.cP (aE.1 h2 fr hf),fun i b hb=>(blk _ (k9 hb)).2,fun i hi=>?_,uI h4,fun m hm _ hl=>?_,dN.cP hO⟩
 ·obtain⟨p,hp,rfl⟩:=bf.1 hi;exact(blk p hp).1
 ·have hl':m<n:=hl;omega
end
section
variable {K:Ctx}{main:Bool}{U:Nat->Prop}{ρ:Env}{cs:List Frame}
theorem xT{hp:List (Nat×bQ)}:∀{ks:List Nat} {l:List (Nat×bQ)},Ak hp ks=some l->keys l=ks∧∀p∈l,cG p.1 hp=some p.2
 |[],l,h=>by cases h;exact⟨rfl,fun p hp=>by cases hp⟩
 |k::ks,l,h=>by
  unfold Ak at h;split at h
  ·rename_i b l' hb hl;cases h;obtain⟨h1,h2⟩:=xT hl;refine⟨by show k::keys l'=_;rw[h1],fun p hp=>?_⟩;rcases ai.1 hp with rfl|hp
   ·exact hb
   ·exact h2 p hp
  ·cases h
theorem uJ{hp l:List (Nat×bQ)}{ks:List Nat}(h:Ak hp ks=some l){i:Nat}{b:bQ}(hb:cG i l=some b):cG i hp=some b:=(xT h).2 _ (k9 hb)
theorem Rel.sub{hp hp':List (Nat×bQ)}{nb lim nb' lim':Nat}{w:World}(R:Rel K ρ ⟨hp,nb,lim⟩ w)(hs:∀i b,cG i hp'=some b->cG i hp=some b):Rel K ρ ⟨hp',nb',lim'⟩ w:=
 ⟨fun i b h=>R.blk i b (hs i b h),fun i b h=>R.rN i b (hs i b h),fun i j b c h h' e=>R.inj i j b c (hs i b h) (hs j c h') e,R.bs,R.is,R.mem,R.room,fun i b h=>R.gp i b (hs i b h),R.low⟩
theorem zy{l:List (Nat×bQ)}{i:Nat}(h:i∈keys l)(hn:(keys l).Nodup):∃b,cG i l=some b:=by obtain⟨p,hp,rfl⟩:=bf.1 h;exact⟨p.2,C_ hn hp⟩
theorem Next.pick{w w':World}{h0:AH}{cur:bW}{callers:List bW}{hp l:List (Nat×bQ)}{nb lim:Nat}{ks:List Nat}{g':Goroutine}(hk:uH ks=true)(hl:Ak hp ks=some l)
 (h:Next K U ρ cs w h0 ⟨cur,callers,⟨hp,nb,lim⟩⟩ g' w'):Next K U ρ cs w h0 ⟨cur,callers,⟨l,nb,lim⟩⟩ g' w':=by
 obtain⟨ρ',a1,a2,a3,a4,R,Γ⟩:=h;have nd:(keys l).Nodup:=by rw[(xT hl).1];exact uI hk
 have ids:∀{V:Nat->Prop},gf K V ⟨hp,nb,lim⟩->gf K V ⟨l,nb,lim⟩:=fun I=>⟨fun i b hb=>I.hp i b (uJ hl hb),fun i hi=>by obtain⟨b,hb⟩:=zy hi nd;exact I.keys i (qn (uJ hl hb)),nd,I.fresh,I.Co⟩
 exact⟨ρ',a1,a2,⟨a3.nb,a3.lim,ids a3.ids⟩,⟨a4.cur,a4.callers,ids a4.ids⟩,R.sub fun i b hb=>uJ hl hb,Γ⟩
theorem Ge(Gd:K.Good)(F:K.iQ){ext:Ext}(X:iR K ext){sum:qH}(Z:Ab K main sum){f n:Nat}{ks:List Nat}{c c':ee}(he:chunkTo? K.P K.O ext sum f n ks c=.ok c'):
  bot c'.cur.fn c'.callers=bot c.cur.fn c.callers∧∃N,k7 K main c c' N:=by
 unfold chunkTo? at he;split at he
 ·rename_i cur callers hp nb lim hs;split at he
  ·rename_i l hk hl;cases he;obtain⟨b,N,L⟩:=M7 (main:=main) Gd F X Z hs;exact⟨b,N,fun U ρ cs g w I Γ=>(L U ρ cs g w I Γ).weaken fun _ _ h=>h.pick hk hl⟩
  ·cases he
 ·cases he
 ·cases he
end
end
noncomputable section
def TT.none:TT->Bool
 |.leaf=>true
 |.node v l r=>HN v&&(l.none&&r.none)
def swapT(c:ee)(t:TT):ee:=
 match c with
 |⟨⟨fn,nt,_,todo,defers,mode,kind⟩,callers,h⟩=>⟨⟨fn,nt,t,todo,defers,mode,kind⟩,callers,h⟩
end
noncomputable def vc{α:Type}(d:α)(n:Nat)(l:List (Nat×α)):α:=(look (fun a b=>Nat.beq a b) n l).getD d
noncomputable def bO(is:List (Nat×Int))(bs:List (Nat×Nat))(vs:List (Nat×Value)):Env:={i:=fun n=>vc 0 n is,p:=fun _=>false,v:=fun n=>vc undef n vs,b:=fun n=>vc 0 n bs,bt:=(none,[])}
noncomputable def iS(is:List (Nat×Int))(bs:List (Nat×Nat))(vs:List (Nat×Value))(ss:List (Nat×ByteArray)):Env:={bO is bs vs with s:=fun n=>vc ⟨#[]⟩ n ss}
noncomputable def tmpsOf(nt:Nat)(st:Nat->Value)(live:List (Nat×AV)):TT:=TT.fill ((List.range nt).map fun n=>(look (fun a b=>Nat.beq a b) n live).getD (.raw (st n))) 0 .leaf
theorem xU{nt:Nat}(hn:nt≤60000)(st:Nat->Value)(live:List (Nat×AV))(n:Nat):(tmpsOf nt st live).get n=if n<nt then(look (fun a b=>Nat.beq a b) n live).getD (.raw (st n))else cL:=by
 unfold tmpsOf;rw[TT.sO _ 0 .leaf n (by simpa using hn)];simp only[aD,aP,aF,Nat.sub_zero,Nat.zero_le,true_and];by_cases h:n<nt
 ·rw[if_pos h,if_pos h];simp[bn,aL,List.getElem?_range h]
 ·rw[if_neg h,if_neg h];rfl
section
variable {P:Program}{ρ ρ':Env}
structure Seen where
 fn:FuncId
 nt:Nat
 todo:List Item
 defers:List AD
 mode:gU
 kind:CallKind
 callers:List bW
 hp:List (Nat×bQ)
 vals:List AV
noncomputable def uK(c:ee)(live:List Nat):Seen:=⟨c.cur.fn,c.cur.nt,c.cur.todo,c.cur.defers,c.cur.mode,c.cur.kind,c.callers,c.h.hp,live.map fun n=>c.cur.tmps.get n⟩
noncomputable def see(r:M ee)(live:List Nat):Option Seen:=
 match r with
 |.ok c=>some (uK c live)
 |.error _=>none
theorem Vw{r:M ee}{live:List Nat}{s:Seen}(h:see r live=some s):∃c,r=.ok c∧uK c live=s:=by
 cases r with
 |ok c=>exact⟨c,rfl,au h⟩
 |error e=>cases h
end
def EvS(still:Nat->Nat->Prop)(e:Event):Prop:=∀b n s,e=⟨.cell ⟨b,n,none⟩,true,s⟩->¬still b n
def Ctx.sub(K:Ctx)(O:dN)(own:Nat->Prop)(still:Nat->Nat->Prop):Ctx:=⟨K.P,O,own,fun e=>K.Ev e∧EvS still e,K.lock,fun b n=>K.still b n∨still b n⟩
section
variable {K:Ctx}{O:dN}{own:Nat->Prop}{still:Nat->Nat->Prop}
theorem tA(Gd:K.Good)(h:∀n,own n->K.own n):(K.sub O own still).Good:=by
 refine⟨fun a s ho=>⟨Gd.rd a s (h _ ho),fun b n s' e=>by cases e⟩,fun a s ho hn=>⟨Gd.wr a s (h _ ho) fun x=>hn (.inl x),fun b n s' e=>?_⟩,fun b n s hs he=>?_,fun m hm=>⟨Gd.ext m hm,fun b n s e=>by cases e⟩,⟨Gd.noRoom,fun b n s e=>by cases e⟩,fun L m=>⟨Gd.lock L m,fun b n s e=>by cases e⟩,fun r wr s ho=>⟨Gd.obj r wr s (h _ ho),fun b n s' e=>by cases e⟩⟩
 ·cases e;exact fun x=>hn (.inr x)
 ·rcases hs with hs|hs
  ·exact Gd.Qy b n s hs he.1
  ·exact he.2 b n s rfl hs
theorem Vx(h:∀n,own n->K.own n)(w w':World)(es:Array Event)(d:DK (K.sub O own still) w w' es):DK K w w' es:=
 ⟨d.1.mono h,fun e he=>(d.2.1 e he).1,fun b n v hs hc=>d.2.2 b n v (.inl hs) hc⟩
end
theorem Walk.along{P:Program}{main:Bool}{D:World->World->Array Event->Prop}{S:Goroutine->World->Prop}{R:World->World->Prop}(r0:∀w,R w w)(rd:∀w d w',R (cA w d) w'->R w w')(rd':∀w d,R w (cA w d))(rt:∀w w' w'',R w w'->R w' w''->R w w'')(rD:∀w w' es,D w w' es->R w w'){n:Nat}{g:Goroutine}{w:World}(h:Walk P main D S n g w):
  Walk P main D (fun g' w'=>S g' w'∧R w w') n g w:=by
 have key:∀{k:Nat} {g:Goroutine} {w:World},fT P main D S k g w->∀w0,R w0 w->fT P main D (fun g' w'=>S g' w'∧R w0 w') k g w:=by
  intro k g w h
  induction h with
  |stop g w hs=>exact fun w0 hr=>fT.stop g w ⟨hs,hr⟩
  |step n g w g' w' es hr hs Mx _ ih=>exact fun w0 h0=>fT.step n g w g' w' es hr hs Mx fun d=>ih d w0 (rt _ _ _ h0 (rd _ d _ (rD _ _ _ (Mx d))))
  |off n g w g' hr hs _ ih=>exact fun w0 h0=>fT.off n g w g' hr hs fun d=>ih d w0 (rt _ _ _ h0 (rd' _ d))
  |on n g w g' hr hs _ ih=>exact fun w0 h0=>fT.on n g w g' hr hs fun d=>ih d w0 (rt _ _ _ h0 (rd' _ d))
 exact key h w (r0 w)
theorem nk.refl(S:Nat->Nat->Prop)(w:World):nk S w w:=fun _ _ _ _ h=>h
theorem nk.trans{S:Nat->Nat->Prop}{w w' w'':World}(h:nk S w w')(h':nk S w' w''):nk S w w'':=fun b n v hs hc=>h' b n v hs (h b n v hs hc)
structure aay(K:Ctx)(U:Nat->Prop)(ρ:Env)(own:Nat->Prop)(still:Nat->Nat->Prop)(O:dN)(cs:List Frame)(live:List Nat)(V:Seen)(w:World)(g':Goroutine)(w':World)(ρ':Env)(c':ee)(fr':Frame)(tj:List Frame):Prop where
 agree:cz U ρ ρ'
 keeps:bU own w w'
 stays:nk still w w'
 seen:uK c' live=V
 fr:ku K.P ρ' c'.cur fr'
 fY:iq K.P ρ' c'.callers tj
 rel:Rel (K.sub O own still) ρ' c'.h w'
 gor:g'=G fr' (tj++cs)
theorem piece{K:Ctx}{main:Bool}(Gd:K.Good){own:Nat->Prop}{still:Nat->Nat->Prop}(hown:∀n,own n->K.own n){O:dN}{ext:Ext}{sum:qH}(F:(K.sub O own still).iQ)(X:iR (K.sub O own still) ext)(Z:Ab (K.sub O own still) main sum){f n:Nat}{ks:List Nat}{c:ee}{live:List Nat}{V:Seen}
 (hv:see (chunkTo? K.P O ext sum f n ks c) live=some V){nb:Nat}(hl:r6 nb c=true)(hnb:c.h.nb=nb)(hO:O.low nb=true){ρ:Env}{fr:Frame}{fY cs:List Frame}{w:World}(hf:ku K.P ρ c.cur fr)(hfs:iq K.P ρ c.callers fY)(R:Rel (K.sub O own still) ρ c.h w):
  Walk K.P main (DK K) (fun g' w'=>∃ρ' c' fr' tj,aay K (Below nb) ρ own still O cs live V w g' w' ρ' c' fr' tj) 0 (G fr (fY++cs)) w:=by
 obtain⟨c',hc,hs⟩:=Vw hv;obtain⟨_,N,L⟩:=Ge (K:=K.sub O own still) (main:=main) (tA Gd hown) F X Z hc;have W:=L (Below nb) ρ cs (G fr (fY++cs)) w (Al (K:=K.sub O own still) hl hnb hO) ⟨R,fr,fY,hf,hfs,rfl⟩;have W2:=Walk.along (R:=fun w w'=>nk still w w') (fun w=>nk.refl _ w) (fun w d w' h=>h) (fun w d=>fun _ _ _ _ h=>h) (fun _ _ _ h h'=>h.trans h') (fun w w' es h=>fun b n v hs hc=>h.2.2 b n v (.inr hs) hc) W;refine(Walk.weaken (fun g' w' hd=>?_) (W2.lax (Vx hown))).any;obtain⟨⟨ρ',A,kp,gr,hin,R',fr',tj,h1,h2,h3⟩,hst⟩:=hd;exact⟨ρ',c',fr',tj,A,kp,hst,hs,h1,h2,R',h3⟩
section
variable {K:Ctx}{ρ ρ':Env}{w w':World}
theorem j5{a:Addr}{v:Value}(hc:w.cell? a=some v):a.block<w.heap.size:=by
 rcases Nat.lt_or_ge a.block w.heap.size with h'|h'
 ·exact h'
 ·simp[World.cell?,Array.getElem?_eq_none h']at hc
end
theorem r7{K:Ctx}{ρ:Env}{w:World}{O:dN}{own:Nat->Prop}{still:Nat->Nat->Prop}{hp:List (Nat×bQ)}{nb lim:Nat}(h1:∀p∈hp,∃o,w.heap[ρ.b p.1]?=some o∧p.2.is K.P ρ o)(h2:∀p∈hp,own (ρ.b p.1))(h3:(hp.map fun p=>ρ.b p.1).Nodup)(h4:∀p∈hp,∀n,(K.still (ρ.b p.1) n∨still (ρ.b p.1) n)->p.2.lp K.P ρ n)
 (F:QZ (K.sub O own still) O ρ w)(hnew:∀n,w.heap.size≤n->own n)(BC:∀b n,K.still b n∨still b n->b<w.heap.size):Rel (K.sub O own still) ρ ⟨hp,nb,lim⟩ w:=
 ⟨fun i b hb=>h1 (i,b) (k9 hb),fun i b hb=>.inl (h2 (i,b) (k9 hb)),fun i j b c hb hc e=>by have:=tw (f:=fun p:Nat×bQ=>ρ.b p.1) h3 (k9 hb) (k9 hc) e;exact congrArg Prod.fst this,F.bs,F.is,F.mem,hnew,fun i b hb n hs=>h4 (i,b) (k9 hb) n hs,BC⟩
def M8(w:World)(b off:Nat)(xs:List Value):Prop:=∀k v,xs[k]?=some v->w.cell? ⟨b,off+k,none⟩=some v
theorem M8.lt{w:World}{b off:Nat}{xs:List Value}(h:M8 w b off xs){k:Nat}{v:Value}(hk:xs[k]?=some v):b<w.heap.size:=j5 (h k v hk)
section
variable {P:Program}{ρ:Env}
theorem M9{lk:Bool}{s:Nat}{n c:IE}{fs:List (IE×AV)}{e:TypeId}{i:TypeInfo}{arr:Array Value}{xs rest:List Value}(hx:arr.toList=xs++rest)(hi:P.info? e=some i)(hv:ρ.v s=.agg xs.toArray)(hn:xs.length=(n.ev ρ).toNat*i.size)(hf:∀p∈fs,xs[(p.1.ev ρ).toNat]?=some (p.2.ev ρ))(hc:arr.size=(c.ev ρ).toNat*i.size):
  (bQ.pre lk s n fs [] [] e c).is P ρ (.cells arr e (0,0)):=
 .inl ⟨arr,rfl,xs.toArray,rest,i,⟨hv,hi,by simpa using hn,fun p hp=>by simpa using hf p hp,fun p hp=>by cases hp⟩,by simpa[wrote,AV.evs] using hx,hc⟩
end
structure lB(P:Program)(w:World)(e L:Nat)(xs:List Value)(cap:Nat):Prop where
 ex:∃arr rest i,w.heap[L]?=some (.cells arr e (0,0))∧P.info? e=some i∧arr.toList=xs++rest∧arr.size=cap*i.size
theorem lB.arr{P:Program}{w:World}{e L:Nat}{xs:List Value}{cap:Nat}(h:lB P w e L xs cap):M8 w L 0 xs:=fun k v hk=>by obtain⟨arr,rest,i,h1,h2,h3,h4⟩:=h.ex;rw[iN h1,aF,<-aY,h3,aK (ak.1 hk).1];exact hk
theorem lB.lt{P:Program}{w:World}{e L:Nat}{xs:List Value}{cap:Nat}(h:lB P w e L xs cap):L<w.heap.size:=by obtain⟨arr,rest,i,h1,_⟩:=h.ex;exact jF h1
theorem lB.keep{P:Program}{w w':World}{e L:Nat}{xs:List Value}{cap:Nat}(h:lB P w e L xs cap){own:Nat->Prop}(kp:bU own w w')(hb:¬own L):lB P w' e L xs cap:=by obtain⟨arr,rest,i,h1,h2⟩:=h.ex;exact⟨arr,rest,i,by rw[kp.heap L hb];exact h1,h2⟩
theorem lB.is{P:Program}{w:World}{e L:Nat}{xs:List Value}{cap:Nat}(h:lB P w e L xs cap){ρ:Env}{lk:Bool}{s:Nat}{n c:IE}{fs:List (IE×AV)}(hv:ρ.v s=.agg xs.toArray)(hn:∀i,P.info? e=some i->xs.length=(n.ev ρ).toNat*i.size)(hf:∀p∈fs,xs[(p.1.ev ρ).toNat]?=some (p.2.ev ρ))(hc:(c.ev ρ).toNat=cap):
  ∃o,w.heap[L]?=some o∧(bQ.pre lk s n fs [] [] e c).is P ρ o:=by
 obtain⟨arr,rest,i,h1,h2,h3,h4⟩:=h.ex;exact⟨_,h1,M9 h3 h2 hv (hn i h2) hf (by rw[hc];exact h4)⟩
def Env.set(ρ:Env)(y:Nat)(v:Value)(bt:Option Nat×List Deferred):Env:={ρ with v:=fun n=>if n=y then v else ρ.v n,bt:=bt}
section
variable {K:Ctx}{D l:Nat}
structure Lp(w:World)(D l:Nat)(r:Loop):Prop where
 loop:w.heap[l]?=some (.loop r)
 dfr:w.heap[D]?=some (.deferred (some []))
theorem Lp.drawn{w:World}{r:Loop}(h:Lp w D l r)(d:Nat):Lp (cA w d) D l r:=⟨h.1,h.2⟩
end
noncomputable def kM(fr:bW)(live:List Nat):Seen:=⟨fr.fn,fr.nt,fr.todo,fr.defers,fr.mode,fr.kind,[],[],live.map fun n=>fr.tmps.get n⟩
noncomputable def Q0(r:M ee)(live:List Nat)(Da:FuncId->List Nat):Option (Seen×List Seen):=
 match r with
 |.ok ⟨cur,callers,h⟩=>some (uK ⟨cur,[],h⟩ live,callers.map fun fr=>kM fr (Da fr.fn))
 |.error _=>none
noncomputable def Seen.under(V:Seen)(cl:List bW):Seen:=⟨V.fn,V.nt,V.todo,V.defers,V.mode,V.kind,cl,V.hp,V.vals⟩
theorem Q1{r:M ee}{live:List Nat}{Da:FuncId->List Nat}{V:Seen}{Vs:List Seen}(h:Q0 r live Da=some (V,Vs)):∃cl,see r live=some (V.under cl)∧cl.map (fun fr=>kM fr (Da fr.fn))=Vs:=by
 cases r with
 |error e=>cases h
 |ok c=>obtain⟨cur,cl,hh⟩:=c;have h':(uK ⟨cur,[],hh⟩ live,cl.map fun fr=>kM fr (Da fr.fn))=(V,Vs):=au h;obtain⟨h1,h2⟩:=Prod.mk.inj h';subst h1;exact⟨cl,rfl,h2⟩
end Go.Proofs.YtmobbajggkjpgaaGreat.SX
namespace Go.Proofs.YtmobbajggkjpgaaGreat.SX
open Go.Conc
open Go.ConcN (upd upd_ne upd_same)
def ChanAt(w:World)(b:Nat):Prop:=∃k,w.heap[b]?=some (.chan 0 #[] false k k false)
theorem ChanAt.keep{w w':World}{b:Nat}(h:ChanAt w b){own:Nat->Prop}(kp:bU own w w')(hb:¬own b):ChanAt w' b:=by obtain⟨k,hk⟩:=h;exact⟨k,by rw[kp.heap b hb];exact hk⟩
theorem ChanAt.lt{w:World}{b:Nat}(h:ChanAt w b):b<w.heap.size:=by obtain⟨k,hk⟩:=h;exact jF hk
end Go.Proofs.YtmobbajggkjpgaaGreat.SX
namespace Go.Proofs.YtmobbajggkjpgaaGreat.SX
open Go.Conc
open _root_.List renaming mem_cons->ai,map_cons->aU,mem_map->bf,map_congr_left->bh
open _root_.Nat renaming zero_add->aF,eq_of_beq_eq_true->aJ
open _root_.Array renaming getElem?_eq_getElem->aS,getElem?_toList->aY,getD_eq_getD_getElem?->aZ
def jQ(w:World)(b:Nat)(cs:List Value)(e:TypeId):Prop:=∃arr,w.heap[b]?=some (.cells arr e (0,0))∧arr.toList=cs
def Ty(w:World)(b:Nat)(e:TypeId):Prop:=∃arr f,w.heap[b]?=some (.cells arr e f)
section
variable {w w':World}{b b':Nat}{cs cs':List Value}{e e':TypeId}{own:Nat->Prop}
theorem jQ.keep(h:jQ w b cs e)(kp:bU own w w')(hb:¬own b):jQ w' b cs e:=by obtain⟨arr,h1,h2⟩:=h;exact⟨arr,by rw[kp.heap b hb];exact h1,h2⟩
theorem jQ.ty(h:jQ w b cs e):Ty w b e:=by obtain⟨arr,h1,_⟩:=h;exact⟨arr,_,h1⟩
theorem jQ.lt(h:jQ w b cs e):b<w.heap.size:=by obtain⟨arr,h1,_⟩:=h;exact jF h1
theorem Ty.lt(h:Ty w b e):b<w.heap.size:=by obtain⟨arr,f,h1⟩:=h;exact jF h1
theorem jQ.cell(h:jQ w b cs e){n:Nat}{v:Value}(hn:cs[n]?=some v):w.cell? ⟨b,n,none⟩=some v:=by obtain⟨arr,h1,h2⟩:=h;rw[iN h1,<-aY,h2];exact hn
theorem lB.ty{P:Program}{xs:List Value}{c:Nat}(h:lB P w e b xs c):Ty w b e:=by obtain⟨arr,rest,i,h1,_⟩:=h.ex;exact⟨arr,_,h1⟩
theorem jQ.is{P:Program}{ρ:Env}{l:List AV}(h:jQ w b (AV.evs ρ l) e):∃o,w.heap[b]?=some o∧(bQ.cells l e).is P ρ o:=by obtain⟨arr,h1,h2⟩:=h;exact⟨_,h1,.inl ⟨arr,rfl,h2⟩⟩
theorem jQ.rI{P:Program}{ρ:Env}{l:List AV}{ls:List Nat}(h:jQ w b (AV.evs ρ l) e):∃o,w.heap[b]?=some o∧(bQ.gp l e ls).is P ρ o:=by obtain⟨arr,h1,h2⟩:=h;exact⟨_,h1,.inl ⟨arr,rfl,h2⟩⟩
end
def qW(w:World)(b:Nat)(es:List (Value×Value)):Prop:=∃arr nH,w.heap[b]?=some (.map arr nH)∧arr.toList.map (fun e=>(e.key,e.val))=es
section
variable {w w':World}{b b':Nat}{es:List (Value×Value)}{own:Nat->Prop}
theorem qW.keep(h:qW w b es)(kp:bU own w w')(hb:¬own b):qW w' b es:=by obtain⟨arr,nH,h1,h2⟩:=h;exact⟨arr,nH,by rw[kp.heap b hb];exact h1,h2⟩
theorem qW.lt(h:qW w b es):b<w.heap.size:=by obtain⟨arr,nH,h1,h2⟩:=h;exact jF h1
end
inductive cy where
 |obj(e:TypeId)(cs:List Value)
 |vec(e:TypeId)(cap:Nat)(xs:List Value)
 |map(es:List (Value×Value))
 |chan
def cy.at(P:Program)(w:World)(b:Nat):cy->Prop
 |.obj e cs=>jQ w b cs e
 |.vec e cap xs=>lB P w e b xs cap
 |.map es=>qW w b es
 |.chan=>ChanAt w b
def cy.cell:cy->Nat->Option Value
 |.obj _ cs,n=>cs[n]?
 |.vec _ _ xs,n=>xs[n]?
 |_,_=>none
section
variable {P:Program}{w w':World}{b:Nat}{k:cy}{own:Nat->Prop}
theorem cy.qy(h:k.at P w b)(kp:bU own w w')(hb:¬own b):k.at P w' b:=by
 cases k with
 |obj e cs=>exact jQ.keep h kp hb
 |vec e cap xs=>exact lB.keep h kp hb
 |map es=>exact qW.keep h kp hb
 |chan=>exact ChanAt.keep h kp hb
theorem cy.jR(h:k.at P w b):b<w.heap.size:=by
 cases k with
 |obj e cs=>exact jQ.lt h
 |vec e cap xs=>exact lB.lt h
 |map es=>exact qW.lt h
 |chan=>exact ChanAt.lt h
theorem cy.cS(h:k.at P w b){n:Nat}{v:Value}(hn:k.cell n=some v):w.cell? ⟨b,n,none⟩=some v:=by
 cases k with
 |obj e cs=>exact jQ.cell h hn
 |vec e cap xs=>have:=lB.arr h n v hn;rwa[aF]at this
 |map es=>cases hn
 |chan=>cases hn
end
def Db(P:Program)(ρ:Env):bQ->cy->Prop
 |.cells l e,.obj e' cs=>e=e'∧AV.evs ρ l=cs
 |.gp l e _,.obj e' cs=>e=e'∧AV.evs ρ l=cs
 |.pre _ s n fs [] [] e c,.vec e' cap xs=>e=e'∧ρ.v s=.agg xs.toArray∧(∀i,P.info? e=some i->xs.length=(n.ev ρ).toNat*i.size)∧(∀p∈fs,xs[(p.1.ev ρ).toNat]?=some (p.2.ev ρ))∧(c.ev ρ).toNat=cap
 |.map l,.map es=>es=l.map fun p=>(p.1.ev ρ,p.2.ev ρ)
 |.jI s n fs ws,.map es=>∃E,ρ.v s=L8 E∧E.length=(n.ev ρ).toNat∧es=E++ws.map (fun p=>(p.1.ev ρ,p.2.ev ρ))∧∀p∈fs,sQ ρ E p.1 p.2
 |_,_=>False
theorem Vy{P:Program}{w:World}{b:Nat}{k:cy}{ρ:Env}{a:bQ}(h:k.at P w b)(ha:Db P ρ a k):∃o,w.heap[b]?=some o∧a.is P ρ o:=by
 unfold Db at ha;split at ha
 ·obtain⟨rfl,rfl⟩:=ha;exact jQ.is h
 ·obtain⟨rfl,rfl⟩:=ha;exact jQ.rI h
 ·obtain⟨rfl,h1,h2,h3,h4⟩:=ha;exact lB.is h h1 h2 h3 h4
 ·subst ha;obtain⟨arr,nH,h1,h2⟩:=h;exact⟨_,h1,.inr ⟨arr,nH,rfl,h2⟩⟩
 ·obtain⟨E,h1,h2,rfl,h4⟩:=ha;obtain⟨arr,nH,h5,h6⟩:=h;exact⟨_,h5,.inr ⟨arr,nH,E,rfl,h1,h2,h6,h4⟩⟩
 ·exact ha.elim
def Am:Value->List Value
 |.agg a=>a.toList
 |_=>[]
def Vz(v:Value):List (Value×Value):=(Am v).map fun p=>((Am p).getD 0 undef,(Am p).getD 1 undef)
theorem M_(E:List (Value×Value)):Vz (L8 E)=E:=by
 unfold Vz L8 Am;simp only[List.map_map]
 conv=>rhs;rw[<-List.map_id E]
 refine bh fun p hp=>?_;rfl
def HO(ρ:Env):bQ->cy
 |.cells l e=>.obj e (AV.evs ρ l)
 |.gp l e _=>.obj e (AV.evs ρ l)
 |.row l e c=>.vec e (c.ev ρ).toNat (AV.evs ρ l)
 |.pre _ s _ _ ws cs e c=>.vec e (c.ev ρ).toNat (wrote ρ (Am (ρ.v s)) ws++AV.evs ρ cs)
 |.map l=>.map (l.map fun p=>(p.1.ev ρ,p.2.ev ρ))
 |.jI s _ _ ws=>.map (Vz (ρ.v s)++ws.map fun p=>(p.1.ev ρ,p.2.ev ρ))
 |.chan=>.chan
theorem VA{P:Program}{w:World}{b:Nat}{ρ:Env}{a:bQ}{o:Obj}(ho:w.heap[b]?=some o)(h:a.is P ρ o):(HO ρ a).at P w b:=by
 rcases h with⟨arr,rfl,hf⟩|h
 ·cases a with
  |cells l e=>exact⟨arr,ho,hf⟩
  |gp l e ls=>exact⟨arr,ho,hf⟩
  |row l e c=>obtain⟨rest,i,h1,h2,h3⟩:=hf;exact⟨arr,rest,i,ho,h2,h1,h3⟩
  |pre lk s n fs ws cs e c=>obtain⟨pre,rest,i,h1,h2,h3⟩:=hf;refine⟨arr,rest,i,ho,h1.info,?_,h3⟩;rw[h1.val,h2];simp[Am]
  |map l=>exact hf.elim
  |jI s n fs ws=>exact hf.elim
  |chan=>exact hf.elim
 ·cases a with
  |map l=>obtain⟨arr,nH,rfl,h2⟩:=h;exact⟨arr,nH,ho,h2⟩
  |jI s n fs ws=>obtain⟨arr,nH,E,rfl,h2,h3,h4,h5⟩:=h;refine⟨arr,nH,ho,?_⟩;rw[h4,h2,M_]
  |chan=>obtain⟨n,rfl⟩:=h;exact⟨n,ho⟩
  |_=>exact h.elim
structure E5(P:Program)(fn:FuncId)(nt:Nat)(todo:List Item)(ds:List Deferred)(kind:CallKind)(lv:List (Nat×Value))(fr:Frame):Prop where
 ex:∃tm,fr=(xy fn kind).at ⟨tm,ds⟩ todo∧tm.size=nt∧∀p∈lv,tm.getD p.1 undef=p.2
 le:nt≤60000
 fn:∃f,P.funcs[fn]?=some f
def VB(fr:Frame)(n:Nat):Value:=fr.tmps.getD n undef
def told(ρ:Env)(lv:List (Nat×AV)):List (Nat×Value):=lv.map fun p=>(p.1,p.2.ev ρ)
section
variable {P:Program}{ρ:Env}{fn:FuncId}{nt:Nat}{todo:List Item}{ds:List Deferred}{kind:CallKind}{lv:List (Nat×Value)}{fr:Frame}
theorem E5.sub(h:E5 P fn nt todo ds kind lv fr){jm:List (Nat×Value)}(hs:∀p∈jm,p∈lv):E5 P fn nt todo ds kind jm fr:=by obtain⟨⟨tm,h1,h2,h3⟩,h4,h5⟩:=h;exact⟨⟨tm,h1,h2,fun p hp=>h3 p (hs p hp)⟩,h4,h5⟩
theorem uL{tm:Array Value}(hsz:tm.size=nt)(hle:nt≤60000){lA:List (Nat×AV)}(h:∀p∈told ρ lA,tm.getD p.1 undef=p.2):o8 ρ nt (tmpsOf nt (fun n=>tm.getD n undef) lA) tm:=by
 refine⟨hsz,hle,fun n hn=>?_,fun n hn=>?_⟩
 ·rw[xU hle,if_pos hn];have hg:tm[n]?=some (tm.getD n undef):=by
   rw[aZ];rw[aS (by omega)];rfl
  rw[hg];cases e:look (fun a b=>Nat.beq a b) n lA with
  |none=>simp[AV.ev]
  |some a=>obtain⟨x,hx,he⟩:=jc e;obtain rfl:=aJ he;have:=h (n,a.ev ρ) (bf.2 ⟨(n,a),hx,rfl⟩);dsimp only at this;rw[this];rfl
 ·rw[xU hle,if_neg (by omega)]
theorem E5.rel(h:E5 P fn nt todo ds kind lv fr)(hk:iF kind)(lA:List (Nat×AV))(hl:told ρ lA=lv){dA:List AD}(hd:dA.map (AD.ev ρ)=ds):ku P ρ ⟨fn,nt,tmpsOf nt (VB fr) lA,todo,dA,.run,kind⟩ fr:=by obtain⟨⟨tm,rfl,h2,h3⟩,h4,h5⟩:=h;subst hl;refine⟨tm,todo,⟨uL h2 h4 h3,.inl hk,fun _=>rfl,h5⟩,?_⟩;unfold d_;dsimp only;rw[xA hk,hd];rfl
theorem Dc{t:TT}:∀{live:List Nat} {p:Nat×Value},p∈live.zip (AV.evs ρ (live.map fun n=>t.get n))->p.2=(t.get p.1).ev ρ
 |[],p,h=>by cases h
 |n::l,p,h=>by
  simp only[aU,AV.evs,List.zip_cons_cons,ai]at h;rcases h with rfl|h
  ·rfl
  ·exact Dc h
theorem E5.of{a:bW}{live:List Nat}{vals:List AV}{dA:List AD}(h:ku P ρ a fr)(s:kM a live=⟨fn,nt,todo,dA,.run,kind,[],[],vals⟩)(hk:iF kind):E5 P fn nt todo (dA.map (AD.ev ρ)) kind (live.zip (AV.evs ρ vals)) fr:=by
 obtain⟨fn',nt',t,todo',ds',mode,kind'⟩:=a;simp only[kM,Seen.mk.injEq]at s;obtain⟨rfl,rfl,rfl,rfl,rfl,rfl,_,_,rfl⟩:=s;obtain⟨tm,td,i,rfl⟩:=h;refine⟨⟨tm,?_,i.tmps.size,fun p hp=>?_⟩,i.tmps.le,i.fn⟩
 ·have ht:td=todo':=i.todo rfl;unfold d_;dsimp only;rw[xA hk,ht];rfl
 ·rw[Dc hp];exact i.tmps.getD p.1
end
end Go.Proofs.YtmobbajggkjpgaaGreat.SX
namespace Go.Proofs.YtmobbajggkjpgaaGreat
open Go.Proofs.YtmobbajggkjpgaaGreat.SX Go.Conc
open _root_.List renaming mem_cons_of_mem->af,mem_singleton->ah,mem_cons->ai,mem_cons_self->aj,getElem?_eq_some_iff->ak,not_mem_nil->aA,length_cons->aC,all_eq_true->aE,mem_filter->aO,map_cons->aU,mem_map->bf,map_append->bu
open _root_.Bool renaming and_eq_true->aq
open _root_.Option.some renaming inj->au
open _root_.Option renaming map_some->av
open _root_.Nat renaming le_trans->ax,le_refl->ay,zero_add->aF,eq_of_beq_eq_true->aJ
open _root_.Array renaming getElem?_eq_getElem->aS,getD_eq_getD_getElem?->aZ
noncomputable def OO(bs:List (BE×Bool))(mem:List (AA×AV)):dN:={bs:=bs,mem:=mem,fns:=fns,ext:=ext}
noncomputable abbrev XX(bs:List (BE×Bool))(mem:List (AA×AV)):Ext:=ext? Tryz.prog (OO bs mem) Qp
noncomputable def VC(bs:List (BE×Bool))(mem:List (AA×AV))(n:Nat)(ks:List Nat)(c:ee):M ee:=chunkTo? Tryz.prog (OO bs mem) (XX bs mem) L3 4000 n ks c
noncomputable def cfg(cur:bW)(callers:List bW)(hp:List (Nat×bQ)):ee:=⟨cur,callers,⟨hp,100,5192296858534827628530496329220096⟩⟩
noncomputable def KZ(base:Nat):Ctx:=⟨Tryz.prog,OO [] [],fun n=>base≤n,fun _=>True,True,fun _ _=>False⟩
theorem wo(base:Nat):(KZ base).Good:=⟨fun _ _ _=>trivial,fun _ _ _ _=>trivial,fun _ _ _ h=>h.elim,fun _ _=>trivial,trivial,fun _ _=>trivial,fun _ _ _ _=>trivial⟩
abbrev Go1(base:Nat)(g:Goroutine)(w:World)(Q:Goroutine->World->Prop):Prop:=Walk Tryz.prog true (DK (KZ base)) Q 0 g w
theorem HP{α:Type}:∀{l:List (Nat×α)} {i:Nat} {b:α},(l.map (·.1)).Nodup->(i,b)∈l->Go.Proofs.YtmobbajggkjpgaaGreat.SX.look (fun a b=>Nat.beq a b) i l=some b
 |p::l,i,b,h,hm=>by
  rw[aU,List.nodup_cons]at h;have e1:Go.Proofs.YtmobbajggkjpgaaGreat.SX.look (fun a b=>Nat.beq a b) i (p::l)=Bool.rec (Go.Proofs.YtmobbajggkjpgaaGreat.SX.look (fun a b=>Nat.beq a b) i l) (some p.2) (Nat.beq i p.1):=rfl;rw[e1];rcases ai.1 hm with e|hm
  ·subst e;have:Nat.beq i i=true:=Nat.beq_refl i;rw[this]
  ·have:Nat.beq i p.1=false:=by
    cases e:Nat.beq i p.1 with
    |false=>rfl
    |true=>have:=aJ e;exact absurd (bf.2 ⟨_,hm,this⟩) h.1
   rw[this];exact HP h.2 hm
abbrev afu:=Nat×Nat
abbrev Lay:=afu->Option (Nat×cy)
abbrev FA:=E5 Tryz.prog
def S4:gU->Bool
 |.run=>true
 |_=>false
def HQ:CallKind->Bool
 |.normal=>true
 |.deferred=>true
 |_=>false
theorem Na{k:CallKind}(h:HQ k=true):iF k:=by cases k<;>first|exact .inl rfl|exact .inr rfl|cases h
def Dd(V:Seen):Bool:=S4 V.mode&&HQ V.kind
section
variable {base:Nat}{W0 w:World}{L:Lay}{main:Bool}
theorem iD{w w':World}{own:Nat->Prop}(kp:bU own w w'){a:Addr}{v:Value}(h:w.cell? a=some v)(hb:¬own a.block):w'.cell? a=some v:=by unfold World.cell? at h⊢;rw[kp.heap _ hb];exact h
end
def Goes(g:Goroutine)(w:World)(Q:Goroutine->World->Prop):Prop:=∃g' w',Steps Tryz.prog (qU g w) (qU g' w')∧Q g' w'
abbrev bA(w w':World):Prop:=bU (fun n=>w.heap.size≤n) w w'
def dV(f:FuncId)(args:Array Value)(w:World)(Q:Value->World->Prop):Prop:=Calls Tryz.prog f args w fun e w'=>∃v,e=.returned v∧Q v w'
section
variable {g:Goroutine}{w:World}{Q R:Goroutine->World->Prop}
theorem Goes.here(h:Q g w):Goes g w Q:=⟨g,w,.refl _ _,h⟩
theorem Goes.trans(h:Goes g w Q)(k:∀g' w',Q g' w'->Goes g' w' R):Goes g w R:=by obtain⟨g1,w1,s1,q1⟩:=h;obtain⟨g2,w2,s2,q2⟩:=k _ _ q1;exact⟨g2,w2,s1.trans s2,q2⟩
theorem Goes.mono(h:Goes g w Q)(k:∀g' w',Q g' w'->R g' w'):Goes g w R:=by obtain⟨g1,w1,s1,q1⟩:=h;exact⟨g1,w1,s1,k _ _ q1⟩
theorem Goes.of{base:Nat}(h:Go1 base g w Q):Goes g w Q:=Ga h
end
theorem bA.refl(w:World):bA w w:=bU.refl _ _
theorem bA.trans{w w1 w2:World}(h:bA w w1)(h2:bA w1 w2):bA w w2:=bU.trans h (h2.mono fun n hn=>ax h.size hn)
theorem bA.cell{w w':World}(h:bA w w'){a:Addr}{v:Value}(hc:w.cell? a=some v):w'.cell? a=some v:=iD h hc fun hh=>by have:=j5 hc;omega
theorem dV.mono{f:FuncId}{args:Array Value}{w:World}{Q R:Value->World->Prop}(h:dV f args w Q)(k:∀v w',Q v w'->R v w'):dV f args w R:=by intro cs;obtain⟨e,w',fr,⟨v,h1,h2⟩,h3⟩:=h cs;exact⟨e,w',fr,⟨v,h1,k _ _ h2⟩,h3⟩
noncomputable def hN:AH:=⟨[],100,5192296858534827628530496329220096⟩
noncomputable def ZI(bs:List (BE×Bool))(mem:List (AA×AV))(t:TT)(ops:Array Oper)(i:Nat):M (AN×AH):=match ops[i]? with
 |some o=>op? Tryz.prog (OO bs mem) (XX bs mem) hN (kY t) o
 |none=>.error "no operation"
noncomputable def xV(bs:List (BE×Bool))(mem:List (AA×AV))(t:TT)(ops:Array Oper)(i:Nat):M Bool:=match ops[i]? with
 |some o=>gN (OO bs mem) ops t o
 |none=>.error "no operation"
noncomputable def HR(ops:Array Oper)(i:Nat):Option Nat:=(ops[i]?).bind (·.dst)
noncomputable def Gf(bs:List (BE×Bool))(mem:List (AA×AV))(t:TT):Bool:=r6 100 ⟨⟨0,0,t,[],[],.run,.normal⟩,[],hN⟩&&(OO bs mem).low 100
theorem Nb{tm:Array Value}{d n:Nat}{v:Value}:(tm.setIfInBounds d v).getD n undef=if n=d∧d<tm.size then v else tm.getD n undef:=by
 rw[aZ,aZ,Array.getElem?_setIfInBounds];by_cases h:d=n
 ·subst h;by_cases h2:d<tm.size
  ·simp[h2]
  ·simp[h2]
 ·have:¬(n=d):=fun e=>h e.symm;simp[h,this]
abbrev fP(d:Nat)(v:Value)(lv:List (Nat×Value)):List (Nat×Value):=(d,v)::lv.filter fun p=>!(p.1==d)
section
variable {w:World}{cs:List Frame}{fr:Frame}{fn nt i d:Nat}{ops:Array Oper}{l:List Nat}{k:List Item}{ds:List Deferred}{kind:CallKind}{lv:List (Nat×Value)}{lA:List (Nat×AV)}{bs:List (BE×Bool)}{mem:List (AA×AV)}{ρ:Env}
theorem Gg{tm:Array Value}{v:Value}(h2:tm.size=nt)(h3:∀p∈lv,tm.getD p.1 undef=p.2)(h4:nt≤60000)(h5:∃f,Tryz.prog.funcs[fn]?=some f)(hdn:d<nt):
  FA fn nt (.inRegion ops l::k) ds kind (fP d v lv) ((xy fn kind).at ((⟨tm,ds⟩:Act).put (some d) v) (.inRegion ops l::k)):=by
 refine⟨⟨tm.setIfInBounds d v,rfl,by rw[Array.size_setIfInBounds];exact h2,fun p hp=>?_⟩,h4,h5⟩;rw[Nb];rcases ai.1 hp with rfl|hp
 ·rw[if_pos ⟨rfl,by omega⟩]
 ·obtain⟨q1,q2⟩:=aO.1 hp;have:¬(p.1=d):=by simpa using q2
  rw[if_neg fun e=>this e.1];exact h3 p q1
theorem BD{tm:Array Value}(h2:tm.size=nt)(h4:nt≤60000)(ht:∀p∈told ρ lA,tm.getD p.1 undef=p.2){b:Bool}(hw:xV bs mem (tmpsOf nt (fun n=>tm.getD n undef) lA) ops i=.ok b)(BC:Gf bs mem (tmpsOf nt (fun n=>tm.getD n undef) lA)=true)
 (hb:∀p∈bs,p.1.ev ρ=p.2)(hm:∀p∈mem,w.cell? (p.1.ev ρ)=some (p.2.ev ρ)):
  ∃o,ops[i]?=some o∧Region.wanted o (yielded ops tm)=b∧∀{n:AN},ZI bs mem (tmpsOf nt (fun n=>tm.getD n undef) lA) ops i=.ok (n,hN)->(∀v,n≠.panic v)->∃nx w' ρ',(execOp (⟨tm,ds⟩:Act).eval o).run Tryz.prog w=.ok nx w'∧bA w w'∧cz (Below 100) ρ ρ'∧n.is ρ' nx:=by
 have T:=uL (ρ:=ρ) h2 h4 ht;unfold xV at hw;unfold ZI;cases ho:ops[i]? with
 |none=>rw[ho]at hw;cases hw
 |some o=>
  rw[ho]at hw;simp only[Gf,aq]at BC;let K:=(KZ w.heap.size).sub (OO bs mem) (fun n=>w.heap.size≤n) fun _ _=>False;have hown:∀n,w.heap.size≤n->(KZ w.heap.size).own n:=fun n hn=>hn;have ZJ:K.Good:=tA (wo w.heap.size) hown;have R:Rel K ρ hN w:=r7 (nofun) (nofun) List.nodup_nil (nofun) ⟨hb,(nofun),fun p hp=>⟨fun hh=>by have:=j5 (hm p hp);have:w.heap.size≤(p.1.ev ρ).block:=hh;omega,hm p hp,fun s=>⟨trivial,fun b n s e=>by cases e⟩⟩⟩ (fun n hn=>hn) fun b n h=>h.elim False.elim False.elim
  have I:=Al (K:=K) (c:=⟨⟨0,0,tmpsOf nt (fun n=>tm.getD n undef) lA,[],[],.run,.normal⟩,[],hN⟩) BC.1 rfl BC.2;refine⟨o,rfl,rV (K:=K) R T hw,fun{n} he hn=>?_⟩;have N:=Mw (K:=K) ZJ ⟨M6,Af,mixed⟩ (MZ ZJ (.inl trivial) Ah) R I.ids (CM I.cur.tmps) he;have hev:(⟨tm,ds⟩:Act).eval=fun x=>(kY (tmpsOf nt (fun n=>tm.getD n undef) lA) x).ev ρ:=funext fun x=>th T _ x;rw[hev];have W:=N.run (E:=fun _ _=>False) (Q:=fun nx w'=>∃ρ',bA w w'∧cz (Below 100) ρ ρ'∧n.is ρ' nx) (fun nx w' ⟨ρ',a1,a2,a3,a4⟩=>⟨ρ',a3,a1,a4⟩) (fun v hv=>(hn v hv).elim);have q1:((execOp (fun x=>(kY (tmpsOf nt (fun n=>tm.getD n undef) lA) x).ev ρ) o).run Tryz.prog w).goes (fun nx w'=>∃ρ',bA w w'∧cz (Below 100) ρ ρ'∧n.is ρ' nx) (fun _ _=>False):=(me W).1;generalize(execOp (fun x=>(kY (tmpsOf nt (fun n=>tm.getD n undef) lA) x).ev ρ) o).run Tryz.prog w=r at q1;cases r with
  |ok nx w'=>obtain⟨ρ',a1,a2,a3⟩:=q1;exact⟨nx,w',ρ',rfl,a1,a2,a3⟩
  |halt x w'=>cases x<;>exact q1.elim
theorem De(hf:FA fn nt (.inRegion ops (i::l)::k) ds kind lv fr)(hk:iF kind){a:AV}(hl:∀p∈told ρ lA,p∈lv)(hw:∀st,xV bs mem (tmpsOf nt st lA) ops i=.ok true)(he:∀st,ZI bs mem (tmpsOf nt st lA) ops i=.ok (.value a,hN))(BC:∀st,Gf bs mem (tmpsOf nt st lA)=true)
 (hb:∀p∈bs,p.1.ev ρ=p.2)(hm:∀p∈mem,w.cell? (p.1.ev ρ)=some (p.2.ev ρ))(hd:HR ops i=some d)(hdn:d<nt)(ha:AV.low 100 a=true):
  Goes (G fr cs) w fun g' w'=>∃fr',g'=G fr' cs∧bA w w'∧FA fn nt (.inRegion ops l::k) ds kind (fP d (a.ev ρ) lv) fr':=by
 obtain⟨⟨tm,rfl,h2,h3⟩,h4,h5⟩:=hf;obtain⟨o,ho,Cg,run⟩:=BD (ds:=ds) (w:=w) h2 h4 (fun p hp=>h3 p (hl p hp)) (hw _) (BC _) hb hm;obtain⟨nx,w',ρ',r1,bR,Ag,e⟩:=run (he _) (fun v h=>by cases h);have e:nx=.value (a.ev ρ'):=e;rw[AV.bZ Ag a (AV.cP a ha)]at e;subst e;have hg:=stepG_op (P:=Tryz.prog) (b:=xy fn kind) (k:=k) (cs:=cs) (w:=w) (rest:=l) (a:=⟨tm,ds⟩) ho Cg;have s:step Tryz.prog (lone ((xy fn kind).at ⟨tm,ds⟩ (.inRegion ops (i::l)::k)) cs w)=.next (lone ((xy fn kind).at ((⟨tm,ds⟩:Act).put ((ops[i]?).bind (·.dst)) (a.ev ρ)) (.inRegion ops l::k)) cs w'):=by refine step_lone_go ?_;rw[hg,<-Frame.finish_at];simp[stepG.apply,r1]
 refine⟨_,w',.head s (.refl _ _),_,rfl,bR,?_⟩;rw[show(ops[i]?).bind (·.dst)=some d from hd];exact Gg h2 h3 h4 h5 hdn
theorem tB(hf:FA fn nt (.inRegion ops (i::l)::k) ds kind lv fr){f:FuncId}{args:List AV}{Q:Value->World->Prop}(hl:∀p∈told ρ lA,p∈lv)(hw:∀st,xV bs mem (tmpsOf nt st lA) ops i=.ok true)(he:∀st,ZI bs mem (tmpsOf nt st lA) ops i=.ok (.enter f args,hN))(BC:∀st,Gf bs mem (tmpsOf nt st lA)=true)
 (hb:∀p∈bs,p.1.ev ρ=p.2)(hm:∀p∈mem,w.cell? (p.1.ev ρ)=some (p.2.ev ρ))(hd:HR ops i=some d)(hdn:d<nt)(ha:AV.qI 100 args=true)(h:∀w',bA w w'->dV f (AV.evs ρ args).toArray w' Q):
  Goes (G fr cs) w fun g' w'=>∃fr' v,g'=G fr' cs∧Q v w'∧FA fn nt (.inRegion ops l::k) ds kind (fP d v lv) fr':=by
 obtain⟨⟨tm,rfl,h2,h3⟩,h4,h5⟩:=hf;obtain⟨o,ho,Cg,run⟩:=BD (ds:=ds) (w:=w) h2 h4 (fun p hp=>h3 p (hl p hp)) (hw _) (BC _) hb hm;obtain⟨nx,w',ρ',r1,bR,Ag,e⟩:=run (he _) (fun v h=>by cases h);have e:nx=.enter f (AV.evs ρ' args).toArray:=e;rw[AV.fG Ag args (AV.je args ha)]at e;subst e;have hg:=stepG_op (P:=Tryz.prog) (b:=xy fn kind) (k:=k) (cs:=cs) (w:=w) (rest:=l) (a:=⟨tm,ds⟩) ho Cg;have s:step Tryz.prog (lone ((xy fn kind).at ⟨tm,ds⟩ (.inRegion ops (i::l)::k)) cs w)=.next (lone (Frame.enter Tryz.prog f (AV.evs ρ args).toArray .normal) ((xy fn kind).at ⟨tm,ds⟩ (.inRegion ops (i::l)::k)::cs) w'):=by refine step_lone_go ?_;rw[hg];simp[stepG.apply,r1,Frame.at]
 obtain⟨en,w2,cE,⟨v,rfl,hq⟩,st,_,jm⟩:=h w' bR ((xy fn kind).at ⟨tm,ds⟩ (.inRegion ops (i::l)::k)::cs);have s2:=step_leave_returned (c:=(xy fn kind).at ⟨tm,ds⟩ (.inRegion ops (i::l)::k)) (cs:=cs) jm;rw[Frame.finish_at,show(ops[i]?).bind (·.dst)=some d from hd]at s2;exact⟨_,w2,.head s (Steps.trans st (.head s2 (.refl _ _))),_,v,rfl,hq,Gg h2 h3 h4 h5 hdn⟩
end
def de(f:FuncId)(fr:Frame)(w:World)(v:Value):Prop:=fr.fn=f∧fr.leaving Tryz.prog w (.returned v)
theorem cI{f:FuncId}{args:Array Value}{w:World}{Q:Value->World->Prop}(h:∀cs,Goes (G (Frame.enter Tryz.prog f args .normal) cs) w fun g' w'=>∃fr' v,g'=G fr' cs∧de f fr' w' v∧Q v w'):dV f args w Q:=by intro cs;obtain⟨g',w',st,fr',v,rfl,⟨h1,h2⟩,hq⟩:=h cs;exact⟨.returned v,w',fr',⟨v,rfl,hq⟩,st,h1,h2⟩
section
variable {w:World}{cs:List Frame}{fr:Frame}{fn nt:Nat}{k:List Item}{lv:List (Nat×Value)}{lA:List (Nat×AV)}{bs:List (BE×Bool)}{mem:List (AA×AV)}{ρ:Env}
theorem oe(hf:FA fn nt (.code .ret::k) [] .normal lv fr){a:AV}(hl:∀p∈told ρ lA,p∈lv)(he:∀st,results? Tryz.prog (OO bs mem) hN fn (tmpsOf nt st lA)=.ok a)
 (hb:∀p∈bs,p.1.ev ρ=p.2)(hm:∀p∈mem,w.cell? (p.1.ev ρ)=some (p.2.ev ρ)):
  Goes (G fr cs) w fun g' w'=>∃fr',g'=G fr' cs∧w'=w∧de fn fr' w' (a.ev ρ):=by
 obtain⟨⟨tm,rfl,h2,h3⟩,h4,h5⟩:=hf;have T:=uL (ρ:=ρ) h2 h4 (fun p hp=>h3 p (hl p hp));let K:=(KZ w.heap.size).sub (OO bs mem) (fun n=>w.heap.size≤n) fun _ _=>False;have hown:∀n,w.heap.size≤n->(KZ w.heap.size).own n:=fun n hn=>hn;have ZJ:K.Good:=tA (wo w.heap.size) hown;have R:Rel K ρ hN w:=r7 (nofun) (nofun) List.nodup_nil (nofun) ⟨hb,(nofun),fun p hp=>⟨fun hh=>by have:=j5 (hm p hp);have:w.heap.size≤(p.1.ev ρ).block:=hh;omega,hm p hp,fun s=>⟨trivial,fun b n s e=>by cases e⟩⟩⟩ (fun n hn=>hn) fun b n h=>h.elim False.elim False.elim
 obtain⟨f,hf,_,run⟩:=va (K:=K) ZJ (he (fun n=>tm.getD n undef));have W:=run (E:=fun _ _=>False) R T (Q:=fun x w'=>x=a.ev ρ∧w'=w) ⟨rfl,rfl⟩;have q1:((results f tm).run Tryz.prog w).goes (fun x w'=>x=a.ev ρ∧w'=w) (fun _ _=>False):=(me W).1;refine⟨_,w,.head step_ret (.refl _ _),_,rfl,rfl,rfl,rfl,rfl,rfl,f,hf,?_⟩;show(results f tm).run Tryz.prog w=.ok (a.ev ρ) w;generalize(results f tm).run Tryz.prog w=r at q1;cases r with
 |ok x w'=>obtain⟨rfl,rfl⟩:=q1;rfl
 |halt x w'=>cases x<;>exact q1.elim
end
theorem cC{f nt:Nat}{t:TT}{body:Code}(h:bT Tryz.prog f [.bF 0] .normal=.ok ⟨f,nt,t,[.code body],[],.run,.normal⟩)(hs:kM (⟨f,nt,t,[.code body],[],.run,.normal⟩:bW) [0]=⟨f,nt,[.code body],[],.run,.normal,[],[],[.bF 0]⟩)(x:Value):
  FA f nt [.code body] [] .normal [(0,x)] (Frame.enter Tryz.prog f #[x] .normal):=by
 let ρ:Env:=bO [] [] [(0,x)];exact E5.of (live:=[0]) (vals:=[.bF 0]) (dA:=[]) (gZ (U:=fun _=>True) h (.inl rfl) ⟨trivial,trivial⟩ (ρ:=ρ)).1 hs (.inl rfl)
theorem dU{f nt:Nat}{t:TT}{body:Code}(h:bT Tryz.prog f [.bF 0,.bF 1] .normal=.ok ⟨f,nt,t,[.code body],[],.run,.normal⟩)(hs:kM (⟨f,nt,t,[.code body],[],.run,.normal⟩:bW) [0,1]=⟨f,nt,[.code body],[],.run,.normal,[],[],[.bF 0,.bF 1]⟩)(x y:Value):
  FA f nt [.code body] [] .normal [(0,x),(1,y)] (Frame.enter Tryz.prog f #[x,y] .normal):=by
 let ρ:Env:=bO [] [] [(0,x),(1,y)];exact E5.of (live:=[0,1]) (vals:=[.bF 0,.bF 1]) (dA:=[]) (gZ (U:=fun _=>True) h (.inl rfl) ⟨trivial,trivial,trivial⟩ (ρ:=ρ)).1 hs (.inl rfl)
noncomputable abbrev j6:List AV:=[.bF 0,.bF 1,.bF 2,.bF 3]
theorem xW{f nt:Nat}{t:TT}{body:Code}(h:bT Tryz.prog f j6 .normal=.ok ⟨f,nt,t,[.code body],[],.run,.normal⟩)(hs:kM (⟨f,nt,t,[.code body],[],.run,.normal⟩:bW) [0,1,2,3]=⟨f,nt,[.code body],[],.run,.normal,[],[],j6⟩)(x y z u:Value):
  FA f nt [.code body] [] .normal [(0,x),(1,y),(2,z),(3,u)] (Frame.enter Tryz.prog f #[x,y,z,u] .normal):=by
 let ρ:Env:=bO [] [] [(0,x),(1,y),(2,z),(3,u)];exact E5.of (live:=[0,1,2,3]) (vals:=j6) (dA:=[]) (gZ (U:=fun _=>True) h (.inl rfl) ⟨trivial,trivial,trivial,trivial,trivial⟩ (ρ:=ρ)).1 hs (.inl rfl)
theorem BF{f nt:Nat}{t:TT}{body:Code}(h:bT Tryz.prog f [] .normal=.ok ⟨f,nt,t,[.code body],[],.run,.normal⟩):
  FA f nt [.code body] [] .normal [] (Frame.enter Tryz.prog f #[] .normal):=by
 let ρ:Env:=bO [] [] [];exact E5.of (live:=[]) (vals:=[]) (dA:=[]) (gZ (U:=fun _=>True) h (.inl rfl) trivial (ρ:=ρ)).1 rfl (.inl rfl)
def k_(ρ:Env)(w:World)(pre:List (Nat×bQ))(b:Nat):Prop:=w.heap.size≤b∨∃x∈pre,ρ.b x.1=b
theorem Nc{w:World}{cs:List Frame}{fr:Frame}{bs:List (BE×Bool)}{mem:List (AA×AV)}{n:Nat}{ks:List Nat}{cur:bW}{live:List Nat}{V:Seen}(pre post:List (Nat×bQ))
 (hv:Q0 (VC bs mem n ks (cfg cur [] pre)) live (fun _=>[])=some (V,[]))(hV:V.hp=post)(hV':Dd V=true)(hl:r6 100 (cfg cur [] pre)=true)(hO:(OO bs mem).low 100=true){ρ:Env}(hf:ku Tryz.prog ρ cur fr)
 (hb:∀p∈bs,p.1.ev ρ=p.2)(hm:∀p∈mem,w.cell? (p.1.ev ρ)=some (p.2.ev ρ)∧∀x∈pre,ρ.b x.1≠(p.1.ev ρ).block)(hpre:∀x∈pre,∃k:cy,k.at Tryz.prog w (ρ.b x.1)∧Db Tryz.prog ρ x.2 k)(iK:(pre.map fun p=>ρ.b p.1).Nodup)(afw:(post.map (·.1)).Nodup):
  Goes (G fr cs) w fun g' w'=>∃ρ' fr',g'=G fr' cs∧bU (k_ ρ w pre) w w'∧cz (Below 100) ρ ρ'∧FA V.fn V.nt V.todo (V.defers.map (AD.ev ρ')) V.kind (live.zip (AV.evs ρ' V.vals)) fr'∧(∀x∈post,k_ ρ w pre (ρ'.b x.1)∧(HO ρ' x.2).at Tryz.prog w' (ρ'.b x.1))∧∀x∈post,∀y∈post,ρ'.b x.1=ρ'.b y.1->x.1=y.1:=by
 obtain⟨cl,hs,hcl⟩:=Q1 hv;have hown:∀b,k_ ρ w pre b->(KZ 0).own b:=fun b _=>Nat.zero_le b;have ZJ:=tA (K:=KZ 0) (O:=OO bs mem) (own:=k_ ρ w pre) (still:=fun _ _=>False) (wo 0) hown;have W:=piece (K:=KZ 0) (main:=true) (own:=k_ ρ w pre) (still:=fun _ _=>False) (O:=OO bs mem) (cs:=cs) (fY:=[]) (wo 0) hown ⟨M6,Af,mixed⟩ (MZ ZJ (.inl trivial) Ah) Kh hs hl rfl hO hf trivial
  (r7 (fun p hp=>by
    obtain⟨k,h1,h2⟩:=hpre p hp;exact Vy h1 h2) (fun p hp=>.inr ⟨p,hp,rfl⟩) iK (fun p hp n hn=>hn.elim False.elim False.elim) ⟨hb,(nofun),fun p hp=>⟨fun hh=>by
     have h1:=j5 (hm p hp).1;rcases hh with hh|⟨x,hx,e⟩
     ·omega
     ·exact(hm p hp).2 x hx e,(hm p hp).1,fun s=>⟨trivial,fun b n s e=>by cases e⟩⟩⟩ (fun n hn=>.inl hn) fun b n h=>h.elim False.elim False.elim)
 refine(Goes.of W).mono fun g' w' hd=>?_;obtain⟨ρ',c',fr',tj,C⟩:=hd;have n9:c'.callers=cl:=congrArg Seen.callers C.seen;have hhp:c'.h.hp=V.hp:=congrArg Seen.hp C.seen;have Q2:=C.rel;have hfr:=C.fr;have aaz:=C.fY;have tC:=C.seen;obtain⟨cur',callers',hh⟩:=c';dsimp only at n9 hhp Q2 hfr aaz;subst n9;obtain rfl:callers'=[]:=by
  cases callers' with
  |nil=>rfl
  |cons a b=>cases hcl
 obtain rfl:tj=[]:=by
  cases tj with
  |nil=>rfl
  |cons a b=>exact aaz.elim
 simp only[Dd,aq]at hV';have aaA:V.mode=.run:=by have:=hV'.1;cases e:V.mode<;>first|rfl|(simp[e,S4]at this)
 have hfind:∀x∈post,cG x.1 hh.hp=some x.2:=fun x hx=>by rw[hhp,hV];exact HP afw hx
 refine⟨ρ',fr',C.gor,C.keeps,C.agree,?_,fun x hx=>?_,fun x hx y hy e=>Q2.inj _ _ _ _ (hfind x hx) (hfind y hy) e⟩
 ·refine E5.of hfr ?_ (Na hV'.2);unfold Seen.under uK at tC;unfold kM;simp only[Seen.mk.injEq]at tC⊢;exact⟨tC.1,tC.2.1,tC.2.2.1,tC.2.2.2.1,tC.2.2.2.2.1.trans aaA,tC.2.2.2.2.2.1,trivial,trivial,tC.2.2.2.2.2.2.2.2⟩
 ·obtain⟨o,h1,h2⟩:=Q2.blk _ _ (hfind x hx);refine⟨?_,VA h1 h2⟩;rcases Q2.rN _ _ (hfind x hx)with h3|⟨hc,h3⟩
  ·exact h3
  ·exact(h3.elim False.elim False.elim)
def iV(n:Int):Value:=.int .i64 n
def cY(n:Int):Value:=.int .i8 n
def bK(b:Nat):Value:=.pointer (some ⟨b,0,none⟩)
def eH:Value:=.slice none 0 0
def bS(a o n c:Nat):Value:=.slice (some ⟨a,o,none⟩) n c
def v(n:Nat):IE:=.var n
noncomputable def i64(e:IE):AV:=.int .i64 e
noncomputable def i8(e:IE):AV:=.int .i8 e
noncomputable def bC(b:Nat):AV:=.ptr (some ⟨.dyn b,.lit 0⟩)
noncomputable def zz:AV:=.ptr none
noncomputable def cn:AV:=.slice none (.lit 0) (.lit 0)
noncomputable def TB:AV:=.bool (.lit true)
noncomputable def FB:AV:=.bool (.lit false)
noncomputable def ss(k:Nat):AV:=.ss (.var k)
noncomputable def noL:FuncId->List Nat:=fun _=>[]
noncomputable def ZK(fn nt:Nat)(t:List Item)(l:List (Nat×AV))(st:Nat->Value):bW:=⟨fn,nt,tmpsOf nt st l,t,[],.run,.normal⟩
noncomputable def c_(f:FuncId)(args:List AV):TT:=((bT Tryz.prog f args .normal).toOption.map (·.tmps)).getD .leaf
theorem iT{x:Int}(h:-9223372036854775808≤x∧x≤9223372036854775807):IntKind.wrap .i64 x=x:=IntWalk.i64_in _ h
theorem eS{α:Type}{a:α}:[a].Nodup:=List.nodup_cons.2 ⟨aA,List.nodup_nil⟩
theorem bG{w:World}{b e:Nat}{cs:List Value}(h:(cy.obj e cs).at Tryz.prog w b){i:Nat}{x:Value}(hx:cs[i]?=some x):w.cell? ⟨b,i,none⟩=some x:=jQ.cell h hx
theorem bP{w w':World}{k:cy}{T:Nat}(h:k.at Tryz.prog w T)(f:bA w w'):k.at Tryz.prog w' T:=cy.qy h f fun hh=>by have:=cy.jR h;omega
def gh(k:Nat):List (Nat×Value)->Option Value
 |[]=>none
 |p::r=>bif Nat.beq p.1 k then some p.2 else gh k r
theorem cN{k:Nat}{x:Value}:∀{lv:List (Nat×Value)},gh k lv=some x->(k,x)∈lv
 |[],h=>by cases h
 |p::r,h=>by
  unfold gh at h;cases e:Nat.beq p.1 k with
  |true=>rw[e]at h;obtain rfl:p.2=x:=au h;obtain rfl:=aJ e;exact aj ..
  |false=>rw[e]at h;exact af _ (cN h)
abbrev eZ(lv l:List (Nat×Value)):Prop:=l.map (fun p=>gh p.1 lv)=l.map fun p=>some p.2
theorem eZ.mem{lv:List (Nat×Value)}:∀{l:List (Nat×Value)},eZ lv l->∀p∈l,p∈lv
 |q::r,h,p,hp=>by
  simp only[eZ,aU,List.cons.injEq]at h;rcases ai.1 hp with rfl|hp
  ·exact cN h.1
  ·exact eZ.mem (l:=r) h.2 p hp
def cg(ρ:Env):List (BE×Bool)->Prop
 |[]=>True
 |p::r=>p.1.ev ρ=p.2∧cg ρ r
theorem cg.mem{ρ:Env}:∀{l:List (BE×Bool)},cg ρ l->∀p∈l,p.1.ev ρ=p.2
 |q::r,h,p,hp=>by
  rcases ai.1 hp with rfl|hp
  ·exact h.1
  ·exact cg.mem (l:=r) h.2 p hp
theorem cg.app{ρ:Env}:∀{l l':List (BE×Bool)},cg ρ l->cg ρ l'->cg ρ (l++l')
 |[],_,_,h'=>h'
 |_::_,_,h,h'=>⟨h.1,cg.app h.2 h'⟩
def cq(ρ:Env)(w:World):List (AA×AV)->Prop
 |[]=>True
 |p::r=>w.cell? (p.1.ev ρ)=some (p.2.ev ρ)∧cq ρ w r
theorem cq.mem{ρ:Env}{w:World}:∀{l:List (AA×AV)},cq ρ w l->∀p∈l,w.cell? (p.1.ev ρ)=some (p.2.ev ρ)
 |q::r,h,p,hp=>by
  rcases ai.1 hp with rfl|hp
  ·exact h.1
  ·exact cq.mem (l:=r) h.2 p hp
theorem cq.app{ρ:Env}{w:World}:∀{l l':List (AA×AV)},cq ρ w l->cq ρ w l'->cq ρ w (l++l')
 |[],_,_,h'=>h'
 |_::_,_,h,h'=>⟨h.1,cq.app h.2 h'⟩
def Gh(ρ:Env)(w:World):List (Nat×bQ)->Prop
 |[]=>True
 |x::r=>(∃k:cy,k.at Tryz.prog w (ρ.b x.1)∧Db Tryz.prog ρ x.2 k)∧Gh ρ w r
theorem Gh.mem{ρ:Env}{w:World}:∀{l:List (Nat×bQ)},Gh ρ w l->∀x∈l,∃k:cy,k.at Tryz.prog w (ρ.b x.1)∧Db Tryz.prog ρ x.2 k
 |q::r,h,p,hp=>by
  rcases ai.1 hp with rfl|hp
  ·exact h.1
  ·exact Gh.mem (l:=r) h.2 p hp
def xX(ρ:Env)(own:Nat->Prop)(w:World):List (Nat×bQ)->Prop
 |[]=>True
 |x::r=>(own (ρ.b x.1)∧(HO ρ x.2).at Tryz.prog w (ρ.b x.1))∧xX ρ own w r
theorem xX.of{ρ:Env}{own:Nat->Prop}{w:World}:∀{l:List (Nat×bQ)},(∀x∈l,own (ρ.b x.1)∧(HO ρ x.2).at Tryz.prog w (ρ.b x.1))->xX ρ own w l
 |[],_=>trivial
 |x::r,h=>⟨h x (aj ..),xX.of fun y hy=>h y (af _ hy)⟩
def dc(ρ:Env)(I:Nat->Int)(B:Nat->Nat):Env:={ρ with i:=fun n=>bif Nat.blt n 100 then ρ.i n else I n,b:=fun n=>bif Nat.blt n 100 then ρ.b n else B n}
theorem HS{ρ ρ':Env}(A:cz (Below 100) ρ ρ'):ρ'=dc ρ ρ'.i ρ'.b:=by
 have hi:ρ'.i=fun n=>bif Nat.blt n 100 then ρ.i n else ρ'.i n:=funext fun n=>by
  cases e:Nat.blt n 100 with
  |true=>exact A.i n (Nat.blt_eq.mp e)
  |false=>rfl
 have hb:ρ'.b=fun n=>bif Nat.blt n 100 then ρ.b n else ρ'.b n:=funext fun n=>by
  cases e:Nat.blt n 100 with
  |true=>exact A.b n (Nat.blt_eq.mp e)
  |false=>rfl
 have h1:=A.p;have h2:=A.v;have h3:=A.bt;have h4:=A.s;obtain⟨ri,rp,rv,rb,rt,rs⟩:=ρ';obtain⟨si,sp,sv,sb,st,sts⟩:=ρ;dsimp only at h1 h2 h3 h4 hi hb;subst h1 h2 h3 h4;unfold dc;congr 1
abbrev sA(b o n c:Nat):AV:=.slice (some ⟨.dyn b,v o⟩) (v n) (v c)
abbrev eA(b o i k j:Nat):AA:=⟨.dyn b,.plus (.tn (.plus (.tn (v o)) (.times (.tn (v i)) (.lit (Int.ofNat k))))) (.lit (Int.ofNat j))⟩
abbrev eB(b o i k:Nat):AA:=⟨.dyn b,.plus (.tn (v o)) (.times (.tn (v i)) (.lit (Int.ofNat k)))⟩
abbrev eC(b o i:Nat):AA:=⟨.dyn b,.plus (.tn (v o)) (.tn (v i))⟩
abbrev eD(b j:Nat):AA:=⟨.dyn b,.lit (Int.ofNat j)⟩
abbrev fo(i n:Nat):List (BE×Bool):=[((.cmp .lss (v i) (.tn (v n))),true),((.cmp .leq (.lit 0) (v i)),true),((.cmp .lss (v i) (.lit 0)),false),((.cmp .geq (v i) (.tn (v n))),false)]
def pdF:Nat->Nat->List Nat->List Nat
 |0,_,a=>a
 |f+1,n,a=>bif Nat.ble n 1 then a else pdF f (n / 2) (n % 2::a)
def pd(n:Nat):List Nat:=pdF 40 n []
structure Pc(fn nt:Nat)(todo:List Item)(lA:List (Nat×AV))(bs:List (BE×Bool))(mem:List (AA×AV))(pre:List (Nat×bQ))(n:Nat)(ks live:List Nat)(todo':List Item)(vals:List AV)(post:List (Nat×bQ)):Prop where
 run:∀st,Q0 (VC bs mem n ks (cfg (ZK fn nt todo lA st) [] pre)) live noL=some (⟨fn,nt,todo',[],.run,.normal,[],post,vals⟩,[]):=by intro st;kernel_rfl
 low:∀st,r6 100 (cfg (ZK fn nt todo lA st) [] pre)=true:=by intro st;kernel_rfl
 Q3:(OO bs mem).low 100=true:=by kernel_rfl
 nd:(post.map (·.1)).Nodup:=by apply of_decide_eq_true;kernel_rfl
section
variable {w:World}{cs:List Frame}{fr:Frame}{fn nt n d:Nat}{todo todo':List Item}{lA:List (Nat×AV)}{lv:List (Nat×Value)}{bs:List (BE×Bool)}{mem:List (AA×AV)}{pre post:List (Nat×bQ)}{ks live:List Nat}{vals:List AV}
theorem FA.only{fn nt:Nat}{t:List Item}{ds:List Deferred}{kind:CallKind}{lv l:List (Nat×Value)}{fr:Frame}(h:FA fn nt t ds kind lv fr)(hl:eZ lv l):FA fn nt t ds kind l fr:=h.sub hl.mem
theorem Pc.go(P:Pc fn nt todo lA bs mem [] n ks live todo' vals post)(ρ:Env)(hf:FA fn nt todo [] .normal lv fr)(hl:eZ lv (told ρ lA))(hb:cg ρ bs)(hm:cq ρ w mem):
  Goes (G fr cs) w fun g' w'=>∃I B fr',g'=G fr' cs∧bA w w'∧FA fn nt todo' [] .normal (live.zip (AV.evs (dc ρ I B) vals)) fr'∧xX (dc ρ I B) (fun b=>w.heap.size≤b) w' post∧∀x∈post,∀y∈post,(dc ρ I B).b x.1=(dc ρ I B).b y.1->x.1=y.1:=by
 have hf':=hf.only hl;refine(Nc (ρ:=ρ) [] post (P.run (VB fr)) rfl rfl (P.low _) P.Q3 (hf'.rel (.inl rfl) lA rfl rfl) hb.mem (fun p hp=>⟨hm.mem p hp,fun x hx=>by cases hx⟩) (nofun) List.nodup_nil P.nd).mono fun g' w' hd=>?_;obtain⟨ρ',fr',rfl,kp,Ag,F,bl,inj⟩:=hd;have aaB:∀q,k_ ρ w [] q->w.heap.size≤q:=fun q hq=>hq.elim id fun⟨y,hy,_⟩=>(by cases hy);have e:=HS Ag;rw[e]at F bl inj;exact⟨_,_,fr',rfl,kp.mono aaB,F,xX.of fun x hx=>⟨aaB _ (bl x hx).1,(bl x hx).2⟩,inj⟩
theorem Pc.Df(P:Pc fn nt todo lA bs mem pre n ks live todo' vals post)(ρ:Env)(hf:FA fn nt todo [] .normal lv fr)(hl:eZ lv (told ρ lA))(hb:cg ρ bs)(hm:cq ρ w mem)(hmo:∀p∈mem,∀x∈pre,ρ.b x.1≠(p.1.ev ρ).block)(ho:Gh ρ w pre)(iK:(pre.map fun p=>ρ.b p.1).Nodup):
  Goes (G fr cs) w fun g' w'=>∃I B fr',g'=G fr' cs∧bU (k_ ρ w pre) w w'∧FA fn nt todo' [] .normal (live.zip (AV.evs (dc ρ I B) vals)) fr'∧xX (dc ρ I B) (k_ ρ w pre) w' post∧∀x∈post,∀y∈post,(dc ρ I B).b x.1=(dc ρ I B).b y.1->x.1=y.1:=by
 have hf':=hf.only hl;refine(Nc (ρ:=ρ) pre post (P.run (VB fr)) rfl rfl (P.low _) P.Q3 (hf'.rel (.inl rfl) lA rfl rfl) hb.mem (fun p hp=>⟨hm.mem p hp,hmo p hp⟩) ho.mem iK P.nd).mono fun g' w' hd=>?_;obtain⟨ρ',fr',rfl,kp,Ag,F,bl,inj⟩:=hd;have e:=HS Ag;rw[e]at F bl inj;exact⟨_,_,fr',rfl,kp,F,xX.of bl,inj⟩
def dL(fn nt d:Nat):Prop:=∀st,results? Tryz.prog (OO [] []) hN fn (tmpsOf nt st [(d,.bF 0)])=.ok (.bF 0)
theorem leave1(R:dL fn nt d){k:List Item}{x:Value}(hf:FA fn nt (.code .ret::k) [] .normal lv fr)(hx:gh d lv=some x):Goes (G fr cs) w fun g' w'=>∃fr',g'=G fr' cs∧w'=w∧de fn fr' w' x:=
 oe (ρ:=bO [] [] [(0,x)]) (lA:=[(d,.bF 0)]) (bs:=[]) (mem:=[]) hf (a:=.bF 0) (fun p hp=>by obtain rfl:=ah.1 hp;exact cN hx) R (nofun) (nofun)
def p6(fn nt d d':Nat):Prop:=∀st,results? Tryz.prog (OO [] []) hN fn (tmpsOf nt st [(d,.bF 0),(d',.bF 1)])=.ok (.tuple [.bF 0,.bF 1])
theorem jo{d d':Nat}(R:p6 fn nt d d'){k:List Item}{x y:Value}(hf:FA fn nt (.code .ret::k) [] .normal lv fr)(hx:gh d lv=some x)(hy:gh d' lv=some y):Goes (G fr cs) w fun g' w'=>∃fr',g'=G fr' cs∧w'=w∧de fn fr' w' (.tuple #[x,y]):=
 oe (ρ:=bO [] [] [(0,x),(1,y)]) (lA:=[(d,.bF 0),(d',.bF 1)]) (bs:=[]) (mem:=[]) hf (a:=.tuple [.bF 0,.bF 1]) (fun p hp=>by
  rcases ai.1 hp with rfl|hp
  ·exact cN hx
  ·obtain rfl:=ah.1 hp;exact cN hy) R (nofun) (nofun)
theorem Pc.iY{f d:Nat}{body:Code}{args:Array Value}{k:List Item}{a:AV}(P:Pc f nt [.code body] lA bs mem [] n ks [d] (.code .ret::k) [a] post)(R:dL f nt d)(ρ:Env)(he:FA f nt [.code body] [] .normal lv (Frame.enter Tryz.prog f args .normal))(hl:eZ lv (told ρ lA))(hb:cg ρ bs)(hm:cq ρ w mem):
  dV f args w fun v w'=>bA w w'∧∃I B,v=a.ev (dc ρ I B)∧xX (dc ρ I B) (fun b=>w.heap.size≤b) w' post∧∀x∈post,∀y∈post,(dc ρ I B).b x.1=(dc ρ I B).b y.1->x.1=y.1:=by
 refine cI fun cs=>?_;refine(P.go ρ he hl hb hm).trans fun g1 w1 hd=>?_;obtain⟨I,B,bR,rfl,f1,F1,bl,inj⟩:=hd;refine(leave1 R F1 (x:=a.ev (dc ρ I B)) (by show gh d [(d,a.ev (dc ρ I B))]=_;unfold gh;rw[Nat.beq_refl];rfl)).mono fun g2 w2 b_=>?_
 obtain⟨cE,rfl,rfl,hL⟩:=b_;exact⟨cE,_,rfl,hL,f1,I,B,rfl,bl,inj⟩
end
structure dH(nt:Nat)(ops:Array Oper)(i:Nat)(bs:List (BE×Bool))(mem:List (AA×AV))(lA:List (Nat×AV))(a:AV)(d:Nat):Prop where
 want:∀st,xV bs mem (tmpsOf nt st lA) ops i=.ok true:=by intro st;kernel_rfl
 op:∀st,ZI bs mem (tmpsOf nt st lA) ops i=.ok (.value a,hN):=by intro st;kernel_rfl
 low:∀st,Gf bs mem (tmpsOf nt st lA)=true:=by intro st;kernel_rfl
 dst:HR ops i=some d:=by kernel_rfl
 Dg:AV.low 100 a=true:=by rfl
structure dy(nt:Nat)(ops:Array Oper)(i:Nat)(lA:List (Nat×AV))(f:FuncId)(args:List AV)(d:Nat):Prop where
 want:∀st,xV [] [] (tmpsOf nt st lA) ops i=.ok true:=by intro st;kernel_rfl
 op:∀st,ZI [] [] (tmpsOf nt st lA) ops i=.ok (.enter f args,hN):=by intro st;kernel_rfl
 low:∀st,Gf [] [] (tmpsOf nt st lA)=true:=by intro st;kernel_rfl
 dst:HR ops i=some d:=by kernel_rfl
 dlt:d<nt:=by decide
 Dg:AV.qI 100 args=true:=by rfl
section
variable {w:World}{cs:List Frame}{fr:Frame}{fn nt i d:Nat}{ops:Array Oper}{l:List Nat}{k:List Item}{lv:List (Nat×Value)}{lA:List (Nat×AV)}{bs:List (BE×Bool)}{mem:List (AA×AV)}
theorem dH.go{a:AV}(o:dH nt ops i bs mem lA a d)(ρ:Env)(hf:FA fn nt (.inRegion ops (i::l)::k) [] .normal lv fr)(hdn:d<nt)(hl:eZ lv (told ρ lA))(hb:cg ρ bs)(hm:cq ρ w mem):
  Goes (G fr cs) w fun g' w'=>∃fr',g'=G fr' cs∧bA w w'∧FA fn nt (.inRegion ops l::k) [] .normal (fP d (a.ev ρ) lv) fr':=
 De (ρ:=ρ) hf (.inl rfl) hl.mem o.want o.op o.low hb.mem hm.mem o.dst hdn o.Dg
theorem dy.go{f:FuncId}{args:List AV}(o:dy nt ops i lA f args d)(ρ:Env){Q:Value->World->Prop}(hf:FA fn nt (.inRegion ops (i::l)::k) [] .normal lv fr)(hl:eZ lv (told ρ lA))(h:∀w',bA w w'->dV f (AV.evs ρ args).toArray w' fun v w2=>bA w' w2∧Q v w2):
  Goes (G fr cs) w fun g' w'=>∃fr' v,g'=G fr' cs∧bA w w'∧Q v w'∧FA fn nt (.inRegion ops l::k) [] .normal (fP d v lv) fr':=
 (tB (ρ:=ρ) (bs:=[]) (mem:=[]) (Q:=fun v w2=>bA w w2∧Q v w2) hf hl.mem o.want o.op o.low (nofun) (nofun) o.dst o.dlt o.Dg (fun w' f1=>(h w' f1).mono fun v w2 hd=>⟨f1.trans hd.1,hd.2⟩)).mono fun g' w' hd=>by obtain⟨fr',v,h1,h2,h3⟩:=hd;exact⟨fr',v,h1,h2.1,h2.2,h3⟩
end
theorem p9{f nt:Nat}{t:TT}{body:Code}(h:bT Tryz.prog f [.bF 0,.bF 1,.bF 2] .normal=.ok ⟨f,nt,t,[.code body],[],.run,.normal⟩)(hs:kM (⟨f,nt,t,[.code body],[],.run,.normal⟩:bW) [0,1,2]=⟨f,nt,[.code body],[],.run,.normal,[],[],[.bF 0,.bF 1,.bF 2]⟩)(x y z:Value):
  FA f nt [.code body] [] .normal [(0,x),(1,y),(2,z)] (Frame.enter Tryz.prog f #[x,y,z] .normal):=by
 let ρ:Env:=bO [] [] [(0,x),(1,y),(2,z)];exact E5.of (live:=[0,1,2]) (vals:=[.bF 0,.bF 1,.bF 2]) (dA:=[]) (gZ (U:=fun _=>True) h (.inl rfl) ⟨trivial,trivial,trivial,trivial⟩ (ρ:=ρ)).1 hs (.inl rfl)
def jf(ops:Array Oper)(i:Nat):List Nat:=match ops[i]? with
 |some o=>(o.after.toList.filter fun e=>Region.binds .any e).map (·.on)
 |none=>[]
theorem qz{ops:Array Oper}{r:List Nat}{i:Nat}(h:i∈cH ops r):i<ops.size∧i∉r∧∀p∈jf ops i,p∈r:=by refine⟨(dw h).1,(dw h).2,fun p hp=>?_⟩;obtain⟨_,o,ho,hq⟩:=fZ.1 h;unfold jf at hp;rw[ho]at hp;obtain⟨e,he,rfl⟩:=bf.1 hp;obtain⟨h1,h2⟩:=aO.1 he;exact hq e h1 h2
theorem Kq{ops:Array Oper}{r:List Nat}(h:jl ops r []){i:Nat}(hi:i<ops.size)(hr:i∉r)(hp:∀p∈jf ops i,p∈r):False:=by
 have h':cH ops r=[]:=h;have:i∈cH ops r:=fZ.2 ⟨hr,ops[i],aS hi,fun e he hb=>hp _ (by unfold jf;rw[aS hi];exact bf.2 ⟨e,aO.2 ⟨he,hb⟩,rfl⟩)⟩
 rw[h']at this;cases this
theorem r8{ops:Array Oper}(hp:∀i,i<ops.size->∀p∈jf ops i,p<i){r:List Nat}(hs:jl ops r []):∀i,i<ops.size->i∈r:=by
 intro i
 induction i using Nat.strongRecOn with
 |ind i ih=>intro hi;refine Classical.byContradiction fun hr=>Kq hs hi hr fun p ZL=>ih p (hp i hi p ZL) (Nat.lt_trans (hp i hi p ZL) hi)
section
variable {fn nt:Nat}{ops:Array Oper}{k:List Item}{b:List (Nat×Value)}{cs:List Frame}
structure DrG(fn nt:Nat)(ops:Array Oper)(k:List Item)(b:List (Nat×Value))(nm:Nat->Nat)(val:Nat->Value->World->Prop)(r l:List Nat)(fr:Frame)(w:World):Prop where
 ex:∃lv,FA fn nt (.inRegion ops l::k) [] .normal lv fr∧(∀x∈b,x∈lv)∧∀i∈r,∃v,(nm i,v)∈lv∧val i v w
theorem gQ{w:World}{fr:Frame}{id:Nat}(hf:FA fn nt (.code (.region id ops true)::k) [] .normal b fr):
  Goes (G fr cs) w fun g' w'=>∃l fr',g'=G fr' cs∧bA w w'∧jl ops [] l∧FA fn nt (.inRegion ops l::k) [] .normal b fr':=by
 obtain⟨⟨tm,rfl,h2,h3⟩,h4,h5⟩:=hf;have s:=step_region_draw (P:=Tryz.prog) (b:=Go.Proofs.YtmobbajggkjpgaaGreat.SX.xy fn .normal) (a:=⟨tm,[]⟩) (ops:=ops) (id:=id) (k:=k) (cs:=cs) (w:=w);rw[show Tryz.prog.follows .mixedOrders=true from mixed]at s;exact⟨_,_,.head s (.refl _ _),_,_,rfl,⟨fun _ _=>rfl,ay _,rfl,rfl,rfl⟩,j4 ops _,⟨tm,rfl,h2,h3⟩,h4,h5⟩
theorem Dh{nm:Nat->Nat}{val:Nat->Value->World->Prop}(hp:∀i,i<ops.size->∀p∈jf ops i,p<i)(hb:∀i,i<ops.size->∀x∈b,x.1≠nm i)(hn:∀i j,i<ops.size->j<ops.size->i≠j->nm j≠nm i)(keep:∀i v w w',val i v w->bA w w'->val i v w')
 {w0:World}(step:∀i,i<ops.size->∀(l:List Nat) (w:World) (fr:Frame) (lv:List (Nat×Value)),bA w0 w->FA fn nt (.inRegion ops (i::l)::k) [] .normal lv fr->(∀x∈b,x∈lv)->(∀p∈jf ops i,∃v,(nm p,v)∈lv∧val p v w)->
   Goes (G fr cs) w fun g' w'=>∃fr' v,g'=G fr' cs∧bA w w'∧val i v w'∧FA fn nt (.inRegion ops l::k) [] .normal (fP (nm i) v lv) fr'):
  ∀(l r:List Nat) {w:World} {fr:Frame},bA w0 w->(∀i∈r,i<ops.size)->jl ops r l->DrG fn nt ops k b nm val r l fr w->Goes (G fr cs) w fun g' w'=>∃fr' lv,g'=G fr' cs∧bA w0 w'∧FA fn nt (.inRegion ops []::k) [] .normal lv fr'∧(∀x∈b,x∈lv)∧∀i,i<ops.size->∃v,(nm i,v)∈lv∧val i v w'
 |[],r,w,fr,hi,hr,hs,D=>by obtain⟨lv,h1,h2,h3⟩:=D.ex;exact .here ⟨fr,lv,rfl,hi,h1,h2,fun i hlt=>h3 i (r8 hp hs i hlt)⟩
 |i::l,r,w,fr,hi,hr,hs,D=>by
  obtain⟨lv,h1,h2,h3⟩:=D.ex;obtain⟨q1,q2,q3⟩:=qz hs.1;refine(step i q1 l w fr lv hi h1 h2 fun p ZL=>h3 p (q3 p ZL)).trans fun g1 w1 hd=>?_;obtain⟨bR,v,rfl,f1,hv,F1⟩:=hd;refine Dh hp hb hn keep step l (i::r) (hi.trans f1) (fun j hj=>?_) hs.2 ⟨_,F1,fun x hx=>?_,fun j hj=>?_⟩
  ·rcases ai.1 hj with rfl|hj
   ·exact q1
   ·exact hr j hj
  ·exact af _ (aO.2 ⟨h2 x hx,by simpa using hb i q1 x hx⟩)
  ·rcases ai.1 hj with rfl|hj
   ·exact⟨v,aj ..,hv⟩
   ·obtain⟨u,h4,h5⟩:=h3 j hj;refine⟨u,af _ (aO.2 ⟨h4,?_⟩),keep _ _ _ _ h5 f1⟩;have:=hn i j q1 (hr j hj) fun e=>q2 (e▸hj);simpa using this
end
def BG(c:Code):Bool:=match c with
 |.region _ _ true=>true
 |_=>false
theorem gS{c:Code}(h:BG c=true):∃id,c=.region id (opsOf c) true:=by
 unfold BG at h;split at h
 ·exact⟨_,rfl⟩
 ·cases h
theorem Nf{ops:Array Oper}{n:Nat}(hn:ops.size=n)(h:((List.range n).all fun i=>(jf ops i).all fun p=>Nat.blt p i)=true):∀i,i<ops.size->∀p∈jf ops i,p<i:=fun i hi p hp=>by have h1:=aE.1 h i (List.mem_range.2 (hn▸hi));exact Nat.blt_eq.mp (aE.1 h1 p hp)
theorem dI{ops:Array Oper}{i p:Nat}(h:(jf ops i).contains p=true):p∈jf ops i:=by simpa using h
structure j7(nt:Nat)(ops:Array Oper)(i:Nat)(lA:List (Nat×AV))(op:Op)(ty:TypeId)(d:Option Nat):Prop where
 want:∀st,xV [] [] (tmpsOf nt st lA) ops i=.ok true:=by intro st;kernel_rfl
 low:∀st,Gf [] [] (tmpsOf nt st lA)=true:=by intro st;kernel_rfl
 is:(ops[i]?).map (fun o=>(o.op,o.type,o.dst))=some (op,ty,d):=by kernel_rfl
theorem j7.ex{nt i:Nat}{ops:Array Oper}{lA:List (Nat×AV)}{op:Op}{ty:TypeId}{d:Option Nat}(o:j7 nt ops i lA op ty d):∃x:Oper,ops[i]?=some x∧x.op=op∧x.type=ty∧x.dst=d:=by
 have:=o.is;cases e:ops[i]? with
 |none=>rw[e]at this;cases this
 |some x=>rw[e]at this;simp only[av,Option.some.injEq,Prod.mk.injEq]at this;exact⟨x,rfl,this⟩
section
variable {w:World}{cs:List Frame}{fr:Frame}{fn nt i d:Nat}{ops:Array Oper}{l:List Nat}{k:List Item}{lv:List (Nat×Value)}{lA:List (Nat×AV)}{op:Op}{ty:TypeId}{R:Value->World->Prop}
theorem Di{tm:Array Value}{n:Nat}{x:Value}(h:∀p∈lv,tm.getD p.1 undef=p.2)(hx:gh n lv=some x):tm.getD n undef=x:=h _ (cN hx)
theorem j7.go(o:j7 nt ops i lA op ty (some d))(ρ:Env)(hf:FA fn nt (.inRegion ops (i::l)::k) [] .normal lv fr)(hdn:d<nt)(hl:eZ lv (told ρ lA))
 (W:∀tm:Array Value,(∀n x,gh n lv=some x->(⟨tm,[]⟩:Act).eval (.tmp n)=x)->∀x:Oper,x.op=op->x.type=ty->wq Tryz.prog (fun _=>True) (fun _ _=>False) (execOp (⟨tm,[]⟩:Act).eval x) (fun nx w'=>∃v,nx=.value v∧R v w') w):
  Goes (G fr cs) w fun g' w'=>∃fr' v,g'=G fr' cs∧R v w'∧FA fn nt (.inRegion ops l::k) [] .normal (fP d v lv) fr':=by
 obtain⟨⟨tm,rfl,h2,h3⟩,h4,h5⟩:=hf;obtain⟨x,hx,e1,e2,e3⟩:=o.ex;obtain⟨x',hx',Cg,_⟩:=BD (ρ:=ρ) (bs:=[]) (mem:=[]) (ds:=[]) (w:=w) h2 h4 (fun p hp=>h3 p (hl.mem p hp)) (o.want _) (o.low _) (nofun) (nofun);obtain rfl:x=x':=au (hx.symm.trans hx');have q1:((execOp (⟨tm,[]⟩:Act).eval x).run Tryz.prog w).goes (fun nx w'=>∃v,nx=.value v∧R v w') (fun _ _=>False):=(me (W tm (fun n y hy=>Di h3 hy) x e1 e2)).1;have hgs:=stepG_op (P:=Tryz.prog) (b:=Go.Proofs.YtmobbajggkjpgaaGreat.SX.xy fn .normal) (k:=k) (cs:=cs) (w:=w) (rest:=l) (a:=⟨tm,[]⟩) hx Cg;cases e:(execOp (⟨tm,[]⟩:Act).eval x).run Tryz.prog w with
 |halt y w'=>rw[e]at q1;cases y<;>exact q1.elim
 |ok nx w'=>
  rw[e]at q1;obtain⟨v,rfl,hR⟩:=q1;have s:step Tryz.prog (lone ((Go.Proofs.YtmobbajggkjpgaaGreat.SX.xy fn .normal).at ⟨tm,[]⟩ (.inRegion ops (i::l)::k)) cs w)=.next (lone ((Go.Proofs.YtmobbajggkjpgaaGreat.SX.xy fn .normal).at ((⟨tm,[]⟩:Act).put ((ops[i]?).bind (·.dst)) v) (.inRegion ops l::k)) cs w'):=by refine step_lone_go ?_;rw[hgs,<-Frame.finish_at];simp[stepG.apply,e]
  refine⟨_,w',.head s (.refl _ _),_,v,rfl,hR,?_⟩;rw[hx,Option.bind_some,e3];exact Gg h2 h3 h4 h5 hdn
theorem j7.go0{R:World->Prop}(o:j7 nt ops i lA op ty none)(ρ:Env)(hf:FA fn nt (.inRegion ops (i::l)::k) [] .normal lv fr)(hl:eZ lv (told ρ lA))
 (W:∀tm:Array Value,(∀n x,gh n lv=some x->(⟨tm,[]⟩:Act).eval (.tmp n)=x)->∀x:Oper,x.op=op->x.type=ty->wq Tryz.prog (fun _=>True) (fun _ _=>False) (execOp (⟨tm,[]⟩:Act).eval x) (fun nx w'=>nx=.skip∧R w') w):
  Goes (G fr cs) w fun g' w'=>∃fr',g'=G fr' cs∧R w'∧FA fn nt (.inRegion ops l::k) [] .normal lv fr':=by
 obtain⟨⟨tm,rfl,h2,h3⟩,h4,h5⟩:=hf;obtain⟨x,hx,e1,e2,e3⟩:=o.ex;obtain⟨x',hx',Cg,_⟩:=BD (ρ:=ρ) (bs:=[]) (mem:=[]) (ds:=[]) (w:=w) h2 h4 (fun p hp=>h3 p (hl.mem p hp)) (o.want _) (o.low _) (nofun) (nofun);obtain rfl:x=x':=au (hx.symm.trans hx');have q1:((execOp (⟨tm,[]⟩:Act).eval x).run Tryz.prog w).goes (fun nx w'=>nx=.skip∧R w') (fun _ _=>False):=(me (W tm (fun n y hy=>Di h3 hy) x e1 e2)).1;have hgs:=stepG_op (P:=Tryz.prog) (b:=Go.Proofs.YtmobbajggkjpgaaGreat.SX.xy fn .normal) (k:=k) (cs:=cs) (w:=w) (rest:=l) (a:=⟨tm,[]⟩) hx Cg;cases e:(execOp (⟨tm,[]⟩:Act).eval x).run Tryz.prog w with
 |halt y w'=>rw[e]at q1;cases y<;>exact q1.elim
 |ok nx w'=>
  rw[e]at q1;obtain⟨rfl,hR⟩:=q1;have s:step Tryz.prog (lone ((Go.Proofs.YtmobbajggkjpgaaGreat.SX.xy fn .normal).at ⟨tm,[]⟩ (.inRegion ops (i::l)::k)) cs w)=.next (lone ((Go.Proofs.YtmobbajggkjpgaaGreat.SX.xy fn .normal).at ((⟨tm,[]⟩:Act).put ((ops[i]?).bind (·.dst)) undef) (.inRegion ops l::k)) cs w'):=by refine step_lone_go ?_;rw[hgs,<-Frame.finish_at];simp[stepG.apply,e]
  refine⟨_,w',.head s (.refl _ _),_,rfl,hR,?_⟩;rw[hx,Option.bind_some,e3];exact⟨⟨tm,rfl,h2,h3⟩,h4,h5⟩
end
def jg(w:World)(M:Nat)(ks:List (ByteArray×Bool)):Prop:=qW w M (ks.map fun p=>(.string p.1,.bool p.2))
def fu(s:ByteArray)(ks:List (ByteArray×Bool)):Option Bool:=(ks.find? fun p=>s==p.1).map (·.2)
theorem tD{s:ByteArray}:∀{es:List MapEntry} {ks:List (ByteArray×Bool)} (i:Nat),es.map (fun e=>(e.key,e.val))=ks.map (fun p=>(.string p.1,.bool p.2))->∃r,Instr.findNow .string (.string s) es i=some r∧r.map (·.2)=(fu s ks).map .bool
 |[],ks,i,h=>by
  cases ks with
  |nil=>exact⟨none,rfl,rfl⟩
  |cons k ks=>cases h
 |e::es,ks,i,h=>by
  cases ks with
  |nil=>cases h
  |cons k ks=>
   simp only[aU,List.cons.injEq,Prod.mk.injEq]at h;obtain⟨⟨h1,h2⟩,h3⟩:=h;unfold Instr.findNow;rw[h1];unfold fu;rw[List.find?_cons];show ∃r,(match some (s==k.1)with
    |some true=>some (some (i,e.val))
    |some false=>Instr.findNow .string (.string s) es (i+1)
    |none=>none)=some r∧_
   cases hb:s==k.1 with
   |true=>exact⟨_,rfl,by simp[h2]⟩
   |false=>obtain⟨r,h4,h5⟩:=tD (i+1) h3;exact⟨r,h4,h5⟩
theorem aaD:Tryz.prog.underlying 83=some (.map 9 4):=by kernel_rfl
theorem VD:Tryz.prog.underlying 9=some .string:=by kernel_rfl
theorem aaE:zero? Tryz.prog 4=.ok (.bool (.lit false)):=by kernel_rfl
theorem tE{Ev:Event->Prop}{E:Value->World->Prop}{w:World}{k:Value}{b:Bool}{Q:Unit->World->Prop}(hq:Q () w):wq Tryz.prog Ev E (Instr.checkKey b 10000 9 k) Q w:=by unfold Instr.checkKey;simp only[bH,bM VD];cases k<;>exact hq
theorem ve{Ev:Event->Prop}{E:Value->World->Prop}{w:World}{s:ByteArray}{es:List MapEntry}{ks:List (ByteArray×Bool)}(h:es.map (fun e=>(e.key,e.val))=ks.map (fun p=>(.string p.1,.bool p.2))){Q:Option (Nat×Value)->World->Prop}(hq:∀r,r.map (·.2)=(fu s ks).map .bool->Q r w):wq Tryz.prog Ev E (Instr.findKey 9 (.string s) es) Q w:=by unfold Instr.findKey;simp only[bH,bM VD];obtain⟨r,h1,h2⟩:=tD (s:=s) 0 h;rw[h1];exact hq r h2
section
variable {w:World}{M:Nat}{ks:List (ByteArray×Bool)}{s:ByteArray}{E:Value->World->Prop}
def xY(ok:Bool)(r:Option Bool):Value:=if ok then .tuple #[.bool (r.getD false),.bool r.isSome]else .bool (r.getD false)
theorem vf(h:jg w M ks){ok:Bool}{Q:Value->World->Prop}(hq:Q (xY ok (fu s ks)) w):wq Tryz.prog (fun _=>True) E (Instr.lookup 83 (.map (some M)) (.string s) ok) Q w:=by
 obtain⟨arr,nH,h1,h2⟩:=h;simp only[Instr.lookup,bH,bM aaD];refine jP h1 (by intros;simp) trivial ?_;simp only[bH,bI];refine tE ?_;refine ve h2 fun r hr=>?_;cases r with
 |none=>
  have e:fu s ks=none:=by
   cases e:fu s ks with
   |none=>rfl
   |some b=>rw[e]at hr;cases hr
  rw[e]at hq;simp only[bH,bI];rw[ef (ρ:=bO [] [] []) aaE];cases ok<;>exact hq
 |some p=>
  obtain⟨j,x⟩:=p;have e:∃b,fu s ks=some b∧x=.bool b:=by
   cases e:fu s ks with
   |none=>rw[e]at hr;cases hr
   |some b=>rw[e]at hr;exact⟨b,rfl,au hr⟩
  obtain⟨b,e1,rfl⟩:=e;rw[e1]at hq;simp only[bI];cases ok<;>exact hq
theorem Gi(h:jg w M ks)(hn:fu s ks=none){b:Bool}{Q:Unit->World->Prop}(hq:∀w',jg w' M (ks++[(s,b)])->bU (fun n=>n=M) w w'->Q () w'):wq Tryz.prog (fun _=>True) E (Instr.mapUpdate 83 (.map (some M)) (.string s) (.bool b)) Q w:=by
 have hlt:=qW.lt h;obtain⟨arr,nH,h1,h2⟩:=h;simp only[Instr.mapUpdate,bH,bM aaD];refine jP h1 (by intros;simp) trivial ?_;simp only[bH];refine tE ?_;refine ve h2 fun r hr=>?_;rw[hn]at hr;cases r with
 |some p=>cases hr
 |none=>
  refine ux h1 (by intros;simp) trivial ?_;refine hq _ ⟨arr.push {key:=.string s,val:=.bool b,born:=nH},nH+1,?_,?_⟩ ⟨fun n hn=>?_,?_,rfl,rfl,rfl⟩
  ·simp[hlt]
  ·rw[Array.toList_push,bu,h2,bu];rfl
  ·have:M≠n:=fun e=>hn e.symm;simp[this]
  ·simp
end
noncomputable def q55(l:Nat):Code:=pc (bD Tryz.f88) (pd l)
theorem aaF:bT Tryz.prog 88 [.bF 0] .normal=.ok ⟨88,11,c_ 88 [.bF 0],[.code (bD Tryz.f88)],[],.run,.normal⟩:=by kernel_rfl
theorem Dj:dL 88 11 2:=fun st=>by kernel_rfl
noncomputable def q53(l:Nat):Code:=pc (bD Tryz.f86) (pd l)
theorem aaG:bT Tryz.prog 86 [.bF 0] .normal=.ok ⟨86,29,c_ 86 [.bF 0],[.code (bD Tryz.f86)],[],.run,.normal⟩:=by kernel_rfl
theorem aaH:dL 86 29 2:=fun st=>by kernel_rfl
noncomputable def q54(l:Nat):Code:=pc (bD Tryz.f87) (pd l)
theorem aaI:bT Tryz.prog 87 [] .normal=.ok ⟨87,3,c_ 87 [],[.code (bD Tryz.f87)],[],.run,.normal⟩:=by kernel_rfl
theorem aaJ:dL 87 3 0:=fun st=>by kernel_rfl
noncomputable def mV(l:Nat):Code:=pc (bD Tryz.f66) (pd l)
theorem aaK:bT Tryz.prog 66 [.bF 0] .normal=.ok ⟨66,43,c_ 66 [.bF 0],[.code (bD Tryz.f66)],[],.run,.normal⟩:=by kernel_rfl
theorem HT:dL 66 43 2:=fun st=>by kernel_rfl
noncomputable def Ng(l:Nat):Code:=pc (bD Tryz.f89) (pd l)
theorem aaL:bT Tryz.prog 89 [.bF 0,.bF 1] .normal=.ok ⟨89,34,c_ 89 [.bF 0,.bF 1],[.code (bD Tryz.f89)],[],.run,.normal⟩:=by kernel_rfl
theorem aaM:dL 89 34 4:=fun st=>by kernel_rfl
noncomputable abbrev HU:List Item:=[.code .ret,.inBlock 0,.code (q55 7)]
abbrev Nh:List (BE×Bool):=[((.cmp .eql (v 1) (.lit 4)),true)]
theorem rk4:Pc 88 11 [.code (bD Tryz.f88)] [(0,i8 (v 1))] Nh [] [] 23 [] [2] HU [i64 (.lit 1)] []:={}
abbrev Ni:List (BE×Bool):=[((.cmp .eql (v 1) (.lit 4)),false),((.cmp .eql (v 1) (.lit 5)),true)]
theorem rk5:Pc 88 11 [.code (bD Tryz.f88)] [(0,i8 (v 1))] Ni [] [] 26 [] [2] HU [i64 (.lit 1)] []:={}
abbrev VE:List (BE×Bool):=[((.cmp .eql (v 1) (.lit 4)),false),((.cmp .eql (v 1) (.lit 5)),false),((.cmp .eql (v 1) (.lit 6)),true)]
theorem rk6:Pc 88 11 [.code (bD Tryz.f88)] [(0,i8 (v 1))] VE [] [] 32 [] [2] HU [i64 (.lit 2)] []:={}
abbrev aaN:List (BE×Bool):=[((.cmp .eql (v 1) (.lit 4)),false),((.cmp .eql (v 1) (.lit 5)),false),((.cmp .eql (v 1) (.lit 6)),false),((.cmp .eql (v 1) (.lit 3)),true)]
theorem rk3:Pc 88 11 [.code (bD Tryz.f88)] [(0,i8 (v 1))] aaN [] [] 38 [] [2] HU [i64 (.lit 3)] []:={}
abbrev aaO:List (BE×Bool):=[((.cmp .eql (v 1) (.lit 4)),false),((.cmp .eql (v 1) (.lit 5)),false),((.cmp .eql (v 1) (.lit 6)),false),((.cmp .eql (v 1) (.lit 3)),false)]
theorem rk0:Pc 88 11 [.code (bD Tryz.f88)] [(0,i8 (v 1))] aaO [] [] 40 [] [2] [.code .ret] [i64 (.lit 4)] []:={}
theorem aaP(a b c d e f g:Bool):Pc 86 29 [.code (bD Tryz.f86)] [(0,.int .u8 (v 1))] [((.cmp .geq (v 1) (.lit 97)),a),((.cmp .leq (v 1) (.lit 122)),b),((.cmp .geq (v 1) (.lit 65)),c),((.cmp .leq (v 1) (.lit 90)),d),((.cmp .geq (v 1) (.lit 48)),e),((.cmp .leq (v 1) (.lit 57)),f),((.cmp .eql (v 1) (.lit 95)),g)] [] [] 34 [] [2] [.code .ret] [.bool (.lit (a&&b||c&&d||e&&f||g))] []:=⟨fun st=>by cases a<;>cases b<;>cases c<;>cases d<;>cases e<;>cases f<;>cases g<;>kernel_rfl,fun st=>by kernel_rfl,by cases a<;>cases b<;>cases c<;>cases d<;>cases e<;>cases f<;>cases g<;>kernel_rfl,of_decide_eq_true (by kernel_rfl)⟩
theorem aaQ:Pc 87 3 [.code (bD Tryz.f87)] [] [] [] [] 21 [100] [0] [.code .ret] [.map (some (.dyn 100))] [(100,.map [(.str ⟨#[108,101,116]⟩,FB),(.str ⟨#[111,117,116]⟩,FB),(.str ⟨#[114,97,99,101]⟩,FB),(.str ⟨#[99,97,110,99,101,108]⟩,FB),(.str ⟨#[97,108,108]⟩,TB),(.str ⟨#[102,105,114,115,116]⟩,TB),(.str ⟨#[119,104,101,110]⟩,TB),(.str ⟨#[102,97,105,108]⟩,TB),(.str ⟨#[112,97,110,105,99]⟩,TB),(.str ⟨#[109,101,109,111]⟩,TB),(.str ⟨#[98,117,114,110]⟩,TB)])]:={}
noncomputable abbrev HV:List Item:=[.code .ret,.code (mV 7)]
theorem nm1:Pc 66 43 [.code (bD Tryz.f66)] [(0,ss 1)] [((.cmp .lss (.jH (.var 1)) (.lit 1)),true)] [] [] 31 [] [2] HV [FB] []:={}
abbrev S5:List (BE×Bool):=[((.cmp .lss (.jH (.var 1)) (.lit 1)),false),((.cmp .gtr (.jH (.var 1)) (.lit 32)),true)]
theorem nm2:Pc 66 43 [.code (bD Tryz.f66)] [(0,ss 1)] S5 [] [] 31 [] [2] HV [FB] []:={}
abbrev S6:List (BE×Bool):=[((.cmp .lss (.jH (.var 1)) (.lit 1)),false),((.cmp .gtr (.jH (.var 1)) (.lit 32)),false)]
theorem nm3:Pc 66 43 [.code (bD Tryz.f66)] [(0,ss 1)] S6 [] [] 17 [] [0,14,15] [.inRegion (opsOf (mV 12)) [10,11,12,13,14,15,16,17],.code (mV 13),.code (mV 7)] [ss 1,FB,ss 1] []:={}
theorem nmA:j7 43 (opsOf (mV 12)) 10 [(14,FB)] (.index 9 (.tmp 15) (.const (.int .i64 0))) 5 (some 16):={}
noncomputable abbrev S7:List Item:=[.inRegion (opsOf (mV 12)) [11,12,13,14,15,16,17],.code (mV 13),.code (mV 7)]
theorem afA:Pc 66 43 S7 [(0,ss 1),(14,FB),(16,.int .u8 (v 2))] [((.cmp .lss (v 2) (.lit 97)),true)] [] [] 13 [] [2] HV [FB] []:={}
theorem afB:Pc 66 43 S7 [(0,ss 1),(14,FB),(16,.int .u8 (v 2))] [((.cmp .lss (v 2) (.lit 97)),false)] [] [] 4 [] [0,19,20] [.inRegion (opsOf (mV 12)) [15,16,17],.code (mV 13),.code (mV 7)] [ss 1,FB,ss 1] []:={}
theorem nmB:j7 43 (opsOf (mV 12)) 15 [(19,FB)] (.index 9 (.tmp 20) (.const (.int .i64 0))) 5 (some 21):={}
noncomputable abbrev S8:List Item:=[.inRegion (opsOf (mV 12)) [16,17],.code (mV 13),.code (mV 7)]
theorem afC:Pc 66 43 S8 [(0,ss 1),(19,FB),(21,.int .u8 (v 2))] [((.cmp .gtr (v 2) (.lit 122)),true)] [] [] 8 [] [2] HV [FB] []:={}
noncomputable abbrev Dk:List Item:=[.code (mV 116),.inLoop (mV 116),.inBlock 0,.code (mV 15)]
theorem afD:Pc 66 43 S8 [(0,ss 1),(19,FB),(21,.int .u8 (v 2))] [((.cmp .gtr (v 2) (.lit 122)),false)] [] [] 14 [] [0,25,26] Dk [ss 1,i64 (.jH (.var 1)),i64 (.lit 0)] []:={}
noncomputable abbrev S9:List (Nat×AV):=[(0,ss 1),(25,i64 (.jH (.var 1))),(26,i64 (v 6))]
theorem nmR:Pc 66 43 Dk S9 [((.cmp .lss (v 6) (.jH (.var 1))),true)] [] [] 18 [] [0,25,26,29,30] [.inRegion (opsOf (mV 7474)) [2,3,4],.code (mV 7475),.inBlock 1,.code (mV 935),.inLoop (mV 116),.inBlock 0,.code (mV 15)] [ss 1,i64 (.jH (.var 1)),i64 (v 6),ss 1,i64 (v 6)] []:={}
theorem nmC:j7 43 (opsOf (mV 7474)) 2 [] (.index 9 (.tmp 29) (.tmp 30)) 5 (some 31):={}
theorem nmD:dy 43 (opsOf (mV 7474)) 3 [(31,.bF 31)] 86 [.bF 31] 32:={}
noncomputable abbrev aaR:List Item:=[.inRegion (opsOf (mV 7474)) [4],.code (mV 7475),.inBlock 1,.code (mV 935),.inLoop (mV 116),.inBlock 0,.code (mV 15)]
theorem nmF:Pc 66 43 aaR [(0,ss 1),(25,i64 (.jH (.var 1))),(26,i64 (v 6)),(32,FB)] [] [] [] 7 [] [2] [.code .ret,.inBlock 1,.code (mV 935),.inLoop (mV 116),.inBlock 0,.code (mV 15)] [FB] []:={}
theorem nmT:Pc 66 43 aaR [(0,ss 1),(25,i64 (.jH (.var 1))),(26,i64 (v 6)),(32,TB)] [] [] [] 10 [] [0,25,26] Dk [ss 1,i64 (.jH (.var 1)),i64 (.op .add .i64 (v 6) (.lit 1))] []:={}
theorem nmE:Pc 66 43 Dk S9 [((.cmp .lss (v 6) (.jH (.var 1))),false)] [] [] 9 [] [0] [.inRegion (opsOf (mV 30)) [0,1,2,3,4,5,6,7],.code (mV 31)] [ss 1] []:={}
theorem nmG:dy 43 (opsOf (mV 30)) 0 [] 87 [] 36:={}
theorem nmH:Pc 66 43 [.inRegion (opsOf (mV 30)) [1,2,3,4,5,6,7],.code (mV 31)] [(0,ss 1),(36,.bF 36)] [] [] [] 1 [] [36,37] [.inRegion (opsOf (mV 30)) [2,3,4,5,6,7],.code (mV 31)] [.bF 36,ss 1] []:={}
theorem nmI:j7 43 (opsOf (mV 30)) 2 [] (.lookup 83 (.tmp 36) (.tmp 37) true) 125 (some 38):={}
noncomputable abbrev S_:List Item:=[.inRegion (opsOf (mV 30)) [3,4,5,6,7],.code (mV 31)]
theorem Q4:Pc 66 43 S_ [(38,.tuple [.bF 0,TB])] [] [] [] 12 [] [2] [.code .ret] [FB] []:={}
theorem Nj:Pc 66 43 S_ [(38,.tuple [.bF 0,FB])] [] [] [] 12 [] [2] [.code .ret] [TB] []:={}
def cm(op:Int):Int:=if op=4 then 1 else if op=5 then 1 else if op=6 then 2 else if op=3 then 3 else 4
def An(n:Nat):Value:=.int .u8 n
section
variable {w:World}{cs:List Frame}{fr:Frame}
theorem tF{op:Int}:dV 88 #[cY op] w fun v w'=>bA w w'∧v=iV (cm op):=by
 have E:=cC aaF rfl (cY op);have no:∀{n:Int},op≠n->(decide (op=n))=false:=fun h=>decide_eq_false h;unfold cm;by_cases h4:op=4
 ·subst h4;refine(rk4.iY Dj (bO [(1,4)] [] []) E rfl ⟨rfl,trivial⟩ trivial).mono fun v w' ⟨f,I,B,e,_⟩=>⟨f,e⟩
 ·by_cases h5:op=5
  ·subst h5;refine(rk5.iY Dj (bO [(1,5)] [] []) E rfl ⟨rfl,rfl,trivial⟩ trivial).mono fun v w' ⟨f,I,B,e,_⟩=>⟨f,e⟩
  ·by_cases h6:op=6
   ·subst h6;refine(rk6.iY Dj (bO [(1,6)] [] []) E rfl ⟨rfl,rfl,rfl,trivial⟩ trivial).mono fun v w' ⟨f,I,B,e,_⟩=>⟨f,e⟩
   ·by_cases h3:op=3
    ·subst h3;refine(rk3.iY Dj (bO [(1,3)] [] []) E rfl ⟨rfl,rfl,rfl,rfl,trivial⟩ trivial).mono fun v w' ⟨f,I,B,e,_⟩=>⟨f,e⟩
    ·rw[if_neg h4,if_neg h5,if_neg h6,if_neg h3];refine(rk0.iY Dj (bO [(1,op)] [] []) E rfl ⟨no h4,no h5,no h6,no h3,trivial⟩ trivial).mono fun v w' ⟨f,I,B,e,_⟩=>⟨f,e⟩
def fM(b:Int):Bool:=decide (b≥97)&&decide (b≤122)||decide (b≥65)&&decide (b≤90)||decide (b≥48)&&decide (b≤57)||decide (b=95)
theorem Gj{b:Nat}:dV 86 #[An b] w fun v w'=>bA w w'∧v=.bool (fM b):=
 ((aaP (decide ((b:Int)≥97)) (decide ((b:Int)≤122)) (decide ((b:Int)≥65)) (decide ((b:Int)≤90)) (decide ((b:Int)≥48)) (decide ((b:Int)≤57)) (decide ((b:Int)=95))).iY aaH (bO [(1,b)] [] []) (cC aaG rfl (An b)) rfl ⟨rfl,rfl,rfl,rfl,rfl,rfl,rfl,trivial⟩ trivial).mono fun v w' ⟨f,I,B,e,_⟩=>⟨f,e⟩
def jy:List (ByteArray×Bool):=[(⟨#[108,101,116]⟩,false),(⟨#[111,117,116]⟩,false),(⟨#[114,97,99,101]⟩,false),(⟨#[99,97,110,99,101,108]⟩,false),(⟨#[97,108,108]⟩,true),(⟨#[102,105,114,115,116]⟩,true),(⟨#[119,104,101,110]⟩,true),(⟨#[102,97,105,108]⟩,true),(⟨#[112,97,110,105,99]⟩,true),(⟨#[109,101,109,111]⟩,true),(⟨#[98,117,114,110]⟩,true)]
theorem Kr:dV 87 #[] w fun v w'=>bA w w'∧∃M,v=.map (some M)∧jg w' M jy:=
 (aaQ.iY aaJ (bO [] [] []) (BF aaI) rfl trivial trivial).mono fun v w' ⟨f,I,B,e,bl,_⟩=>⟨f,_,e,bl.1.2⟩
def c6(s:ByteArray)(i:Nat):Nat:=((s[i]?).map (·.toNat)).getD 0
theorem Q5{Ev:Event->Prop}{E:Value->World->Prop}{s:ByteArray}{i:Nat}(hi:i<s.size){Q:Value->World->Prop}(hq:Q (An (c6 s i)) w):wq Tryz.prog Ev E (Instr.index 9 (.string s) (iV i)) Q w:=by
 unfold Instr.index;simp only[iV,asIntOf,bH,bI,bM VD];have h0:(0:Int)≤(i:Int):=by omega
 rw[if_pos h0];have e:s[(i:Int).toNat]?=some s[i]:=getElem?_pos s i hi;rw[e];have:An (c6 s i)=.int .u8 s[i].toNat:=by unfold An c6;rw[getElem?_pos s i hi];rfl
 rw[this]at hq;exact hq
def gz(s:ByteArray):Bool:=decide (1≤s.size)&&decide (s.size≤32)&&decide (97≤c6 s 0)&&decide (c6 s 0≤122)&&(List.range s.size).all (fun i=>fM (c6 s i))&&(fu s jy).isNone
theorem tG{i d nt fn:Nat}{ops:Array Oper}{lA:List (Nat×AV)}{l:List Nat}{k:List Item}{lv:List (Nat×Value)}{x y:Operand}{s:ByteArray}{j:Nat}(o:j7 nt ops i lA (.index 9 x y) 5 (some d))(ρ:Env)(hf:FA fn nt (.inRegion ops (i::l)::k) [] .normal lv fr)(hdn:d<nt)(hl:eZ lv (told ρ lA))(hj:j<s.size)
 (hx:∀tm:Array Value,(∀n x,gh n lv=some x->(⟨tm,[]⟩:Act).eval (.tmp n)=x)->(⟨tm,[]⟩:Act).eval x=.string s∧(⟨tm,[]⟩:Act).eval y=iV j):
  Goes (G fr cs) w fun g' w'=>∃fr',g'=G fr' cs∧w'=w∧FA fn nt (.inRegion ops l::k) [] .normal (fP d (An (c6 s j)) lv) fr':=by
 refine(o.go (R:=fun v w'=>v=An (c6 s j)∧w'=w) ρ hf hdn hl fun tm ir x' e1 e2=>?_).mono fun g' w' hd=>?_
 ·obtain⟨h1,h2⟩:=hx tm ir;unfold execOp;simp only[e1,h1,h2,bH];exact Q5 hj ⟨_,rfl,rfl,rfl⟩
 ·obtain⟨fr',v,rfl,⟨rfl,rfl⟩,F⟩:=hd;exact⟨fr',rfl,rfl,F⟩
theorem VF{s:ByteArray}{w0:World}(fw:bA w0 w){P:Prop}(hP:P)(hf:FA 66 43 (.inRegion (opsOf (mV 30)) [0,1,2,3,4,5,6,7]::[.code (mV 31)]) [] .normal [(0,.string s)] fr):
  Goes (G fr cs) w fun g' w'=>∃fr',g'=G fr' cs∧bA w0 w'∧de 66 fr' w' (.bool (fu s jy).isNone):=by
 refine(nmG.go (bO [] [] []) (Q:=fun v w'=>∃M,v=.map (some M)∧jg w' M jy) hf rfl fun w' f1=>Kr).trans fun g1 w1 hd=>?_;obtain⟨bR,v,rfl,f1,⟨M,rfl,hM⟩,F1⟩:=hd;refine(nmH.go (Go.Proofs.YtmobbajggkjpgaaGreat.SX.iS [] [] [(36,.map (some M))] [(1,s)]) F1 rfl trivial trivial).trans fun g2 w2 b_=>?_;obtain⟨I,B,cE,rfl,f2,F2,_⟩:=b_;have hM2:jg w2 M jy:=bP (k:=.map _) hM f2;refine(nmI.go (R:=fun v w'=>v=xY true (fu s jy)∧w'=w2) (bO [] [] []) F2 (by decide) rfl fun tm ir x' e1 e2=>?_).trans fun g3 w3 cv=>?_
 ·unfold execOp;simp only[e1,bH];rw[ir 36 (.map (some M)) rfl,ir 37 (.string s) rfl];exact vf hM2 ⟨_,rfl,rfl,rfl⟩
 obtain⟨cF,v,rfl,⟨rfl,rfl⟩,F3⟩:=cv;cases e:fu s jy with
 |none=>rw[e]at F3;refine(Nj.go (bO [] [] [(0,.bool false)]) F3 rfl trivial trivial).trans fun g4 w4 dh=>?_;obtain⟨I,B,eO,rfl,f4,F4,_⟩:=dh;refine(leave1 HT F4 rfl).mono fun g5 w5 eg=>?_;obtain⟨gn,rfl,rfl,hL⟩:=eg;exact⟨gn,rfl,fw.trans (f1.trans (f2.trans f4)),hL⟩
 |some b=>rw[e]at F3;refine(Q4.go (bO [] [] [(0,.bool b)]) F3 rfl trivial trivial).trans fun g4 w4 dh=>?_;obtain⟨I,B,eO,rfl,f4,F4,_⟩:=dh;refine(leave1 HT F4 rfl).mono fun g5 w5 eg=>?_;obtain⟨gn,rfl,rfl,hL⟩:=eg;exact⟨gn,rfl,fw.trans (f1.trans (f2.trans f4)),hL⟩
theorem HW{s:ByteArray}{w0:World}(hs:s.size≤32):∀(m j:Nat) {w:World} {fr:Frame},j+m=s.size->bA w0 w->FA 66 43 Dk [] .normal [(0,.string s),(25,iV s.size),(26,iV j)] fr->
  Goes (G fr cs) w fun g' w'=>∃fr',g'=G fr' cs∧bA w0 w'∧de 66 fr' w' (.bool ((List.range m).all (fun i=>fM (c6 s (j+i)))&&(fu s jy).isNone))
 |0,j,w,fr,hj,fw,hf=>by refine(nmE.go (Go.Proofs.YtmobbajggkjpgaaGreat.SX.iS [(6,j)] [] [] [(1,s)]) hf rfl ⟨decide_eq_false (by show ¬((j:Int)<((s.size:Nat):Int));omega),trivial⟩ trivial).trans fun g1 w1 hd=>?_;obtain⟨I,B,bR,rfl,f1,F1,_⟩:=hd;exact VF (fw.trans f1) trivial F1
 |m+1,j,w,fr,hj,fw,hf=>by
  refine(nmR.go (Go.Proofs.YtmobbajggkjpgaaGreat.SX.iS [(6,j)] [] [] [(1,s)]) hf rfl ⟨decide_eq_true (by show((j:Int)<((s.size:Nat):Int));omega),trivial⟩ trivial).trans fun g1 w1 hd=>?_;obtain⟨I,B,bR,rfl,f1,F1,_⟩:=hd;refine(tG (s:=s) (j:=j) nmC (bO [] [] []) F1 (by decide) rfl (by omega) fun tm ir=>⟨ir 29 _ rfl,ir 30 _ rfl⟩).trans fun g2 w2 b_=>?_;obtain⟨cE,rfl,rfl,F2⟩:=b_;refine(nmD.go (bO [] [] [(31,An (c6 s j))]) (Q:=fun v w'=>v=.bool (fM (c6 s j))) F2 rfl fun w' f1=>Gj).trans fun g3 w3 cv=>?_;obtain⟨cF,v,rfl,f3,rfl,F3⟩:=cv;have hsplit:(List.range (m+1)).all (fun i=>fM (c6 s (j+i)))=(fM (c6 s j)&&(List.range m).all fun i=>fM (c6 s (j+1+i))):=by rw[List.range_succ_eq_map,List.all_cons,List.all_map];congr 1;refine congrArg (List.all _) (funext fun i=>?_);show fM (c6 s (j+(i+1)))=_;rw[show j+(i+1)=j+1+i by omega]
  rw[hsplit];cases e:fM (c6 s j)with
  |false=>rw[e]at F3;refine(nmF.go (Go.Proofs.YtmobbajggkjpgaaGreat.SX.iS [(6,j)] [] [] [(1,s)]) F3 rfl trivial trivial).trans fun g4 w4 dh=>?_;obtain⟨I,B,eO,rfl,f4,F4,_⟩:=dh;refine(leave1 HT F4 rfl).mono fun g5 w5 eg=>?_;obtain⟨gn,rfl,rfl,hL⟩:=eg;exact⟨gn,rfl,fw.trans (f1.trans (f3.trans f4)),hL⟩
  |true=>
   rw[e]at F3;refine(nmT.go (Go.Proofs.YtmobbajggkjpgaaGreat.SX.iS [(6,j)] [] [] [(1,s)]) F3 rfl trivial trivial).trans fun g4 w4 dh=>?_;obtain⟨I,B,eO,rfl,f4,F4,_⟩:=dh;refine(HW hs m (j+1) (by omega) (fw.trans (f1.trans (f3.trans f4))) ?_);have e6:iz .add .i64 (j:Int) 1=((j+1:Nat):Int):=by show IntKind.wrap .i64 _=_;rw[iT (by omega)];omega
   rw[<-e6];exact F4
theorem Gk{s:ByteArray}:dV 66 #[.string s] w fun v w'=>bA w w'∧v=.bool (gz s):=by
 refine cI fun cs=>?_;have E:=cC aaK rfl (.string s);have fin:∀{k:List Item} {w1:World} {fr:Frame} {x:Bool},bA w w1->FA 66 43 (.code .ret::k) [] .normal [(2,.bool false)] fr->gz s=false->Goes (G fr cs) w1 fun g' w'=>∃fr' v,g'=G fr' cs∧de 66 fr' w' v∧bA w w'∧v=.bool (gz s):=fun f1 F1 h=>by refine(leave1 HT F1 rfl).mono fun g5 w5 eg=>?_;obtain⟨gn,rfl,rfl,hL⟩:=eg;exact⟨gn,_,rfl,hL,f1,by rw[h]⟩
 by_cases h1:(s.size:Int)<1
 ·refine(nm1.go (Go.Proofs.YtmobbajggkjpgaaGreat.SX.iS [] [] [] [(1,s)]) E rfl ⟨decide_eq_true h1,trivial⟩ trivial).trans fun g1 w1 hd=>?_;obtain⟨I,B,bR,rfl,f1,F1,_⟩:=hd;exact fin (x:=true) f1 F1 (by
   have:¬(1≤s.size):=by omega
   simp[gz,this])
 by_cases h2:(s.size:Int)>32
 ·refine(nm2.go (Go.Proofs.YtmobbajggkjpgaaGreat.SX.iS [] [] [] [(1,s)]) E rfl ⟨decide_eq_false h1,decide_eq_true h2,trivial⟩ trivial).trans fun g1 w1 hd=>?_;obtain⟨I,B,bR,rfl,f1,F1,_⟩:=hd;exact fin (x:=true) f1 F1 (by
   have:¬(s.size≤32):=by omega
   simp[gz,this])
 refine(nm3.go (Go.Proofs.YtmobbajggkjpgaaGreat.SX.iS [] [] [] [(1,s)]) E rfl ⟨decide_eq_false h1,decide_eq_false h2,trivial⟩ trivial).trans fun g1 w1 hd=>?_;obtain⟨I,B,bR,rfl,f1,F1,_⟩:=hd;refine(tG (s:=s) (j:=0) nmA (bO [] [] []) F1 (by decide) rfl (by omega) fun tm ir=>⟨ir 15 _ rfl,rfl⟩).trans fun g2 w2 b_=>?_;obtain⟨cE,rfl,rfl,F2⟩:=b_;by_cases h3:((c6 s 0:Nat):Int)<97
 ·refine(afA.go (Go.Proofs.YtmobbajggkjpgaaGreat.SX.iS [(2,c6 s 0)] [] [] [(1,s)]) F2 rfl ⟨decide_eq_true h3,trivial⟩ trivial).trans fun g3 w3 cv=>?_;obtain⟨I,B,cF,rfl,f3,F3,_⟩:=cv;exact fin (x:=true) (f1.trans f3) F3 (by
   have:¬(97≤c6 s 0):=by omega
   simp[gz,this])
 refine(afB.go (Go.Proofs.YtmobbajggkjpgaaGreat.SX.iS [(2,c6 s 0)] [] [] [(1,s)]) F2 rfl ⟨decide_eq_false h3,trivial⟩ trivial).trans fun g3 w3 cv=>?_;obtain⟨I,B,cF,rfl,f3,F3,_⟩:=cv;refine(tG (s:=s) (j:=0) nmB (bO [] [] []) F3 (by decide) rfl (by omega) fun tm ir=>⟨ir 20 _ rfl,rfl⟩).trans fun g4 w4 dh=>?_;obtain⟨eO,rfl,rfl,F4⟩:=dh;by_cases h4:((c6 s 0:Nat):Int)>122
 ·refine(afC.go (Go.Proofs.YtmobbajggkjpgaaGreat.SX.iS [(2,c6 s 0)] [] [] [(1,s)]) F4 rfl ⟨decide_eq_true h4,trivial⟩ trivial).trans fun g5 w5 eg=>?_;obtain⟨I,B,gn,rfl,f5,F5,_⟩:=eg;exact fin (x:=true) (f1.trans (f3.trans f5)) F5 (by
   have:¬(c6 s 0≤122):=by omega
   simp[gz,this])
 refine(afD.go (Go.Proofs.YtmobbajggkjpgaaGreat.SX.iS [(2,c6 s 0)] [] [] [(1,s)]) F4 rfl ⟨decide_eq_false h4,trivial⟩ trivial).trans fun g5 w5 eg=>?_;obtain⟨I,B,gn,rfl,f5,F5,_⟩:=eg;refine(HW (s:=s) (by omega) s.size 0 (aF _) (f1.trans (f3.trans f5)) F5).mono fun g6 w6 dz=>?_;obtain⟨dK,rfl,f6,hL⟩:=dz;refine⟨dK,_,rfl,hL,f6,?_⟩;have a1:1≤s.size:=by omega
 have a2:s.size≤32:=by omega
 have a3:97≤c6 s 0:=by omega
 have a4:c6 s 0≤122:=by omega
 simp[gz,a1,a2,a3,a4]
end
theorem wrA:Pc 89 34 [.code (bD Tryz.f89)] [(0,bC 61),(1,i64 (v 6))] [] [(eD 61 0,i8 (v 1))] [] 16 [] [0,1,5,11] [.inRegion (opsOf (Ng 28)) [5,6],.code (Ng 29),.code (Ng 15)] [bC 61,i64 (v 6),i64 (.lit 1),i8 (v 1)] []:={}
theorem wrB:dy 34 (opsOf (Ng 28)) 5 [(11,.bF 11)] 88 [.bF 11] 12:={}
noncomputable abbrev HX:List (AA×AV):=[(eD 61 5,sA 50 53 51 52),(eC 50 53 6,bC 62),(eD 62 0,i8 (v 2))]
noncomputable abbrev Nk:List (Nat×AV):=[(0,bC 61),(1,i64 (v 6)),(5,i64 (.lit 1)),(12,i64 (v 3))]
noncomputable abbrev Nl:List Item:=[.inRegion (opsOf (Ng 28)) [6],.code (Ng 29),.code (Ng 15)]
noncomputable abbrev Nn:List Item:=[.inRegion (opsOf (Ng 30)) [11,12,13,14],.code .ret]
theorem wrC:Pc 89 34 Nl Nk (((.cmp .lss (v 3) (.lit 4)),false)::fo 6 51) HX [] 22 [] [5,30] Nn [i64 (.lit 1),i8 (v 2)] []:={}
theorem wrF:dy 34 (opsOf (Ng 30)) 11 [(30,.bF 30)] 88 [.bF 30] 31:={}
theorem wrG:Pc 89 34 [.inRegion (opsOf (Ng 30)) [12,13,14],.code .ret] [(5,i64 (v 4)),(31,i64 (v 5))] [] [] [] 4 [] [4] [.code .ret] [.bool (.cmp .lss (v 5) (v 4))] []:={}
theorem wrD:Pc 89 34 Nl Nk (((.cmp .lss (v 3) (.lit 4)),true)::((.cmp .gtr (v 6) (.lit 0)),false)::fo 6 51) HX [] 33 [] [5,30] Nn [i64 (v 3),i8 (v 2)] []:={}
theorem wrE:Pc 89 34 Nl Nk (((.cmp .lss (v 3) (.lit 4)),true)::((.cmp .gtr (v 6) (.lit 0)),true)::fo 6 51) HX [] 37 [] [5,30] Nn [i64 (.op .add .i64 (v 3) (.lit 1)),i8 (v 2)] []:={}
section
structure Nd where
 op:Int
 n:Int
 kids:Int
 cj:Int
inductive T where
 |nd(n:Nd)(ks:List T)
def T.n:T->Nd
 |.nd n _=>n
def T.ks:T->List T
 |.nd _ ks=>ks
structure xZ(w:World)(U:Nat->Prop)(s:Value)(ps:List Nat):Prop where
 ex:(s=eH∧ps=[])∨∃A o c,U A∧A<w.heap.size∧s=bS A o ps.length c∧ps.length≤c∧∀i p,ps[i]?=some p->w.cell? ⟨A,o+i,none⟩=some (bK p)
mutual
inductive fU(w:World)(U:Nat->Prop):Nat->T->Prop
 |mk (b:Nat) (n:Nd) (ks:List T) (ps:List Nat) (s:Value) (u:U b) (c0:w.cell? ⟨b,0,none⟩=some (cY n.op)) (c1:w.cell? ⟨b,1,none⟩=some (iV n.n)) (c2:w.cell? ⟨b,2,none⟩=some (iV n.kids)) (c3:w.cell? ⟨b,3,none⟩=some (iV n.cj)) (c5:w.cell? ⟨b,5,none⟩=some s) (hs:xZ w U s ps) (hk:dQ w U ps ks):fU w U b (.nd n ks)
inductive dQ(w:World)(U:Nat->Prop):List Nat->List T->Prop
 |nil:dQ w U [] []
 |cons (p:Nat) (ps:List Nat) (t:T) (ts:List T) (h:fU w U p t) (hs:dQ w U ps ts):dQ w U (p::ps) (t::ts)
end
section
variable {w w':World}{U U' own:Nat->Prop}
theorem xZ.e_{s:Value}{ps:List Nat}(h:xZ w U s ps)(f:bU own w w')(hU:∀x,U x->x<w.heap.size->¬own x∧U' x):xZ w' U' s ps:=by
 rcases h.ex with h|⟨A,o,c,u,lt,h1,h2,h3⟩
 ·exact⟨.inl h⟩
 ·exact⟨.inr ⟨A,o,c,(hU A u lt).2,Nat.lt_of_lt_of_le lt f.size,h1,h2,fun i p hi=>iD f (h3 i p hi) (hU A u lt).1⟩⟩
mutual
theorem fU.e_(f:bU own w w')(hU:∀x,U x->x<w.heap.size->¬own x∧U' x){b:Nat}{t:T}:fU w U b t->fU w' U' b t
 |.mk b n ks ps s u c0 c1 c2 c3 c5 hs hk=>
  have hb:=hU b u (j5 c0)
  .mk b n ks ps s hb.2 (iD f c0 hb.1) (iD f c1 hb.1) (iD f c2 hb.1) (iD f c3 hb.1) (iD f c5 hb.1) (hs.e_ f hU) (dQ.e_ f hU hk)
theorem dQ.e_(f:bU own w w')(hU:∀x,U x->x<w.heap.size->¬own x∧U' x){ps:List Nat}{ts:List T}:dQ w U ps ts->dQ w' U' ps ts
 |.nil=>.nil
 |.cons p ps t ts h hs=>.cons p ps t ts (fU.e_ f hU h) (dQ.e_ f hU hs)
end
theorem fU.keep(f:bA w w'){b:Nat}{t:T}(h:fU w U b t):fU w' U b t:=h.e_ f fun x u lt=>⟨fun hh=>by omega,u⟩
theorem dQ.keep(f:bA w w'){ps:List Nat}{ts:List T}(h:dQ w U ps ts):dQ w' U ps ts:=h.e_ f fun x u lt=>⟨fun hh=>by omega,u⟩
theorem dQ.len:∀{ps:List Nat} {ts:List T},dQ w U ps ts->ps.length=ts.length
 |_,_,.nil=>rfl
 |_,_,.cons p ps t ts h hs=>by simp only[aC,dQ.len hs]
theorem dQ.get:∀{ps:List Nat} {ts:List T},dQ w U ps ts->∀{i:Nat} {t:T},ts[i]?=some t->∃p,ps[i]?=some p∧fU w U p t
 |_,_,.nil,i,t,h=>by cases h
 |_,_,.cons p ps t' ts h hs,0,t,e=>by obtain rfl:t'=t:=au e;exact⟨p,rfl,h⟩
 |_,_,.cons p ps t' ts h hs,i+1,t,e=>dQ.get hs (i:=i) e
theorem dQ.snoc:∀{ps:List Nat} {ts:List T} {p:Nat} {t:T},dQ w U ps ts->fU w U p t->dQ w U (ps++[p]) (ts++[t])
 |_,_,p,t,.nil,h=>.cons p [] t [] h .nil
 |_,_,p,t,.cons p' ps t' ts h' hs,h=>.cons p' _ t' _ h' (dQ.snoc hs h)
end
theorem bX{ρ:Env}{i n I N:Nat}(hi:ρ.i i=(I:Int))(hn:ρ.i n=(N:Int))(h:I<N):cg ρ [((.cmp .lss (v i) (.tn (v n))),true),((.cmp .leq (.lit 0) (v i)),true),((.cmp .lss (v i) (.lit 0)),false),((.cmp .geq (v i) (.tn (v n))),false)]:=by
 refine⟨?_,?_,?_,?_,trivial⟩
 ·show decide (ρ.i i<(((ρ.i n).toNat:Nat):Int))=true;rw[hi,hn];exact decide_eq_true (by omega)
 ·show decide ((0:Int)≤ρ.i i)=true;rw[hi];exact decide_eq_true (by omega)
 ·show decide (ρ.i i<0)=false;rw[hi];exact decide_eq_false (by omega)
 ·show decide (ρ.i i≥(((ρ.i n).toNat:Nat):Int))=false;rw[hi,hn];exact decide_eq_false (by omega)
theorem inc{i:Nat}(h:i<1000000000000000):iz .add .i64 (i:Int) 1=((i+1:Nat):Int):=by show IntKind.wrap .i64 ((i:Int)+1)=_;rw[iT (by omega)];omega
def eF(op:Int)(i:Nat):Int:=if cm op<4 then(if i>0 then cm op+1 else cm op)else 1
theorem x4(op:Int):1≤cm op∧cm op≤4:=by
 unfold cm
 repeat (first|(split; · decide)|decide)
def HY(t:T)(i:Nat)(k:T):Bool:=decide (cm k.n.op<eF t.n.op i)
section
variable {w:World}{cs:List Frame}{fr:Frame}
theorem Dl{U:Nat->Prop}{b i:Nat}{t k:T}(h:fU w U b t)(hk:t.ks[i]?=some k)(hl:t.ks.length≤1000000):dV 89 #[bK b,iV i] w fun v w'=>bA w w'∧v=.bool (HY t i k):=by
 obtain⟨b,n,ks,ps,s,u,c0,c1,c2,c3,c5,hs,hks⟩:=h;obtain⟨p,hp,hpk⟩:=hks.get hk;obtain⟨p,m,ks',ps',s',u',d0,d1,d2,d3,d5,hs',aq1⟩:=hpk;have hlt:i<ps.length:=(ak.1 hp).1;rcases hs.ex with⟨_,rfl⟩|⟨A,o,c,uA,lA,rfl,hc,hel⟩
 ·cases hp
 have hlen:ps.length≤1000000:=by rw[hks.len];exact hl
 have hr:=x4 n.op;refine cI fun cs=>?_;refine(wrA.go (bO [(6,i),(1,n.op)] [(61,b)] []) (dU aaL rfl (bK b) (iV i)) rfl trivial ⟨c0,trivial⟩).trans fun g1 w1 hd=>?_;obtain⟨I,B,bR,rfl,f1,F1,_⟩:=hd;refine(wrB.go (bO [] [] [(11,cY n.op)]) (Q:=fun v w'=>v=iV (cm n.op)) F1 rfl fun w' f1=>tF).trans fun g2 w2 b_=>?_;obtain⟨cE,v,rfl,f2,rfl,F2⟩:=b_;have f12:=f1.trans f2;obtain⟨ρ,hρ⟩:∃ρ:Env,ρ=bO [(6,i),(3,cm n.op),(51,ps.length),(52,c),(53,o),(2,m.op)] [(61,b),(50,A),(62,p)] []:=⟨_,rfl⟩;have mm:cq ρ w2 HX:=by rw[hρ];exact⟨f12.cell c5,f12.cell (hel i p hp),f12.cell d0,trivial⟩
 have bb:=bX (ρ:=ρ) (i:=6) (n:=51) (I:=i) (N:=ps.length) (by rw[hρ];rfl) (by rw[hρ];rfl) hlt;have rest:∀{w3:World} {cF:Frame} {x:Int},bA w2 w3->FA 89 34 (.inRegion (opsOf (Ng 30)) [11,12,13,14]::[.code .ret]) [] .normal [(5,iV x),(30,cY m.op)] cF->x=eF n.op i->Goes (G cF cs) w3 fun g' w'=>∃fr' v,g'=G fr' cs∧de 89 fr' w' v∧bA w w'∧v=.bool (HY (.nd n ks) i (.nd m ks')):=fun{w3 cF x} f3 F3 hx=>by refine(wrF.go (bO [] [] [(30,cY m.op)]) (Q:=fun v w'=>v=iV (cm m.op)) F3 rfl fun w' f1=>tF).trans fun g4 w4 dh=>?_;obtain⟨eO,v,rfl,f4,rfl,F4⟩:=dh;refine(wrG.go (bO [(4,x),(5,cm m.op)] [] []) F4 rfl trivial trivial).trans fun g5 w5 eg=>?_;obtain⟨I,B,gn,rfl,f5,F5,_⟩:=eg;refine(leave1 aaM F5 rfl).mono fun g6 w6 dz=>?_;obtain⟨dK,rfl,rfl,hL⟩:=dz;exact⟨dK,_,rfl,hL,f12.trans (f3.trans (f4.trans f5)),by subst hx;rfl⟩
 by_cases h4:cm n.op<4
 ·by_cases h0:(i:Int)>0
  ·refine(wrE.go ρ F2 (by rw[hρ];rfl) ⟨by rw[hρ];exact decide_eq_true h4,by rw[hρ];exact decide_eq_true h0,bb⟩ mm).trans fun g3 w3 cv=>?_;obtain⟨I,B,cF,rfl,f3,F3,_⟩:=cv;refine rest (x:=iz .add .i64 (cm n.op) 1) f3 (by rw[hρ]at F3;exact F3) ?_;unfold eF;rw[if_pos h4,if_pos (by omega)];exact iT (by omega)
  ·refine(wrD.go ρ F2 (by rw[hρ];rfl) ⟨by rw[hρ];exact decide_eq_true h4,by rw[hρ];exact decide_eq_false h0,bb⟩ mm).trans fun g3 w3 cv=>?_;obtain⟨I,B,cF,rfl,f3,F3,_⟩:=cv;refine rest (x:=cm n.op) f3 (by rw[hρ]at F3;exact F3) ?_;unfold eF;rw[if_pos h4,if_neg (by omega)]
 ·refine(wrC.go ρ F2 (by rw[hρ];rfl) ⟨by rw[hρ];exact decide_eq_false h4,bb⟩ mm).trans fun g3 w3 cv=>?_;obtain⟨I,B,cF,rfl,f3,F3,_⟩:=cv;refine rest (x:=1) f3 (by rw[hρ]at F3;exact F3) ?_;unfold eF;rw[if_neg h4]
end
end
noncomputable def jh(l:Nat):Code:=pc (bD Tryz.f68) (pd l)
theorem aaS:bT Tryz.prog 68 [.bF 0,.bF 1] .normal=.ok ⟨68,87,c_ 68 [.bF 0,.bF 1],[.code (bD Tryz.f68)],[],.run,.normal⟩:=by kernel_rfl
theorem Ta:p6 68 87 4 5:=fun st=>by kernel_rfl
theorem dpA:Pc 68 87 [.code (bD Tryz.f68)] [(0,bC 61),(1,i64 (v 7))] [] [(eD 61 0,i8 (v 2))] [] 12 [] [0,1,5,16] [.inRegion (opsOf (jh 6)) [5,6],.code (jh 7)] [bC 61,i64 (v 7),i64 (.lit 0),i8 (v 2)] []:={}
theorem dpB:dy 87 (opsOf (jh 6)) 5 [(16,.bF 16)] 88 [.bF 16] 17:={}
noncomputable abbrev Tb:List AV:=[bC 61,i64 (v 7),i64 (v 7),i64 (.lit 0),i64 (v 3),sA 50 53 51 52,i64 (.tn (v 51)),i64 (.lit 0)]
noncomputable abbrev Dm:List (Nat×AV):=[(0,bC 61),(1,i64 (v 7)),(5,i64 (.lit 0)),(17,i64 (v 3))]
noncomputable abbrev oW:List Item:=[.code (jh 500),.inLoop (jh 500),.inBlock 0,.code (jh 63)]
noncomputable abbrev Dn:List Item:=[.inRegion (opsOf (jh 6)) [6],.code (jh 7)]
theorem afE:Pc 68 87 Dn Dm [((.cmp .gtr (v 3) (.lit 2)),false)] [(eD 61 5,sA 50 53 51 52)] [] 35 [] [0,1,4,5,6,34,35,36] oW Tb []:={}
theorem afF:Pc 68 87 Dn Dm [((.cmp .gtr (v 3) (.lit 2)),true),((.cmp .gtr (.tn (v 51)) (.lit 0)),false)] [(eD 61 5,sA 50 53 51 52)] [] 35 [] [0,1,4,5,6,34,35,36] oW Tb []:={}
theorem afG:Pc 68 87 Dn Dm [((.cmp .gtr (v 3) (.lit 2)),true),((.cmp .gtr (.tn (v 51)) (.lit 0)),true)] [(eD 61 5,sA 50 53 51 52)] [] 39 [] [0,1,4,5,6,34,35,36] oW [bC 61,i64 (.op .add .i64 (v 7) (.lit 1)),i64 (.op .add .i64 (v 7) (.lit 1)),i64 (.lit 0),i64 (v 3),sA 50 53 51 52,i64 (.tn (v 51)),i64 (.lit 0)] []:={}
noncomputable abbrev Tc:List AV:=[bC 61,i64 (v 7),i64 (v 7),i64 (.lit 0),i64 (v 3),cn,i64 (.lit 0),i64 (.lit 0)]
theorem afH:Pc 68 87 Dn Dm [((.cmp .gtr (v 3) (.lit 2)),false)] [(eD 61 5,cn)] [] 35 [] [0,1,4,5,6,34,35,36] oW Tc []:={}
theorem afI:Pc 68 87 Dn Dm [((.cmp .gtr (v 3) (.lit 2)),true)] [(eD 61 5,cn)] [] 35 [] [0,1,4,5,6,34,35,36] oW Tc []:={}
noncomputable abbrev VG:List Item:=[.inRegion (opsOf (jh 256412)) [2],.code (jh 256413),.code (jh 128207),.inBlock 1,.code (jh 4007),.inLoop (jh 500),.inBlock 0,.code (jh 63)]
noncomputable abbrev aaT:List AV:=[bC 61,i64 (v 7),i64 (v 8),i64 (v 9),i64 (v 3),i64 (v 10),bC 62,i64 (v 7),sA 50 53 51 52,i64 (.tn (v 51)),i64 (v 10),bC 61,i64 (v 10)]
noncomputable abbrev Q6:List (Nat×AV):=[(0,bC 61),(1,i64 (v 7)),(4,i64 (v 8)),(5,i64 (v 9)),(6,i64 (v 3)),(34,sA 50 53 51 52),(35,i64 (.tn (v 51))),(36,i64 (v 10))]
theorem afJ:Pc 68 87 oW Q6 (fo 10 51++[((.cmp .lss (v 3) (.lit 3)),false)]) [(eC 50 53 10,bC 62)] [] 39 [] [0,1,4,5,6,7,8,9,34,35,36,51,52] VG aaT []:={}
theorem afK:Pc 68 87 oW Q6 (fo 10 51++[((.cmp .lss (v 3) (.lit 3)),true),((.cmp .eql (v 10) (.lit 1)),false)]) [(eC 50 53 10,bC 62)] [] 39 [] [0,1,4,5,6,7,8,9,34,35,36,51,52] VG aaT []:={}
theorem afL:Pc 68 87 oW Q6 (fo 10 51++[((.cmp .lss (v 3) (.lit 3)),true),((.cmp .eql (v 10) (.lit 1)),true)]) [(eC 50 53 10,bC 62)] [] 44 [] [0,1,4,5,6,7,8,9,34,35,36,51,52] VG [bC 61,i64 (v 7),i64 (v 8),i64 (v 9),i64 (v 3),i64 (v 10),bC 62,i64 (.op .add .i64 (v 7) (v 9)),sA 50 53 51 52,i64 (.tn (v 51)),i64 (v 10),bC 61,i64 (v 10)] []:={}
theorem dpS:dy 87 (opsOf (jh 256412)) 2 [(51,.bF 51),(52,.bF 52)] 89 [.bF 51,.bF 52] 53:={}
noncomputable abbrev aaU:List Item:=[.inRegion (opsOf (jh 256412)) [],.code (jh 256413),.code (jh 128207),.inBlock 1,.code (jh 4007),.inLoop (jh 500),.inBlock 0,.code (jh 63)]
noncomputable abbrev aaV:List Item:=[.inRegion (opsOf (jh 256414)) [2,3,4,5,6,7],.code (jh 256415),.inBlock 1,.code (jh 4007),.inLoop (jh 500),.inBlock 0,.code (jh 63)]
theorem afM:Pc 68 87 aaU [(0,bC 61),(1,i64 (v 7)),(4,i64 (v 8)),(5,i64 (v 9)),(6,i64 (v 3)),(7,i64 (v 10)),(8,bC 62),(9,i64 (v 11)),(34,sA 50 53 51 52),(35,i64 (.tn (v 51))),(36,i64 (v 10)),(53,FB)] [] [] [] 7 [] [0,1,4,5,6,7,8,9,34,35,36,57,58] aaV [bC 61,i64 (v 7),i64 (v 8),i64 (v 9),i64 (v 3),i64 (v 10),bC 62,i64 (v 11),sA 50 53 51 52,i64 (.tn (v 51)),i64 (v 10),bC 62,i64 (v 11)] []:={}
theorem afN:Pc 68 87 aaU [(0,bC 61),(1,i64 (v 7)),(4,i64 (v 8)),(5,i64 (v 9)),(6,i64 (v 3)),(7,i64 (v 10)),(8,bC 62),(9,i64 (v 11)),(34,sA 50 53 51 52),(35,i64 (.tn (v 51))),(36,i64 (v 10)),(53,TB)] [] [] [] 11 [] [0,1,4,5,6,7,8,9,34,35,36,57,58] aaV [bC 61,i64 (v 7),i64 (v 8),i64 (v 9),i64 (v 3),i64 (v 10),bC 62,i64 (.op .add .i64 (v 11) (.lit 1)),sA 50 53 51 52,i64 (.tn (v 51)),i64 (v 10),bC 62,i64 (.op .add .i64 (v 11) (.lit 1))] []:={}
theorem dpU:dy 87 (opsOf (jh 256414)) 2 [(57,.bF 57),(58,.bF 58)] 68 [.bF 57,.bF 58] 59:={}
noncomputable abbrev VH:List (Nat×AV):=[(0,bC 61),(1,i64 (v 7)),(4,i64 (v 8)),(5,i64 (v 9)),(6,i64 (v 3)),(7,i64 (v 10)),(8,bC 62),(9,i64 (v 11)),(34,sA 50 53 51 52),(35,i64 (.tn (v 51))),(36,i64 (v 10)),(59,.tuple [i64 (v 12),i64 (v 13)])]
noncomputable abbrev VI:List Item:=[.inRegion (opsOf (jh 256414)) [3,4,5,6,7],.code (jh 256415),.inBlock 1,.code (jh 4007),.inLoop (jh 500),.inBlock 0,.code (jh 63)]
noncomputable abbrev VJ:List AV:=[bC 61,i64 (v 7),i64 (v 9),i64 (v 3),sA 50 53 51 52,i64 (.tn (v 51)),i64 (v 10),i64 (v 8),i64 (v 12),i64 (v 11)]
noncomputable abbrev Q7:List Item:=[.inRegion (opsOf (jh 512831)) [3,4],.inBlock 1,.code (jh 4007),.inLoop (jh 500),.inBlock 0,.code (jh 63)]
theorem afO:Pc 68 87 VI VH [((.cmp .eql (v 10) (.lit 0)),false)] [] [] 32 [] [0,1,5,6,34,35,36,79,80,81] Q7 VJ []:={}
theorem afP:Pc 68 87 VI VH [((.cmp .eql (v 10) (.lit 0)),true),((.cmp .lss (v 3) (.lit 3)),false)] [] [] 32 [] [0,1,5,6,34,35,36,79,80,81] Q7 VJ []:={}
theorem dpW:j7 87 (opsOf (jh 512831)) 3 [] (.call {callee:=.builtin .max,args:=#[.tmp 79,.tmp 80,.tmp 81],argTypes:=#[3,3,3]}) 3 (some 82):={}
theorem dpX:Pc 68 87 VI VH [((.cmp .eql (v 10) (.lit 0)),true),((.cmp .lss (v 3) (.lit 3)),true)] [(eD 62 0,i8 (v 14))] [] 21 [] [0,1,4,5,6,7,8,9,10,11,34,35,36,68,73] [.inRegion (opsOf (jh 1025660)) [12,13,14,15],.code (jh 1025661),.code (jh 512831),.inBlock 1,.code (jh 4007),.inLoop (jh 500),.inBlock 0,.code (jh 63)] [bC 61,i64 (v 7),i64 (v 8),i64 (v 9),i64 (v 3),i64 (v 10),bC 62,i64 (v 11),i64 (v 12),i64 (v 13),sA 50 53 51 52,i64 (.tn (v 51)),i64 (v 10),TB,i8 (v 14)] []:={}
theorem dpY:dy 87 (opsOf (jh 1025660)) 12 [(68,TB),(73,.bF 73)] 88 [.bF 73] 74:={}
noncomputable abbrev aaW:List (Nat×AV):=[(0,bC 61),(1,i64 (v 7)),(4,i64 (v 8)),(5,i64 (v 9)),(6,i64 (v 3)),(7,i64 (v 10)),(8,bC 62),(9,i64 (v 11)),(34,sA 50 53 51 52),(35,i64 (.tn (v 51))),(36,i64 (v 10)),(10,i64 (v 12)),(11,i64 (v 13)),(68,TB),(74,i64 (v 15))]
noncomputable abbrev aaX:List Item:=[.inRegion (opsOf (jh 1025660)) [13,14,15],.code (jh 1025661),.code (jh 512831),.inBlock 1,.code (jh 4007),.inLoop (jh 500),.inBlock 0,.code (jh 63)]
theorem afQ:Pc 68 87 aaX aaW [((.cmp .eql (v 15) (v 3)),false)] [] [] 10 [] [0,1,5,6,34,35,36,79,80,81] Q7 VJ []:={}
theorem afR:Pc 68 87 aaX aaW [((.cmp .eql (v 15) (v 3)),true)] [] [] 13 [] [0,1,5,6,34,35,36,79,80,81] Q7 [bC 61,i64 (v 7),i64 (v 13),i64 (v 3),sA 50 53 51 52,i64 (.tn (v 51)),i64 (v 10),i64 (v 8),i64 (v 12),i64 (v 11)] []:={}
theorem dpK:Pc 68 87 [.inRegion (opsOf (jh 512831)) [4],.inBlock 1,.code (jh 4007),.inLoop (jh 500),.inBlock 0,.code (jh 63)] [(0,bC 61),(1,i64 (v 7)),(5,i64 (v 9)),(6,i64 (v 3)),(34,sA 50 53 51 52),(35,i64 (.tn (v 51))),(36,i64 (v 10)),(82,i64 (v 16))] [] [] [] 8 [] [0,1,4,5,6,34,35,36] oW [bC 61,i64 (v 7),i64 (v 16),i64 (v 9),i64 (v 3),sA 50 53 51 52,i64 (.tn (v 51)),i64 (.op .add .i64 (v 10) (.lit 1))] []:={}
abbrev Ao:List (BE×Bool):=[((.cmp .lss (v 10) (.tn (v 51))),false)]
theorem dpE:Pc 68 87 oW Q6 Ao [] [] 15 [] [4,5] [.code .ret] [i64 (v 8),i64 (.op .add .i64 (v 9) (.lit 1))] []:={}
theorem afS:Pc 68 87 oW [(0,bC 61),(1,i64 (v 7)),(4,i64 (v 8)),(5,i64 (v 9)),(6,i64 (v 3)),(34,cn),(35,i64 (.lit 0)),(36,i64 (.lit 0))] [] [] [] 15 [] [4,5] [.code .ret] [i64 (v 8),i64 (.op .add .i64 (v 9) (.lit 1))] []:={}
end Go.Proofs.YtmobbajggkjpgaaGreat
