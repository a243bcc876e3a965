/-
  A symbolic run of the model, proved sound, and the walk of the code: a text of its parts. Conditions: none.
-/
import Derived.Test.YthaddgfbohmfoaaLC
set_option linter.unusedSectionVars false
set_option maxRecDepth 100000
set_option linter.unusedVariables false
set_option linter.unusedSimpArgs false
namespace Go.Proofs.Ythaddgfbohmfoaa.SX
noncomputable section
structure eW where
 id:Nat
 cJ:dw
 ch:Nat
 z:Value
 ok:Bool
 gi:List (AA×AV)
structure yK where
 h:Nat
 c:dw
 cq:List eW
 next:Nat
 deaf:Nat:=0
def vt(i:Nat):List (AA×AV)->List Nat
 |[]=>[]
 |p::l=>match p.1 with
  |⟨.cN j,.lit (.ofNat n)⟩=>match Nat.beq i j with
   |true=>n::vt i l
   |false=>vt i l
  |_=>vt i l
def vu(i:Nat):List eW->List Nat
 |[]=>[]
 |s::l=>vt i s.gi++vu i l
def bM.Dg(b:bM)(ls:List Nat):bM:=
 match b with
 |.cells cs e=>match ls with
  |[]=>.cells cs e
  |_=>.fT cs e ls
 |.fT cs e _=>match ls with
  |[]=>.cells cs e
  |_=>.fT cs e ls
 |b=>b
def kq(ss:List eW):List (Nat×bM)->List (Nat×bM)
 |[]=>[]
 |p::l=>(p.1,p.2.Dg (vu p.1 ss))::kq ss l
def bM.te:bM->Bool
 |.cells _ _=>true
 |.fT _ _ _=>true
 |_=>false
def oK(hp:List (Nat×bM))(i:Nat):Bool:=
 match cV i hp with
 |some b=>b.isChan
 |none=>false
def zM(hp:List (Nat×bM))(p:AA×AV):Bool:=
 match p.1 with
 |⟨.cN i,.lit (.ofNat n)⟩=>match cV i hp with
  |some b=>b.te
  |none=>false
 |_=>false
def lm(hp:List (Nat×bM)):List (AA×AV)->Bool
 |[]=>true
 |p::l=>match zM hp p with
  |true=>lm hp l
  |false=>false
def je(hp:List (Nat×bM)):List eW->Bool
 |[]=>true
 |s::l=>match oK hp s.ch,lm hp s.gi with
  |true,true=>je hp l
  |_,_=>false
def uf(i ch:Nat):List eW->Bool
 |[]=>true
 |s::l=>match Nat.beq s.ch ch,Nat.beq s.id i with
  |false,false=>uf i ch l
  |_,_=>false
def wants?(c:dw)(hp:List (Nat×bM)):Option (AA×AV):=
 match c with
 |⟨⟨_,_,tmps,.inRegion ops (i::_)::_,_,_,_⟩,_,_⟩=>match ops[i]? with
  |some o=>match o.op with
   |.load _ x=>match fC tmps x with
    |.ptr (some ⟨.cN j,.lit (.ofNat n)⟩)=>match cV j hp with
     |some b=>match b.cs[n]? with
      |some v=>some (⟨.cN j,.lit (.ofNat n)⟩,v)
      |none=>none
     |none=>none
    |_=>none
   |_=>none
  |none=>none
 |_=>none
def jF:Ext:=fun _ _ _=>.error "no entry"
def dP.tf(O:dP)(l:List (AA×AV)):dP:={O with mem:=l++O.mem}
def dP.ij(O:dP):dP:={O with bs:=[],is:=[],mem:=[]}
def abu(P:Program)(O:dP)(hp:List (Nat×bM)):Nat->Nat->List (AA×AV)->dw->M (List (AA×AV)×Nat×dw)
 |0,_,_,_=>.error "way fuel"
 |f+1,n,st,c=>match recvAt? P c with
  |some _=>.ok (st,n,c)
  |none=>
   let st:=match wants? c hp with
    |some p=>p::st
    |none=>st
   match lstep? P (O.tf st) jF c with
   |.ok c=>abu P O hp f (n+1) st c
   |.error e=>.error e
def FE(hp:List (Nat×bM))(p:AA×AV):Bool:=
 match p.1 with
 |⟨.cN i,.lit (.ofNat n)⟩=>match cV i hp with
  |some b=>match b.cs[n]? with
   |some v=>b.te&&AV.hZ v p.2
   |none=>false
  |none=>false
 |_=>false
def iW(hp:List (Nat×bM)):List (AA×AV)->Bool
 |[]=>true
 |p::l=>match FE hp p with
  |true=>iW hp l
  |false=>false
def seat?(P:Program)(O:dP)(hp:List (Nat×bM))(i:Nat)(c:dw):M (Nat×eW):=
 match abu P O hp 400 0 [] c with
 |.error e=>.error e
 |.ok (st,n,_)=>match lrun? P (O.tf st) jF n c with
  |.error e=>.error e
  |.ok c'=>match recvAt? P c' with
   |some (.cN ch,z,ok)=>.ok (n,⟨i,c',ch,z,ok,st⟩)
   |_=>.error "seat no receive"
def HM(c:dw):Option Oper:=
 match c with
 |⟨⟨_,_,_,.inRegion ops (i::_)::_,_,.run,kind⟩,_,_⟩=>match gI kind with
  |true=>none
  |false=>match ops[i]? with
   |some o=>match o.guard with
    |none=>some o
    |some _=>none
   |none=>none
 |_=>none
def MK(ch:Nat):List eW->Option (eW×List eW)
 |[]=>none
 |s::l=>match Nat.beq s.ch ch with
  |true=>some (s,l)
  |false=>match MK ch l with
   |some (t,r)=>some (t,s::r)
   |none=>none
def tg(ok:Bool)(v:AV):AV:=
 match ok with
 |true=>.tuple [v,.bool (.lit true)]
 |false=>v
def give?(P:Program)(O:dP)(x y:Operand)(st:yK):M yK:=
 match st with
 |⟨h,⟨da,callers,⟨hp,nb,eH⟩⟩,cq,next,deaf⟩=>match deaf,fC da.tmps x with
  |0,.chan (some (.cN ch))=>match MK ch cq with
   |none=>.error "send nobody sits there"
   |some (s,rest)=>match ey s.cJ.da (tg s.ok (fC da.tmps y)),ey da cx with
    |.ok tk,.ok gv=>
     match(match Nat.beq h 0 with|true=>false|false=>leave? P O.ij jF 400 ⟨gv,callers,e0⟩)with
     |true=>match je hp cq with
      |true=>.ok ⟨s.id,⟨tk,s.cJ.callers,⟨kq rest hp,nb,eH⟩⟩,rest,next,0⟩
      |false=>.error "send seats"
     |false=>match seat? P O hp h ⟨gv,callers,e0⟩with
      |.error e=>.error e
      |.ok (_,s')=>match je hp cq,oK hp s'.ch,iW hp s'.gi,uf h s'.ch cq with
       |true,true,true,true=>.ok ⟨s.id,⟨tk,s.cJ.callers,⟨kq (s'::rest) hp,nb,eH⟩⟩,s'::rest,next,0⟩
       |_,_,_,_=>.error "send the givers seat"
    |_,_=>.error "send finish"
  |_,_=>.error "send no channel"
def hire?(P:Program)(O:dP)(call:Call)(type:TypeId)(st:yK):M yK:=
 match st with
 |⟨h,⟨da,callers,⟨hp,nb,eH⟩⟩,cq,next,deaf⟩=>match deaf,resolve? (fC da.tmps) call type with
  |0,.ok ⟨.fn (.func f) cap,args⟩=>match O.Jv.contains f,fD P f (args++cap) .deferred,ey da cx with
   |true,.ok fr,.ok gv=>match seat? P O hp next ⟨fr,[],e0⟩with
    |.error e=>.error e
    |.ok (_,s')=>match je hp cq,oK hp s'.ch,iW hp s'.gi,uf next s'.ch cq with
     |true,true,true,true=>.ok ⟨h,⟨gv,callers,⟨kq (s'::cq) hp,nb,eH⟩⟩,s'::cq,next+1,0⟩
     |_,_,_,_=>.error "go the childs seat"
   |_,_,_=>.error "go enter"
  |_,.ok _=>.error "go no function"
  |_,.error e=>.error e
def markOf?(O:dP)(t:TT)(c:Call):Option Bool:=
 match c.callee with
 |.value x=>match c.args.toList with
  |[]=>match fC t x with
   |.func (.func f) [] []=>look (fun a b=>Nat.beq a b) f O.WN
   |_=>none
  |_=>none
 |_=>none
def Ku(Fs:Bool)(n:Nat):Nat:=
 match Fs with
 |true=>n+1
 |false=>n-1
def Bh(P:Program)(f:FuncId):Bool:=
 match P.funcs[f]? with
 |some fn=>match fn.results.toList with
  |[.tmp _]=>(P.inits.idxOf? f).isNone
  |_=>false
 |none=>false
def crew1?(P:Program)(O:dP)(ext:Ext)(sum:om)(f:Nat)(st:yK):M (yK⊕AV):=
 let uu:M (yK⊕AV):=match step? P O ext (fun g args h=>match sum g args h with
   |some r=>r
   |none=>match fD P g args .normal with
    |.ok fr=>run? P O ext sum f ⟨fr,[],h⟩
    |.error e=>.error e) st.c with
  |.ok (.inl c)=>.ok (.inl {st with c})
  |.ok (.inr (.returned v,_))=>match Nat.beq st.h 0,st.cq,st.c.callers,Bh P st.c.da.fn,st.deaf with
   |true,[],[],true,0=>.ok (.inr v)
   |_,_,_,_,_=>.error "the end somebody waits"
  |.ok (.inr _)=>.error "the end a panic"
  |.error e=>.error e
 match HM st.c with
 |some o=>match o.op with
  |.send x y=>match give? P O x y st with
   |.ok s=>.ok (.inl s)
   |.error e=>.error e
  |.go c=>match hire? P O c o.type st with
   |.ok s=>.ok (.inl s)
   |.error e=>.error e
  |.call c=>match markOf? O st.c.da.tmps c with
   |some Fs=>match ey st.c.da cx with
    |.ok fr=>.ok (.inl {st with c:=⟨fr,st.c.callers,st.c.h⟩,deaf:=Ku Fs st.deaf})
    |.error e=>.error e
   |none=>uu
  |_=>uu
 |none=>uu
def crew?(P:Program)(O:dP)(ext:Ext)(sum:om)(f n:Nat):yK->M (yK⊕AV):=
 Nat.rec (fun c=>.ok (.inl c)) (fun _ ih c=>match crew1? P O ext sum f c with
  |.ok (.inl c)=>ih c
  |.ok (.inr r)=>.ok (.inr r)
  |.error e=>.error e) n
def cchunk?(P:Program)(O:dP)(ext:Ext)(sum:om)(f n:Nat)(ks:List Nat)(st:yK):M yK:=
 match crew? P O ext sum f n st with
 |.ok (.inl ⟨h,⟨da,callers,⟨hp,nb,eH⟩⟩,cq,next,deaf⟩)=>.ok ⟨h,⟨da,callers,⟨aiW hp ks,nb,eH⟩⟩,cq,next,deaf⟩
 |.ok (.inr _)=>.error "chunk it ends"
 |.error e=>.error e
end
end Go.Proofs.Ythaddgfbohmfoaa.SX
namespace Go.Proofs.Ythaddgfbohmfoaa.SX.Tok
open Go.Conc
open _root_.List renaming mem_cons->ac,not_mem_nil->ae
open _root_.Nat renaming le_refl->aq,lt_succ_self->a_
open _root_.Option.some renaming inj->au
structure kX(St:Nat->Loc->Prop)(Mem:Nat->Prop)(h:Nat)(t:Trace):Prop where
 clean:∀said,¬Race said t
 known:∀i a,touchAt t i=some a->a.loc.isMemory=true->Knows t h i∨(a.write=false∧∃g,t.g? i=some g∧g≠h∧St g a.loc)
 dF:∀i a,touchAt t i=some a->a.write=true->∀g,St g a.loc->Knows t g i
 hears:∀g,Mem g->Deaf t g=0
section
variable {St:Nat->Loc->Prop}{Mem:Nat->Prop}{h j g:Nat}{t u:Trace}
theorem kX.old(H:kX St Mem h t){i:Nat}{a:Touch}{x:MemOp}(hx:t[i]?=some x)(pf:x.act.touch?=some a)(hm:a.loc.isMemory=true):
  Knows (t++u) h i∨(a.write=false∧∃g,(t++u).g? i=some g∧g≠h∧St g a.loc):=
 (H.known i a (by rw[touchAt_of hx];exact pf) hm).imp (Knows.app u) fun⟨p,g,hg,hn,hs⟩=>⟨p,g,by rw[g?_old (lt_size_of_getElem? hx)];exact hg,hn,hs⟩
theorem kX.xU(H:kX St Mem h t)(hu:∀op∈u,op.g=g)(hd:Mem g->Deaf (t++u) g=Deaf t g):∀g',Mem g'->Deaf (t++u) g'=0:=fun g' Xo=>by
 by_cases e:g'=g
 ·subst e;exact(hd Xo).trans (H.hears g' Xo)
 ·exact(Deaf_other t (fun x=>e x.symm) u hu).trans (H.hears g' Xo)
theorem kX.mute(H:kX St Mem h t)(hu:∀op∈u,op.g=g)(hn:∀op∈u,op.act.touch?=none)(hd:Mem g->Deaf (t++u) g=Deaf t g):kX St Mem h (t++u):=by
 refine⟨fun said=>noRace_appendMute (H.clean said) hn,fun i a ha hm=>?_,fun i a ha hw g' Xo=>?_,H.xU hu hd⟩
 ·obtain⟨x,hx,pf⟩:=touch_of ha;rcases getElem?_append_cases hx with⟨_,mE⟩|⟨_,zi⟩
  ·exact H.old mE pf hm
  ·rw[hn x zi]at pf;cases pf
 ·obtain⟨x,hx,pf⟩:=touch_of ha;rcases getElem?_append_cases hx with⟨_,mE⟩|⟨_,zi⟩
  ·exact(H.dF i a (by rw[touchAt_of mE];exact pf) hw g' Xo).app u
  ·rw[hn x zi]at pf;cases pf
theorem kX.read(H:kX St Mem h t)(hg:g≠h)(hu:∀op∈u,op.g=g)(hr:∀op∈u,∀b,op.act.touch?=some b->b.write=false∧St g b.loc)(hd:Deaf (t++u) g=Deaf t g):kX St Mem h (t++u):=by
 refine⟨fun said=>noRace_append (H.clean said) hu fun i a ha op fY b hb hc=>?_,fun i a ha hm=>?_,fun i a ha hw g' Xo=>?_,H.xU hu fun _=>hd⟩
 ·obtain⟨GV,hbS⟩:=hr op fY b hb;rcases hc.2.2.1 with x|x
  ·exact H.dF i a ha x g (hc.1▸hbS)
  ·rw[GV]at x;cases x
 ·obtain⟨x,hx,pf⟩:=touch_of ha;rcases getElem?_append_cases hx with⟨_,mE⟩|⟨_,zi⟩
  ·exact H.old mE pf hm
  ·exact .inr ⟨(hr x zi a pf).1,g,by rw[g?_of hx,hu x zi],hg,(hr x zi a pf).2⟩
 ·obtain⟨x,hx,pf⟩:=touch_of ha;rcases getElem?_append_cases hx with⟨_,mE⟩|⟨_,zi⟩
  ·exact(H.dF i a (by rw[touchAt_of mE];exact pf) hw g' Xo).app u
  ·rw[(hr x zi a pf).1]at hw;cases hw
theorem kX.own(H:kX St Mem h t)(hu:∀op∈u,op.g=h)(hs:∀op∈u,∀b,op.act.touch?=some b->∀g,St g b.loc->b.write=false)(hd:Mem h->Deaf (t++u) h=Deaf t h):kX St Mem h (t++u):=by
 refine⟨fun said=>noRace_append (H.clean said) hu fun i a ha op fY b hb hc=>?_,fun i a ha hm=>?_,fun i a ha hw g hg=>?_,H.xU hu hd⟩
 ·rcases H.known i a ha hc.2.1 with hk|⟨hw,g,_,_,hS⟩
  ·exact hk
  ·have GV:=hs op fY b hb g (hc.1▸hS);rcases hc.2.2.1 with x|x
   ·rw[hw]at x;cases x
   ·rw[GV]at x;cases x
 ·obtain⟨x,hx,pf⟩:=touch_of ha;rcases getElem?_append_cases hx with⟨_,mE⟩|⟨_,zi⟩
  ·exact H.old mE pf hm
  ·have:=knows_own hx;rw[hu x zi]at this;exact .inl this
 ·obtain⟨x,hx,pf⟩:=touch_of ha;rcases getElem?_append_cases hx with⟨_,mE⟩|⟨_,zi⟩
  ·exact(H.dF i a (by rw[touchAt_of mE];exact pf) hw g hg).app u
  ·rw[hs x zi a pf g hg]at hw;cases hw
theorem kX.HN{ado:Nat->Prop}(H:kX St Mem h t)(hu:∀op∈u,op.g=h)(hn:∀op∈u,op.act.touch?=none)(h1:∀g,ado g->g≠h->Mem g)(h2:ado h->Deaf (t++u) h=0):kX St ado h (t++u):=by
 refine⟨fun said=>noRace_appendMute (H.clean said) hn,fun i a ha hm=>?_,fun i a ha hw g' Xo=>?_,fun g hg=>?_⟩
 ·obtain⟨x,hx,pf⟩:=touch_of ha;rcases getElem?_append_cases hx with⟨_,mE⟩|⟨_,zi⟩
  ·exact H.old mE pf hm
  ·rw[hn x zi]at pf;cases pf
 ·obtain⟨x,hx,pf⟩:=touch_of ha;rcases getElem?_append_cases hx with⟨_,mE⟩|⟨_,zi⟩
  ·exact(H.dF i a (by rw[touchAt_of mE];exact pf) hw g' Xo).app u
  ·rw[hn x zi]at pf;cases pf
 ·by_cases e:g=h
  ·subst e;exact h2 hg
  ·exact(Deaf_other t (fun x=>e x.symm) u hu).trans (H.hears g (h1 g hg e))
theorem kX.Bi(H:kX St Mem h t)(hh:Mem h)(hj:Mem j)(Bj:j≠h){Sk:Nat->Loc->Prop}(h1:∀g l,g≠h->g≠j->Sk g l->St g l)(Fv:∀g l,g≠h->g≠j->St g l->Sk g l)(h2:∀l,¬Sk j l)(h3:∀l,Sk h l->l.isMemory=true)
 (fh:FuncId)(ph:String)(fj:FuncId)(pj:String){c:Nat}(k cap:Nat):kX Sk Mem j (t++met h j fh ph fj pj c k cap):=by
 have hn:=met_mute h j fh ph fj pj c k cap;have hq:=met_quiet h j fh ph fj pj c k cap;have e0:(t++met h j fh ph fj pj c k cap)[t.size]?=some {g:=h,fn:=fh,pos:=ph,act:=.send c k}:=by simp[met]
 have e3:(t++met h j fh ph fj pj c k cap)[t.size+3]?=some {g:=j,fn:=fj,pos:=pj,act:=.recvDone c k}:=by simp[met]
 have adp:HappensBefore (t++met h j fh ph fj pj c k cap) t.size (t.size+3):=
  Relation.TransGen.single (.inr ⟨.handOver (act?_of e0) (act?_of e3),⟨h,g?_of e0,by rw[deaf_old (aq _)];exact H.hears h hh⟩,⟨j,g?_of e3,by rw[deaf_quiet (hq j) 3 (by simp[met])];exact H.hears j hj⟩⟩)
 refine⟨fun said=>noRace_appendMute (H.clean said) hn,fun i a ha hm=>?_,fun i a ha hw g hg=>?_,fun g hg=>(Deaf_quiet (hq g)).trans (H.hears g hg)⟩
 ·obtain⟨x,hx,pf⟩:=touch_of ha;rcases getElem?_append_cases hx with⟨hi,mE⟩|⟨_,zi⟩
  ·rcases H.known i a (by rw[touchAt_of mE];exact pf) hm with hk|⟨p,g,hg,hgh,hS⟩
   ·exact .inl ⟨t.size+3,_,e3,rfl,.inr ((hk.hb_new (aq _) e0 rfl).trans adp)⟩
   ·by_cases e:g=j
    ·subst e;have:=knows_own hx;rw[show x.g=g from by have:=g?_of mE;rw[hg]at this;exact(au this).symm]at this;exact .inl this
    ·exact .inr ⟨p,g,by rw[g?_old hi];exact hg,e,Fv g _ hgh e hS⟩
  ·rw[hn x zi]at pf;cases pf
 ·obtain⟨x,hx,pf⟩:=touch_of ha;rcases getElem?_append_cases hx with⟨_,mE⟩|⟨_,zi⟩
  ·have ht:touchAt t i=some a:=by rw[touchAt_of mE];exact pf
   by_cases ej:g=j
   ·exact absurd (ej▸hg) (h2 _)
   by_cases eh:g=h
   ·subst eh;rcases H.known i a ht (h3 _ hg)with hk|⟨p,_⟩
    ·exact hk.app _
    ·rw[p]at hw;cases hw
   ·exact(H.dF i a ht hw g (h1 g _ eh ej hg)).app _
  ·rw[hn x zi]at pf;cases pf
theorem kX.OU(H:kX St Mem h t)(hh:Mem h){c:Nat}(hc0:Deaf t c=0)(xV:c≠h){Sk:Nat->Loc->Prop}(h1:∀g l,g≠c->(Sk g l↔St g l))(hc:∀l,¬St c l)(h3:∀l,Sk c l->l.isMemory=true)(fh:FuncId)(ph:String)(fc:FuncId):
  kX Sk (fun g=>Mem g∨g=c) h (t++#[{g:=h,fn:=fh,pos:=ph,act:=.go c},{g:=c,fn:=fc,pos:=ph,act:=.start}]):=by
 generalize hu:(#[{g:=h,fn:=fh,pos:=ph,act:=.go c},{g:=c,fn:=fc,pos:=ph,act:=.start}]:Trace)=u;have hn:∀op∈u,op.act.touch?=none:=by intro op fY;subst hu;simp only[List.mem_toArray,ac,ae,or_false]at fY;rcases fY with rfl|rfl<;>rfl
 have hq:∀g,∀op∈u,∀d,deafStep g d op=d:=by intro g op fY d;subst hu;simp only[List.mem_toArray,ac,ae,or_false]at fY;rcases fY with rfl|rfl<;>rfl
 have e0:(t++u)[t.size]?=some {g:=h,fn:=fh,pos:=ph,act:=.go c}:=by subst hu;simp
 have e1:(t++u)[t.size+1]?=some {g:=c,fn:=fc,pos:=ph,act:=.start}:=by subst hu;simp
 have adp:HappensBefore (t++u) t.size (t.size+1):=
  Relation.TransGen.single (.inr ⟨.spawn (act?_of e0) (act?_of e1) (g?_of e1),⟨h,g?_of e0,by rw[deaf_old (aq _)];exact H.hears h hh⟩,⟨c,g?_of e1,by rw[deaf_quiet (hq c) 1 (by subst hu;simp)];exact hc0⟩⟩)
 refine⟨fun said=>noRace_appendMute (H.clean said) hn,fun i a ha hm=>?_,fun i a ha hw g hg=>?_,fun g hg=>(Deaf_quiet (hq g)).trans (hg.elim (H.hears g) fun e=>e▸hc0)⟩
 ·obtain⟨x,hx,pf⟩:=touch_of ha;rcases getElem?_append_cases hx with⟨_,mE⟩|⟨_,zi⟩
  ·refine(H.old mE pf hm).imp id fun⟨p,g,hg,hgh,hS⟩=>⟨p,g,hg,hgh,(h1 g _ fun e=>hc _ (e▸hS)).2 hS⟩
  ·rw[hn x zi]at pf;cases pf
 ·obtain⟨x,hx,pf⟩:=touch_of ha;rcases getElem?_append_cases hx with⟨_,mE⟩|⟨_,zi⟩
  ·have ht:touchAt t i=some a:=by rw[touchAt_of mE];exact pf
   by_cases ec:g=c
   ·subst ec;rcases H.known i a ht (h3 _ hg)with hk|⟨p,_⟩
    ·exact⟨t.size+1,_,e1,rfl,.inr ((hk.hb_new (aq _) e0 rfl).trans adp)⟩
    ·rw[p]at hw;cases hw
   ·exact(H.dF i a ht hw g ((h1 g _ ec).1 hg)).app _
  ·rw[hn x zi]at pf;cases pf
theorem kX.over(H:kX St Mem 0 t)(h0:Mem 0)(hS:∀g l,¬St g l){B:Nat}(hB:∀op∈t,op.act.low B):Past (fun _=>False) B t:=by
 have hk:∀i a,touchAt t i=some a->a.loc.isMemory=true->Knows t 0 i:=fun i a ha hm=>(H.known i a ha hm).elim id fun⟨_,g,_,_,hs⟩=>absurd hs (hS g _);refine⟨H.clean,fun i a ha hm=>.inl (hk i a ha hm),fun i g hg df ⟨x,hx,hm,_⟩=>?_,H.hears 0 h0,hB⟩;obtain⟨q,z,hq,hz,hb⟩:=hk i x hx hm;rcases hb with rfl|hb
 ·rw[g?_of hq,hz]at hg;exact absurd (au hg).symm df
 ·exact⟨q,by rw[g?_of hq,hz],hb⟩
theorem Sl(t:Trace):∃B,∀op∈t,op.act.low B:=by
 have one:∀a:MemAct,∃B,a.low B:=by
  have loc:∀l:Loc,∃B,l.low B:=fun l=>by
   cases l with
   |cell a=>exact⟨a.block+1,a_ _⟩
   |obj r=>exact⟨r+1,a_ _⟩
   |_=>exact⟨0,trivial⟩
  intro a;cases a with
  |access e=>exact loc e.loc
  |mark m=>cases m<;>first|exact⟨0,trivial⟩|exact⟨_,a_ _⟩
  |go _|start=>exact⟨0,trivial⟩
  |send _ _|sendDone _ _|recv _ _ _|recvDone _ _|close _|recvClosed _=>exact⟨_,a_ _⟩
 have:∀l:List MemOp,∃B,∀op∈l,op.act.low B:=by
  intro l
  induction l with
  |nil=>exact⟨0,fun _ h=>by cases h⟩
  |cons x l ih=>
   obtain⟨B,hB⟩:=ih;obtain⟨C,hC⟩:=one x.act;refine⟨B+C,fun op fY=>?_⟩;rcases ac.1 fY with rfl|fY
   ·exact MemAct.low_mono (Nat.le_add_left _ _) hC
   ·exact MemAct.low_mono (Nat.le_add_right _ _) (hB op fY)
 obtain⟨B,hB⟩:=this t.toList;exact⟨B,fun op fY=>hB op (by simpa using fY)⟩
end
end Go.Proofs.Ythaddgfbohmfoaa.SX.Tok
namespace Go.Proofs.Ythaddgfbohmfoaa.SX.Tok
open Go.Conc
open Go.ConcN (sumTo upd sumTo_upd upd_ne upd_same)
open _root_.List renaming mem_cons->ac,not_mem_nil->ae
open _root_.Nat renaming le_refl->aq
open _root_.Option.some renaming inj->au
open _root_.Array renaming getElem?_setIfInBounds_ne->aC,getElem?_setIfInBounds_self_of_lt->aQ,getElem?_eq_getElem->aT,getElem?_eq_some_iff->bc
structure Seat where
 c:Nat
 z:Value
 ok:Bool
 still:Loc->Prop
 dE:World->Prop
 B:Nat
 home:Goroutine->Prop
def Seat.base(s:Seat):Conc.Seat:=Conc.Seat.one s.c s.z s.ok s.home
structure Seat.Wf(s:Seat):Prop where
 eG:∀w d,s.dE w->s.dE (w.at d)
 chan:∀w c cap buf cl a b tm cap' adq rX a' b' MD,w.heap[c]?=some (.chan cap buf cl a b tm)->s.dE w->s.dE (w.setChan c cap' adq rX a' b' MD)
 mem:∀l,s.still l->l.isMemory=true
def Rest(P:Program)(T:Trace)(i n:Nat)(g:Goroutine):Option Seat->Prop
 |none=>0<i∧QuitsD P n (Deaf T i) g
 |some s=>Sits P (i==0) s.dE s.still s.B s.base n g
def St(bJ:Nat->Option Seat)(g:Nat)(l:Loc):Prop:=∃s,bJ g=some s∧s.still l
def Mem(bJ:Nat->Option Seat)(h dd g:Nat):Prop:=(g=h∧dd=0)∨∃s,bJ g=some s
structure fM(P:Program)(bJ:Nat->Option Seat)(h dd:Nat)(T:Trace)(gs:Array Goroutine)(w:World)(q:Nat->Nat):Prop where
 vw:∀i g,i≠h->gs[i]?=some g->Rest P T i (q i) g (bJ i)
 qD:∀i s,bJ i=some s->∃k,w.heap[s.c]?=some (.chan 0 #[] false k k false)
 wf:∀i s,bJ i=some s->s.Wf
 inj:∀i i' s s',bJ i=some s->bJ i'=some s'->s.c=s'.c->i=i'
 above:∀j,gs.size≤j->Deaf T j=0∧bJ j=none
 wI:bJ h=none
 xW:kX (St bJ) (Mem bJ h dd) h T
 deaf:Deaf T h=dd
 dE:∀i s,bJ i=some s->s.dE w
section
variable {P:Program}{bJ:Nat->Option Seat}{h dd:Nat}{T:Trace}{gs:Array Goroutine}{w:World}{q:Nat->Nat}
theorem Sm{s:Seat}{c:Nat}:s.base.has c↔c=s.c:=Conc.Seat.one_has
theorem ML(s:Seat):s.base.Wf:=Conc.Seat.one_wf _ _ _ _
theorem rx(s:Seat):s.base.cases=#[rcase s.c s.z]:=rfl
theorem fM.Sn(C:fM P bJ h dd T gs w q){x:Nat}{y:Goroutine}(hx:x≠h)(hy:gs[x]?=some y):y.again w=y:=by
 have hr:=C.vw x y hx hy;cases e:bJ x with
 |none=>rw[e]at hr;exact again_of_running hr.2.status w
 |some s=>rw[e]at hr;exact Sits.again (C.dE x s e) hr (ML s) fun c hc=>by obtain rfl:=Sm.1 hc;obtain⟨k,hk⟩:=C.qD x s e;exact⟨_,_,_,_,_,hk⟩
theorem fM.So(C:fM P bJ h dd T gs w q){x:Nat}{y:Goroutine}(hx:x≠h)(hy:gs[x]?=some y)(c:Nat):offersAt y c true=[]:=by
 have hr:=C.vw x y hx hy;cases e:bJ x with
 |none=>rw[e]at hr;exact offersAt_of_not_blocked (fun hb=>by rcases hr.2.status with z|z<;>rw[z]at hb<;>cases hb) c true
 |some s=>
  rw[e]at hr;rcases hr with⟨k,qE,hq,hg⟩|⟨_,_,g₂,rfl,_⟩
  ·have:=(Sits.status (C.dE x s e) (.inl ⟨k,qE,hq,hg⟩)).elim (·.1) (fun z=>by omega);exact offersAt_of_not_blocked (fun hb=>by rw[this]at hb;cases hb) c true
  ·exact offersAt_parked_sends (fun cc Jz=>by obtain⟨c',z',rfl⟩:=(ML s).recvs cc Jz;rfl) _
theorem fM.Sq(C:fM P bJ h dd T gs w q){x:Nat}{y:Goroutine}(hx:x≠h)(hy:gs[x]?=some y){c:Nat}(hc:∀s,bJ x=some s->s.c≠c):offersAt y c false=[]:=by
 have hr:=C.vw x y hx hy;cases e:bJ x with
 |none=>rw[e]at hr;exact offersAt_of_not_blocked (fun hb=>by rcases hr.2.status with z|z<;>rw[z]at hb<;>cases hb) c false
 |some s=>
  rw[e]at hr;rcases hr with⟨k,qE,hq,hg⟩|⟨_,_,g₂,rfl,_⟩
  ·have:=(Sits.status (C.dE x s e) (.inl ⟨k,qE,hq,hg⟩)).elim (·.1) (fun z=>by omega);exact offersAt_of_not_blocked (fun hb=>by rw[this]at hb;cases hb) c false
  ·refine offersAt_parked_off (fun cc Jz ec=>?_) _;rw[rx]at Jz;obtain rfl:cc=rcase s.c s.z:=by simpa using Jz
   simp only[rcase,Value.chan.injEq,Option.some.injEq]at ec;exact hc s e ec
theorem fM.at(C:fM P bJ h dd T gs w q)(d:Nat):fM P bJ h dd T gs (w.at d) q:=
 ⟨C.vw,C.qD,C.wf,C.inj,C.above,C.wI,C.xW,C.deaf,fun i s e=>(C.wf i s e).eG w d (C.dE i s e)⟩
theorem fM.put(C:fM P bJ h dd T gs w q){i n':Nat}{g':Goroutine}{ops:Array MemOp}{iZ:Array Goroutine}(MM:i≠h)(dU:i<gs.size)(hsz:iZ.size=gs.size)(adr:∀x,x≠i->iZ[x]?=gs[x]?)(MN:iZ[i]?=some g')
 (gu:∀op∈ops,op.g=i)(aiY:Rest P (T++ops) i n' g' (bJ i))(MO:kX (St bJ) (Mem bJ h dd) h (T++ops)):fM P bJ h dd (T++ops) iZ w (upd q i n'):=by
 refine⟨fun x y hx hy=>?_,C.qD,C.wf,C.inj,fun j hj=>⟨?_,(C.above j (by omega)).2⟩,C.wI,MO,(Deaf_other T MM ops gu).trans C.deaf,C.dE⟩
 ·by_cases e:x=i
  ·subst e;rw[MN]at hy;obtain rfl:=au hy;rw[upd_same];exact aiY
  ·rw[adr x e]at hy;rw[upd_ne q n' e];have hr:=C.vw x y hx hy;cases es:bJ x with
   |none=>rw[es]at hr;exact⟨hr.1,by rw[Deaf_other T (fun z=>e z.symm) ops gu];exact hr.2⟩
   |some s=>rw[es]at hr;exact hr
 ·rw[Deaf_other T (g':=i) (by omega) ops gu];exact(C.above j (by omega)).1
theorem Bl{s:Seat}{i:Nat}{fn:FuncId}{pos:String}{es:Array Event}(he:∀e∈es,EvC s.still s.B e):
  (∀op∈MemOp.ofEvents i fn pos es,op.g=i)∧(∀op∈MemOp.ofEvents i fn pos es,∀b,op.act.touch?=some b->b.write=false∧s.still b.loc)∧∀t:Trace,Deaf (t++MemOp.ofEvents i fn pos es) i=Deaf t i:=by
 obtain⟨a,b,_,d⟩:=evC_ops (i:=i) (fn:=fn) (pos:=pos) he;exact⟨a,b,d⟩
theorem fM.MP(C:fM P bJ h dd T gs w q){i:Nat}{g:Goroutine}{sl:Option (Nat×Nat)}(hi:gs[i]?=some g)(MM:i≠h)(fJ:g.status=.running)
 (hsA:∀gx,gs[h]?=some gx->gx.again w=gx)(hsO:∀s g₂,bJ i=some s->AtIn P (i==0) s.dE s.still s.B s.base g g₂->∀gx,gs[h]?=some gx->offersAt gx s.c true=[]):
  ∃(iZ:Array Goroutine) (ops:Array MemOp) (q':Nat->Nat),runT P (crowd gs w sl) i=(.next (crowd iZ w sl),ops)∧iZ.size=gs.size∧iZ[h]?=gs[h]?∧(∀x,x≠i->q' x=q x)∧(∀s,bJ i=some s->q' i=0->∃g₂,AtIn P (i==0) s.dE s.still s.B s.base g g₂)∧
   fM P bJ h dd (T++ops) iZ w q'∧sumTo gs.size q'<sumTo gs.size q:=by
 have dU:i<gs.size:=(bc.1 hi).1;have apr:∀(a a':Goroutine) (x:Nat) (y:Goroutine),gs[x]?=some y->woken P a a' w y=y:=fun a a' x y hy=>woken_of_again (by
  by_cases hx:x=h
  ·subst hx;exact hsA y hy
  ·exact C.Sn hx hy)
 have wo:∀(a' g':Goroutine) (x:Nat),x≠i->((gs.map (woken P g a' w)).setIfInBounds i g')[x]?=gs[x]?:=by
  intro a' g' x hx;rw[aC (fun e=>hx e.symm),Array.getElem?_map];cases e:gs[x]? with
  |none=>rfl
  |some y=>simp[apr g a' x y e]
 have MN:∀(a' g':Goroutine),((gs.map (woken P g a' w)).setIfInBounds i g')[i]?=some g':=fun a' g'=>aQ (by simpa using dU);have aiZ:∀k,q i=k+1->sumTo gs.size (upd q i k)<sumTo gs.size q:=by
  intro k hqi;have h2:sumTo gs.size (upd q i k)+(k+1)=sumTo gs.size q+k:=by have:=sumTo_upd q k id dU;simpa[hqi] using this
  omega
 have GX:=C.vw i g MM hi;cases e:bJ i with
 |none=>
  rw[e]at GX;obtain⟨kY,hq⟩:=GX;have Xp:(i==0)=false:=by simp;omega
  cases hqi:q i with
  |zero=>rw[hqi]at hq;rw[hq.1]at fJ;cases fJ
  |succ k=>
   rw[hqi]at hq;rcases hq with⟨hf,_⟩|⟨_,g',es,hm,Sr,km⟩
   ·rw[hf]at fJ;cases fJ
   have gu:∀op∈MemOp.ofEvents i g.frame.fn g.frame.place es,op.g=i:=fun op fY=>by obtain⟨e,_,rfl⟩:=Conc.mem_ofEvents fY;rfl
   refine⟨_,_,upd q i k,runT_crowd_go (sl:=sl) hi (by rw[Xp];exact Sr w),by simp,wo _ _ h (Ne.symm MM),fun x hx=>upd_ne q k hx,fun s hs _=>(by cases hs),?_,aiZ k hqi⟩;refine C.put MM dU (by simp) (wo _ _) (MN _ _) gu (by rw[e];exact⟨kY,by rw[Deaf_own];exact km⟩) ?_;exact C.xW.mute gu (fun op fY=>by obtain⟨e,he,rfl⟩:=Conc.mem_ofEvents fY;exact touch_mute (hm e he)) (fun hM=>by
    rcases hM with z|⟨s,z⟩
    ·exact absurd z.1 MM
    ·rw[e]at z;cases z)
 |some s=>
  rw[e]at GX;have OV:=C.dE i s e;obtain⟨k,qE,hqi,hg⟩:∃k qE,q i=k+1∧Goes P (i==0) (RK s.dE) (DS s.still s.B) (fun g _=>∃g₂,AtIn P (i==0) s.dE s.still s.B s.base g g₂) k g qE:=by
   rcases GX with h|⟨_,_,g₂,rfl,_⟩
   ·exact h
   ·cases fJ
  have ai0:(∃g₂,AtIn P (i==0) s.dE s.still s.B s.base g g₂)∨∃k' g' es,k=k'+1∧stepG P (i==0) g w=.go g' w es∧(∀e∈es,EvC s.still s.B e)∧Goes P (i==0) (RK s.dE) (DS s.still s.B) (fun g _=>∃g₂,AtIn P (i==0) s.dE s.still s.B s.base g g₂) k' g' w:=by
   cases k with
   |zero=>exact .inl (hg w OV)
   |succ k'=>
    rcases hg with ai1|⟨_,HO⟩
    ·exact .inl (ai1 w OV)
    ·have hs:=HO w OV;cases yL:stepG P (i==0) g w with
     |go g' w' es=>rw[yL,goes_go]at hs;obtain⟨⟨rfl,qS⟩,hG'⟩:=hs;exact .inr ⟨k',g',es,rfl,rfl,qS,hG'⟩
     |_=>rw[yL]at hs;exact hs.elim
  rcases ai0 with⟨g₂,QX⟩|⟨k',g',es,rfl,yL,qS,hG'⟩
  ·have apt:=hsO s g₂ e QX;obtain⟨_,_,_,_,_,es,qS,Sr⟩:=id QX;obtain⟨gu,hr,hd⟩:=Bl (s:=s) (i:=i) (fn:=g.frame.fn) (pos:=g.frame.place) qS;have hw:∀cc∈s.base.cases,NoWays w (gs.setIfInBounds i ph) cc:=by
    intro cc Jz;rw[rx]at Jz;obtain rfl:cc=rcase s.c s.z:=by simpa using Jz
    obtain⟨kk,hc⟩:=C.qD i s e;refine ways_recv_none hc (partners_nil fun x y hy=>?_);rcases getElem?_stand gs i x y hy with⟨_,rfl⟩|⟨hx,D4⟩
    ·exact offersAt_ph _ _
    ·by_cases hS:x=h
     ·subst hS;exact apt y D4
     ·exact C.So hS D4 _
   refine⟨_,_,upd q i 0,crowd_waits (sl:=sl) hi (Sr w OV) hw,by simp,aC MM,fun x hx=>upd_ne q 0 hx,fun s' OH _=>(by obtain rfl:=au OH;exact⟨g₂,QX⟩),?_,?_⟩
   ·refine C.put MM dU (by simp) (fun x hx=>aC (fun z=>hx z.symm)) (aQ dU) gu (by rw[e];exact .inr ⟨rfl,g,g₂,rfl,QX⟩) ?_;exact C.xW.read MM gu (fun op fY b hb=>⟨(hr op fY b hb).1,s,e,(hr op fY b hb).2⟩) (hd T)
   ·have h2:sumTo gs.size (upd q i 0)+(k+1)=sumTo gs.size q+0:=by
     have:=sumTo_upd q 0 id dU;simpa[hqi] using this
    omega
  ·obtain⟨gu,hr,hd⟩:=Bl (s:=s) (i:=i) (fn:=g.frame.fn) (pos:=g.frame.place) qS;refine⟨_,_,upd q i (k'+1),runT_crowd_go (sl:=sl) hi yL,by simp,wo _ _ h (Ne.symm MM),fun x hx=>upd_ne q _ hx,fun s' _ h0=>(by rw[upd_same]at h0;omega),?_,aiZ _ hqi⟩;refine C.put MM dU (by simp) (wo _ _) (MN _ _) gu (by rw[e];exact .inl ⟨k',w,rfl,hG'⟩) ?_;exact C.xW.read MM gu (fun op fY b hb=>⟨(hr op fY b hb).1,s,e,(hr op fY b hb).2⟩) (hd T)
def EvH(bJ:Nat->Option Seat)(e:Event):Prop:=(∀x,(MemAct.ofEvent e).touch?=some x->∀g,St bJ g x.loc->x.write=false)∧e.loc≠.mark .disable∧e.loc≠.mark .enable
def HP(bJ:Nat->Option Seat)(w w':World)(es:Array Event):Prop:=
 (∀i s,bJ i=some s->s.dE w->s.dE w')∧(∀i s,bJ i=some s->w'.heap[s.c]?=w.heap[s.c]?)∧∀e∈es,EvH bJ e
theorem zN{i:Nat}{fn:FuncId}{pos:String}{es:Array Event}(he:∀e∈es,EvH bJ e):
  (∀op∈MemOp.ofEvents i fn pos es,op.g=i)∧(∀op∈MemOp.ofEvents i fn pos es,∀b,op.act.touch?=some b->∀g,St bJ g b.loc->b.write=false)∧∀t:Trace,Deaf (t++MemOp.ofEvents i fn pos es) i=Deaf t i:=
 ⟨fun op fY=>by obtain⟨e,_,rfl⟩:=Conc.mem_ofEvents fY;rfl,fun op fY b hb=>by obtain⟨e,h,rfl⟩:=Conc.mem_ofEvents fY;exact(he e h).1 b hb,
  fun t=>by rw[Deaf_own];exact deafBehind_still (fun e h=>⟨(he e h).2.1,(he e h).2.2⟩) _⟩
theorem fM.MQ(C:fM P bJ h dd T gs w q){ops:Array MemOp}(gu:∀op∈ops,op.g=h)(hd:Deaf (T++ops) h=Deaf T h):∀x,Deaf (T++ops) x=Deaf T x:=fun x=>by
 by_cases e:x=h
 ·subst e;exact hd
 ·exact Deaf_other T (fun z=>e z.symm) _ gu
theorem fM.own(C:fM P bJ h dd T gs w q){a a':Goroutine}{w':World}{es:Array Event}(ha:gs[h]?=some a)(hd:HP bJ w w' es):
  fM P bJ h dd (T++MemOp.ofEvents h a.frame.fn a.frame.place es) ((gs.map (woken P a a' w')).setIfInBounds h a') w' q∧((gs.map (woken P a a' w')).setIfInBounds h a')[h]?=some a':=by
 have dU:h<gs.size:=(bc.1 ha).1;obtain⟨gu,hs,OW⟩:=zN (i:=h) (fn:=a.frame.fn) (pos:=a.frame.place) hd.2.2;have hD:=C.MQ gu (OW T);have C':fM P bJ h dd T gs w' q:=⟨C.vw,fun i s e=>by obtain⟨k,hk⟩:=C.qD i s e;exact⟨k,by rw[hd.2.1 i s e];exact hk⟩,C.wf,C.inj,C.above,C.wI,C.xW,C.deaf,fun i s e=>hd.1 i s e (C.dE i s e)⟩;refine⟨⟨fun x y hx hy=>?_,C'.qD,C.wf,C.inj,fun j hj=>?_,C.wI,C.xW.own gu hs (fun _=>OW T),(OW T).trans C.deaf,C'.dE⟩,aQ (by simpa using dU)⟩
 ·rw[aC (fun e=>hx e.symm),Array.getElem?_map]at hy;obtain⟨ads,HQ,rfl⟩:=Option.map_eq_some_iff.1 hy;rw[woken_of_again (C'.Sn hx HQ)];have hi:=C.vw x ads hx HQ;cases es':bJ x with
  |none=>rw[es']at hi;exact⟨hi.1,by rw[hD];exact hi.2⟩
  |some s=>rw[es']at hi;exact hi
 ·simp only[Array.size_setIfInBounds,Array.size_map]at hj;rw[hD];exact C.above j hj
theorem fM.awake(C:fM P bJ h dd T gs w q){a:Goroutine}(ha:gs[h]?=some a)(hs:a.status=.running∨a.status=.blocked):∀g∈gs,awake g:=by
 intro g hg;obtain⟨i,hi,rfl⟩:=Array.mem_iff_getElem.1 hg;by_cases e:i=h
 ·subst e;have:gs[i]=a:=by simpa[aT hi] using ha
  rw[this];exact awake_of (hs.elim .inl fun x=>.inr (.inl x))
 ·have GX:=C.vw i _ e (aT hi);cases es:bJ i with
  |none=>rw[es]at GX;exact awake_of (GX.2.status.elim .inl fun x=>.inr (.inr x))
  |some s=>rw[es]at GX;exact awake_of ((Sits.status (C.dE i s es) GX).elim (fun x=>.inl x.1) fun x=>.inr (.inl x.1))
theorem Kv{a:Goroutine}{sl:Option (Nat×Nat)}(ha:gs[h]?=some a)(fJ:a.status=.running)(C:fM P bJ h dd T gs w q):
  ∃(N:Nat) (iZ:Array Goroutine) (d d':Nat) (pY adt:Option (Nat×Nat)) (T':Trace) (q':Nat->Nat),runNT P N (crowd gs w sl) T=(.next (crowd iZ (w.at d) pY),T')∧
   stepT P (crowd iZ (w.at d) pY)=runT P (crowd iZ (w.at d') adt) h∧iZ.size=gs.size∧iZ[h]?=some a∧fM P bJ h dd T' iZ (w.at d') q':=by
 obtain⟨N,m',T',hr,iZ,d,d',pY,adt,q',rfl,di,hsz,sJ,C'⟩:=runs_until (P:=P)
  (Inv:=fun μ m t=>∃dv d lT q₁,m=crowd dv (w.at d) lT∧dv.size=gs.size∧dv[h]?=some a∧fM P bJ h dd t dv (w.at d) q₁∧μ=sumTo dv.size q₁)
  (Done:=fun m t=>∃dv d d' lT uO q₁,m=crowd dv (w.at d) lT∧stepT P (crowd dv (w.at d) lT)=runT P (crowd dv (w.at d') uO) h∧dv.size=gs.size∧dv[h]?=some a∧fM P bJ h dd t dv (w.at d') q₁)
  (fun μ m t ⟨dv,d,lT,q₁,hm,hsz,ir,it,hμ⟩=>by
   subst hm;obtain⟨i,g,d',pY,hi,hg,di⟩:=crowd_pick (P:=P) (w:=w.at d) (sl:=lT) (it.awake ir (.inl fJ)) ⟨h,a,ir,fJ⟩;rw[at_at']at di;have Cd:fM P bJ h dd t dv (w.at d') q₁:=it.at d';by_cases e:i=h
   ·subst e;exact .inl ⟨dv,d,d',lT,pY,q₁,rfl,di,hsz,ir,Cd⟩
   ·obtain⟨iZ,ops,q',hrt,wJ,hsp,_,_,C',dU⟩:=Cd.MP (sl:=pY) hi e hg
     (fun gx Ss=>by rw[ir]at Ss;obtain rfl:=au Ss;exact again_of_running (.inl fJ) _)
     (fun s g₂ _ _ gx Ss=>by rw[ir]at Ss;obtain rfl:=au Ss;exact offersAt_of_not_blocked (by rw[fJ];simp) _ _)
    exact .inr ⟨_,_,sumTo iZ.size q',by rw[di];exact hrt,by rw[wJ];omega,iZ,d',pY,q',rfl,wJ.trans hsz,by rw[hsp];exact ir,C',rfl⟩)
  _ _ T ⟨gs,w.drawn,sl,q,rfl,rfl,ha,C,rfl⟩
 exact⟨N,iZ,d,d',pY,adt,T',q',hr,di,hsz,sJ,C'⟩
theorem xX{dd':Nat}{a a':Goroutine}{es:Array Event}{sl:Option (Nat×Nat)}(ha:gs[h]?=some a)(fJ:a.status=.running)(yL:∀d,stepG P (h==0) a (w.at d)=.go a' (w.at d) es)(qS:∀e∈es,(MemAct.ofEvent e).touch?=none)(hdd:deafBehind dd es=dd')(C:fM P bJ h dd T gs w q):
  ∃(N:Nat) (iZ:Array Goroutine) (d:Nat) (pY:Option (Nat×Nat)) (T':Trace) (q':Nat->Nat),runNT P N (crowd gs w sl) T=(.next (crowd iZ (w.at d) pY),T')∧iZ.size=gs.size∧iZ[h]?=some a'∧fM P bJ h dd' T' iZ (w.at d) q':=by
 obtain⟨N,dv,d,d',lT,uO,zk,q₁,Dh,di,hsz,ir,it⟩:=Kv (sl:=sl) ha fJ C;have dU:h<dv.size:=(bc.1 ir).1;have HO:=runT_crowd_go (P:=P) (sl:=uO) ir (yL d');have gu:∀op∈MemOp.ofEvents h a.frame.fn a.frame.place es,op.g=h:=fun op fY=>by obtain⟨e,_,rfl⟩:=Conc.mem_ofEvents fY;rfl
 have hn:∀op∈MemOp.ofEvents h a.frame.fn a.frame.place es,op.act.touch?=none:=fun op fY=>by obtain⟨e,he,rfl⟩:=Conc.mem_ofEvents fY;exact qS e he
 have hD:Deaf (zk++MemOp.ofEvents h a.frame.fn a.frame.place es) h=dd':=by rw[Deaf_own,it.deaf];exact hdd
 have hO:∀x,x≠h->Deaf (zk++MemOp.ofEvents h a.frame.fn a.frame.place es) x=Deaf zk x:=fun x hx=>Deaf_other zk (fun z=>hx z.symm) _ gu;refine⟨N+1,_,d',uO,_,q₁,runNT_succ_of Dh (di.trans HO),by simp[hsz],aQ (by simpa using dU),?_⟩;refine⟨fun x y hx hy=>?_,it.qD,it.wf,it.inj,fun j hj=>?_,it.wI,it.xW.HN gu hn (fun g hg df=>?_) (fun hg=>?_),hD,it.dE⟩
 ·rw[aC (fun e=>hx e.symm),Array.getElem?_map]at hy;obtain⟨ads,HQ,rfl⟩:=Option.map_eq_some_iff.1 hy;rw[woken_of_again (it.Sn hx HQ)];have hi:=it.vw x ads hx HQ;cases es':bJ x with
  |none=>rw[es']at hi;exact⟨hi.1,by rw[hO x hx];exact hi.2⟩
  |some s=>rw[es']at hi;exact hi
 ·simp only[Array.size_setIfInBounds,Array.size_map]at hj;rw[hO j (by omega)];exact it.above j hj
 ·rcases hg with z|z
  ·exact absurd z.1 df
  ·exact .inr z
 ·rcases hg with z|⟨s,z⟩
  ·rw[hD];exact z.2
  ·rw[it.wI]at z;cases z
theorem Kx{D:World->World->Array Event->Prop}{S:Goroutine->World->Prop}(hD:∀w w' es,D w w' es->HP bJ w w' es){n:Nat}{a:Goroutine}(hG:gW P (h==0) D S n a w):
  ∀{gs:Array Goroutine} {T:Trace} {q:Nat->Nat} {sl:Option (Nat×Nat)},gs[h]?=some a->fM P bJ h (dd+n) T gs w q->
   ∃(N:Nat) (iZ:Array Goroutine) (a':Goroutine) (w':World) (pY:Option (Nat×Nat)) (T':Trace) (q':Nat->Nat),
    runNT P N (crowd gs w sl) T=(.next (crowd iZ w' pY),T')∧iZ.size=gs.size∧iZ[h]?=some a'∧S a' w'∧fM P bJ h dd T' iZ w' q':=by
 induction hG with
 |stop g w hs=>intro gs T q sl ha C;exact⟨0,gs,g,w,sl,T,q,rfl,rfl,ha,hs,C⟩
 |step n g w g' w' es hr hs hd _ ih=>intro gs T q sl ha C;obtain⟨N,dv,d,d',lT,uO,zk,q₁,Dh,di,hsz,ir,it⟩:=Kv (sl:=sl) ha hr C;have yL:=hs d';have HO:=runT_crowd_go (P:=P) (sl:=uO) ir (show stepG P (h==0) g (w.at d')=.go (g' d') (w' d') (es d')from yL);obtain⟨apu,ai3⟩:=it.own (a':=g' d') ir (hD _ _ _ (hd d'));obtain⟨M,HR,Su,Sv,HS,Sw,Sx,hr3,Sy,ha3,Xq,C3⟩:=ih d' (sl:=uO) ai3 apu;exact⟨N+1+M,HR,Su,Sv,HS,Sw,Sx,runNT_then (runNT_succ_of Dh (di.trans HO)) hr3,by rw[Sy];simpa using hsz,ha3,Xq,C3⟩
 |off n g w g' hr hs _ ih=>
  intro gs T q sl ha C;obtain⟨N,dv,d,lT,zk,q₁,Dh,hsz,ir,it⟩:=xX (dd':=dd+(n+1)) (sl:=sl) ha hr (fun d=>hs d) (by intro e he;simp only[List.mem_toArray,ac,ae,or_false]at he;subst he;rfl) rfl C
  obtain⟨M,HR,Su,Sv,HS,Sw,Sx,hr3,Sy,ha3,Xq,C3⟩:=ih d (sl:=lT) ir it;exact⟨N+M,HR,Su,Sv,HS,Sw,Sx,runNT_then Dh hr3,Sy.trans hsz,ha3,Xq,C3⟩
 |on n g w g' hr hs _ ih=>
  intro gs T q sl ha C;obtain⟨N,dv,d,lT,zk,q₁,Dh,hsz,ir,it⟩:=xX (dd':=dd+n) (sl:=sl) ha hr (fun d=>hs d) (by intro e he;simp only[List.mem_toArray,ac,ae,or_false]at he;subst he;rfl) rfl C
  obtain⟨M,HR,Su,Sv,HS,Sw,Sx,hr3,Sy,ha3,Xq,C3⟩:=ih d (sl:=lT) ir it;exact⟨N+M,HR,Su,Sv,HS,Sw,Sx,runNT_then Dh hr3,Sy.trans hsz,ha3,Xq,C3⟩
theorem D7{D:World->World->Array Event->Prop}{S:Goroutine->World->Prop}(hD:∀w w' es,D w w' es->HP bJ w w' es){a:Goroutine}(hG:gW P (h==0) D S 0 a w)
 {gs:Array Goroutine}{T:Trace}{q:Nat->Nat}{sl:Option (Nat×Nat)}(ha:gs[h]?=some a)(C:fM P bJ h dd T gs w q):
  ∃(N:Nat) (iZ:Array Goroutine) (a':Goroutine) (w':World) (pY:Option (Nat×Nat)) (T':Trace) (q':Nat->Nat),
   runNT P N (crowd gs w sl) T=(.next (crowd iZ w' pY),T')∧iZ.size=gs.size∧iZ[h]?=some a'∧S a' w'∧fM P bJ h dd T' iZ w' q':=Kx hD hG ha C
end
def e_(bJ:Nat->Option Seat)(h j:Nat)(so:Option Seat)(x:Nat):Option Seat:=if x=j then none else if x=h then so else bJ x
theorem Bm(bJ:Nat->Option Seat)(h j:Nat)(so:Option Seat):e_ bJ h j so j=none:=by simp[e_]
theorem pZ(bJ:Nat->Option Seat){h j:Nat}(Bj:j≠h)(so:Option Seat):e_ bJ h j so h=so:=by simp[e_,Ne.symm Bj]
theorem jq(bJ:Nat->Option Seat){h j x:Nat}(so:Option Seat)(hj:x≠j)(hh:x≠h):e_ bJ h j so x=bJ x:=by simp[e_,hj,hh]
structure wK(bJ:Nat->Option Seat)(w:World)(s:Seat):Prop where
 wf:s.Wf
 dE:s.dE w
 chan:∃k,w.heap[s.c]?=some (.chan 0 #[] false k k false)
 apart:∀i s',bJ i=some s'->s'.c≠s.c
section
variable {P:Program}{bJ:Nat->Option Seat}{h:Nat}{T:Trace}{gs:Array Goroutine}{w:World}{q:Nat->Nat}
theorem fM.e_(C:fM P bJ h 0 T gs w q){j:Nat}{s:Seat}(Bj:j≠h)(adu:j<gs.size)(Sz:h<gs.size)(hj:bJ j=some s){k:Nat}(hc:w.heap[s.c]?=some (.chan 0 #[] false k k false)){iZ:Array Goroutine}{T':Trace}{H':Goroutine}(hsz:iZ.size=gs.size)
 (adv:∀x,x≠h->x≠j->iZ[x]?=gs[x]?)(hH:iZ[h]?=some H')(HT:∀x,Deaf T' x=Deaf T x){so:Option Seat}(ub:∀s',so=some s'->wK bJ w s'){nh:Nat}(vz:Rest P T' h nh H' so)
 (MO:kX (St (e_ bJ h j so)) (Mem (e_ bJ h j so) j 0) j T'):fM P (e_ bJ h j so) j 0 T' iZ (w.setChan s.c 0 #[] false (k+1) (k+1) false) (upd q h nh):=by
 have FF:∀x s',Tok.e_ bJ h j so x=some s'->x≠j∧((x=h∧so=some s')∨(x≠h∧bJ x=some s')):=by
  intro x s' e;unfold Tok.e_ at e;split at e
  ·cases e
  ·rename_i hx;split at e
   ·rename_i hxh;exact⟨hx,.inl ⟨hxh,e⟩⟩
   ·rename_i hxh;exact⟨hx,.inr ⟨hxh,e⟩⟩
 have ne:∀x s',Tok.e_ bJ h j so x=some s'->s.c≠s'.c:=by
  intro x s' e;obtain⟨hx,⟨_,e'⟩|⟨_,e'⟩⟩:=FF x s' e
  ·exact(ub s' e').apart j s hj
  ·exact fun ec=>hx (C.inj x j s' s e' hj ec.symm)
 refine⟨fun x y hx hy=>?_,fun x s' e=>?_,fun x s' e=>?_,fun x x' s₁ s₂ HU HV ec=>?_,fun x hx=>⟨by rw[HT];exact(C.above x (by omega)).1,?_⟩,Bm _ _ _ _,MO,MO.hears j (.inl ⟨rfl,rfl⟩),fun x s' e=>?_⟩
 ·by_cases e:x=h
  ·subst e;rw[hH]at hy;obtain rfl:=au hy;rw[upd_same,pZ bJ Bj];exact vz
  ·rw[adv x e hx]at hy;rw[upd_ne q nh e,jq bJ so hx e];have hi:=C.vw x y e hy;cases es:bJ x with
   |none=>rw[es]at hi;exact⟨hi.1,by rw[HT];exact hi.2⟩
   |some s'=>rw[es]at hi;exact hi
 ·obtain⟨k',vg⟩:∃k',w.heap[s'.c]?=some (.chan 0 #[] false k' k' false):=by
   obtain⟨_,⟨_,e'⟩|⟨_,e'⟩⟩:=FF x s' e
   ·exact(ub s' e').chan
   ·exact C.qD x s' e'
  exact⟨k',by rw[heap_setChan_ne w _ _ _ _ _ _ (ne x s' e)];exact vg⟩
 ·obtain⟨_,⟨_,e'⟩|⟨_,e'⟩⟩:=FF x s' e
  ·exact(ub s' e').wf
  ·exact C.wf x s' e'
 ·obtain⟨_,⟨a1,b1⟩|⟨a1,b1⟩⟩:=FF x s₁ HU<;>obtain⟨_,⟨a2,b2⟩|⟨a2,b2⟩⟩:=FF x' s₂ HV
  ·rw[a1,a2]
  ·exact absurd ec.symm ((ub s₁ b1).apart x' s₂ b2)
  ·exact absurd ec ((ub s₂ b2).apart x s₁ b1)
  ·exact C.inj x x' s₁ s₂ b1 b2 ec
 ·rw[jq bJ so (by omega) (by omega)];exact(C.above x (by omega)).2
 ·have hk:s'.dE w:=by
   obtain⟨_,⟨_,e'⟩|⟨_,e'⟩⟩:=FF x s' e
   ·exact(ub s' e').dE
   ·exact C.dE x s' e'
  have hw:s'.Wf:=by
   obtain⟨_,⟨_,e'⟩|⟨_,e'⟩⟩:=FF x s' e
   ·exact(ub s' e').wf
   ·exact C.wf x s' e'
  exact hw.chan _ _ _ _ _ _ _ _ _ _ _ _ _ _ hc hk
theorem fM.OX(C:fM P bJ h 0 T gs w q){j:Nat}{s:Seat}(Bj:j≠h)(hj:bJ j=some s){so:Option Seat}(ub:∀s',so=some s'->wK bJ w s'){t:Trace}(H:kX (St bJ) (Mem bJ h 0) h t)(fh:FuncId)(ph:String)(fj:FuncId)(pj:String){c:Nat}(k cap:Nat):
  kX (St (Tok.e_ bJ h j so)) (Mem (Tok.e_ bJ h j so) j 0) j (t++met h j fh ph fj pj c k cap):=by
 have H2:=H.Bi (Sk:=St (Tok.e_ bJ h j so)) (j:=j) (.inl ⟨rfl,rfl⟩) (.inr ⟨s,hj⟩) Bj
  (fun g l h1 h2 ⟨s',e,hs⟩=>⟨s',by rw[jq bJ so h2 h1]at e;exact e,hs⟩) (fun g l h1 h2 ⟨s',e,hs⟩=>⟨s',by rw[jq bJ so h2 h1];exact e,hs⟩)
  (fun l ⟨s',e,_⟩=>by rw[Bm]at e;cases e) (fun l ⟨s',e,hs⟩=>by rw[pZ bJ Bj]at e;exact(ub s' e).wf.mem l hs) fh ph fj pj (c:=c) k cap
 refine⟨H2.clean,H2.known,H2.dF,fun g hg=>H2.hears g ?_⟩;rcases hg with⟨rfl,_⟩|⟨s',e⟩
 ·exact .inr ⟨s,hj⟩
 ·by_cases e1:g=h
  ·exact .inl ⟨e1,rfl⟩
  ·by_cases e2:g=j
   ·subst e2;exact .inr ⟨s,hj⟩
   ·rw[jq bJ so e2 e1]at e;exact .inr ⟨s',e⟩
def MR(P:Program)(c6:Nat->Option Seat)(j:Nat)(s:Seat)(n:Nat)(w:World)(v:Value)(m:Machine)(t:Trace):Prop:=
 ∃(iZ:Array Goroutine) (g₂:Goroutine) (d k:Nat) (pY:Option (Nat×Nat)) (q':Nat->Nat),m=crowd iZ ((w.at d).setChan s.c 0 #[] false (k+1) (k+1) false) pY∧iZ.size=n∧iZ[j]?=some (Conc.served g₂ (recvd s.ok v true))∧s.home g₂∧
  w.heap[s.c]?=some (.chan 0 #[] false k k false)∧fM P c6 j 0 t iZ ((w.at d).setChan s.c 0 #[] false (k+1) (k+1) false) q'
theorem fM.apv(C:fM P bJ h 0 T gs w q)(x:Goroutine){fn:FuncId}{pos:String}{es:Array Event}(qS:∀e∈es,EvH bJ e):fM P bJ h 0 (T++MemOp.ofEvents h fn pos es) (gs.setIfInBounds h x) w q:=by
 obtain⟨gu,hs,OW⟩:=zN (i:=h) (fn:=fn) (pos:=pos) qS;have hD:=C.MQ gu (OW T);refine⟨fun y g hy hg=>?_,C.qD,C.wf,C.inj,fun j hj=>?_,C.wI,C.xW.own gu hs (fun _=>OW T),(OW T).trans C.deaf,C.dE⟩
 ·rw[aC (fun e=>hy e.symm)]at hg;have hi:=C.vw y g hy hg;cases e:bJ y with
  |none=>rw[e]at hi;exact⟨hi.1,by rw[hD];exact hi.2⟩
  |some s=>rw[e]at hi;exact hi
 ·simp only[Array.size_setIfInBounds]at hj;rw[hD];exact C.above j hj
theorem Bi{a a₂:Goroutine}{j:Nat}{s:Seat}{v z':Value}{es:Array Event}{sl:Option (Nat×Nat)}(Bj:j≠h)(adu:j<gs.size)(hj:bJ j=some s)(ha:gs[h]?=some a)(fJ:a.status=.running)
 (D8:∀d,stepG P (h==0) a (w.at d)=.comm a₂ #[scase s.c v z'] true .send (w.at d) es)(qS:∀e∈es,EvH bJ e)(C:fM P bJ h 0 T gs w q){so:Option Seat}(ub:∀s',so=some s'->wK bJ w s'){nh:Nat}(vz:∀T',Deaf T' h=0->Rest P T' h nh (Conc.served a₂ undef) so):
  ∃N m' T',runNT P N (crowd gs w sl) T=(.next m',T')∧MR P (Tok.e_ bJ h j so) j s gs.size w v m' T':=by
 obtain⟨k,hc⟩:=C.qD j s hj;have hk:s.base.cases[0]?=some (rcase s.c s.z):=rfl;have hu:∀(m:Nat) (cc:CommCase),m≠0->s.base.cases[m]?=some cc->cc.chan≠.chan (some s.c):=by
  intro m cc hm Jz;rcases m with _|m
  ·exact absurd rfl hm
  ·simp[rx]at Jz
 refine runs_until (P:=P)
  (Inv:=fun μ m t=>MR P (Tok.e_ bJ h j so) j s gs.size w v m t∨∃dv d lT q₁,∃pk:Bool,m=crowd dv (w.at d) lT∧dv.size=gs.size∧dv[h]?=some (if pk then parked a₂ #[scase s.c v z'] .send else a)∧
   fM P bJ h 0 t dv (w.at d) q₁∧(pk=true->0<q₁ j)∧μ=sumTo dv.size q₁+(if pk then 0 else 1))
  (fun μ m t apw=>?_) _ _ T (.inr ⟨gs,w.drawn,sl,q,false,rfl,rfl,ha,C,by simp,rfl⟩)
 rcases apw with D_|⟨dv,d,lT,q₁,pk,rfl,hsz,ir,it,JA,hμ⟩
 ·exact .inl D_
 refine .inr ?_;obtain⟨gj,hgj⟩:∃gj,dv[j]?=some gj:=⟨dv[j]'(by omega),aT (by omega)⟩;have Sz:h<dv.size:=(bc.1 ir).1;have hSj:Sits P (j==0) s.dE s.still s.B s.base (q₁ j) gj:=by have:=it.vw j gj Bj hgj;rw[hj]at this;exact this
 have ai7:∃(i:Nat) (g:Goroutine),dv[i]?=some g∧g.status=.running:=by
  cases pk with
  |false=>exact⟨h,a,ir,fJ⟩
  |true=>exact⟨j,gj,hgj,(Sits.status (it.dE j s hj) hSj).elim (·.1) (fun z=>by have:=JA rfl;omega)⟩
 obtain⟨i,g,d',pY,hi,hg,di⟩:=crowd_pick (P:=P) (w:=w.at d) (sl:=lT) (it.awake ir (by cases pk<;>simp[fJ,parked])) ai7;rw[at_at']at di;have Cd:fM P bJ h 0 t dv (w.at d') q₁:=it.at d';have hcd:(w.at d').heap[s.c]?=some (.chan 0 #[] false k k false):=hc;have ai9:∀s',so=some s'->wK bJ (w.at d') s':=fun s' e=>⟨(ub s' e).wf,(ub s' e).wf.eG w d' (ub s' e).dE,(ub s' e).chan,(ub s' e).apart⟩;have ky:∀(iZ:Array Goroutine) (Bn:Array MemOp) (g₂:Goroutine),iZ.size=dv.size->(∀x,x≠h->x≠j->iZ[x]?=dv[x]?)->iZ[h]?=some (Conc.served a₂ undef)->iZ[j]?=some (Conc.served g₂ (recvd s.ok v true))->s.home g₂->
   kX (St bJ) (Mem bJ h 0) h (t++Bn)->(∀x,Deaf (t++Bn) x=Deaf t x)->
   MR P (Tok.e_ bJ h j so) j s gs.size w v (crowd iZ ((w.at d').setChan s.c 0 #[] false (k+1) (k+1) false) pY) (t++(Bn++met h j a₂.frame.fn a₂.frame.place g₂.frame.fn g₂.frame.place s.c k 0)):=by
  intro iZ Bn g₂ wJ adv hH hJ Bo p1 hD0;have HT:∀x,Deaf (t++(Bn++met h j a₂.frame.fn a₂.frame.place g₂.frame.fn g₂.frame.place s.c k 0)) x=Deaf t x:=fun x=>by rw[<-Array.append_assoc,Deaf_quiet (met_quiet _ _ _ _ _ _ _ _ _ x),hD0]
  have p2:=Cd.OX Bj hj ai9 p1 a₂.frame.fn a₂.frame.place g₂.frame.fn g₂.frame.place (c:=s.c) k 0;rw[Array.append_assoc]at p2;exact⟨iZ,g₂,d',k,pY,upd q₁ h nh,rfl,wJ.trans hsz,hJ,Bo,hc,Cd.e_ Bj (by omega) Sz hj hcd wJ adv hH HT ai9 (vz _ (by rw[HT];exact it.xW.hears h (.inl ⟨rfl,rfl⟩))) p2⟩
 have SA:0<μ:=by
  cases pk with
  |false=>simp at hμ;omega
  |true=>have h1:=JA rfl;have h2:q₁ j≤sumTo dv.size q₁:=Go.ConcN.le_sumTo (f:=q₁) (by omega);simp at hμ;omega
 have hcr:commResult s.base.cases s.base.shape 0 v true=recvd s.ok v true:=commResult_one _ _ _ _ _ _;by_cases e:i=h
 ·subst e;cases pk with
  |true=>rw[ir]at hi;obtain rfl:=au hi;cases hg
  |false=>
   obtain rfl:g=a:=by rw[ir]at hi;exact(au hi).symm
   obtain⟨gu,hs,OW⟩:=zN (i:=i) (fn:=g.frame.fn) (pos:=g.frame.place) qS;have pU:∀(x:Nat) (y:Goroutine),x≠j->(dv.setIfInBounds i ph)[x]?=some y->offersAt y s.c false=[]:=by
    intro x y Wx hy;rcases getElem?_stand dv i x y hy with⟨_,rfl⟩|⟨hx,D4⟩
    ·exact offersAt_ph _ _
    ·exact Cd.Sq hx D4 fun s' OH GW=>Wx (it.inj x j s' s OH hj GW)
   rcases hSj with⟨kk,qE,hq,hG⟩|⟨vB,awM,g₂,rfl,QX⟩
   ·
    have Km:gj.status=.running:=(Sits.status (it.dE j s hj) (.inl ⟨kk,qE,hq,hG⟩)).elim (·.1) (fun z=>by omega);have hp:partners (dv.setIfInBounds i ph) s.c false=[]:=partners_nil fun x y hy=>by
     by_cases Wx:x=j
     ·subst Wx;rw[stand_get Bj hgj]at hy;obtain rfl:=au hy;exact offersAt_of_not_blocked (by rw[Km];simp) _ _
     ·exact pU x y Wx hy
    have hw:∀cc∈#[scase s.c v z'],NoWays (w.at d') (dv.setIfInBounds i ph) cc:=by intro cc Jz;simp only[List.mem_toArray,ac,ae,or_false]at Jz;subst Jz;exact ways_send_none hcd (aq _) hp
    exact⟨_,_,sumTo dv.size q₁+0,by rw[di];exact crowd_waits (sl:=pY) hi (D8 d') hw,by simp at hμ;omega,.inr ⟨_,d',pY,q₁,true,rfl,by simpa using hsz,aQ Sz,Cd.apv _ qS,fun _=>by omega,by simp⟩⟩
   ·
    have hp:partners (dv.setIfInBounds i ph) s.c false=[(j,0)]:=by rw[partners_one (stand_get Bj hgj) fun x y Wx hy=>pU x y Wx hy,offersAt_parked_at hk hu];rfl
    refine⟨_,_,0,by rw[di];exact crowd_send_meets_sel (sl:=pY) hi (D8 d') hcd Bj hgj hk hp,SA,.inl ?_⟩;exact ky _ _ g₂ (by simp) (fun x hx Wx=>by rw[aC (fun z=>hx z.symm),aC (fun z=>Wx z.symm)]) (aQ (by simpa using Sz))
     (by rw[aC (fun z=>Bj z.symm),aQ (by omega),finishComm_served];exact congrArg (fun x=>some (Conc.served g₂ x)) hcr) QX.2.2.2.2.1 (it.xW.own gu hs fun _=>OW t) (Cd.MQ gu (OW t))
 ·by_cases ej:i=j∧pk=true∧∃g₂,AtIn P (i==0) s.dE s.still s.B s.base g g₂
  ·
   obtain⟨rfl,rfl,g₂,QX⟩:=ej;obtain⟨_,_,_,_,Bo,esj,apx,Sr⟩:=QX;obtain⟨gu,hr,hd⟩:=Bl (s:=s) (i:=i) (fn:=g.frame.fn) (pos:=g.frame.place) apx;have hp:partners (dv.setIfInBounds i ph) s.c true=[(h,0)]:=by
    rw[partners_one (stand_get (Ne.symm Bj) ir) fun x y hxh hy=>by
     rcases getElem?_stand dv i x y hy with⟨_,rfl⟩|⟨_,D4⟩
     ·exact offersAt_ph _ _
     ·exact Cd.So hxh D4 _]
    simp[offersAt_parked_send]
   have ho:∀(m:Nat) (c':CommCase),m≠0->s.base.cases[m]?=some c'->NoWays (w.at d') (dv.setIfInBounds i ph) c':=by
    intro m c' hm GW;rcases m with _|m
    ·exact absurd rfl hm
    ·simp[rx]at GW
   refine⟨_,_,0,by rw[di];exact crowd_sel_recv_meets (sl:=pY) hi (Sr _ (Cd.dE i s hj)) hk ho hcd (Ne.symm Bj) ir hp,SA,.inl ?_⟩;exact ky _ _ g₂ (by simp) (fun x hx Wx=>by rw[aC (fun z=>Wx z.symm),aC (fun z=>hx z.symm)])
    (by rw[aC Bj,aQ Sz,finishComm_send]) (by rw[aQ (by simp;omega),finishComm_served];exact congrArg (fun x=>some (Conc.served g₂ x)) hcr) Bo
    (it.xW.read Bj gu (fun op fY b hb=>⟨(hr op fY b hb).1,s,hj,(hr op fY b hb).2⟩) (hd t))
    (fun x=>by
     by_cases ex:x=i
     ·subst ex;exact hd t
     ·exact Deaf_other t (fun z=>ex z.symm) _ gu)
  ·
   obtain⟨iZ,ops,q',hrt,wJ,hsp,hqo,vB,C',dU⟩:=Cd.MP (sl:=pY) hi e hg
    (fun gx Ss=>by
     rw[ir]at Ss;obtain rfl:=au Ss;cases pk with
     |false=>exact again_of_running (.inl fJ) _
     |true=>exact again_send_open hcd)
    (fun s' g₂ OH QX gx Ss=>by
     rw[ir]at Ss;obtain rfl:=au Ss;cases pk with
     |false=>exact offersAt_of_not_blocked (by simp[fJ]) _ _
     |true=>simp only[if_true];rw[offersAt_parked_send,if_neg];intro ec;have hij:i=j:=it.inj i j s' s OH hj ec.symm;subst hij;rw[hj]at OH;obtain rfl:=au OH;exact ej ⟨rfl,rfl,g₂,QX⟩)
   refine⟨_,_,sumTo iZ.size q'+(if pk then 0 else 1),by rw[di];exact hrt,by rw[wJ];omega,.inr ⟨iZ,d',pY,q',pk,rfl,wJ.trans hsz,by rw[hsp];exact ir,C',fun hp=>?_,rfl⟩⟩;subst hp;by_cases hij:j=i
   ·subst hij;rcases Nat.eq_zero_or_pos (q' j)with h0|h0
    ·obtain⟨g₂,QX⟩:=vB s hj h0;exact absurd ⟨rfl,rfl,g₂,QX⟩ ej
    ·exact h0
   ·rw[hqo j hij];exact JA rfl
theorem OU{a a' child:Goroutine}{es:Array Event}{sl:Option (Nat×Nat)}(ha:gs[h]?=some a)(fJ:a.status=.running)(yL:∀d,stepG P (h==0) a (w.at d)=.spawn a' child (w.at d) es)(qS:∀e∈es,EvH bJ e)(C:fM P bJ h 0 T gs w q)
 (sn:Seat)(SC:wK bJ w sn){nc:Nat}(adw:Sits P false sn.dE sn.still sn.B sn.base nc child):
  ∃(N:Nat) (iZ:Array Goroutine) (d:Nat) (pY:Option (Nat×Nat)) (T':Trace) (q':Nat->Nat),runNT P N (crowd gs w sl) T=(.next (crowd iZ (w.at d) pY),T')∧iZ.size=gs.size+1∧iZ[h]?=some a'∧fM P (upd bJ gs.size (some sn)) h 0 T' iZ (w.at d) q':=by
 obtain⟨N,dv,d,d',lT,uO,zk,q₁,hr,di,hsz,ir,it⟩:=Kv (sl:=sl) ha fJ C;have dU:h<dv.size:=(bc.1 ir).1;obtain⟨gu,hs,OW⟩:=zN (i:=h) (fn:=a.frame.fn) (pos:=a.frame.place) qS;have hrt:=runT_crowd_spawn (P:=P) (sl:=uO) ir (yL d');have ai_:((MemOp.ofEvents h a.frame.fn a.frame.place es).push {g:=h,fn:=a.frame.fn,pos:=a.frame.place,act:=.go dv.size} |>.push {g:=dv.size,fn:=child.frame.fn,pos:=a.frame.place,act:=.start})=
   MemOp.ofEvents h a.frame.fn a.frame.place es++#[{g:=h,fn:=a.frame.fn,pos:=a.frame.place,act:=.go dv.size},{g:=dv.size,fn:=child.frame.fn,pos:=a.frame.place,act:=.start}]:=by
  apply Array.ext';simp
 rw[ai_]at hrt;have p1:=it.xW.own gu hs fun _=>OW zk;have hD1:=it.MQ gu (OW zk);have pF:bJ dv.size=none:=(it.above _ (aq _)).2;have Ky:∀x,x≠dv.size->upd bJ dv.size (some sn) x=bJ x:=fun x hx=>upd_ne bJ _ hx;have p2:=p1.OU (c:=dv.size) (Sk:=St (upd bJ dv.size (some sn))) (.inl ⟨rfl,rfl⟩) (by rw[hD1];exact(it.above _ (aq _)).1) (by omega)
  (fun g l hg=>⟨fun⟨s,e,x⟩=>⟨s,by rw[Ky g hg]at e;exact e,x⟩,fun⟨s,e,x⟩=>⟨s,by rw[Ky g hg];exact e,x⟩⟩)
  (fun l ⟨s,e,_⟩=>by rw[pF]at e;cases e) (fun l ⟨s,e,x⟩=>by rw[upd_same]at e;obtain rfl:=au e;exact SC.wf.mem l x) a.frame.fn a.frame.place child.frame.fn
 rw[Array.append_assoc]at p2;have hD2:∀x,Deaf (zk++(MemOp.ofEvents h a.frame.fn a.frame.place es++#[{g:=h,fn:=a.frame.fn,pos:=a.frame.place,act:=.go dv.size},{g:=dv.size,fn:=child.frame.fn,pos:=a.frame.place,act:=.start}])) x=Deaf zk x:=fun x=>by rw[<-Array.append_assoc,Deaf_quiet (fun op fY d=>by simp only[List.mem_toArray,ac,ae,or_false]at fY;rcases fY with rfl|rfl<;>rfl),hD1]
 refine⟨N+1,_,d',uO,_,upd q₁ dv.size nc,runNT_succ_of hr (di.trans hrt),by simp[hsz],(by rw[Array.getElem?_push,if_neg (by simp;omega)];exact aQ dU),?_⟩;rw[<-hsz];refine⟨fun x y hx hy=>?_,fun i s e=>?_,fun i s e=>?_,fun i i' s₁ s₂ HU HV ec=>?_,fun x hx=>?_,by rw[Ky h (by omega)];exact it.wI,⟨p2.clean,p2.known,p2.dF,fun g hg=>p2.hears g ?_⟩,(hD2 h).trans it.deaf,fun i s e=>?_⟩
 ·by_cases ex:x=dv.size
  ·subst ex;rw[Array.getElem?_push,if_pos (by simp)]at hy;obtain rfl:=au hy;rw[upd_same,upd_same];have:(dv.size==0)=false:=by rw[beq_eq_false_iff_ne];omega
   show Sits P (dv.size==0) sn.dE sn.still sn.B sn.base nc child;rw[this];exact adw
  ·have hxl:x<dv.size:=by
    have:=(bc.1 hy).1;simp at this;omega
   rw[Array.getElem?_push,if_neg (by simp;omega),aC (fun z=>hx z.symm)]at hy;rw[upd_ne q₁ nc ex,Ky x ex];have hi:=it.vw x y hx hy;cases e:bJ x with
   |none=>rw[e]at hi;exact⟨hi.1,by rw[hD2];exact hi.2⟩
   |some s=>rw[e]at hi;exact hi
 ·by_cases ei:i=dv.size
  ·subst ei;rw[upd_same]at e;obtain rfl:=au e;exact SC.chan
  ·rw[Ky i ei]at e;exact it.qD i s e
 ·by_cases ei:i=dv.size
  ·subst ei;rw[upd_same]at e;obtain rfl:=au e;exact SC.wf
  ·rw[Ky i ei]at e;exact it.wf i s e
 ·by_cases e1:i=dv.size<;>by_cases e2:i'=dv.size
  ·rw[e1,e2]
  ·subst e1;rw[upd_same]at HU;rw[Ky i' e2]at HV;obtain rfl:=au HU;exact absurd ec.symm (SC.apart i' s₂ HV)
  ·subst e2;rw[upd_same]at HV;rw[Ky i e1]at HU;obtain rfl:=au HV;exact absurd ec (SC.apart i s₁ HU)
  ·rw[Ky i e1]at HU;rw[Ky i' e2]at HV;exact it.inj i i' s₁ s₂ HU HV ec
 ·simp only[Array.size_push,Array.size_setIfInBounds]at hx;exact⟨by rw[hD2];exact(it.above x (by omega)).1,by rw[Ky x (by omega)];exact(it.above x (by omega)).2⟩
 ·rcases hg with⟨rfl,_⟩|⟨s,e⟩
  ·exact .inl (.inl ⟨rfl,rfl⟩)
  ·by_cases eg:g=dv.size
   ·exact .inr eg
   ·rw[Ky g eg]at e;exact .inl (.inr ⟨s,e⟩)
 ·by_cases ei:i=dv.size
  ·subst ei;rw[upd_same]at e;obtain rfl:=au e;exact SC.wf.eG w d' SC.dE
  ·rw[Ky i ei]at e;exact it.dE i s e
theorem adx{B:Nat}(hL:Leavers P T gs q)(hP:Past (fun _=>False) B T):fM P (fun _=>none) 0 0 T gs w q:=
 ⟨fun i g hi hg=>⟨Nat.pos_of_ne_zero hi,hL.old i g (Nat.pos_of_ne_zero hi) hg⟩,fun _ _ e=>(by cases e),fun _ _ e=>(by cases e),fun _ _ _ _ e=>(by cases e),fun j hj=>⟨hL.above j hj,rfl⟩,rfl,
  ⟨hP.clean,fun i a ha hm=>(hP.known i a ha hm).imp id fun x=>x.1.elim,fun _ _ _ _ _ hg=>(by obtain⟨s,e,_⟩:=hg;cases e),fun g hg=>hg.elim (fun e=>e.1▸hP.hears) (fun x=>(by obtain⟨s,e⟩:=x;cases e))⟩,hP.hears,fun _ _ e=>(by cases e)⟩
theorem over(C:fM P bJ 0 0 T gs w q)(hI:∀i,bJ i=none):Leavers P T gs q∧∃B,Past (fun _=>False) B T:=by obtain⟨B,hB⟩:=Sl T;refine⟨⟨fun i g hi hg=>by have:=C.vw i g (by omega) hg;rw[hI i]at this;exact this.2,fun j hj=>(C.above j hj).1⟩,B,C.xW.over (.inl ⟨rfl,rfl⟩) (fun g l ⟨s,e,_⟩=>by rw[hI g]at e;cases e) hB⟩
end
end Go.Proofs.Ythaddgfbohmfoaa.SX.Tok
namespace Go.Proofs.Ythaddgfbohmfoaa.SX
open Go.Conc
open _root_.List renaming mem_cons->ac,nodup_nil->ai,mem_cons_of_mem->am,mem_cons_self->an,mem_append->ay,mem_map->aJ,mem_of_getElem?->bf,nodup_cons->bC
open _root_.Nat renaming le_refl->aq,eq_of_beq_eq_true->aI,lt_or_ge->bo
open _root_.Bool renaming and_eq_true->ax
open _root_.Array renaming eq_empty_of_size_eq_zero->bz,toList_inj->bD
def oL{α:Type}:Sem α->Prop
 |.pure _=>True
 |.load m _ k=>m=.plain∧∀v,oL (k v)
 |.program k=>∀P,oL (k P)
 |.shape _ k=>∀s,oL (k s)
 |.getObj _ k=>∀o,oL (k o)
 |.halt _=>True
 |_=>False
theorem HW{α β:Type}(x:Sem α)(f:α->Sem β)(hf:∀a,oL (f a)):oL x->oL (x.bind f):=by
 induction x with
 |pure a=>intro _;exact hf a
 |load m a k ih=>intro h;exact⟨h.1,fun v=>ih v (h.2 v)⟩
 |program k ih=>intro h;exact fun P=>ih P (h P)
 |shape r k ih=>intro h;exact fun s=>ih s (h s)
 |getObj r k ih=>intro h;exact fun s=>ih s (h s)
 |halt x=>intro _;exact trivial
 |_=>intro h;exact h.elim
theorem kC{α β:Type}{x:Sem α}{f:α->Sem β}(h:oL x)(hf:∀a,oL (f a)):oL (x>>= f):=HW x f hf h
theorem SD{α:Type}{P:Program}{Ev:Event->Prop}{E:Value->World->Prop}{w:World}(hE:∀r b c,r<w.heap.size->¬Ev ⟨.obj r,b,c⟩)(m:Sem α):oL m->∀{Q:α->World->Prop},wq P Ev E m Q w->
  wq P (fun e=>∃a v,e=⟨.cell a,false,false⟩∧w.cell? a=some v∧Ev e) E m (fun a w'=>w'=w∧Q a w') w:=by
 induction m with
 |pure a=>intro _ Q h;exact⟨rfl,h⟩
 |load m a k ih=>intro hl Q h;obtain⟨rfl,hk⟩:=hl;obtain⟨v,hc,he,hw⟩:=h;exact⟨v,hc,⟨a,v,rfl,hc,he⟩,ih v (hk v) hw⟩
 |program k ih=>intro hl Q h;exact ih P (hl P) h
 |shape r k ih=>intro hl Q h;exact ih _ (hl _) h
 |getObj r k ih=>intro hl Q h;obtain⟨o,h1,h2,h3,h4⟩:=h;exact absurd h3 (hE _ _ _ (iN h1))
 |halt x=>
  intro _ Q h;cases x with
  |panic v=>exact h
  |_=>exact h
 |_=>intro hl;exact hl.elim
theorem zl(a:Addr):∀(n j:Nat) (gG:Array Value),oL (loadCellsFrom a j n gG):=by
 intro n
 induction n with
 |zero=>intro j gG;exact trivial
 |succ n ih=>intro j gG;exact⟨rfl,fun v=>ih (j+1) _⟩
theorem FG(a:Addr):oL (byteOf a):=by
 unfold byteOf noView
 repeat' first
  |exact trivial
  |exact fun _=>trivial
  |refine kC ?_ fun _=>?_
  |split
  |dsimp only
theorem SE{ρ:Operand->Value}{o:Oper}(h:ue o=true)(hn:∀t,o.op=.nilCheck (.tmp t)->∃a,ρ (.tmp t)=.pointer (some a)):oL (execOp ρ o):=by
 unfold ue at h;unfold execOp;split at h
 ·rename_i x e;rw[e];exact trivial
 ·rename_i x e;rw[e];exact trivial
 ·rename_i t x e;rw[e];refine kC ?_ fun _=>trivial;unfold Instr.loadAt Instr.sureAddr loadVar isAgg underlying sizeOf typeInfo loadCells
  repeat' first
   |exact trivial
   |exact fun _=>trivial
   |exact⟨rfl,fun _=>trivial⟩
   |exact zl _ _ _ _
   |refine kC ?_ fun _=>?_
   |split
 ·rename_i t x f e;rw[e];refine kC ?_ fun _=>trivial;unfold Instr.fieldAt underlying Instr.sureAddr fieldPlace sizeOf typeInfo partAt
  repeat' first
   |exact trivial
   |exact fun _=>trivial
   |exact FG _
   |refine kC ?_ fun _=>?_
   |split
 ·rename_i t e;obtain⟨a,ha⟩:=hn t e;rw[e];simp only[ha];exact trivial
 ·rename_i f x y e;rw[e];refine kC ?_ fun _=>trivial;exact trivial
 ·rename_i c e;rw[e];refine kC ?_ fun _=>trivial;unfold resolve Deferred.ofValue
  repeat' first
   |exact trivial
   |split
   |dsimp only
 ·cases h
def jv(P:Program)(ρ:cn)(c:dw)(cs:List Frame)(g:Goroutine):Prop:=∃fr cC,dj P ρ c.da fr∧c8 P ρ c.callers cC∧g=G fr (cC++cs)
structure ji(O:dP)(ρ:cn)(w:World):Prop where
 bs:∀p∈O.bs,p.1.ev ρ=p.2
 is:∀p∈O.is,p.1.ev ρ=p.2.ev ρ
 mem:∀p∈O.mem,w.cell? (p.1.ev ρ)=some (p.2.ev ρ)
def SF(O:dP)(ρ:cn)(e:Event):Prop:=∃p∈O.mem,e=⟨.cell (p.1.ev ρ),false,false⟩
def EvL(O:dP)(ρ:cn)(w:World)(e:Event):Prop:=(∃m,e.loc=.mark m)∨(∃a,e.loc=.cell a∧(w.heap.size≤a.block∨∃p∈O.mem,a=p.1.ev ρ))∨∃r,e.loc=.obj r∧w.heap.size≤r
def KL(P:Program)(O:dP)(ρ:cn)(w:World):ik:=⟨P,O,fun n=>w.heap.size≤n,EvL O ρ w,True,fun _ _=>False⟩
theorem MS(P:Program)(O:dP)(ρ:cn)(w:World):(KL P O ρ w).Good:=
 ⟨fun a _ h=>.inr (.inl ⟨a,rfl,.inl h⟩),fun a _ h _=>.inr (.inl ⟨a,rfl,.inl h⟩),fun _ _ _ h=>h.elim,fun m _=>.inl ⟨m,rfl⟩,.inl ⟨_,rfl⟩,fun _ m=>.inl ⟨m,rfl⟩,fun r _ _ h=>.inr (.inr ⟨r,rfl,h⟩)⟩
theorem zO{w:World}{a:Addr}{v:Value}(hc:w.cell? a=some v):a.block<w.heap.size:=by
 rcases bo a.block w.heap.size with h'|h'
 ·exact h'
 ·simp[World.cell?,Array.getElem?_eq_none h']at hc
theorem ady{P:Program}{O:dP}{ρ:cn}{w:World}(k:ji O ρ w):Rel (KL P O ρ w) ρ e0 w:=
 ⟨(fun i b hb=>by cases hb),(fun i b hb=>by cases hb),(fun i j b c hb=>by cases hb),k.bs,k.is,fun p hp=>⟨fun h=>absurd (zO (k.mem p hp)) (Nat.not_lt.2 h),k.mem p hp,fun s=>.inr (.inl ⟨_,rfl,.inr ⟨p,hp,rfl⟩⟩)⟩,(fun n hn=>hn),(fun _ _ _ _ h=>h.elim),fun _ _ h=>h.elim⟩
theorem adz{P:Program}{O:dP}{ρ:cn}{w:World}{U:Nat->Prop}(h:O.In U):h_ (KL P O ρ w) U e0:=
 ⟨(fun i b hb=>by cases hb),(fun i hi=>by cases hi),ai,(fun n _ h=>by cases h),h⟩
structure ti(P:Program)(O:dP)(ext:Ext):Prop where
 uP:∀own Ev kx still,(⟨P,O,own,Ev,kx,still⟩:ik).il
 ext:∀own Ev still,(⟨P,O,own,Ev,True,still⟩:ik).Good->ib ⟨P,O,own,Ev,True,still⟩ ext
section
variable {P:Program}{main:Bool}{O:dP}{ext:Ext}{U:Nat->Prop}{ρ:cn}
theorem wL(S:ti P O ext)(hO:O.In U){o:Oper}{n:AN}{h':AH}{nt:Nat}{t:TT}{tm:Array Value}{ds:List Deferred}(T:pV ρ nt t tm)(ht:t.In U)(hl:ue o=true)(hn:Sj t o=true)(he:op? P O ext e0 (fC t) o=.ok (n,h')){w:World}(k:ji O ρ w):
  (∃nx,(execOp (⟨tm,ds⟩:Act).eval o).run P w=.ok nx w∧∃bL,cz U ρ bL∧n.is bL nx)∧(∀e∈(execOp (⟨tm,ds⟩:Act).eval o).events P w #[],SF O ρ e)∧n.In U:=by
 have N:=RR (K:=KL P O ρ w) (MS P O ρ w) (S.uP _ _ _ _) (S.ext _ _ _ (MS P O ρ w)) (ady k) (adz hO) (sT ht) he;have Jw:(⟨tm,ds⟩:Act).eval=fun x=>(fC t x).ev ρ:=funext fun x=>jh T _ x;have hlk:oL (execOp (fun x=>(fC t x).ev ρ) o):=SE hl fun m hm=>by
  unfold Sj at hn;rw[hm]at hn;dsimp only at hn;split at hn
  ·rename_i a ha;exact⟨_,by show(t.get m).ev ρ=_;rw[ha];rfl⟩
  ·cases hn
 have hp:∀v,n≠.panic v:=by
  intro v hv;subst hv;unfold op? at he;unfold ue at hl;generalize o.op=op at hl he;cases op<;>simp at hl<;>dsimp only at he
  case defer c=>split at he<;>cases he
  all_goals first
   |cases he
   |((repeat' split at he)<;>first|cases he|(unfold k0 at he;split at he<;>cases he))
   |(unfold k0 at he;split at he<;>cases he)
 have W:=SD (w:=w) (fun r b c dU hx=>by
  rcases hx with⟨m,hm⟩|⟨a,ha,_⟩|⟨r',hr,hle⟩
  ·cases hm
  ·cases ha
  ·cases hr;exact absurd dU (Nat.not_lt.2 hle)) _ hlk (N.run (E:=fun _ _=>False) (Q:=fun nx w'=>f_ (KL P O ρ w) U ρ w h' (fun bL=>n.is bL nx) w') (fun nx w' x=>x) (fun v hv _=>absurd hv (hp v)))
 obtain⟨run,cf⟩:=ou W;rw[<-Jw]at run cf;have hh:h'=e0:=by
  cases hq:jS o with
  |true=>exact A7 hq he
  |false=>unfold ue at hl;unfold jS at hq;unfold op? at he;generalize o.op=op at hl hq he;cases op<;>simp at hl<;>simp at hq;dsimp only at he;split at he<;>cases he;rfl
 subst hh;refine⟨?_,fun e hx=>?_,?_⟩
 ·have adA:((execOp (⟨tm,ds⟩:Act).eval o).run P w).goes (fun a w'=>w'=w∧f_ (KL P O ρ w) U ρ w e0 (fun bL=>n.is bL a) w') (fun _ _=>False):=run;clear run;generalize hr:(execOp (⟨tm,ds⟩:Act).eval o).run P w=r at adA;cases r with
  |ok nx w'=>obtain⟨rfl,bL,A,_,_,hi⟩:=adA;exact⟨nx,rfl,bL,A,hi⟩
  |halt x w'=>cases x<;>exact adA.elim
 ·obtain⟨a,v,rfl,hc,hv⟩:=cf e hx;rcases hv with⟨m,hm⟩|⟨a',ha,hv⟩|⟨r',hr,_⟩
  ·cases hm
  ·cases ha;rcases hv with hv|⟨p,hp,rfl⟩
   ·exact absurd (zO hc) (Nat.not_lt.2 hv)
   ·exact⟨p,hp,rfl⟩
  ·cases hr
 ·have hm:=N.mem;have hs:∀m,plus U e0.nb e0.nb m->U m:=qx;cases n with
  |value v=>exact AV.In.mono hs _ hm
  |skip=>trivial
  |enter f args=>exact AV.iB.mono hs _ hm
  |defer d=>exact AD.In.mono hs hm
  |recover=>trivial
  |panic v=>exact AV.In.mono hs _ hm
end
structure kD(U:Nat->Prop)(c:dw):Prop where
 da:c.da.In U
 callers:∀fr∈c.callers,fr.In U
section
variable {P:Program}{main:Bool}{O:dP}{ext:Ext}{U:Nat->Prop}{ρ:cn}{cs:List Frame}
variable {fn:FuncId}{nt:Nat}{tmps:TT}{todo todo':List Item}{defers:List AD}{kind:CallKind}{callers:List bH}{h:AH}
theorem Kz{g:Goroutine}:jv P ρ ⟨⟨fn,nt,tmps,todo,defers,.run,kind⟩,callers,h⟩ cs g↔
  ∃tm cC,pV ρ nt tmps tm∧(ic kind∨kind=.wrapped)∧(∃f,P.funcs[fn]?=some f)∧c8 P ρ callers cC∧g=G ((bB ρ fn kind).atR (aB ρ kind tm defers) todo) (cC++cs):=by
 constructor
 ·rintro⟨fr,cC,⟨tm,td,i,rfl⟩,hc,rfl⟩;have:td=todo:=i.todo rfl;subst this;exact⟨tm,cC,i.tmps,i.kind,i.fn,hc,rfl⟩
 ·rintro⟨tm,cC,h1,h2,h3,hc,rfl⟩;exact⟨_,cC,⟨tm,todo,⟨h1,h2,fun _=>rfl,h3⟩,rfl⟩,hc,rfl⟩
theorem ml(ht:gI kind=false){g:Goroutine}:jv P ρ ⟨⟨fn,nt,tmps,todo,defers,.run,kind⟩,callers,h⟩ cs g↔
  ∃tm cC,pV ρ nt tmps tm∧(kind=.normal∨kind=.deferred)∧(∃f,P.funcs[fn]?=some f)∧c8 P ρ callers cC∧g=G ((iD fn kind).at ⟨tm,defers.map (AD.ev ρ)⟩ todo) (cC++cs):=by
 rw[Kz];constructor
 ·rintro⟨tm,cC,h1,h2,h3,hc,rfl⟩;have hp:=qA h2 ht;exact⟨tm,cC,h1,hp,h3,hc,by rw[lh hp]⟩
 ·rintro⟨tm,cC,h1,h2,h3,hc,rfl⟩;exact⟨tm,cC,h1,.inl h2,h3,hc,by rw[lh h2]⟩
def abx(P:Program)(main:Bool)(O:dP)(U:Nat->Prop)(ρ:cn)(cs:List Frame)(c':dw)(g:Goroutine):Prop:=
 g.status=.running∧∃g',kD U c'∧jv P ρ c' cs g'∧∀w,ji O ρ w->∃es,stepG P main g w=.go g' w es∧∀e∈es,SF O ρ e
theorem mR(ht:gI kind=false){g:Goroutine}(I:kD U ⟨⟨fn,nt,tmps,todo,defers,.run,kind⟩,callers,h⟩)(Γ:jv P ρ ⟨⟨fn,nt,tmps,todo,defers,.run,kind⟩,callers,h⟩ cs g)
 (hs:∀w tm io,stepG P main (G ((iD fn kind).at ⟨tm,defers.map (AD.ev ρ)⟩ todo) io) w=.go (G ((iD fn kind).at ⟨tm,defers.map (AD.ev ρ)⟩ todo') io) w #[]):
  abx P main O U ρ cs ⟨⟨fn,nt,tmps,todo',defers,.run,kind⟩,callers,h⟩ g:=by
 obtain⟨tm,cC,h1,h2,h3,hc,rfl⟩:=(ml ht).1 Γ;exact⟨rfl,_,⟨⟨I.da.tmps,I.da.defers,trivial⟩,I.callers⟩,(ml ht).2 ⟨tm,cC,h1,h2,h3,hc,rfl⟩,fun w _=>⟨#[],hs w tm _,(by simp)⟩⟩
theorem Bp(S:ti P O ext)(hO:O.In U){c c':dw}(he:lstep? P O ext c=.ok c')(I:kD U c){g:Goroutine}(Γ:jv P ρ c cs g){qE:World}(HX:ji O ρ qE):abx P main O U ρ cs c' g:=by
 obtain⟨⟨fn,nt,tmps,todo,defers,mode,kind⟩,callers,h⟩:=c;unfold lstep? at he;dsimp only at he;split at he
 ·split at he
  ·cases he
  rename_i ht;split at he
  ·rename_i ops is kk;split at he
   ·cases he;exact mR ht I Γ fun _ _ _=>stepG_region_end
   ·rename_i i rest;split at he
    ·cases he
    ·rename_i o ho;split at he
     ·rename_i hg hl;rw[ax]at hl;obtain⟨tm,cC,h1,h2,h3,hc,rfl⟩:=(ml ht).1 Γ;have hw:Region.wanted o (yielded ops tm)=true:=by unfold Region.wanted;rw[hg]
      have rm:(iD fn kind).kind≠.early:=by rcases h2 with rfl|rfl<;>simp[iD]
      split at he
      ·rename_i v h' fY;cases he;have hv:v.In U:=(wL (ds:=defers.map (AD.ev ρ)) S hO h1 I.da.tmps hl.1 hl.2 fY HX).2.2;obtain⟨MD,e,Fv⟩:=sU (v:=v) h1 (defers.map (AD.ev ρ)) o.dst;refine⟨rfl,_,⟨⟨wA I.da.tmps hv h1.le,I.da.defers,trivial⟩,I.callers⟩,(ml ht).2 ⟨MD,cC,Fv,h2,h3,hc,rfl⟩,fun w k=>?_⟩;obtain⟨⟨nx,hr,bL,A,hi⟩,qS,_⟩:=wL (ds:=defers.map (AD.ev ρ)) S hO h1 I.da.tmps hl.1 hl.2 fY k;have nN:nx=.value (v.ev bL):=hi;rw[AV.cu A v hv]at nN;subst nN;rw[<-e];exact⟨_,stepG_value ho hw rm hr,fun e he=>qS e (mem_listed he)⟩
      ·rename_i d h' fY;cases he;have hv:d.In U:=(wL (ds:=defers.map (AD.ev ρ)) S hO h1 I.da.tmps hl.1 hl.2 fY HX).2.2;obtain⟨MD,e,Fv⟩:=sU (v:=cx) h1 ((d::defers).map (AD.ev ρ)) o.dst;refine⟨rfl,_,⟨⟨wA I.da.tmps (by simp[cx,AV.In,AV.iB]) h1.le,?_,trivial⟩,I.callers⟩,(ml ht).2 ⟨MD,cC,Fv,h2,h3,hc,rfl⟩,fun w k=>?_⟩
       ·intro x hx;rcases ac.1 hx with rfl|hx
        ·exact hv
        ·exact I.da.defers x hx
       ·obtain⟨⟨nx,hr,bL,A,hi⟩,qS,_⟩:=wL (ds:=defers.map (AD.ev ρ)) S hO h1 I.da.tmps hl.1 hl.2 fY k;have nN:nx=.defer (d.ev bL):=hi;rw[AD.cu A hv]at nN;subst nN;rw[<-e];exact⟨_,stepG_defer ho hw rm hr,fun e he=>qS e (mem_listed he)⟩
      ·cases he
      ·cases he
     ·cases he
  ·cases he;exact mR ht I Γ fun _ _ _=>stepG_inBlock
  ·cases he;exact mR ht I Γ fun _ _ _=>Dd
  ·split at he
   ·cases he;exact mR ht I Γ fun _ _ _=>stepG_skip
   ·cases he;exact mR ht I Γ fun _ _ _=>stepG_seq
   ·cases he;exact mR ht I Γ fun _ _ _=>stepG_block
   ·cases he;exact mR ht I Γ fun _ _ _=>HB
   ·cases he;exact mR ht I Γ fun _ _ _=>stepG_region
   ·cases he
  ·cases he
 ·cases he
def wM(O:dP)(ρ:cn)(l:Loc):Prop:=∃p∈O.mem,l=.cell (p.1.ev ρ)
theorem OY{B:Nat}(hB:∀p∈O.mem,(p.1.ev ρ).block<B){e:Event}(h:SF O ρ e):EvC (wM O ρ) B e:=by obtain⟨p,hp,rfl⟩:=h;exact⟨_,rfl,⟨p,hp,rfl⟩,hB p hp⟩
theorem OZ(S:ti P O ext)(hO:O.In U){B:Nat}(hB:∀p∈O.mem,(p.1.ev ρ).block<B):∀{n:Nat} {c c':dw},lrun? P O ext n c=.ok c'->kD U c->∀{g:Goroutine} {w:World},jv P ρ c cs g->∀{qE:World},ji O ρ qE->
  Goes P main (RK (ji O ρ)) (DS (wM O ρ) B) (fun g _=>kD U c'∧jv P ρ c' cs g) n g w:=by
 intro n
 induction n with
 |zero=>intro c c' he I g w Γ qE HX;have:(Except.ok c:M dw)=.ok c':=he;cases this;exact fun w₁ _=>⟨I,Γ⟩
 |succ n ih=>
  intro c c' he I g w Γ qE HX;have jO:(match lstep? P O ext c with
   |.ok c=>lrun? P O ext n c
   |.error e=>.error e)=.ok c':=he
  split at jO
  ·rename_i c1 hs;obtain⟨fJ,g',I',vj,di⟩:=Bp (main:=main) S hO hs I Γ HX;refine .inr ⟨fJ,fun w₁ k=>?_⟩;obtain⟨es,di,qS⟩:=di w₁ k;rw[di];exact⟨⟨rfl,fun e he=>OY hB (qS e he)⟩,ih jO I' vj HX⟩
  ·cases jO
end
theorem wN{α β:Type}{P:Program}(m:Sem α)(f:α->Sem β):∀{v:α},fi P m=some v->∀(w:World) (es:Array Event),(m.bind f).runT P w es=(f v).runT P w es:=by
 induction m with
 |pure a=>intro v h w es;simp only[fi]at h;cases h;rfl
 |program k ih=>intro v h w es;simp only[fi]at h;exact ih P h w es
 |_=>intro v h;simp[fi]at h
theorem O0{P:Program}{f:Operand->Value}{o:Oper}{t:TypeId}{x:Operand}{ok:Bool}{d:ChanDir}{elem:TypeId}{z:Value}(fY:o.op=.recv t x ok)(hu:P.underlying t=some (.chan d elem))(hz:fi P (zeroValue elem)=some z)(w:World)(es:Array Event):
  (execOp f o).runT P w es=(.ok (.comm #[{chan:=f x,send:=none,zero:=z}] true (.recv ok)) w,es):=by
 unfold execOp;rw[fY];have h1:fi P (underlying t)=some (.chan d elem):=by show fi P (match P.underlying t with|some d=>pure d|none=>stuck "no such type")=_;rw[hu];rfl
 show((underlying t).bind _).runT P w es=_;rw[wN _ _ h1];show((zeroValue elem).bind _).runT P w es=_;rw[wN _ _ hz];rfl
section
variable {P:Program}{main:Bool}{O:dP}{ext:Ext}{U:Nat->Prop}{ρ:cn}{cs:List Frame}
theorem O1{c:dw}{r:BR}{z:Value}{ok:Bool}(he:recvAt? P c=some (r,z,ok)){g:Goroutine}(Γ:jv P ρ c cs g){K:World->Prop}{Still:Loc->Prop}{B:Nat}{home:Goroutine->Prop}(hh:home g):
  AtIn P main K Still B (Conc.Seat.one (r.ev ρ) z ok home) g g:=by
 obtain⟨⟨fn,nt,tmps,todo,defers,mode,kind⟩,callers,h⟩:=c;unfold recvAt? at he;split at he
 ·rename_i fn' nt' DO ops i rest k wH uK fV h' hc;cases hc;split at he
  ·cases he
  rename_i ht;split at he
  ·cases he
  ·rename_i o ho;split at he
   ·rename_i t x ok' hg fY;split at he
    ·rename_i r' d elem hx hu;split at he
     ·rename_i z' hz;cases he;obtain⟨tm,cC,h1,h2,h3,hc,rfl⟩:=(ml ht).1 Γ;have hw:Region.wanted o (yielded ops tm)=true:=by unfold Region.wanted;rw[hg]
      have rm:(iD fn kind).kind≠.early:=by rcases h2 with rfl|rfl<;>simp[iD]
      have hex:(⟨tm,defers.map (AD.ev ρ)⟩:Act).eval x=.chan (some (r.ev ρ)):=by rw[jh h1,hx];rfl
      have hR:=fun w es=>O0 (f:=(⟨tm,defers.map (AD.ev ρ)⟩:Act).eval) fY hu hz w es;refine atIn_of ho hw rm (fun w=>?_) (fun w=>?_) hh
      ·have:=congrArg Prod.fst (hR w #[]);rw[Sem.runT_fst]at this;rw[this,hex];rfl
      ·exact congrArg Prod.snd (hR w #[])
     ·cases he
    ·cases he
   ·cases he
 ·cases he
theorem HY{R:World->World->Prop}{D:World->World->Array Event->Prop}{A B:Goroutine->World->Prop}(h:∀g w,A g w->B g w):∀{n:Nat} {g:Goroutine} {w:World},Goes P main R D A n g w->Goes P main R D B n g w:=by
 intro n
 induction n with
 |zero=>intro g w x;exact fun w₁ hr=>h _ _ (x w₁ hr)
 |succ n ih=>
  intro g w x;rcases x with x|⟨hs,x⟩
  ·exact .inl fun w₁ hr=>h _ _ (x w₁ hr)
  ·exact .inr ⟨hs,fun w₁ hr=>DN (x w₁ hr) fun g' w' es ⟨a,b⟩=>⟨a,ih b⟩⟩
theorem MT(S:ti P O ext)(hO:O.In U){B:Nat}(hB:∀p∈O.mem,(p.1.ev ρ).block<B){n:Nat}{c c':dw}(he:lrun? P O ext n c=.ok c'){r:BR}{z:Value}{ok:Bool}(hr:recvAt? P c'=some (r,z,ok))(I:kD U c){g:Goroutine}(Γ:jv P ρ c cs g){qE:World}(HX:ji O ρ qE):
  Sits P main (ji O ρ) (wM O ρ) B (Conc.Seat.one (r.ev ρ) z ok (fun g=>kD U c'∧jv P ρ c' cs g)) (n+1) g:=by
 have G:=OZ (main:=main) S hO hB he I (w:=qE) Γ HX;refine .inl ⟨n,qE,rfl,?_⟩;exact HY (fun g w ⟨I',vj⟩=>⟨g,O1 hr vj ⟨I',vj⟩⟩) G
theorem kU{c:dw}{g:Goroutine}(Γ:jv P ρ c cs g)(I:kD U c){v:AV}(hv:v.In U){fr:bH}(hf:ey c.da v=.ok fr)(h:AH):kD U ⟨fr,c.callers,h⟩∧jv P ρ ⟨fr,c.callers,h⟩ cs (Conc.served g (v.ev ρ)):=by obtain⟨⟨fn,nt,tmps,todo,defers,mode,kind⟩,callers,h0⟩:=c;obtain⟨fn',nt',DO,ops,i,rest,k,wH,uK,e1,rfl⟩:=vk hf;cases e1;obtain⟨tm,cC,h1,h2,h3,hc,rfl⟩:=Kz.1 Γ;obtain⟨MD,e,Fv⟩:=sU (v:=v) h1 (dB ρ kind (defers.map (AD.ev ρ))) ((ops[i]?).bind (·.dst));refine⟨⟨⟨wA I.da.tmps hv h1.le,I.da.defers,trivial⟩,I.callers⟩,Kz.2 ⟨MD,cC,Fv,h2,h3,hc,?_⟩⟩;show{G ((bB ρ fn kind).atR (aB ρ kind tm defers) (.inRegion ops (i::rest)::k)) (cC++cs)with frame:=((bB ρ fn kind).atR (aB ρ kind tm defers) (.inRegion ops (i::rest)::k)).finish (v.ev ρ),status:=.running,offers:=none}=_;have e2:(aB ρ kind tm defers).put ((ops[i]?).bind (·.dst)) (v.ev ρ)=⟨MD,dB ρ kind (defers.map (AD.ev ρ))⟩:=e;rw[Frame.finish_atR,e2];rfl
def fB(P:Program):Frame:={(default:Frame)with fn:=P.funcs.size,defers:=[],mode:=.panicking [goexitEntry]}
theorem KA(w:World):stepG P main (G (fB P) []) w=.go {frame:=fB P,callers:=[],status:=.finished,dying:=none} w #[]:=by simp[G,stepG,unwind,fB,Frame.catches,goexitEntry];rfl
theorem tj(hO:O.mem=[])(hb:O.bs=[])(hi:O.is=[])(S:ti P O ext)(hU:O.In U):∀{n:Nat} {c:dw},leave? P O ext n c=true->kD U c->∀{g:Goroutine},jv P ρ c [fB P] g->∃m,QuitsD P m 0 g:=by
 have kn:∀w,ji O ρ w:=fun w=>⟨(fun p hp=>by rw[hb]at hp;cases hp),(fun p hp=>by rw[hi]at hp;cases hp),(fun p hp=>by rw[hO]at hp;cases hp)⟩;intro n
 induction n with
 |zero=>intro c he;cases he
 |succ n ih=>
  intro c he I g Γ;obtain⟨⟨fn,nt,tmps,todo,defers,mode,kind⟩,callers,h⟩:=c;have jO:leave1? P O ext (leave? P O ext n) ⟨⟨fn,nt,tmps,todo,defers,mode,kind⟩,callers,h⟩=true:=he;clear he;unfold leave1? at jO;dsimp only at jO;split at jO
  ·split at jO
   ·cases jO
   rename_i ht;have ret:∀{todo':List Item},leave? P O ext n ⟨⟨fn,nt,tmps,todo',defers,.returning,kind⟩,callers,h⟩=true->(∀w tm io,stepG P false (G ((iD fn kind).at ⟨tm,defers.map (AD.ev ρ)⟩ todo) io) w=.go (G {(iD fn kind).at ⟨tm,defers.map (AD.ev ρ)⟩ todo with mode:=.returning} io) w #[])->∃m,QuitsD P m 0 g:=by intro todo' hl hs;obtain⟨tm,cC,h1,h2,h3,hc,rfl⟩:=(ml ht).1 Γ;obtain⟨m,hm⟩:=ih hl ⟨⟨I.da.tmps,I.da.defers,trivial⟩,I.callers⟩ (g:=G {(iD fn kind).at ⟨tm,defers.map (AD.ev ρ)⟩ todo with mode:=.returning} (cC++[fB P])) ⟨_,cC,⟨tm,todo,⟨h1,.inl h2,(fun x=>by cases x),h3⟩,by rw[<-lh h2];rfl⟩,hc,rfl⟩;exact⟨m+1,.ctl rfl (fun w=>hs w tm _) hm⟩
   split at jO
   ·exact ret jO fun _ _ _=>stepG_end
   ·exact ret jO fun _ _ _=>stepG_ret'
   ·split at jO
    ·rename_i c1 hs;obtain⟨fJ,g',I',vj,di⟩:=Bp (main:=false) S hU hs I Γ (kn default);obtain⟨m,hm⟩:=ih jO I' vj;refine⟨m+1,.ctl fJ (fun w=>?_) hm⟩;obtain⟨es,e1,e2⟩:=di w (kn w);have:es=#[]:=by
      rcases Nat.eq_zero_or_pos es.size with h0|h0
      ·exact bz h0
      ·obtain⟨p,hp,_⟩:=e2 _ (Array.getElem_mem h0);rw[hO]at hp;cases hp
     rw[e1,this]
    ·cases jO
  ·split at jO
   ·rename_i f hf;obtain⟨fr,cC,⟨tm,td,is,rfl⟩,hc,rfl⟩:=Γ;split at jO
    ·rename_i nR;cases cC with
     |cons a b=>exact absurd hc (by simp[c8])
     |nil=>
      have hr:f.results=#[]:=by apply bD.1;exact nR
      refine⟨1+1,.ctl rfl (fun w=>?_) (.ctl rfl (fun w=>KA w) (show QuitsD P 0 0 _ from⟨rfl,rfl⟩))⟩;have:=kA (main:=false) (P:=P) (cs:=[]) (eX:=fB P) (fr:=dS ρ ⟨fn,nt,tmps,todo,[],.returning,.deferred⟩ tm td) (w:=w) rfl rfl rfl hf (results_none hr _ P w);rw[events_results_none hr,seen_none]at this;exact this
    ·rename_i eX rest nR;cases cC with
     |nil=>exact absurd hc (by simp[c8])
     |cons c1 cC=>
      obtain⟨Xl,hc⟩:=hc;have hr:f.results=#[]:=by apply bD.1;exact nR
      obtain⟨m,hm⟩:=ih jO ⟨xR (I.callers _ (an ..)),fun fr hf=>I.callers fr (am _ hf)⟩ (g:=_) ⟨_,cC,FC Xl,hc,rfl⟩;refine⟨m+1,.ctl rfl (fun w=>?_) hm⟩;have:=kA (main:=false) (P:=P) (cs:=cC++[fB P]) (eX:=c1) (fr:=dS ρ ⟨fn,nt,tmps,todo,[],.returning,.deferred⟩ tm td) (w:=w) rfl rfl rfl hf (results_none hr _ P w);rw[events_results_none hr,seen_none]at this;exact this
    ·cases jO
   ·cases jO
  ·cases jO
end
theorem ug(i:Nat)(p:Nat×bM)(l:List (Nat×bM)):cV i (p::l)=Bool.rec (cV i l) (some p.2) (Nat.beq i p.1):=rfl
theorem mS{i:Nat}{b:bM}:∀{l:List (Nat×bM)},cV i l=some b->(i,b)∈l
 |[],h=>by cases h
 |p::l,h=>by
  rw[ug]at h;cases e:Nat.beq i p.1 with
  |true=>rw[e]at h;have h':some p.2=some b:=h;have e2:=aI e;cases h';rw[e2];exact an ..
  |false=>rw[e]at h;exact am _ (mS (l:=l) h)
theorem HZ{i:Nat}{b:bM}:∀{l:List (Nat×bM)},(keys l).Nodup->(i,b)∈l->cV i l=some b
 |[],_,h=>by cases h
 |p::l,hn,h=>by
  rw[ug];have MU:(p.1::keys l).Nodup:=hn;rcases ac.1 h with rfl|h
  ·simp
  ·cases e:Nat.beq i p.1 with
   |true=>have e2:=aI e;have:i∈keys l:=aJ.2 ⟨(i,b),h,rfl⟩;rw[e2]at this;exact absurd this (bC.1 MU).1
   |false=>exact HZ (bC.1 MU).2 h
section
variable {K:ik}{main:Bool}{U:Nat->Prop}{ρ:cn}{cs:List Frame}
theorem SG(Gd:K.Good)(F:K.il){ext:Ext}(X:ib K ext){sum:om}(Z:uN K main sum){f:Nat}:∀{n:Nat} {c:dw} {r:dw⊕(AE×AH)},steps? K.P K.O ext sum f n c=.ok r->
  match r with
  |.inl c'=>wB c'.da.fn c'.callers=wB c.da.fn c.callers∧∃N,mQ K main c c' N
  |.inr r=>∃N,Hw K main c r N:=by
 intro n
 induction n with
 |zero=>intro c r he;have:(Except.ok (.inl c):M (dw⊕(AE×AH)))=.ok r:=he;cases this;exact⟨rfl,0,fun U ρ cs g w I Γ=>dy.stop ⟨ρ,cz.refl _ _,cE.refl _ _,d6.refl I.iC,I.congr (mg U _),Γ⟩⟩
 |succ n ih=>
  intro c r he;have jO:(match step? K.P K.O ext (fun g args h=>match sum g args h with
   |some r=>r
   |none=>match fD K.P g args .normal with
    |.ok fr=>run? K.P K.O ext sum f ⟨fr,[],h⟩
    |.error e=>.error e) c with
   |.ok (.inl c)=>steps? K.P K.O ext sum f n c
   |.ok (.inr r)=>.ok (.inr r)
   |.error e=>.error e)=.ok r:=he
  have C:=xS (K:=K) (main:=main) Z (k:=run? K.P K.O ext sum f) (Kr Gd F X Z);split at jO
  ·rename_i c' hs;obtain⟨N,L⟩:=wG Gd F X C hs;have hb:=HJ hs;have h2:=ih jO;cases r with
   |inl c2=>obtain⟨b2,M,L2⟩:=h2;exact⟨b2.trans hb,N+M,L.trans L2⟩
   |inr r2=>obtain⟨M,E⟩:=h2;exact⟨N+M,L.rk hb E⟩
  ·rename_i r' hs;cases jO;exact wG Gd F X C hs
  ·cases jO
theorem cE.mono{o o':Nat->Prop}{w w':World}(h:cE o w w')(hs:∀n,o n->o' n):cE o' w w':=⟨fun n hn=>h.heap n fun x=>hn (hs n x),h.size,h.tape,h.os,h.output⟩
end
def Bq(cq:List eW)(ρ:cn)(b:Nat):Prop:=∃s∈cq,b=ρ.b s.ch
def KB(cq:List eW)(ρ:cn)(b n:Nat):Prop:=∃s∈cq,∃p∈s.gi,p.1.ev ρ=⟨b,n,none⟩
def Br(cq:List eW)(ρ:cn)(b n:Nat):Prop:=KB cq ρ b n∨(n=0∧Bq cq ρ b)
def Ea(O:dP)(cq:List eW)(ρ:cn)(a:Addr):Prop:=Br cq ρ a.block a.off∨∃p∈O.mem,p.1.ev ρ=a
def vC(N:Addr->Prop)(e:Event):Prop:=(∀a s,e=⟨.cell a,true,s⟩->¬N a)∧∀m,e.loc=.mark m->E6 m=true
def CK(P:Program)(O:dP)(base:Nat)(cq:List eW)(ρ:cn):ik:=⟨P,O,fun n=>base≤n∧¬Bq cq ρ n,vC (Ea O cq ρ),False,Br cq ρ⟩
section
variable {P:Program}{O:dP}{base:Nat}{cq:List eW}{ρ bL:cn}{U U':Nat->Prop}{cs:List Frame}
theorem nT(N:Addr->Prop)(a:Addr)(s:Bool):vC N ⟨.cell a,false,s⟩:=⟨fun a' s' e=>by(cases e),fun m e=>by(cases e)⟩
theorem SH(N:Addr->Prop)(r:Nat)(wr s:Bool):vC N ⟨.obj r,wr,s⟩:=⟨fun a' s' e=>by(cases e),fun m e=>by(cases e)⟩
theorem zQ(N:Addr->Prop){m:Mark}(h:E6 m=true):vC N ⟨.mark m,false,true⟩:=⟨fun a' s' e=>by(cases e),fun m' e=>by(cases e;exact h)⟩
theorem Xr(hm:∀p∈O.mem,(p.1.ev ρ).block<base):(CK P O base cq ρ).Good:=by
 refine⟨fun a s _=>nT _ a s,fun a s ho hn=>⟨fun a' s' e=>?_,fun m e=>by(cases e)⟩,fun b n s hs he=>he.1 ⟨b,n,none⟩ s rfl (.inl hs),fun m h=>zQ _ h,zQ _ rfl,fun h=>h.elim,fun r wr s _=>SH _ r wr s⟩;cases e;rintro(h|⟨p,hp,he⟩)
 ·exact hn h
 ·have:=hm p hp;rw[he]at this;exact absurd ho.1 (Nat.not_le.2 this)
structure oM(P:Program)(O:dP)(base:Nat)(U:Nat->Prop)(ρ:cn)(cs:List Frame)(s:eW)(t:Tok.Seat):Prop where
 c:t.c=ρ.b s.ch
 ge:base≤ρ.b s.ch
 z:t.z=s.z
 ok:t.ok=s.ok
 still:∀l,t.still l->∃p∈s.gi++O.mem,l=.cell (p.1.ev ρ)
 dE:∀w,t.dE w↔∀p∈s.gi++O.mem,w.cell? (p.1.ev ρ)=some (p.2.ev ρ)
 home:∀g,t.home g->kD U s.cJ∧jv P ρ s.cJ cs g
 uch:U s.ch
 us:∀p∈s.gi,p.1.In U∧p.2.In U
theorem jv.bE(A:cz U ρ bL){c:dw}(I:kD U c){g:Goroutine}(Γ:jv P ρ c cs g):jv P bL c cs g:=by obtain⟨fr,cC,h1,h2,h3⟩:=Γ;exact⟨fr,cC,h1.bE A I.da,iH A h2 I.callers,h3⟩
theorem oM.bE{s:eW}{t:Tok.Seat}(h:oM P O base U ρ cs s t)(A:cz U ρ bL)(hO:O.In U)(hs:∀n,U n->U' n):oM P O base U' bL cs s t:=by
 have hb:bL.b s.ch=ρ.b s.ch:=A.b _ h.uch;have hin:∀p∈s.gi++O.mem,p.1.In U∧p.2.In U:=fun p hp=>(ay.1 hp).elim (h.us p) (hO.mem p);refine⟨by rw[hb];exact h.c,by rw[hb];exact h.ge,h.z,h.ok,fun l hl=>?_,fun w=>?_,fun g hg=>?_,hs _ h.uch,fun p hp=>⟨AA.In.mono hs (h.us p hp).1,AV.In.mono hs _ (h.us p hp).2⟩⟩
 ·obtain⟨p,hp,e⟩:=h.still l hl;exact⟨p,hp,by rw[AA.cu A (hin p hp).1];exact e⟩
 ·rw[h.dE];exact⟨fun x p hp=>by rw[AA.cu A (hin p hp).1,AV.cu A _ (hin p hp).2];exact x p hp,fun x p hp=>by have:=x p hp;rwa[AA.cu A (hin p hp).1,AV.cu A _ (hin p hp).2]at this⟩
 ·obtain⟨I,Γ⟩:=h.home g hg;exact⟨⟨I.da.mono hs,fun fr hf=>(I.callers fr hf).mono hs⟩,Γ.bE A I⟩
theorem SI(A:cz U ρ bL)(h1:∀s∈cq,U s.ch∧∀p∈s.gi,p.1.In U)(hO:O.In U):CK P O base cq bL=CK P O base cq ρ:=by
 have e1:Bq cq bL=Bq cq ρ:=by funext b;exact propext ⟨fun⟨s,hs,e⟩=>⟨s,hs,by rw[<-A.b _ (h1 s hs).1];exact e⟩,fun⟨s,hs,e⟩=>⟨s,hs,by rw[A.b _ (h1 s hs).1];exact e⟩⟩
 have e2:KB cq bL=KB cq ρ:=by funext b n;exact propext ⟨fun⟨s,hs,p,hp,e⟩=>⟨s,hs,p,hp,by rw[<-AA.cu A ((h1 s hs).2 p hp)];exact e⟩,fun⟨s,hs,p,hp,e⟩=>⟨s,hs,p,hp,by rw[AA.cu A ((h1 s hs).2 p hp)];exact e⟩⟩
 have e3:Br cq bL=Br cq ρ:=by unfold Br;rw[e1,e2]
 have e4:Ea O cq bL=Ea O cq ρ:=by funext a;unfold Ea;rw[e3];exact propext ⟨fun h=>h.imp id fun⟨p,hp,e⟩=>⟨p,hp,by rw[<-AA.cu A (hO.mem p hp).1];exact e⟩,fun h=>h.imp id fun⟨p,hp,e⟩=>⟨p,hp,by rw[AA.cu A (hO.mem p hp).1];exact e⟩⟩
 unfold CK;rw[e1,e3,e4]
theorem AA.pG(ρ:cn)(a:AA):a.ev ρ=⟨(a.ev ρ).block,(a.ev ρ).off,none⟩:=rfl
theorem Xs{bJ:Nat->Option Tok.Seat}(hm:∀p∈O.mem,(p.1.ev ρ).block<base)(all:∀i t,bJ i=some t->∃s∈cq,∃cs,oM P O base U ρ cs s t):
  ∀w w' es,DK (CK P O base cq ρ) w w' es->Tok.HP bJ w w' es:=by
 rintro w w' es ⟨hk,he,di⟩;refine⟨fun i t e OV=>?_,fun i t e=>?_,fun e hee=>?_⟩
 ·obtain⟨s,hs,cs,S⟩:=all i t e;rw[S.dE]at OV⊢;intro p hp;rcases ay.1 hp with Az|Az
  ·have:=OV p hp;rw[AA.pG]at this⊢;exact di _ _ _ (.inl ⟨s,hs,p,Az,AA.pG ρ p.1⟩) this
  ·have:=OV p hp;have hn:¬(CK P O base cq ρ).own (p.1.ev ρ).block:=fun h=>absurd h.1 (Nat.not_le.2 (hm p Az));simp only[World.cell?]at this⊢;rw[hk.heap _ hn];exact this
 ·obtain⟨s,hs,cs,S⟩:=all i t e;exact hk.heap _ fun h=>h.2 ⟨s,hs,S.c⟩
 ·have hE:vC (Ea O cq ρ) e:=he e hee;refine⟨fun x hx g hg=>?_,fun e1=>?_,fun e1=>?_⟩
  ·obtain⟨t,ht,hl⟩:=hg;obtain⟨s,hs,cs,S⟩:=all g t ht;obtain⟨p,hp,QW⟩:=S.still _ hl;have hN:Ea O cq ρ (p.1.ev ρ):=(ay.1 hp).elim (fun h=>.inl (.inl ⟨s,hs,p,h,AA.pG ρ p.1⟩)) fun h=>.inr ⟨p,h,rfl⟩;obtain⟨loc,wr,sy⟩:=e;cases loc with
   |cell a=>
    have mE:some (⟨.cell a,wr,if sy then .atomic else .plain⟩:Touch)=some x:=hx;cases mE;have ea:a=p.1.ev ρ:=by simpa using QW
    cases wr with
    |false=>rfl
    |true=>exact absurd hN (ea▸hE.1 a sy rfl)
   |mark m=>have hmk:=hE.2 m rfl;cases m<;>first|(cases hmk;done)|cases hx
   |obj r=>cases wr<;>cases sy<;>(cases hx;try cases QW)
   |output=>have mE:some (⟨.output,wr,if sy then .atomic else .plain⟩:Touch)=some x:=hx;cases mE;cases QW
   |goroutines=>have mE:some (⟨.goroutines,wr,if sy then .atomic else .plain⟩:Touch)=some x:=hx;cases mE;cases QW
  ·have:=hE.2 _ e1;cases this
  ·have:=hE.2 _ e1;cases this
theorem p7(ss:List eW):∀(hp:List (Nat×bM)) (i:Nat),cV i (kq ss hp)=(cV i hp).map fun b=>b.Dg (vu i ss)
 |[],i=>rfl
 |p::l,i=>by
  show cV i ((p.1,p.2.Dg (vu p.1 ss))::kq ss l)=_;rw[ug,ug,p7 ss l i];cases e:Nat.beq i p.1 with
  |true=>have:=aI e;subst this;rfl
  |false=>rfl
theorem ry(ss:List eW):∀(hp:List (Nat×bM)),keys (kq ss hp)=keys hp
 |[]=>rfl
 |p::l=>by show p.1::keys (kq ss l)=p.1::keys l;rw[ry ss l]
theorem H7(b:bM)(ls:List Nat):(b.Dg ls).isChan=b.isChan:=by cases b<;>first|rfl|(cases ls<;>rfl)
theorem Xt{b:bM}{o:Obj}(h:b.is P ρ o)(ls:List Nat):(b.Dg ls).is P ρ o:=by
 cases b with
 |cells cs e=>cases ls<;>exact h
 |fT cs e l=>cases ls<;>exact h
 |_=>exact h
theorem Xu{b:bM}(h:b.In U)(ls:List Nat):(b.Dg ls).In U:=by
 cases b with
 |cells cs e=>cases ls<;>exact h
 |fT cs e l=>cases ls<;>exact h
 |_=>exact h
theorem H8{b:bM}(hb:b.te=true){ls:List Nat}{n:Nat}(h:n∈ls):(b.Dg ls).l9 n=true:=by
 cases ls with
 |nil=>cases h
 |cons a l=>
  cases b with
  |cells cs e=>simpa[bM.Dg,bM.l9] using h
  |fT cs e l'=>simpa[bM.Dg,bM.l9] using h
  |_=>cases hb
theorem Bs{i n:Nat}{v:AV}:∀{l:List (AA×AV)},((⟨.cN i,.lit (.ofNat n)⟩:AA),v)∈l->n∈vt i l
 |p::l,h=>by
  rcases ac.1 h with h'|h'
  ·subst h';unfold vt;simp
  ·have ih:=Bs h';unfold vt;split
   ·split
    ·exact am _ ih
    ·exact ih
   ·exact ih
theorem Bt{i n:Nat}{v:AV}{s:eW}(hp:((⟨.cN i,.lit (.ofNat n)⟩:AA),v)∈s.gi):∀{ss:List eW},s∈ss->n∈vu i ss
 |t::l,h=>by
  unfold vu;rcases ac.1 h with h'|h'
  ·subst h';exact ay.2 (.inl (Bs hp))
  ·exact ay.2 (.inr (Bt hp h'))
theorem pH{hp:List (Nat×bM)}:∀{l:List (AA×AV)},lm hp l=true->∀p∈l,∃i n b,p.1=⟨.cN i,.lit (.ofNat n)⟩∧cV i hp=some b∧b.te=true
 |q::l,h,p,SJ=>by
  unfold lm at h;split at h
  ·rename_i hq;rcases ac.1 SJ with e|SJ
   ·subst e;unfold zM at hq;split at hq
    ·rename_i i n e;split at hq
     ·rename_i b hb;exact⟨i,n,b,e,hb,hq⟩
     ·cases hq
    ·cases hq
   ·exact pH h p SJ
  ·cases h
theorem tq{hp:List (Nat×bM)}{i:Nat}(h:oK hp i=true):cV i hp=some .chan:=by
 unfold oK at h;split at h
 ·rename_i b hb;cases b<;>first|(cases h;done)|exact hb
 ·cases h
theorem gm{hp:List (Nat×bM)}:∀{l:List eW},je hp l=true->∀s∈l,cV s.ch hp=some .chan∧lm hp s.gi=true
 |q::l,h,s,hs=>by
  unfold je at h;split at h
  ·rename_i h1 h2;rcases ac.1 hs with e|hs
   ·subst e;exact⟨tq h1,h2⟩
   ·exact gm h s hs
  ·cases h
theorem Xv{o:Obj}{b:bM}(h:b.is P ρ o){k:Nat}(ho:o=.chan 0 #[] false k k false):b=.chan:=by
 subst ho;rcases h with⟨arr,e,_⟩|h
 ·cases e
 ·cases b with
  |map es=>obtain⟨_,_,e,_⟩:=h;cases e
  |chan=>rfl
  |iY s n fs ws=>obtain⟨_,_,_,e,_⟩:=h;cases e
  |_=>exact h.elim
def MV(o:Option Obj):Prop:=∃k,o=some (.chan 0 #[] false k k false)
theorem KC{hp:List (Nat×bM)}{nb eH:Nat}{w:World}(R:Rel (CK P O base cq ρ) ρ ⟨hp,nb,eH⟩ w)(qB:∀s∈cq,base≤ρ.b s.ch)(hok:je hp cq=true){i:Nat}{b:bM}(hb:cV i hp=some b):base≤ρ.b i:=by
 rcases R.qu i b hb with h|⟨hc,⟨s,hs,p,Az,e⟩|⟨_,s,hs,e⟩⟩
 ·exact h.1
 ·obtain⟨i',n,b2,e1,e2,e3⟩:=pH (gm hok s hs).2 p Az;rw[e1]at e;have:ρ.b i'=ρ.b i:=congrArg Addr.block e;have:=R.inj _ _ _ _ e2 hb this;subst this;rw[hb]at e2;cases e2;cases b<;>first|(cases hc;done)|cases e3
 ·rw[e];exact qB s hs
theorem vD{hp:List (Nat×bM)}:∀{l:List eW},(∀s∈l,cV s.ch hp=some .chan∧lm hp s.gi=true)->je hp l=true
 |[],_=>rfl
 |q::l,h=>by
  obtain⟨h1,h2⟩:=h q (an ..);unfold je;have:oK hp q.ch=true:=by unfold oK;rw[h1];rfl
  rw[this,h2];exact vD fun s hs=>h s (am _ hs)
theorem H9{hp:List (Nat×bM)}{nb eH:Nat}{w w':World}{kE:List eW}(R:Rel (CK P O base cq ρ) ρ ⟨hp,nb,eH⟩ w)(hsz:w'.heap.size=w.heap.size)
 (hh:∀n:Nat,w'.heap[n]?=w.heap[n]?∨(MV w.heap[n]?∧MV w'.heap[n]?))(hm:∀p∈O.mem,(p.1.ev ρ).block<base)(qB:∀s∈cq,base≤ρ.b s.ch)(hok:je hp cq=true)(rz:je hp kE=true):
  Rel (CK P O base kE ρ) ρ ⟨kq kE hp,nb,eH⟩ w':=by
 have fnd:∀{i:Nat} {b':bM},cV i (kq kE hp)=some b'->∃b,cV i hp=some b∧b'=b.Dg (vu i kE):=by intro i b' h;rw[p7]at h;obtain⟨b,h1,h2⟩:=Option.map_eq_some_iff.1 h;exact⟨b,h1,h2.symm⟩
 have ge:∀{i:Nat} {b:bM},cV i hp=some b->base≤ρ.b i:=fun hb=>KC R qB hok hb;have dE:∀{n:Nat} {o:Obj},w.heap[n]?=some o->(∀k,o≠.chan 0 #[] false k k false)->w'.heap[n]?=some o:=by
  intro n o ho df;rcases hh n with h|⟨⟨k,h⟩,_⟩
  ·rw[h,ho]
  ·rw[h]at ho;cases ho;exact absurd rfl (df k)
 refine⟨fun i b' qj=>?_,fun i b' qj=>?_,fun i j b c hb hc e=>?_,R.bs,R.is,fun p hp=>?_,fun n hn=>?_,fun i b' qj n hs=>?_,fun b n hs=>?_⟩
 ·obtain⟨b,hb,rfl⟩:=fnd qj;obtain⟨o,ho,hi⟩:=R.kj i b hb;rcases hh (ρ.b i)with h|⟨⟨k,h⟩,k',h'⟩
  ·exact⟨o,by rw[h];exact ho,Xt hi _⟩
  ·rw[h]at ho;cases ho;have:=Xv hi rfl;subst this;exact⟨_,h',.inr ⟨k',rfl⟩⟩
 ·obtain⟨b,hb,rfl⟩:=fnd qj;rw[H7];by_cases hc:Bq kE ρ (ρ.b i)
  ·right;obtain⟨s,hs,e⟩:=id hc;have q_:=(gm rz s hs).1;have:=R.inj _ _ _ _ hb q_ e;subst this;rw[hb]at q_;cases q_;exact⟨rfl,.inr ⟨rfl,hc⟩⟩
  ·exact .inl ⟨ge hb,hc⟩
 ·obtain⟨b1,J9,_⟩:=fnd hb;obtain⟨c1,Xl,_⟩:=fnd hc;exact R.inj i j b1 c1 J9 Xl e
 ·obtain⟨m1,m2,m3⟩:=R.mem p hp;refine⟨fun h=>absurd h.1 (Nat.not_le.2 (hm p hp)),?_,fun s=>nT _ _ s⟩;simp only[World.cell?]at m2⊢;cases ho:w.heap[(p.1.ev ρ).block]? with
  |none=>rw[ho]at m2;cases m2
  |some o=>rw[dE ho (fun k e=>by rw[ho,e]at m2;cases m2)];rw[ho]at m2;exact m2
 ·rw[hsz]at hn;refine⟨(R.room n hn).1,fun⟨s,hs,e⟩=>?_⟩;obtain⟨o,ho,_⟩:=R.kj _ _ (gm rz s hs).1;have:=iN ho;omega
 ·obtain⟨b,hb,rfl⟩:=fnd qj;rcases hs with⟨s,hs,p,Az,e⟩|⟨rfl,s,hs,e⟩
  ·obtain⟨i',n',b2,e1,e2,e3⟩:=pH (gm rz s hs).2 p Az;rw[e1]at e;have h1:ρ.b i'=ρ.b i:=congrArg Addr.block e;have h2:n'=n:=congrArg Addr.off e;have:=R.inj _ _ _ _ e2 hb h1;subst this;subst h2;rw[hb]at e2;cases e2;obtain⟨pa,pv⟩:=p;dsimp only at e1;subst e1;exact xH (H8 e3 (Bt Az hs))
  ·have q_:=(gm rz s hs).1;have:=R.inj _ _ _ _ hb q_ e;subst this;rw[hb]at q_;cases q_;rfl
 ·rw[hsz];rcases hs with⟨s,hs,p,Az,e⟩|⟨rfl,s,hs,e⟩
  ·obtain⟨i',n',b2,e1,e2,e3⟩:=pH (gm rz s hs).2 p Az;rw[e1]at e;have h1:ρ.b i'=b:=congrArg Addr.block e;obtain⟨o,ho,_⟩:=R.kj _ _ e2;rw[<-h1];exact iN ho
  ·obtain⟨o,ho,_⟩:=R.kj _ _ (gm rz s hs).1;rw[e];exact iN ho
theorem H_{hp:List (Nat×bM)}{nb eH:Nat}{kE:List eW}(I:h_ (CK P O base cq ρ) U ⟨hp,nb,eH⟩):h_ (CK P O base kE ρ) U ⟨kq kE hp,nb,eH⟩:=by refine⟨fun i b' qj=>?_,fun i hi=>I.keys i (by rw[ry]at hi;exact hi),by rw[ry];exact I.nodup,I.fresh,I.zE⟩;rw[p7]at qj;obtain⟨b,h1,rfl⟩:=Option.map_eq_some_iff.1 qj;exact Xu (I.hp i b h1) _
end
def p_(P:Program)(cs:List Frame)(i:Nat):List Frame:=if i=0 then cs else[fB P]
structure iX(P:Program)(O:dP)(ext:Ext)(sum:om):Prop where
 uP:∀own Ev kx still,(⟨P,O,own,Ev,kx,still⟩:ik).il
 ext:∀own Ev kx still,(⟨P,O,own,Ev,kx,still⟩:ik).Good->ib ⟨P,O,own,Ev,kx,still⟩ ext
 WN:∀p∈O.WN,ko P p.1 (fun _=>do mark (match p.2 with|true=>.disable|false=>.enable);pure Extern.Race.none_)
 sum:∀own Ev kx still main,(⟨P,O,own,Ev,kx,still⟩:ik).Good->uN ⟨P,O,own,Ev,kx,still⟩ main sum
structure CFr(P:Program)(O:dP)(base:Nat)(W0:World)(cs:List Frame)(st:yK)(gs:Array Goroutine)(w:World)(T:Trace)(q:Nat->Nat)(bJ:Nat->Option Tok.Seat)(U:Nat->Prop)(ρ:cn)(γ:Nat->Nat)(a:Goroutine):Prop where
 FH:Tok.fM P bJ (γ st.h) st.deaf T gs w q
 zero:γ 0=0
 inj:∀i j,i<st.next->j<st.next->γ i=γ j->i=j
 lt:∀i,i<st.next->γ i<gs.size
 dU:st.h<st.next
 FI:gs[γ st.h]?=some a
 iC:gq (CK P O base st.cq ρ) U st.c
 Xw:rh (CK P O base st.cq ρ) ρ st.c (p_ P cs st.h) a w
 cq:∀s∈st.cq,s.id<st.next∧s.id≠st.h∧∃t,bJ (γ s.id)=some t∧oM P O base U ρ (p_ P cs s.id) s t
 all:∀i t,bJ i=some t->∃s∈st.cq,i=γ s.id
 nodup:(st.cq.map eW.id).Nodup
 gX:cE (fun n=>base≤n) W0 w
 mem:∀p∈O.mem,(p.1.ev ρ).block<base
def uv(P:Program)(O:dP)(base:Nat)(W0:World)(cs:List Frame)(st:yK)(m:Machine)(T:Trace):Prop:=
 ∃gs w sl q bJ U ρ γ a,m=crowd gs w sl∧CFr P O base W0 cs st gs w T q bJ U ρ γ a
section
variable {P:Program}{O:dP}{ext:Ext}{sum:om}{base:Nat}{W0:World}{cs:List Frame}{st:yK}{gs:Array Goroutine}{w:World}{T:Trace}{q:Nat->Nat}{bJ:Nat->Option Tok.Seat}{U:Nat->Prop}{ρ:cn}{γ:Nat->Nat}{a:Goroutine}{m:Machine}
theorem CFr.adB(F:CFr P O base W0 cs st gs w T q bJ U ρ γ a):∀i t,bJ i=some t->∃s∈st.cq,∃cs,oM P O base U ρ cs s t:=by intro i t e;obtain⟨s,hs,rfl⟩:=F.all i t e;obtain⟨_,_,t',e',S⟩:=F.cq s hs;rw[e']at e;cases e;exact⟨s,hs,_,S⟩
theorem CFr.zE(F:CFr P O base W0 cs st gs w T q bJ U ρ γ a):O.In U:=F.iC.iC.zE
theorem CFr.go(F:CFr P O base W0 cs st gs w T q bJ U ρ γ a){S:Goroutine->World->Prop}{N:Nat}(W:dy P (γ st.h==0) (DK (CK P O base st.cq ρ)) S N a w)(sl:Option (Nat×Nat)):
  ∃M iZ a' w' pY T' q',runNT P M (crowd gs w sl) T=(.next (crowd iZ w' pY),T')∧iZ.size=gs.size∧iZ[γ st.h]?=some a'∧S a' w'∧Tok.fM P bJ (γ st.h) st.deaf T' iZ w' q':=
 Tok.D7 (Xs F.mem F.adB) W F.FI F.FH
theorem cE.out{cq:List eW}{w':World}(h:cE (CK P O base cq ρ).own w w'):cE (fun n=>base≤n) w w':=h.mono fun n hn=>hn.1
theorem O2(X:iX P O ext sum){cq:List eW}(hm:∀p∈O.mem,(p.1.ev ρ).block<base){main:Bool}{f:Nat}{c:dw}{r:dw⊕(AE×AH)}(hs:step? P O ext (fun g args h=>match sum g args h with
  |some r=>r
  |none=>match fD P g args .normal with
   |.ok fr=>run? P O ext sum f ⟨fr,[],h⟩
   |.error e=>.error e) c=.ok r):HI (CK P O base cq ρ) main c r:=by
 have Gd:=Xr (P:=P) (cq:=cq) hm;have F0:(CK P O base cq ρ).il:=X.uP (CK P O base cq ρ).own (CK P O base cq ρ).Ev (CK P O base cq ρ).kx (CK P O base cq ρ).still;have X0:ib (CK P O base cq ρ) ext:=X.ext (CK P O base cq ρ).own (CK P O base cq ρ).Ev (CK P O base cq ρ).kx (CK P O base cq ρ).still Gd;have Z0:uN (CK P O base cq ρ) main sum:=X.sum (CK P O base cq ρ).own (CK P O base cq ρ).Ev (CK P O base cq ρ).kx (CK P O base cq ρ).still main Gd;exact wG (K:=CK P O base cq ρ) (main:=main) Gd F0 X0 (xS (K:=CK P O base cq ρ) Z0 (k:=run? P O ext sum f) (Kr (K:=CK P O base cq ρ) Gd F0 X0 Z0)) hs
theorem O3(X:iX P O ext sum){f:Nat}{c':dw}(hs:step? P O ext (fun g args h=>match sum g args h with
   |some r=>r
   |none=>match fD P g args .normal with
    |.ok fr=>run? P O ext sum f ⟨fr,[],h⟩
    |.error e=>.error e) st.c=.ok (.inl c'))(I:uv P O base W0 cs st m T):∃N m' T',runNT P N m T=(.next m',T')∧uv P O base W0 cs {st with c:=c'} m' T':=by
 obtain⟨gs,w,sl,q,bJ,U,ρ,γ,a,rfl,F⟩:=I;obtain⟨N,L⟩:=O2 X (cq:=st.cq) (main:=γ st.h==0) F.mem hs;obtain⟨M,iZ,a',w',pY,T',q',hr,hsz,ha,⟨bL,A,kp,gr,hin,Γ⟩,C'⟩:=F.go (L U ρ (p_ P cs st.h) a w F.iC F.Xw) sl;have hO:O.In U:=F.zE;have aja:∀s∈st.cq,U s.ch∧∀p∈s.gi,p.1.In U:=fun s hs=>by obtain⟨_,_,t,_,S⟩:=F.cq s hs;exact⟨S.uch,fun p hp=>(S.us p hp).1⟩
 have eK:CK P O base st.cq bL=CK P O base st.cq ρ:=SI A aja hO;refine⟨M,_,T',hr,iZ,w',pY,q',bJ,plus U st.c.h.nb c'.h.nb,bL,γ,a',rfl,?_⟩;refine⟨C',F.zero,F.inj,fun i hi=>by rw[hsz];exact F.lt i hi,F.dU,ha,by rw[eK];exact hin,by rw[eK];exact Γ,fun s hs=>?_,F.all,F.nodup,F.gX.trans kp.out,fun p hp=>?_⟩
 ·obtain⟨h1,h2,t,e,S⟩:=F.cq s hs;exact⟨h1,h2,t,e,S.bE A hO cG⟩
 ·rw[AA.cu A (hO.mem p hp).1];exact F.mem p hp
end
section
variable {P:Program}{O:dP}{base:Nat}{ρ:cn}{U:Nat->Prop}{cs:List Frame}{hp:List (Nat×bM)}{nb eH:Nat}{cq:List eW}{w:World}
theorem xY{p:AA×AV}(h:FE hp p=true):∃i n b v,p.1=⟨.cN i,.lit (.ofNat n)⟩∧cV i hp=some b∧b.cs[n]?=some v∧b.te=true∧v=p.2:=by
 unfold FE at h;split at h
 ·rename_i i n e;split at h
  ·rename_i b hb;split at h
   ·rename_i v hv;simp only[ax]at h;exact⟨i,n,b,v,e,hb,hv,h.1,AV.dG v p.2 h.2⟩
   ·cases h
  ·cases h
 ·cases h
theorem pI:∀{l:List (AA×AV)},iW hp l=true->∀p∈l,FE hp p=true
 |q::l,h,p,SJ=>by
  unfold iW at h;split at h
  ·rename_i hq;rcases ac.1 SJ with e|SJ
   ·subst e;exact hq
   ·exact pI h p SJ
  ·cases h
theorem wO{l:List (AA×AV)}(h:iW hp l=true):lm hp l=true:=by
 induction l with
 |nil=>rfl
 |cons p l ih=>
  have h1:=pI h p (an ..);have h2:iW hp l=true:=by
   unfold iW at h;split at h
   ·exact h
   ·cases h
  obtain⟨i,n,b,v,e1,e2,e3,e4,e5⟩:=xY h1;unfold lm;have:zM hp p=true:=by unfold zM;rw[e1];simp only[e2];exact e4
  rw[this];exact ih h2
theorem Bu(K:ik):ib K jF:=by intro U ρ h w f args v h' _ _ _ he;cases he
theorem Ia{ext:Ext}{sum:om}(X:iX P O ext sum)(l:List (AA×AV)):ti P (O.tf l) jF:=
 ⟨fun own Ev kx still=>⟨(X.uP own Ev kx still).Jv,(X.uP own Ev kx still).ext,(X.uP own Ev kx still).mixed⟩,fun own Ev still _=>Bu _⟩
theorem KD{ext:Ext}{sum:om}(X:iX P O ext sum):ti P O.ij jF:=
 ⟨fun own Ev kx still=>⟨(X.uP own Ev kx still).Jv,(X.uP own Ev kx still).ext,(X.uP own Ev kx still).mixed⟩,fun own Ev still _=>Bu _⟩
noncomputable def qa(P:Program)(O:dP)(U:Nat->Prop)(ρ:cn)(cs:List Frame)(B:Nat)(s:eW):Tok.Seat:=
 ⟨ρ.b s.ch,s.z,s.ok,wM (O.tf s.gi) ρ,ji (O.tf s.gi) ρ,B,fun g=>kD U s.cJ∧jv P ρ s.cJ cs g⟩
theorem Ic{O':dP}{w:World}(k:ji O' ρ w)(d:Nat):ji O' ρ (w.at d):=⟨k.bs,k.is,k.mem⟩
theorem Xx(B:Nat)(s:eW):(qa P O U ρ cs B s).Wf:=by
 refine⟨fun w d k=>Ic k d,fun w c cap buf cl a b tm cap' adq rX a' b' MD hc k=>?_,fun l ⟨p,_,e⟩=>by rw[e];rfl⟩;have k':ji (O.tf s.gi) ρ w:=k;refine⟨k'.bs,k'.is,fun p hp=>?_⟩;have m2:=k'.mem p hp;by_cases e:c=(p.1.ev ρ).block
 ·simp only[World.cell?]at m2;rw[<-e,hc]at m2;cases m2
 ·simp only[World.cell?]at m2⊢;rw[heap_setChan_ne w _ _ _ _ _ _ e];exact m2
theorem Bv(R:Rel (CK P O base cq ρ) ρ ⟨hp,nb,eH⟩ w){l:List (AA×AV)}(h:iW hp l=true):ji (O.tf l) ρ w:=by
 refine⟨R.bs,R.is,fun p SJ=>?_⟩;rcases ay.1 SJ with h1|h1
 ·obtain⟨i,n,b,v,e1,e2,e3,e4,e5⟩:=xY (pI h p h1);obtain⟨arr,ha,hf⟩:=R.arr e2 (Dz e3);rw[e1,<-e5];rw[show AA.ev ρ ⟨.cN i,.lit (.ofNat n)⟩=⟨ρ.b i,n,none⟩from rfl,j9 ha];exact wb hf e3
 ·exact(R.mem p h1).2.1
theorem MW(I:h_ (CK P O base cq ρ) U ⟨hp,nb,eH⟩){l:List (AA×AV)}(h:iW hp l=true):∀p∈l,p.1.In U∧p.2.In U:=by
 intro p SJ;obtain⟨i,n,b,v,e1,e2,e3,e4,e5⟩:=xY (pI h p SJ);refine⟨by rw[e1];exact⟨I.keys i (nY e2),trivial⟩,?_⟩;rw[<-e5];have hb:=I.hp i b e2;have:AV.iB U b.cs:=by
  cases b with
  |cells cs e=>exact hb
  |fT cs e l=>exact hb
  |_=>cases e4
 exact dg.1 this _ (bf e3)
theorem MX(R:Rel (CK P O base cq ρ) ρ ⟨hp,nb,eH⟩ w)(I:h_ (CK P O base cq ρ) U ⟨hp,nb,eH⟩)(B:Nat){s:eW}(hr:iW hp s.gi=true)(hc:cV s.ch hp=some .chan)(qB:base≤ρ.b s.ch):
  oM P O base U ρ cs s (qa P O U ρ cs B s):=by
 refine⟨rfl,qB,rfl,rfl,fun l ⟨p,hp,e⟩=>⟨p,hp,e⟩,fun w'=>⟨fun k p hp=>?_,fun k=>⟨R.bs,R.is,fun p hp=>k p hp⟩⟩,fun g h=>h,I.keys _ (nY hc),MW I hr⟩;have k':ji (O.tf s.gi) ρ w':=k;exact k'.mem p hp
end
theorem wP{c:dw}{o:Oper}(h:HM c=some o):∃fn nt tmps ops i rest k defers kind callers hh,c=⟨⟨fn,nt,tmps,.inRegion ops (i::rest)::k,defers,.run,kind⟩,callers,hh⟩∧ops[i]?=some o∧o.guard=none∧gI kind=false:=by
 unfold HM at h;split at h
 ·rename_i fn nt tmps ops i rest k defers kind callers hh;split at h
  ·cases h
  rename_i ht;split at h
  ·rename_i o' ho;split at h
   ·rename_i hg;cases h;exact⟨_,_,_,_,_,_,_,_,_,_,_,rfl,ho,hg,ht⟩
   ·cases h
  ·cases h
 ·cases h
theorem Id{ch:Nat}{s:eW}:∀{l r:List eW},MK ch l=some (s,r)->s.ch=ch∧l.Perm (s::r)
 |q::l,r,h=>by
  unfold MK at h;split at h
  ·rename_i e;cases h;exact⟨aI e,List.Perm.refl _⟩
  ·split at h
   ·rename_i t r' h';cases h;obtain⟨h1,h2⟩:=Id h';exact⟨h1,(h2.cons q).trans (List.Perm.swap s q r')⟩
   ·cases h
theorem Bw{i ch:Nat}:∀{l:List eW},uf i ch l=true->∀s∈l,s.ch≠ch∧s.id≠i
 |q::l,h,s,hs=>by
  unfold uf at h;split at h
  ·rename_i h1 h2;rcases ac.1 hs with e|hs
   ·subst e;exact⟨fun e=>by rw[e]at h1;simp at h1,fun e=>by rw[e]at h2;simp at h2⟩
   ·exact Bw h s hs
  ·cases h
section
variable {P:Program}{O:dP}{ext:Ext}{sum:om}{base:Nat}{W0:World}{cs:List Frame}{st:yK}{gs:Array Goroutine}{w:World}{T:Trace}{q:Nat->Nat}{bJ:Nat->Option Tok.Seat}{U:Nat->Prop}{ρ:cn}{γ:Nat->Nat}{a:Goroutine}{m:Machine}
theorem KE{cq:List eW}{hp:List (Nat×bM)}{nb eH:Nat}(R:Rel (CK P O base cq ρ) ρ ⟨hp,nb,eH⟩ w){i:Nat}(h:cV i hp=some .chan):∃k,w.heap[ρ.b i]?=some (.chan 0 #[] false k k false):=by
 obtain⟨o,ho,hi⟩:=R.kj _ _ h;rcases hi with⟨arr,_,hf⟩|⟨k,e⟩
 ·exact hf.elim
 ·exact⟨k,by rw[ho,e]⟩
theorem FJ{hp:List (Nat×bM)}{i n:Nat}{c:dw}{s:eW}(h:seat? P O hp i c=.ok (n,s)):s.id=i∧lrun? P (O.tf s.gi) jF n c=.ok s.cJ∧recvAt? P s.cJ=some (.cN s.ch,s.z,s.ok):=by
 unfold seat? at h;split at h
 ·cases h
 ·split at h
  ·cases h
  ·rename_i c' hl;split at h
   ·rename_i ch z ok hr;cases h;exact⟨rfl,hl,hr⟩
   ·cases h
theorem SL{l:List (AA×AV)}(hO:O.In U)(hl:∀p∈l,p.1.In U∧p.2.In U):(O.tf l).In U:=
 ⟨hO.bs,hO.is,fun p hp=>(ay.1 hp).elim (hl p) (hO.mem p)⟩
theorem Xy:O.ij.In U:=⟨fun p hp=>(by cases hp),fun p hp=>(by cases hp),fun p hp=>(by cases hp)⟩
theorem Eb(X:iX P O ext sum){cq:List eW}{hp:List (Nat×bM)}{nb eH:Nat}(R:Rel (CK P O base cq ρ) ρ ⟨hp,nb,eH⟩ w)(I:h_ (CK P O base cq ρ) U ⟨hp,nb,eH⟩){i n:Nat}{c:dw}{s:eW}(h:seat? P O hp i c=.ok (n,s))(hr:iW hp s.gi=true)
 (IL:kD U c){cs:List Frame}{g:Goroutine}(Γ:jv P ρ c cs g)(main:Bool):Sits P main (qa P O U ρ cs w.heap.size s).dE (qa P O U ρ cs w.heap.size s).still w.heap.size (qa P O U ρ cs w.heap.size s).base (n+1) g:=by
 obtain⟨_,h1,h2⟩:=FJ h;have k:=Bv R hr;have hB:∀p∈(O.tf s.gi).mem,(p.1.ev ρ).block<w.heap.size:=fun p hp=>zO (k.mem p hp);exact MT (main:=main) (Ia X s.gi) (SL I.zE (MW I hr)) hB h1 h2 IL Γ k
theorem Bx{cq:List eW}{hp:List (Nat×bM)}{nb eH:Nat}(R:Rel (CK P O base cq ρ) ρ ⟨hp,nb,eH⟩ w)(all:∀i t,bJ i=some t->∃s∈cq,∃cs,oM P O base U ρ cs s t)(hok:je hp cq=true){cs:List Frame}{s:eW}{i B:Nat}(hc:cV s.ch hp=some .chan)(hr:iW hp s.gi=true)(ha:uf i s.ch cq=true):
  Tok.wK bJ w (qa P O U ρ cs B s):=by
 refine⟨Xx _ s,Bv R hr,KE R hc,fun j t e ec=>?_⟩;obtain⟨s2,q_,cs2,S⟩:=all j t e;have e2:ρ.b s2.ch=ρ.b s.ch:=S.c.symm.trans ec;exact(Bw ha s2 q_).1 (R.inj _ _ _ _ (gm hok s2 q_).1 hc e2)
theorem size_setChan(w:World)(c cap:Nat)(buf:Array Value)(cl:Bool)(s r:Nat)(tm:Bool):(w.setChan c cap buf cl s r tm).heap.size=w.heap.size:=by simp[World.setChan]
theorem By{s:eW}{rest:List eW}{da:bH}{callers:List bH}{hp:List (Nat×bM)}{nb eH h next:Nat}{cq kE:List eW}(F:CFr P O base W0 cs ⟨h,⟨da,callers,⟨hp,nb,eH⟩⟩,cq,next,0⟩ gs w T q bJ U ρ γ a)(yM:cq.Perm (s::rest)){t:Tok.Seat}(ht:bJ (γ s.id)=some t)(S:oM P O base U ρ (p_ P cs s.id) s t)
 {tk:bH}{y:AV}(hy:y.In U)(hf:ey s.cJ.da (tg s.ok y)=.ok tk)(hok:je hp cq=true){so:Option Tok.Seat}(iS:(so=none∧kE=rest)∨∃s' t',so=some t'∧kE=s'::rest∧s'.id=h∧cV s'.ch hp=some .chan∧lm hp s'.gi=true∧oM P O base U ρ (p_ P cs h) s' t')
 {m':Machine}{T':Trace}(G:Tok.MR P (Tok.e_ bJ (γ h) (γ s.id) so) (γ s.id) t gs.size w (y.ev ρ) m' T'):uv P O base W0 cs ⟨s.id,⟨tk,s.cJ.callers,⟨kq kE hp,nb,eH⟩⟩,kE,next,0⟩ m' T':=by
 obtain⟨iZ,g₂,d,k,pY,q',rfl,hsz,hJ,Bo,hc,C'⟩:=G;obtain⟨IL,Γ⟩:=S.home g₂ Bo;have hsm:s∈cq:=yM.mem_iff.2 (an ..);have hrm:∀x∈rest,x∈cq:=fun x hx=>yM.mem_iff.2 (am _ hx);have zR:(s.id::rest.map eW.id).Nodup:=(yM.map eW.id).nodup_iff.1 F.nodup;have hv:(tg s.ok y).In U:=by
  cases s.ok with
  |true=>exact⟨hy,trivial,trivial⟩
  |false=>exact hy
 have Jw:(tg s.ok y).ev ρ=recvd t.ok (y.ev ρ) true:=by rw[S.ok];cases s.ok<;>rfl
 obtain⟨IL',vj⟩:=kU Γ IL hv hf e0;rw[Jw]at vj;obtain⟨fr,cC,R3,apC,hg⟩:=vj;have R:=F.Xw.1;have O4:∀x∈cq,base≤ρ.b x.ch:=fun x hx=>by obtain⟨_,_,t2,_,S2⟩:=F.cq x hx;exact S2.ge
 have rz:je hp kE=true:=vD fun x hx=>by
  rcases iS with⟨_,rfl⟩|⟨s',t',_,rfl,_,h1,h2,_⟩
  ·exact gm hok x (hrm x hx)
  ·rcases ac.1 hx with rfl|hx
   ·exact⟨h1,h2⟩
   ·exact gm hok x (hrm x hx)
 have hsh:=F.cq s hsm;have df:∀x∈rest,γ x.id≠γ s.id∧γ x.id≠γ h:=fun x hx=>by have mE:=F.cq x (hrm x hx);exact⟨fun e=>(bC.1 zR).1 (aJ.2 ⟨x,hx,F.inj _ _ mE.1 hsh.1 e⟩),fun e=>mE.2.1 (F.inj _ _ mE.1 F.dU e)⟩
 have hhs:γ s.id≠γ h:=fun e=>hsh.2.1 (F.inj _ _ hsh.1 F.dU e);have ajc:base≤t.c:=by rw[S.c];exact S.ge
 refine⟨iZ,_,pY,q',_,U,ρ,γ,_,rfl,C',F.zero,F.inj,fun i hi=>by rw[hsz];exact F.lt i hi,hsh.1,hJ,⟨IL'.da,IL'.callers,H_ F.iC.iC⟩,⟨?_,fr,cC,R3,apC,hg⟩,fun x hx=>?_,fun i t2 e=>?_,?_,F.gX.trans ⟨fun n hn=>?_,?_,rfl,rfl,rfl⟩,F.mem⟩
 ·refine H9 R (size_setChan _ _ _ _ _ _ _ _) (fun n=>?_) F.mem O4 hok rz;by_cases e:t.c=n
  ·subst e;exact .inr ⟨⟨k,hc⟩,⟨k+1,heap_setChan_self (w.at d) (c:=t.c) hc _ _ _ _ _ _⟩⟩
  ·exact .inl (heap_setChan_ne (w.at d) _ _ _ _ _ _ e)
 ·have old:∀x∈rest,x.id<next∧x.id≠s.id∧∃t2,Tok.e_ bJ (γ h) (γ s.id) so (γ x.id)=some t2∧oM P O base U ρ (p_ P cs x.id) x t2:=fun x hx=>by
   obtain⟨h1,h2,t2,e,S2⟩:=F.cq x (hrm x hx);exact⟨h1,fun e=>(df x hx).1 (by rw[e]),t2,by rw[Tok.jq bJ so (df x hx).1 (df x hx).2];exact e,S2⟩
  rcases iS with⟨_,rfl⟩|⟨s',t',rfl,rfl,h0,h1,h2,S'⟩
  ·exact old x hx
  ·rcases ac.1 hx with rfl|hx
   ·refine⟨by rw[h0];exact F.dU,by rw[h0];exact fun e=>hsh.2.1 e.symm,t',?_,by rw[h0];exact S'⟩;rw[h0];exact Tok.pZ bJ hhs _
   ·exact old x hx
 ·unfold Tok.e_ at e;split at e
  ·cases e
  ·rename_i hi;split at e
   ·rename_i MM;rcases iS with⟨rfl,rfl⟩|⟨s',t',rfl,rfl,h0,_⟩
    ·cases e
    ·exact⟨s',an ..,by rw[h0];exact MM⟩
   ·obtain⟨x,hx,rfl⟩:=F.all i t2 e;have mE:x∈rest:=by
     rcases ac.1 (yM.mem_iff.1 hx)with rfl|mE
     ·exact absurd rfl hi
     ·exact mE
    refine⟨x,?_,rfl⟩;rcases iS with⟨_,rfl⟩|⟨s',t',_,rfl,_⟩
    ·exact mE
    ·exact am _ mE
 ·rcases iS with⟨_,rfl⟩|⟨s',t',_,rfl,h0,_⟩
  ·exact(bC.1 zR).2
  ·refine bC.2 ⟨fun hm=>?_,(bC.1 zR).2⟩;obtain⟨x,hx,e⟩:=aJ.1 hm;exact(F.cq x (hrm x hx)).2.1 (e.trans h0)
 ·exact heap_setChan_ne (w.at d) _ _ _ _ _ _ (fun e=>hn (by rw[<-e];exact ajc))
 ·rw[size_setChan];exact aq _
theorem O5(X:iX P O ext sum){x y:Operand}{o:Oper}(ho:HM st.c=some o)(fY:o.op=.send x y){fZ:yK}(hg:give? P O x y st=.ok fZ)(I:uv P O base W0 cs st m T):∃N m' T',runNT P N m T=(.next m',T')∧uv P O base W0 cs fZ m' T':=by
 obtain⟨gs,w,sl,q,bJ,U,ρ,γ,a,rfl,F⟩:=I;obtain⟨h,⟨da,callers,⟨hp,nb,eH⟩⟩,cq,next,deaf⟩:=st;obtain⟨fn,nt,tmps,ops,i,xz,k,defers,kind,fV,hh,e,KF,Xz,XA⟩:=wP ho;cases e;have Γ:jv P ρ ⟨⟨fn,nt,tmps,.inRegion ops (i::xz)::k,defers,.run,kind⟩,callers,⟨hp,nb,eH⟩⟩ (p_ P cs h) a:=F.Xw.2;have IL:kD U ⟨⟨fn,nt,tmps,.inRegion ops (i::xz)::k,defers,.run,kind⟩,callers,⟨hp,nb,eH⟩⟩:=⟨F.iC.da,F.iC.callers⟩;have R:=F.Xw.1;obtain⟨tm,cC,h1,h2,h3,hc,ea⟩:=(ml XA).1 Γ;have hw:Region.wanted o (yielded ops tm)=true:=by unfold Region.wanted;rw[Xz]
 have rm:(iD fn kind).kind≠.early:=by rcases h2 with rfl|rfl<;>simp[iD]
 unfold give? at hg;dsimp only at hg;split at hg
 ·rename_i ch hx;split at hg
  ·cases hg
  ·rename_i s rest htk;obtain⟨apD,yM⟩:=Id htk;have hsm:s∈cq:=yM.mem_iff.2 (an ..);obtain⟨KG,q_,t,ht,S⟩:=F.cq s hsm;split at hg
   ·rename_i tk gv hft hfg;have hR:∀w es,(execOp (⟨tm,defers.map (AD.ev ρ)⟩:Act).eval o).runT P w es=(.ok (.comm #[scase t.c ((fC tmps y).ev ρ) (.tuple #[])] true .send) w,es):=by
     intro w es;unfold execOp;rw[fY];have e1:(⟨tm,defers.map (AD.ev ρ)⟩:Act).eval x=.chan (some t.c):=by rw[jh h1,hx,S.c,apD];rfl
     have e2:(⟨tm,defers.map (AD.ev ρ)⟩:Act).eval y=(fC tmps y).ev ρ:=jh h1 _ y;dsimp only;rw[e1,e2];rfl
    have D8:∀d,stepG P (γ h==0) a (w.at d)=.comm a #[scase t.c ((fC tmps y).ev ρ) (.tuple #[])] true .send (w.at d) #[]:=by
     intro d;have r1:(execOp (⟨tm,defers.map (AD.ev ρ)⟩:Act).eval o).run P (w.at d)=.ok (.comm #[scase t.c ((fC tmps y).ev ρ) (.tuple #[])] true .send) (w.at d):=by have:=congrArg Prod.fst (hR (w.at d) #[]);rw[Sem.runT_fst]at this;exact this
     rw[ea,stepG_comm KF hw rm r1,listed_none (congrArg Prod.snd (hR (w.at d) #[]))]
    have fJ:a.status=.running:=by rw[ea];rfl
    have Bj:γ s.id≠γ h:=fun e=>q_ (F.inj _ _ KG F.dU e);have hyU:(fC tmps y).In U:=sT IL.da.tmps y;obtain⟨QY,QZ⟩:=kU Γ IL (v:=cx) (by simp[cx,AV.In,AV.iB]) hfg e0;have adD:jv P ρ ⟨gv,callers,e0⟩ (p_ P cs h) (Conc.served a undef):=QZ;have Bi:=fun{so:Option Tok.Seat} {nh:Nat} (ub:∀s',so=some s'->Tok.wK bJ w s') (vz:∀T',Deaf T' (γ h)=0->Tok.Rest P T' (γ h) nh (Conc.served a undef) so)=>Tok.Bi (P:=P) (j:=γ s.id) (s:=t) (sl:=sl) Bj (F.lt _ KG) ht F.FI fJ D8 (by simp) F.FH ub vz
    split at hg
    ·rename_i hl;split at hg
     ·rename_i hok;cases hg;have hh0:h≠0:=fun e=>by subst e;simp at hl
      have we:leave? P O.ij jF 400 ⟨gv,callers,e0⟩=true:=by
       have:Nat.beq h 0=false:=by
        cases hb:Nat.beq h 0 with
        |false=>rfl
        |true=>exact absurd (aI hb) hh0
       rw[this]at hl;exact hl
      have ecs:p_ P cs h=[fB P]:=by unfold p_;rw[if_neg hh0]
      rw[ecs]at adD;obtain⟨mq,hq⟩:=tj (O:=O.ij) rfl rfl rfl (KD X) Xy we QY adD;have kY:0<γ h:=by
       rcases Nat.eq_zero_or_pos (γ h)with e|e
       ·exact absurd (F.inj h 0 F.dU (Nat.lt_of_le_of_lt (Nat.zero_le _) F.dU) (e.trans F.zero.symm)) hh0
       ·exact e
      obtain⟨N,m',T',hr,hG⟩:=Bi (so:=none) (nh:=mq) (fun s' e=>by cases e) (fun T' hD=>⟨kY,by rw[hD];exact hq⟩);exact⟨N,m',T',hr,By F yM ht S hyU hft hok (.inl ⟨rfl,rfl⟩) hG⟩
     ·cases hg
    ·split at hg
     ·cases hg
     ·rename_i ns s' XB;split at hg
      ·rename_i hok xV xA uq;cases hg;have GX:=(FJ XB).1;have FK:=tq xV;have O4:∀x∈cq,base≤ρ.b x.ch:=fun x hx=>by
        obtain⟨_,_,t2,_,S2⟩:=F.cq x hx;exact S2.ge
       obtain⟨N,m',T',hr,hG⟩:=Bi (so:=some (qa P O U ρ (p_ P cs h) w.heap.size s')) (nh:=ns+1) (fun t' e=>by cases e;exact Bx R F.adB hok FK xA uq)
        (fun T' hD=>Eb X R F.iC.iC XB xA QY adD _)
       exact⟨N,m',T',hr,By F yM ht S hyU hft hok (.inr ⟨s',_,rfl,rfl,GX,FK,wO xA,MX R F.iC.iC _ xA FK (KC R O4 hok FK)⟩) hG⟩
      ·cases hg
   ·cases hg
 ·cases hg
end
end Go.Proofs.Ythaddgfbohmfoaa.SX
namespace Go.Proofs.Ythaddgfbohmfoaa.SX
open Go.Conc
open Go.ConcN (sumTo upd sumTo_upd upd_ne upd_same)
open _root_.List renaming mem_cons->ac,not_mem_nil->ae,mem_cons_of_mem->am,mem_cons_self->an,mem_append->ay,mem_map->aJ,all_eq_true->aO,nodup_cons->bC
open _root_.Nat renaming le_refl->aq,eq_of_beq_eq_true->aI,lt_succ_self->a_
open _root_.Array renaming eq_empty_of_size_eq_zero->bz,toList_inj->bD
section
variable {P:Program}{O:dP}{ext:Ext}{sum:om}{base:Nat}{W0:World}{cs:List Frame}{st:yK}{gs:Array Goroutine}{w:World}{T:Trace}{q:Nat->Nat}{bJ:Nat->Option Tok.Seat}{U:Nat->Prop}{ρ:cn}{γ:Nat->Nat}{a:Goroutine}{m:Machine}
theorem xZ{α:Type}{s:Sem α}{v:α}{w:World}(h:wq P (fun _=>False) (fun _ _=>False) s (fun x w'=>x=v∧w'=w) w):s.run P w=.ok v w∧s.events P w #[]=#[]:=by
 obtain⟨h1,h2⟩:=ou h;refine⟨?_,?_⟩
 ·generalize s.run P w=r at h1;cases r with
  |ok x w'=>obtain⟨rfl,rfl⟩:=h1;rfl
  |halt x w'=>cases x<;>exact h1.elim
 ·rcases Nat.eq_zero_or_pos (s.events P w #[]).size with h0|h0
  ·exact bz h0
  ·exact(h2 _ (Array.getElem_mem h0)).elim
theorem O6{f:FuncId}{cap args:Array Value}(hf:CZ P f=true)(main:Bool)(w:World):
  stepG P main (born P {target:=.fn (.func f) cap,args:=args}) w=.go (G (Frame.enter P f (args++cap) .deferred) [fB P]) w #[]:=by
 obtain⟨h1,h2⟩:=xZ (P:=P) (s:=invoke (.fn (.func f) cap) args) (v:=.enter f (args++cap)) (w:=w) (by show wq P _ _ (callFunc f (args++cap)) _ w;exact Hq (K:=⟨P,{},fun _=>True,fun _=>False,False,fun _ _=>False⟩) hf ⟨rfl,rfl⟩)
 have e1:=ll (P:=P) (main:=main) (fr:={(default:Frame)with fn:=P.funcs.size,defers:=[{target:=.fn (.func f) cap,args:=args}],mode:=.panicking [goexitEntry]}) (cs:=[]) (w:=w) (D:={target:=.fn (.func f) cap,args:=args}) (Ds:=[]) (fun e=>by cases e) rfl (.inl ⟨_,_,rfl⟩);have e2:=jd (P:=P) (fr:=fB P) (cs:=[]) (w:=w) (w':=w) (D:={target:=.fn (.func f) cap,args:=args}) (f:=f) (args:=args++cap) (.inl ⟨_,_,rfl⟩) h1;rw[h2,seen_none]at e2;exact e1.trans e2
theorem Ec{K:World->Prop}{Still:Loc->Prop}{B:Nat}{s:Conc.Seat}{n:Nat}{f:FuncId}{cap args:Array Value}(hf:CZ P f=true)(h:Sits P false K Still B s (n+1) (G (Frame.enter P f (args++cap) .deferred) [fB P])):
  Sits P false K Still B s (n+1+1) (born P {target:=.fn (.func f) cap,args:=args}):=by
 rcases h with⟨k,qE,hk,hG⟩|⟨h0,_⟩
 ·obtain rfl:k=n:=by omega
  refine .inl ⟨k+1,qE,rfl,.inr ⟨rfl,fun w₁ hw=>?_⟩⟩;rw[O6 hf,goes_go];refine⟨⟨rfl,by simp⟩,?_⟩;cases k with
  |zero=>exact hG
  |succ k=>exact hG
 ·omega
theorem O7(X:iX P O ext sum){call:Call}{o:Oper}(ho:HM st.c=some o)(fY:o.op=.go call){fZ:yK}(hg:hire? P O call o.type st=.ok fZ)(I:uv P O base W0 cs st m T):∃N m' T',runNT P N m T=(.next m',T')∧uv P O base W0 cs fZ m' T':=by
 obtain⟨gs,w,sl,q,bJ,U,ρ,γ,a,rfl,F⟩:=I;obtain⟨h,⟨da,callers,⟨hp,nb,eH⟩⟩,cq,next,deaf⟩:=st;obtain⟨fn,nt,tmps,ops,i,xz,k,defers,kind,fV,hh,e,KF,Xz,XA⟩:=wP ho;cases e;have Γ:jv P ρ ⟨⟨fn,nt,tmps,.inRegion ops (i::xz)::k,defers,.run,kind⟩,callers,⟨hp,nb,eH⟩⟩ (p_ P cs h) a:=F.Xw.2;have IL:kD U ⟨⟨fn,nt,tmps,.inRegion ops (i::xz)::k,defers,.run,kind⟩,callers,⟨hp,nb,eH⟩⟩:=⟨F.iC.da,F.iC.callers⟩;have R:=F.Xw.1;obtain⟨tm,cC,h1,h2,h3,hc,ea⟩:=(ml XA).1 Γ;have hw:Region.wanted o (yielded ops tm)=true:=by unfold Region.wanted;rw[Xz]
 have rm:(iD fn kind).kind≠.early:=by rcases h2 with rfl|rfl<;>simp[iD]
 unfold hire? at hg;dsimp only at hg;split at hg
 ·rename_i f cap args nR;split at hg
  ·rename_i fr gv hfn zh hfg;split at hg
   ·cases hg
   ·rename_i ns s' XB;split at hg
    ·rename_i hok xV xA uq;cases hg;have GX:=(FJ XB).1;have FK:=tq xV;have hfo:CZ P f=true:=by
      have F0:=(X.uP (fun _=>True) (fun _=>True) True (fun _ _=>False)).Jv;exact aO.1 F0 f (by simpa using hfn)
     have hd:(⟨.fn (.func f) cap,args⟩:AD).In U:=pC nR (fun x=>sT IL.da.tmps x);have adE:AV.iB U (args++cap):=dg.2 fun v hv=>(ay.1 hv).elim (dg.1 hd.2 v) (dg.1 hd.1 v);have Jw:(⟨tm,defers.map (AD.ev ρ)⟩:Act).eval=fun x=>(fC tmps x).ev ρ:=funext fun x=>jh h1 _ x;have hq:∀w:World,(execOp (⟨tm,defers.map (AD.ev ρ)⟩:Act).eval o).run P w=.ok (.spawn ((⟨.fn (.func f) cap,args⟩:AD).ev ρ)) w∧(execOp (⟨tm,defers.map (AD.ev ρ)⟩:Act).eval o).events P w #[]=#[]:=fun w=>by refine xZ ?_;rw[Jw];unfold execOp;rw[fY];show wq P _ _ (resolve (fun x=>(fC tmps x).ev ρ) call o.type>>= fun d=>pure (Go.Next.spawn d)) _ w;rw[bG];exact rg (K:=⟨P,{},fun _=>True,fun _=>False,False,fun _ _=>False⟩) nR ⟨rfl,rfl⟩
     have yL:∀d,stepG P (γ h==0) a (w.at d)=.spawn (G ((iD fn kind).at ((⟨tm,defers.map (AD.ev ρ)⟩:Act).put o.dst undef) (.inRegion ops xz::k)) (cC++p_ P cs h)) (born P ((⟨.fn (.func f) cap,args⟩:AD).ev ρ)) (w.at d) #[]:=fun d=>by rw[ea,stepG_spawn KF hw rm (hq (w.at d)).1 rfl,listed_none (hq (w.at d)).2]
     have fJ:a.status=.running:=by rw[ea];rfl
     have O4:∀x∈cq,base≤ρ.b x.ch:=fun x hx=>by obtain⟨_,_,t2,_,S2⟩:=F.cq x hx;exact S2.ge
     have Mu:next≠0:=fun e=>by have:=F.dU;dsimp only at this;omega
     have ecs:p_ P cs next=[fB P]:=by unfold p_;rw[if_neg Mu]
     obtain⟨en1,en2,en3,en4,en5⟩:=jW zh (.inr rfl) adE (ρ:=ρ);have ILc:kD U ⟨fr,[],e0⟩:=⟨en2,fun _ x=>by(simp at x)⟩;have Γc:jv P ρ ⟨fr,[],e0⟩ [fB P] (G (Frame.enter P f (AV.cf ρ (args++cap)).toArray .deferred) [fB P]):=⟨_,[],en1,trivial,rfl⟩;have hS:=Eb X R F.iC.iC XB xA ILc Γc false;have SM:(AV.cf ρ (args++cap)).toArray=(AV.cf ρ args).toArray++(AV.cf ρ cap).toArray:=by simp[fp]
     rw[SM]at hS;have hS':=Ec hfo hS;obtain⟨N,iZ,d,pY,T',q',hr,hsz,ha,C'⟩:=Tok.OU (P:=P) (sl:=sl) F.FI fJ yL (by simp) F.FH (qa P O U ρ [fB P] w.heap.size s') (Bx R F.adB hok FK xA uq) hS';obtain⟨QY,QZ⟩:=kU Γ IL (v:=cx) (by simp[cx,AV.In,AV.iB]) hfg e0;have wQ:Conc.served a (cx.ev ρ)=G ((iD fn kind).at ((⟨tm,defers.map (AD.ev ρ)⟩:Act).put o.dst undef) (.inRegion ops xz::k)) (cC++p_ P cs h):=by rw[ea];show{G ((iD fn kind).at ⟨tm,defers.map (AD.ev ρ)⟩ (.inRegion ops (i::xz)::k)) (cC++p_ P cs h)with frame:=((iD fn kind).at ⟨tm,defers.map (AD.ev ρ)⟩ (.inRegion ops (i::xz)::k)).finish undef,status:=.running,offers:=none}=_;rw[Frame.finish_at,KF];rfl
     rw[wQ]at QZ;obtain⟨frg,adF,g1,g2,g3⟩:=QZ;have Wy:∀x,x<next->upd γ next gs.size x=γ x:=fun x hx=>upd_ne γ _ (by omega);have hI:∀x,x<next->upd bJ gs.size (some (qa P O U ρ [fB P] w.heap.size s')) (γ x)=bJ (γ x):=fun x hx=>upd_ne bJ _ (by have:=F.lt x hx;omega);have apL:0<next:=Nat.pos_of_ne_zero Mu;have rz:je hp (s'::cq)=true:=vD fun x hx=>by
      rcases ac.1 hx with rfl|hx
      ·exact⟨FK,wO xA⟩
      ·exact gm hok x hx
     have hhl:h<next:=F.dU;refine⟨N,_,T',hr,iZ,w.at d,pY,q',upd bJ gs.size (some (qa P O U ρ [fB P] w.heap.size s')),U,ρ,upd γ next gs.size,_,rfl,⟨?_,by rw[Wy 0 apL];exact F.zero,fun i j hi hj e=>?_,fun i hi=>?_,Nat.lt_succ_of_lt hhl,by rw[Wy h hhl];exact ha,⟨QY.da,QY.callers,H_ F.iC.iC⟩,⟨?_,frg,adF,g1,g2,g3⟩,fun x hx=>?_,fun i t2 e=>?_,?_,F.gX.trans ⟨fun n hn=>rfl,aq _,rfl,rfl,rfl⟩,F.mem⟩⟩
     ·rw[Wy h hhl];exact C'
     ·dsimp only at hi hj;by_cases ei:i=next<;>by_cases ej:j=next
      ·rw[ei,ej]
      ·rw[ei,upd_same,Wy j (by omega)]at e;have:=F.lt j (by show j<next;omega);omega
      ·rw[ej,upd_same,Wy i (by omega)]at e;have:=F.lt i (by show i<next;omega);omega
      ·rw[Wy i (by omega),Wy j (by omega)]at e;exact F.inj i j (by show i<next;omega) (by show j<next;omega) e
     ·dsimp only at hi;rw[hsz];by_cases ei:i=next
      ·rw[ei,upd_same];omega
      ·rw[Wy i (by omega)];have:=F.lt i (by show i<next;omega);omega
     ·exact H9 R rfl (fun n=>.inl rfl) F.mem O4 hok rz
     ·rcases ac.1 hx with rfl|hx
      ·refine⟨by rw[GX];exact a_ _,by rw[GX];exact fun e=>by have:=F.dU;dsimp only at this e;omega,_,by rw[GX,upd_same,upd_same],?_⟩;rw[GX,ecs];exact MX R F.iC.iC _ xA FK (KC R O4 hok FK)
      ·obtain⟨x1,x2,t2,e,S2⟩:=F.cq x hx;exact⟨Nat.lt_succ_of_lt x1,x2,t2,by rw[Wy _ x1,hI _ x1];exact e,S2⟩
     ·by_cases ei:i=gs.size
      ·exact⟨s',an ..,by rw[GX,upd_same,ei]⟩
      ·rw[upd_ne bJ _ ei]at e;obtain⟨x,hx,rfl⟩:=F.all i t2 e;have:=F.cq x hx;exact⟨x,am _ hx,by rw[Wy _ this.1]⟩
     ·refine bC.2 ⟨fun hm=>?_,F.nodup⟩;obtain⟨x,hx,e⟩:=aJ.1 hm;have:=(F.cq x hx).1;rw[GX]at e;dsimp only at this;omega
    ·cases hg
  ·cases hg
 ·cases hg
 ·cases hg
theorem O8{P:Program}{f:FuncId}{m:Mark}(hm:∀f,m≠.extern f)(h:ko P f (fun _=>do mark m;pure Extern.Race.none_))(args:Array Value)(w:World)(es:Array Event):
  (callFunc f args).runT P w es=(.ok (Go.Next.value Extern.Race.none_) w,(es.push ⟨.mark (.extern f),false,true⟩).push ⟨.mark m,false,true⟩):=by
 obtain⟨fn,h1,h2,h3,h4,h5⟩:=h.aiw;unfold callFunc;show(match P.funcs[f]? with
  |none=>(stuck "call: no such function" :Sem Go.Next)
  |some fn=>if fn.name== "runtime.NumGoroutine" then pure .numGoroutine
  else if fn.body.isNone then _ else _).runT P w es=_
 simp only[h1,h2,h3,h4,h5];rfl
theorem O9(P:Program)(fn f:FuncId){m:Mark}(hm:∀f,m≠.extern f):seen P fn #[⟨.mark (.extern f),false,true⟩,⟨.mark m,false,true⟩]=#[⟨.mark m,false,true⟩]:=by cases m<;>first|exact absurd rfl (hm _)|simp[seen]
theorem O_(X:iX P O ext sum){c:Call}{o:Oper}(ho:HM st.c=some o)(fY:o.op=.call c){Fs:Bool}(hm:markOf? O st.c.da.tmps c=some Fs){fr:bH}(hf:ey st.c.da cx=.ok fr)(I:uv P O base W0 cs st m T):
  ∃N m' T',runNT P N m T=(.next m',T')∧uv P O base W0 cs {st with c:=⟨fr,st.c.callers,st.c.h⟩,deaf:=Ku Fs st.deaf} m' T':=by
 obtain⟨gs,w,sl,q,bJ,U,ρ,γ,a,rfl,F⟩:=I;obtain⟨h,⟨da,callers,⟨hp,nb,eH⟩⟩,cq,next,deaf⟩:=st;obtain⟨fn,nt,tmps,ops,i,xz,k,defers,kind,fV,hh,e,KF,Xz,XA⟩:=wP ho;cases e;have Γ:jv P ρ ⟨⟨fn,nt,tmps,.inRegion ops (i::xz)::k,defers,.run,kind⟩,callers,⟨hp,nb,eH⟩⟩ (p_ P cs h) a:=F.Xw.2;have IL:kD U ⟨⟨fn,nt,tmps,.inRegion ops (i::xz)::k,defers,.run,kind⟩,callers,⟨hp,nb,eH⟩⟩:=⟨F.iC.da,F.iC.callers⟩;have R:=F.Xw.1;obtain⟨tm,cC,h1,h2,h3,hc,ea⟩:=(ml XA).1 Γ;have hw:Region.wanted o (yielded ops tm)=true:=by unfold Region.wanted;rw[Xz]
 have rm:(iD fn kind).kind≠.early:=by rcases h2 with rfl|rfl<;>simp[iD]
 unfold markOf? at hm;dsimp only at hm;split at hm
 ·rename_i x pd;split at hm
  ·rename_i pz;split at hm
   ·rename_i f hx;obtain⟨f',qX,hff⟩:=iv hm;obtain rfl:=aI hff;have MJ:=X.WN _ qX;dsimp only at MJ;have df:∀g,tZ Fs≠.extern g:=fun g=>by cases Fs<;>simp[tZ]
    have adG:ko P f (fun _=>do mark (tZ Fs);pure Extern.Race.none_):=by cases Fs<;>exact MJ
    have hae:c.args=#[]:=by apply bD.1;exact pz
    have e1:(⟨tm,defers.map (AD.ev ρ)⟩:Act).eval x=.func (.func f) #[] #[]:=by rw[jh h1,hx];rfl
    have nR:resolve (⟨tm,defers.map (AD.ev ρ)⟩:Act).eval c o.type=pure {target:=.fn (.func f) #[],args:=#[]}:=by unfold resolve;rw[pd,hae];dsimp only;rw[e1];simp[Deferred.ofValue]
    have hR:∀(w:World) (es:Array Event),(execOp (⟨tm,defers.map (AD.ev ρ)⟩:Act).eval o).runT P w es=(.ok (Go.Next.value Extern.Race.none_) w,(es.push ⟨.mark (.extern f),false,true⟩).push ⟨.mark (tZ Fs),false,true⟩):=by intro w es;unfold execOp;rw[fY];show(resolve (⟨tm,defers.map (AD.ev ρ)⟩:Act).eval c o.type>>= fun d=>invoke d.target d.args).runT P w es=_;rw[nR];exact O8 df adG _ w es
    have yL:∀d,stepG P (γ h==0) a (w.at d)=.go (G ((iD fn kind).at ((⟨tm,defers.map (AD.ev ρ)⟩:Act).put o.dst Extern.Race.none_) (.inRegion ops xz::k)) (cC++p_ P cs h)) (w.at d) #[⟨.mark (tZ Fs),false,true⟩]:=fun d=>by
     have r1:(execOp (⟨tm,defers.map (AD.ev ρ)⟩:Act).eval o).run P (w.at d)=.ok (Go.Next.value Extern.Race.none_) (w.at d):=by have:=congrArg Prod.fst (hR (w.at d) #[]);rw[Sem.runT_fst]at this;exact this
     have r2:(execOp (⟨tm,defers.map (AD.ev ρ)⟩:Act).eval o).events P (w.at d) #[]=#[⟨.mark (.extern f),false,true⟩,⟨.mark (tZ Fs),false,true⟩]:=congrArg Prod.snd (hR (w.at d) #[]);rw[ea,stepG_value KF hw rm r1];unfold listed;rw[r2,O9 P _ f df]
    have fJ:a.status=.running:=by rw[ea];rfl
    obtain⟨N,iZ,d,pY,T',q',hr,hsz,ha,C'⟩:=Tok.xX (dd':=Ku Fs deaf) (sl:=sl) F.FI fJ yL (by intro e he;simp only[List.mem_toArray,ac,ae,or_false]at he;subst he;cases Fs<;>rfl) (by cases Fs<;>rfl) F.FH
    obtain⟨QY,QZ⟩:=kU Γ IL (v:=cx) (by simp[cx,AV.In,AV.iB]) hf e0;have wQ:Conc.served a (cx.ev ρ)=G ((iD fn kind).at ((⟨tm,defers.map (AD.ev ρ)⟩:Act).put o.dst Extern.Race.none_) (.inRegion ops xz::k)) (cC++p_ P cs h):=by rw[ea];show{G ((iD fn kind).at ⟨tm,defers.map (AD.ev ρ)⟩ (.inRegion ops (i::xz)::k)) (cC++p_ P cs h)with frame:=((iD fn kind).at ⟨tm,defers.map (AD.ev ρ)⟩ (.inRegion ops (i::xz)::k)).finish undef,status:=.running,offers:=none}=_;rw[Frame.finish_at,KF];rfl
    rw[wQ]at QZ;obtain⟨frg,adF,g1,g2,g3⟩:=QZ;refine⟨N,_,T',hr,iZ,w.at d,pY,q',bJ,U,ρ,γ,_,rfl,⟨C',F.zero,F.inj,fun i hi=>by rw[hsz];exact F.lt i hi,F.dU,ha,⟨QY.da,QY.callers,F.iC.iC⟩,⟨Be R ⟨d,rfl⟩,frg,adF,g1,g2,g3⟩,F.cq,F.all,F.nodup,F.gX.trans ⟨fun n hn=>rfl,aq _,rfl,rfl,rfl⟩,F.mem⟩⟩
   ·cases hm
  ·cases hm
 ·cases hm
theorem SN(X:iX P O ext sum){f:Nat}{fZ:yK}(he:crew1? P O ext sum f st=.ok (.inl fZ))(I:uv P O base W0 cs st m T):∃N m' T',runNT P N m T=(.next m',T')∧uv P O base W0 cs fZ m' T':=by
 have uu:(match step? P O ext (fun g args h=>match sum g args h with
   |some r=>r
   |none=>match fD P g args .normal with
    |.ok fr=>run? P O ext sum f ⟨fr,[],h⟩
    |.error e=>.error e) st.c with
  |.ok (.inl c)=>(.ok (.inl {st with c}):M (yK⊕AV))
  |.ok (.inr (.returned v,_))=>match Nat.beq st.h 0,st.cq,st.c.callers,Bh P st.c.da.fn,st.deaf with
   |true,[],[],true,0=>.ok (.inr v)
   |_,_,_,_,_=>.error "the end somebody waits"
  |.ok (.inr _)=>.error "the end a panic"
  |.error e=>.error e)=.ok (.inl fZ)->∃N m' T',runNT P N m T=(.next m',T')∧uv P O base W0 cs fZ m' T':=by
  intro hw;split at hw
  ·rename_i c' hs;cases hw;exact O3 X hs I
  ·split at hw<;>cases hw
  ·cases hw
  ·cases hw
 unfold crew1? at he;dsimp only at he;split at he
 ·rename_i o ho;split at he
  ·rename_i x y fY;split at he
   ·rename_i s hg;cases he;exact O5 X ho fY hg I
   ·cases he
  ·rename_i c fY;split at he
   ·rename_i s hg;cases he;exact O7 X ho fY hg I
   ·cases he
  ·rename_i c fY;split at he
   ·rename_i Fs hm;split at he
    ·rename_i fr hf;cases he;exact O_ X ho fY hm hf I
    ·cases he
   ·exact uu he
  ·exact uu he
 ·exact uu he
end
end Go.Proofs.Ythaddgfbohmfoaa.SX
namespace Go.Proofs.Ythaddgfbohmfoaa.SX
open Go.Conc
section
variable {P:Program}{O:dP}{ext:Ext}{sum:om}{base:Nat}{W0:World}{cs:List Frame}
theorem XC(X:iX P O ext sum){f:Nat}:∀{n:Nat} {st:yK} {r:yK⊕AV},crew? P O ext sum f n st=.ok r->∀{m:Machine} {T:Trace},uv P O base W0 cs st m T->
  match r with
  |.inl fZ=>∃N m' T',runNT P N m T=(.next m',T')∧uv P O base W0 cs fZ m' T'
  |.inr v=>∃N m' T' fZ,runNT P N m T=(.next m',T')∧uv P O base W0 cs fZ m' T'∧crew1? P O ext sum f fZ=.ok (.inr v):=by
 intro n
 induction n with
 |zero=>intro st r he m T I;have:(Except.ok (.inl st):M (yK⊕AV))=.ok r:=he;cases this;exact⟨0,m,T,rfl,I⟩
 |succ n ih=>
  intro st r he m T I;have jO:(match crew1? P O ext sum f st with
   |.ok (.inl c)=>crew? P O ext sum f n c
   |.ok (.inr r)=>.ok (.inr r)
   |.error e=>.error e)=.ok r:=he
  split at jO
  ·rename_i c hs;obtain⟨N,m1,T1,h1,I1⟩:=SN X hs I;have h2:=ih jO I1;cases r with
   |inl fZ=>obtain⟨M,m2,T2,h3,I2⟩:=h2;exact⟨N+M,m2,T2,runNT_then h1 h3,I2⟩
   |inr v=>obtain⟨M,m2,T2,fZ,h3,I2,h4⟩:=h2;exact⟨N+M,m2,T2,fZ,runNT_then h1 h3,I2,h4⟩
  ·rename_i v hs;cases jO;exact⟨0,m,T,st,rfl,I,hs⟩
  ·cases jO
theorem yN{fn:Func}{t:Nat}(h:fn.results=#[.tmp t])(tmps:Array Value):results fn tmps=pure (tmps.getD t undef):=by unfold results;rw[h];simp
end
end Go.Proofs.Ythaddgfbohmfoaa.SX
namespace Go.Proofs.Ythaddgfbohmfoaa.SX
open _root_.List renaming mem_cons->ac,map_cons->ah,mem_map->aJ,nodup_cons->bC
noncomputable section
structure Sub where
 is:List (Nat×IE):=[]
 bs:List (Nat×Nat):=[]
 vs:List (Nat×AV):=[]
end
section
variable {s:Sub}{ρ:cn}
theorem rA{α β:Type}{f:α->β}:∀{l:List α},(l.map f).Nodup->∀{a b:α},a∈l->b∈l->f a=f b->a=b
 |x::l,h,a,b,ha,hb,e=>by
  rw[ah,bC]at h;rcases ac.1 ha with e1|h1
  ·rcases ac.1 hb with e2|h2
   ·rw[e1,e2]
   ·exact absurd (aJ.2 ⟨b,h2,by rw[<-e,e1]⟩) h.1
  ·rcases ac.1 hb with e2|h2
   ·exact absurd (aJ.2 ⟨a,h1,by rw[e,e2]⟩) h.1
   ·exact rA h.2 h1 h2 e
structure MY(K:ik)(O:dP)(ρ:cn)(w:World):Prop where
 bs:∀p∈O.bs,p.1.ev ρ=p.2
 is:∀p∈O.is,p.1.ev ρ=p.2.ev ρ
 mem:∀p∈O.mem,¬K.own (p.1.ev ρ).block∧w.cell? (p.1.ev ρ)=some (p.2.ev ρ)∧∀s,K.Ev ⟨.cell (p.1.ev ρ),false,s⟩
end
end Go.Proofs.Ythaddgfbohmfoaa.SX
namespace Go.Proofs.Ythaddgfbohmfoaa.SX
open Go.Conc
open _root_.List renaming mem_cons->ac,map_cons->ah,nodup_nil->ai,map_nil->ak,getElem?_eq_some_iff->aH,mem_map->aJ,all_eq_true->aO,getElem?_append_left->aP,getElem?_map->aZ,length_range->bh,length_map->bj,getElem?_range->bn,getD_eq_getElem?_getD->bA,nodup_cons->bC
open _root_.Nat renaming lt_or_ge->bo
open _root_.Option.some renaming inj->au
open _root_.Bool renaming and_eq_true->ax
open _root_.Array renaming getElem?_toList->bl
section
noncomputable section
def IE.low(n:Nat):IE->Bool
 |.lit _=>true
 |.var i=>Nat.ble (i+1) n
 |.op _ _ a b=>a.low n&&b.low n
 |.conv _ a=>a.low n
 |.plus a b=>a.low n&&b.low n
 |.times a b=>a.low n&&b.low n
 |.tn a=>a.low n
def BE.low(n:Nat):BE->Bool
 |.cmp _ a b=>a.low n&&b.low n
 |_=>true
def BR.low(n:Nat):BR->Bool
 |.u1 _=>true
 |.cN i=>Nat.ble (i+1) n
def AA.low(n:Nat)(a:AA):Bool:=a.kj.low n&&a.off.low n
def x8{α:Type}(f:α->Bool):Option α->Bool
 |none=>true
 |some a=>f a
mutual
def AV.low(n:Nat):AV->Bool
 |.bool b=>b.low n
 |.int _ e=>e.low n
 |.ptr a=>x8 (AA.low n) a
 |.slice a l c=>x8 (AA.low n) a&&l.low n&&c.low n
 |.map r=>x8 (BR.low n) r
 |.chan r=>x8 (BR.low n) r
 |.func _ x y=>AV.lp n x&&AV.lp n y
 |.iface _ v=>v.low n
 |.agg x=>AV.lp n x
 |.tuple x=>AV.lp n x
 |.str _=>true
 |.nilFunc=>true
 |.nilIface=>true
 |.ez _=>true
 |.CM _=>true
def AV.lp(n:Nat):List AV->Bool
 |[]=>true
 |a::x=>a.low n&&AV.lp n x
end
def TT.low(n:Nat):TT->Bool
 |.ju=>true
 |.mM v l r=>v.low n&&l.low n&&r.low n
def AD.low(n:Nat)(d:AD):Bool:=
 match d with
 |⟨.fn _ c,args⟩=>AV.lp n c&&AV.lp n args
 |⟨.builtin _ _ _ _,args⟩=>AV.lp n args
def ia.low(n:Nat):ia->Bool
 |.panicking chain=>chain.all fun x=>x.1.low n
 |_=>true
def bH.low(n:Nat)(fr:bH):Bool:=fr.tmps.low n&&fr.defers.all (AD.low n)&&fr.mode.low n
def bM.low(n:Nat):bM->Bool
 |.cells cs _=>AV.lp n cs
 |.row cs _ c=>AV.lp n cs&&c.low n
 |.fT cs _ _=>AV.lp n cs
 |.map es=>es.all fun p=>p.1.low n&&p.2.low n
 |.chan=>true
 |.iY _ m fs ws=>m.low n&&fs.all (fun p=>p.1.low n&&x8 (AV.low n) p.2)&&ws.all fun p=>p.1.low n&&p.2.low n
 |.cH _ _ m fs ws cs _ c=>m.low n&&fs.all (fun p=>p.1.low n&&p.2.low n)&&ws.all (fun p=>p.1.low n&&p.2.low n)&&AV.lp n cs&&c.low n
def x_:List Nat->Bool
 |[]=>true
 |a::l=>l.all (fun b=>!Nat.beq a b)&&x_ l
def bR(n:Nat)(c:dw):Bool:=
 c.da.low n&&c.callers.all (bH.low n)&&c.h.hp.all (fun p=>Nat.ble (p.1+1) n&&p.2.low n)&&x_ (c.h.hp.map (·.1))
def dP.low(n:Nat)(O:dP):Bool:=
 O.bs.all (fun p=>p.1.low n)&&O.is.all (fun p=>p.1.low n&&p.2.low n)&&O.mem.all (fun p=>p.1.low n&&p.2.low n)
def Ed(hp:List (Nat×bM)):List Nat->Option (List (Nat×bM))
 |[]=>some []
 |k::ks=>match cV k hp,Ed hp ks with
  |some b,some l=>some ((k,b)::l)
  |_,_=>none
def chunkTo?(P:Program)(O:dP)(ext:Ext)(sum:om)(f n:Nat)(ks:List Nat)(c:dw):M dw:=
 match steps? P O ext sum f n c with
 |.ok (.inl ⟨da,callers,⟨hp,nb,eH⟩⟩)=>match x_ ks,Ed hp ks with
  |true,some hp=>.ok ⟨da,callers,⟨hp,nb,eH⟩⟩
  |_,_=>.error "chunk blocks"
 |.ok (.inr _)=>.error "chunk it ends"
 |.error e=>.error e
end
section
variable {n:Nat}
abbrev dR(n:Nat):Nat->Prop:=fun m=>m<n
theorem IE.du:∀{e:IE},e.low n=true->e.In (dR n):=by
 intro e
 induction e with
 |lit _=>intro _;trivial
 |var i=>intro h;exact Nat.le_of_ble_eq_true h
 |op o k a b E5 GU=>intro h;simp only[IE.low,ax]at h;exact⟨E5 h.1,GU h.2⟩
 |conv k a ih=>exact ih
 |plus a b E5 GU=>intro h;simp only[IE.low,ax]at h;exact⟨E5 h.1,GU h.2⟩
 |times a b E5 GU=>intro h;simp only[IE.low,ax]at h;exact⟨E5 h.1,GU h.2⟩
 |tn a ih=>exact ih
theorem BE.du{e:BE}(h:e.low n=true):e.In (dR n):=by
 cases e with
 |cmp o a b=>simp only[BE.low,ax]at h;exact⟨IE.du h.1,IE.du h.2⟩
 |_=>trivial
theorem BR.du{e:BR}(h:e.low n=true):e.In (dR n):=by
 cases e with
 |u1 g=>trivial
 |cN i=>exact Nat.le_of_ble_eq_true h
theorem AA.du{a:AA}(h:a.low n=true):a.In (dR n):=by simp only[AA.low,ax]at h;exact⟨BR.du h.1,IE.du h.2⟩
theorem qF{α:Type}{f:α->Bool}{g:α->Prop}(hf:∀{a},f a=true->g a):∀{o:Option α},x8 f o=true->nC g o
 |none,_=>trivial
 |some _,h=>hf h
mutual
theorem AV.du:∀(a:AV),a.low n=true->a.In (dR n)
 |.bool b,h=>by simp only[AV.low]at h;exact BE.du h
 |.int _ e,h=>by simp only[AV.low]at h;exact IE.du h
 |.ptr a,h=>by simp only[AV.low]at h;exact qF AA.du h
 |.slice a l c,h=>by simp only[AV.low,ax]at h;exact⟨qF AA.du h.1.1,IE.du h.1.2,IE.du h.2⟩
 |.map r,h=>by simp only[AV.low]at h;exact qF BR.du h
 |.chan r,h=>by simp only[AV.low]at h;exact qF BR.du h
 |.func _ x y,h=>by simp only[AV.low,ax]at h;exact⟨AV.gJ x h.1,AV.gJ y h.2⟩
 |.iface _ v,h=>by simp only[AV.low]at h;exact AV.du v h
 |.agg x,h=>by simp only[AV.low]at h;exact AV.gJ x h
 |.tuple x,h=>by simp only[AV.low]at h;exact AV.gJ x h
 |.str _,_=>trivial
 |.nilFunc,_=>trivial
 |.nilIface,_=>trivial
 |.ez _,_=>trivial
 |.CM _,_=>trivial
theorem AV.gJ:∀(l:List AV),AV.lp n l=true->AV.iB (dR n) l
 |[],_=>trivial
 |a::x,h=>by simp only[AV.lp,ax]at h;exact⟨AV.du a h.1,AV.gJ x h.2⟩
end
theorem TT.du:∀{t:TT},t.low n=true->t.In (dR n):=by
 intro t
 induction t with
 |ju=>intro _ m;show cx.In _;simp[cx,AV.In,AV.iB]
 |mM v l r ihl ihr=>
  intro h m;simp only[TT.low,ax]at h;cases m with
  |zero=>exact AV.du _ h.1.1
  |succ m=>
   rw[TT.jl];split
   ·exact ihr h.2 _
   ·exact ihl h.1.2 _
theorem AD.du{d:AD}(h:d.low n=true):d.In (dR n):=by
 obtain⟨t,a⟩:=d;cases t with
 |fn f c=>simp only[AD.low,ax]at h;exact⟨AV.gJ _ h.1,AV.gJ _ h.2⟩
 |builtin b x t c=>exact⟨trivial,AV.gJ _ h⟩
theorem bH.du{fr:bH}(h:fr.low n=true):fr.In (dR n):=by
 simp only[bH.low,ax]at h;refine⟨TT.du h.1.1,fun d hd=>AD.du (aO.1 h.1.2 d hd),?_⟩;have h2:=h.2;cases e:fr.mode with
 |panicking chain=>rw[e]at h2;exact fun x hx=>AV.du _ (aO.1 h2 x hx)
 |_=>trivial
theorem bM.du{b:bM}(h:b.low n=true):b.In (dR n):=by
 cases b with
 |cells cs e=>exact AV.gJ _ h
 |row cs e c=>simp only[bM.low,ax]at h;exact⟨AV.gJ _ h.1,IE.du h.2⟩
 |fT cs e l=>exact AV.gJ _ h
 |map es=>intro p hp;have:=aO.1 h p hp;simp only[ax]at this;exact⟨AV.du _ this.1,AV.du _ this.2⟩
 |chan=>trivial
 |iY s m fs ws=>
  simp only[bM.low,ax]at h;obtain⟨⟨h1,h2⟩,h3⟩:=h;refine⟨IE.du h1,fun p hp=>?_,fun p hp=>?_⟩
  ·have:=aO.1 h2 p hp;simp only[ax]at this;exact⟨AA.du this.1,qF (fun h=>AV.du _ h) this.2⟩
  ·have:=aO.1 h3 p hp;simp only[ax]at this;exact⟨AV.du _ this.1,AV.du _ this.2⟩
 |cH lk s m fs ws cs e c=>
  simp only[bM.low,ax]at h;obtain⟨⟨⟨⟨h1,h2⟩,h3⟩,h4⟩,h5⟩:=h;have two:∀{l:List (IE×AV)},(l.all fun p=>p.1.low n&&p.2.low n)=true->∀p∈l,p.1.In (dR n)∧p.2.In (dR n):=fun h p hp=>by have:=aO.1 h p hp;simp only[ax]at this;exact⟨IE.du this.1,AV.du _ this.2⟩
  exact⟨IE.du h1,two h2,two h3,AV.gJ _ h4,IE.du h5⟩
theorem ya:∀{l:List Nat},x_ l=true->l.Nodup
 |[],_=>ai
 |a::l,h=>by simp only[x_,ax]at h;refine bC.2 ⟨fun hm=>?_,ya h.2⟩;have:=aO.1 h.1 a hm;simp at this
theorem dP.du{O:dP}(h:O.low n=true):O.In (dR n):=by
 simp only[dP.low,ax]at h;refine⟨fun p hp=>BE.du (aO.1 h.1.1 p hp),fun p hp=>?_,fun p hp=>?_⟩
 ·have:=aO.1 h.1.2 p hp;simp only[ax]at this;exact⟨IE.du this.1,IE.du this.2⟩
 ·have:=aO.1 h.2 p hp;simp only[ax]at this;exact⟨AA.du this.1,AV.du _ this.2⟩
theorem n_{K:ik}{c:dw}(h:bR n c=true)(hn:c.h.nb=n)(hO:K.O.low n=true):gq K (dR n) c:=by
 simp only[bR,ax]at h;obtain⟨⟨⟨h1,h2⟩,h3⟩,h4⟩:=h;have kj:∀p∈c.h.hp,p.1<n∧p.2.In (dR n):=fun p hp=>by have:=aO.1 h3 p hp;simp only[ax]at this;exact⟨Nat.le_of_ble_eq_true this.1,bM.du this.2⟩
 refine⟨bH.du h1,fun fr hf=>bH.du (aO.1 h2 fr hf),fun i b hb=>(kj _ (mS hb)).2,fun i hi=>?_,ya h4,fun m hm _ hl=>?_,dP.du hO⟩
 ·obtain⟨p,hp,rfl⟩:=aJ.1 hi;exact(kj p hp).1
 ·have we:m<n:=hl;omega
end
section
variable {K:ik}{main:Bool}{U:Nat->Prop}{ρ:cn}{cs:List Frame}
theorem Bz{hp:List (Nat×bM)}:∀{ks:List Nat} {l:List (Nat×bM)},Ed hp ks=some l->keys l=ks∧∀p∈l,cV p.1 hp=some p.2
 |[],l,h=>by cases h;exact⟨rfl,fun p hp=>by cases hp⟩
 |k::ks,l,h=>by
  unfold Ed at h;split at h
  ·rename_i b l' hb hl;cases h;obtain⟨h1,h2⟩:=Bz hl;refine⟨by show k::keys l'=_;rw[h1],fun p hp=>?_⟩;rcases ac.1 hp with rfl|hp
   ·exact hb
   ·exact h2 p hp
  ·cases h
theorem yb{hp l:List (Nat×bM)}{ks:List Nat}(h:Ed hp ks=some l){i:Nat}{b:bM}(hb:cV i l=some b):cV i hp=some b:=(Bz h).2 _ (mS hb)
theorem Rel.sub{hp Az:List (Nat×bM)}{nb eH nb' apN:Nat}{w:World}(R:Rel K ρ ⟨hp,nb,eH⟩ w)(hs:∀i b,cV i Az=some b->cV i hp=some b):Rel K ρ ⟨Az,nb',apN⟩ w:=
 ⟨fun i b h=>R.kj i b (hs i b h),fun i b h=>R.qu i b (hs i b h),fun i j b c h h' e=>R.inj i j b c (hs i b h) (hs j c h') e,R.bs,R.is,R.mem,R.room,fun i b h=>R.fT i b (hs i b h),R.low⟩
theorem Di{l:List (Nat×bM)}{i:Nat}(h:i∈keys l)(hn:(keys l).Nodup):∃b,cV i l=some b:=by obtain⟨p,hp,rfl⟩:=aJ.1 h;exact⟨p.2,HZ hn hp⟩
theorem Next.pick{w w':World}{h0:AH}{da:bH}{callers:List bH}{hp l:List (Nat×bM)}{nb eH:Nat}{ks:List Nat}{g':Goroutine}(hk:x_ ks=true)(hl:Ed hp ks=some l)
 (h:Next K U ρ cs w h0 ⟨da,callers,⟨hp,nb,eH⟩⟩ g' w'):Next K U ρ cs w h0 ⟨da,callers,⟨l,nb,eH⟩⟩ g' w':=by
 obtain⟨bL,a1,a2,a3,a4,R,Γ⟩:=h;have nd:(keys l).Nodup:=by rw[(Bz hl).1];exact ya hk
 have iC:∀{V:Nat->Prop},h_ K V ⟨hp,nb,eH⟩->h_ K V ⟨l,nb,eH⟩:=fun I=>⟨fun i b hb=>I.hp i b (yb hl hb),fun i hi=>by obtain⟨b,hb⟩:=Di hi nd;exact I.keys i (nY (yb hl hb)),nd,I.fresh,I.zE⟩
 exact⟨bL,a1,a2,⟨a3.nb,a3.eH,iC a3.iC⟩,⟨a4.da,a4.callers,iC a4.iC⟩,R.sub fun i b hb=>yb hl hb,Γ⟩
theorem BA(Gd:K.Good)(F:K.il){ext:Ext}(X:ib K ext){sum:om}(Z:uN K main sum){f n:Nat}{ks:List Nat}{c c':dw}(he:chunkTo? K.P K.O ext sum f n ks c=.ok c'):
  wB c'.da.fn c'.callers=wB c.da.fn c.callers∧∃N,mQ K main c c' N:=by
 unfold chunkTo? at he;split at he
 ·rename_i da callers hp nb eH hs;split at he
  ·rename_i l hk hl;cases he;obtain⟨b,N,L⟩:=SG (main:=main) Gd F X Z hs;exact⟨b,N,fun U ρ cs g w I Γ=>(L U ρ cs g w I Γ).d_ fun _ _ h=>h.pick hk hl⟩
  ·cases he
 ·cases he
 ·cases he
end
end
noncomputable def SO{α:Type}(d:α)(n:Nat)(l:List (Nat×α)):α:=(look (fun a b=>Nat.beq a b) n l).getD d
noncomputable def gY(is:List (Nat×Int))(bs:List (Nat×Nat))(vs:List (Nat×Value)):cn:={i:=fun n=>SO 0 n is,p:=fun _=>false,v:=fun n=>SO undef n vs,b:=fun n=>SO 0 n bs,bt:=(none,[])}
noncomputable def bZ(nt:Nat)(st:Nat->Value)(dH:List (Nat×AV)):TT:=TT.fill ((List.range nt).map fun n=>(look (fun a b=>Nat.beq a b) n dH).getD (.CM (st n))) 0 .ju
theorem BB{nt:Nat}(hn:nt≤60000)(st:Nat->Value)(dH:List (Nat×AV))(n:Nat):(bZ nt st dH).get n=if n<nt then(look (fun a b=>Nat.beq a b) n dH).getD (.CM (st n))else cx:=by
 unfold bZ;rw[TT.v7 _ 0 .ju n (by simpa using hn)];simp only[bj,bh,Nat.zero_add,Nat.sub_zero,Nat.zero_le,true_and];by_cases h:n<nt
 ·rw[if_pos h,if_pos h];simp[bA,aZ,bn h]
 ·rw[if_neg h,if_neg h];rfl
section
variable {P:Program}{ρ bL:cn}
structure fN where
 fn:FuncId
 nt:Nat
 todo:List Item
 defers:List AD
 mode:ia
 kind:CallKind
 callers:List bH
 hp:List (Nat×bM)
 dx:List AV
noncomputable def yc(c:dw)(dH:List Nat):fN:=⟨c.da.fn,c.da.nt,c.da.todo,c.da.defers,c.da.mode,c.da.kind,c.callers,c.h.hp,dH.map fun n=>c.da.tmps.get n⟩
noncomputable def see(r:M dw)(dH:List Nat):Option fN:=
 match r with
 |.ok c=>some (yc c dH)
 |.error _=>none
theorem adH{r:M dw}{dH:List Nat}{s:fN}(h:see r dH=some s):∃c,r=.ok c∧yc c dH=s:=by
 cases r with
 |ok c=>exact⟨c,rfl,au h⟩
 |error e=>cases h
end
def EvS(still:Nat->Nat->Prop)(e:Event):Prop:=∀b n s,e=⟨.cell ⟨b,n,none⟩,true,s⟩->¬still b n
def ik.sub(K:ik)(O:dP)(own:Nat->Prop)(still:Nat->Nat->Prop):ik:=⟨K.P,O,own,fun e=>K.Ev e∧EvS still e,K.kx,fun b n=>K.still b n∨still b n⟩
section
variable {K:ik}{O:dP}{own:Nat->Prop}{still:Nat->Nat->Prop}
theorem mT(Gd:K.Good)(h:∀n,own n->K.own n):(K.sub O own still).Good:=by
 refine⟨fun a s ho=>⟨Gd.rd a s (h _ ho),fun b n s' e=>by cases e⟩,fun a s ho hn=>⟨Gd.wr a s (h _ ho) fun x=>hn (.inl x),fun b n s' e=>?_⟩,fun b n s hs he=>?_,fun m hm=>⟨Gd.ext m hm,fun b n s e=>by cases e⟩,⟨Gd.noRoom,fun b n s e=>by cases e⟩,fun L m=>⟨Gd.kx L m,fun b n s e=>by cases e⟩,fun r wr s ho=>⟨Gd.obj r wr s (h _ ho),fun b n s' e=>by cases e⟩⟩
 ·cases e;exact fun x=>hn (.inr x)
 ·rcases hs with hs|hs
  ·exact Gd.WR b n s hs he.1
  ·exact he.2 b n s rfl hs
theorem BC(h:∀n,own n->K.own n)(w w':World)(es:Array Event)(d:DK (K.sub O own still) w w' es):DK K w w' es:=
 ⟨d.1.mono h,fun e he=>(d.2.1 e he).1,fun b n v hs hc=>d.2.2 b n v (.inl hs) hc⟩
end
theorem dy.aje{P:Program}{main:Bool}{D:World->World->Array Event->Prop}{S:Goroutine->World->Prop}{R:World->World->Prop}(r0:∀w,R w w)(rd:∀w d w',R (cM w d) w'->R w w')(rd':∀w d,R w (cM w d))(rt:∀w w' yD,R w w'->R w' yD->R w yD)(rD:∀w w' es,D w w' es->R w w'){n:Nat}{g:Goroutine}{w:World}(h:dy P main D S n g w):
  dy P main D (fun g' w'=>S g' w'∧R w w') n g w:=by
 have key:∀{k:Nat} {g:Goroutine} {w:World},gW P main D S k g w->∀w0,R w0 w->gW P main D (fun g' w'=>S g' w'∧R w0 w') k g w:=by
  intro k g w h
  induction h with
  |stop g w hs=>exact fun w0 hr=>gW.stop g w ⟨hs,hr⟩
  |step n g w g' w' es hr hs hdd _ ih=>exact fun w0 h0=>gW.step n g w g' w' es hr hs hdd fun d=>ih d w0 (rt _ _ _ h0 (rd _ d _ (rD _ _ _ (hdd d))))
  |off n g w g' hr hs _ ih=>exact fun w0 h0=>gW.off n g w g' hr hs fun d=>ih d w0 (rt _ _ _ h0 (rd' _ d))
  |on n g w g' hr hs _ ih=>exact fun w0 h0=>gW.on n g w g' hr hs fun d=>ih d w0 (rt _ _ _ h0 (rd' _ d))
 exact key h w (r0 w)
theorem pD.refl(S:Nat->Nat->Prop)(w:World):pD S w w:=fun _ _ _ _ h=>h
theorem pD.trans{S:Nat->Nat->Prop}{w w' yD:World}(h:pD S w w')(h':pD S w' yD):pD S w yD:=fun b n v hs hc=>h' b n v hs (h b n v hs hc)
structure abz(K:ik)(U:Nat->Prop)(ρ:cn)(own:Nat->Prop)(still:Nat->Nat->Prop)(O:dP)(cs:List Frame)(dH:List Nat)(V:fN)(w:World)(g':Goroutine)(w':World)(bL:cn)(c':dw)(bT:Frame)(dk:List Frame):Prop where
 bE:cz U ρ bL
 gX:cE own w w'
 auz:pD still w w'
 seen:yc c' dH=V
 fr:dj K.P bL c'.da bT
 cC:c8 K.P bL c'.callers dk
 rel:Rel (K.sub O own still) bL c'.h w'
 gor:g'=G bT (dk++cs)
theorem ajf{K:ik}{main:Bool}(Gd:K.Good){own:Nat->Prop}{still:Nat->Nat->Prop}(fu:∀n,own n->K.own n){O:dP}{ext:Ext}{sum:om}(F:(K.sub O own still).il)(X:ib (K.sub O own still) ext)(Z:uN (K.sub O own still) main sum){f n:Nat}{ks:List Nat}{c:dw}{dH:List Nat}{V:fN}
 (hv:see (chunkTo? K.P O ext sum f n ks c) dH=some V){nb:Nat}(hl:bR nb c=true)(hnb:c.h.nb=nb)(hO:O.low nb=true){ρ:cn}{fr:Frame}{cC cs:List Frame}{w:World}(hf:dj K.P ρ c.da fr)(iw:c8 K.P ρ c.callers cC)(R:Rel (K.sub O own still) ρ c.h w):
  dy K.P main (DK K) (fun g' w'=>∃bL c' bT dk,abz K (dR nb) ρ own still O cs dH V w g' w' bL c' bT dk) 0 (G fr (cC++cs)) w:=by
 obtain⟨c',hc,hs⟩:=adH hv;obtain⟨_,N,L⟩:=BA (K:=K.sub O own still) (main:=main) (mT Gd fu) F X Z hc;have W:=L (dR nb) ρ cs (G fr (cC++cs)) w (n_ (K:=K.sub O own still) hl hnb hO) ⟨R,fr,cC,hf,iw,rfl⟩;have W2:=dy.aje (R:=fun w w'=>pD still w w') (fun w=>pD.refl _ w) (fun w d w' h=>h) (fun w d=>fun _ _ _ _ h=>h) (fun _ _ _ h h'=>h.trans h') (fun w w' es h=>fun b n v hs hc=>h.2.2 b n v (.inr hs) hc) W;refine(dy.d_ (fun g' w' hd=>?_) (W2.Kg (BC fu))).any;obtain⟨⟨bL,A,kp,gr,hin,R',bT,dk,h1,h2,h3⟩,di⟩:=hd;exact⟨bL,c',bT,dk,A,kp,di,hs,h1,h2,R',h3⟩
section
variable {K:ik}{ρ bL:cn}{w w':World}
theorem XD{O:dP}{own:Nat->Prop}{still:Nat->Nat->Prop}{nb eH:Nat}(F:MY (K.sub O own still) O ρ w)(iS:∀n,w.heap.size≤n->own n)(jG:∀b n,K.still b n∨still b n->b<w.heap.size):Rel (K.sub O own still) ρ ⟨[],nb,eH⟩ w:=
 ⟨(fun i b hb=>by cases hb),(fun i b hb=>by cases hb),(fun i j b c hb=>by cases hb),F.bs,F.is,F.mem,iS,(fun i b hb=>by cases hb),jG⟩
theorem FL{a:Addr}{v:Value}(hc:w.cell? a=some v):a.block<w.heap.size:=by
 rcases bo a.block w.heap.size with h'|h'
 ·exact h'
 ·simp[World.cell?,Array.getElem?_eq_none h']at hc
end
theorem rC{K:ik}{ρ:cn}{w:World}{O:dP}{own:Nat->Prop}{still:Nat->Nat->Prop}{hp:List (Nat×bM)}{nb eH:Nat}(h1:∀p∈hp,∃o,w.heap[ρ.b p.1]?=some o∧p.2.is K.P ρ o)(h2:∀p∈hp,own (ρ.b p.1))(h3:(hp.map fun p=>ρ.b p.1).Nodup)(h4:∀p∈hp,∀n,(K.still (ρ.b p.1) n∨still (ρ.b p.1) n)->p.2.i_ K.P ρ n)
 (F:MY (K.sub O own still) O ρ w)(iS:∀n,w.heap.size≤n->own n)(jG:∀b n,K.still b n∨still b n->b<w.heap.size):Rel (K.sub O own still) ρ ⟨hp,nb,eH⟩ w:=
 ⟨fun i b hb=>h1 (i,b) (mS hb),fun i b hb=>.inl (h2 (i,b) (mS hb)),fun i j b c hb hc e=>by have:=rA (f:=fun p:Nat×bM=>ρ.b p.1) h3 (mS hb) (mS hc) e;exact congrArg Prod.fst this,F.bs,F.is,F.mem,iS,fun i b hb n hs=>h4 (i,b) (mS hb) n hs,jG⟩
def ajg(w:World)(b off:Nat)(xs:List Value):Prop:=∀k v,xs[k]?=some v->w.cell? ⟨b,off+k,none⟩=some v
section
variable {P:Program}{ρ:cn}
theorem SP{lk:Bool}{s:Nat}{n c:IE}{fs:List (IE×AV)}{e:TypeId}{i:TypeInfo}{arr:Array Value}{xs rest:List Value}(hx:arr.toList=xs++rest)(hi:P.info? e=some i)(hv:ρ.v s=.agg xs.toArray)(hn:xs.length=(n.ev ρ).toNat*i.size)(hf:∀p∈fs,xs[(p.1.ev ρ).toNat]?=some (p.2.ev ρ))(hc:arr.size=(c.ev ρ).toNat*i.size):
  (bM.cH lk s n fs [] [] e c).is P ρ (.cells arr e (0,0)):=
 .inl ⟨arr,rfl,xs.toArray,rest,i,⟨hv,hi,by simpa using hn,fun p hp=>by simpa using hf p hp,fun p hp=>by cases hp⟩,by simpa[dF,AV.cf] using hx,hc⟩
end
structure lU(P:Program)(w:World)(e L:Nat)(xs:List Value)(cap:Nat):Prop where
 ex:∃arr rest i,w.heap[L]?=some (.cells arr e (0,0))∧P.info? e=some i∧arr.toList=xs++rest∧arr.size=cap*i.size
theorem lU.arr{P:Program}{w:World}{e L:Nat}{xs:List Value}{cap:Nat}(h:lU P w e L xs cap):ajg w L 0 xs:=fun k v hk=>by obtain⟨arr,rest,i,h1,h2,h3,h4⟩:=h.ex;rw[j9 h1,Nat.zero_add,<-bl,h3,aP (aH.1 hk).1];exact hk
theorem lU.lt{P:Program}{w:World}{e L:Nat}{xs:List Value}{cap:Nat}(h:lU P w e L xs cap):L<w.heap.size:=by obtain⟨arr,rest,i,h1,_⟩:=h.ex;exact iN h1
theorem lU.dE{P:Program}{w w':World}{e L:Nat}{xs:List Value}{cap:Nat}(h:lU P w e L xs cap){own:Nat->Prop}(kp:cE own w w')(hb:¬own L):lU P w' e L xs cap:=by obtain⟨arr,rest,i,h1,h2⟩:=h.ex;exact⟨arr,rest,i,by rw[kp.heap L hb];exact h1,h2⟩
theorem lU.is{P:Program}{w:World}{e L:Nat}{xs:List Value}{cap:Nat}(h:lU P w e L xs cap){ρ:cn}{lk:Bool}{s:Nat}{n c:IE}{fs:List (IE×AV)}(hv:ρ.v s=.agg xs.toArray)(hn:∀i,P.info? e=some i->xs.length=(n.ev ρ).toNat*i.size)(hf:∀p∈fs,xs[(p.1.ev ρ).toNat]?=some (p.2.ev ρ))(hc:(c.ev ρ).toNat=cap):
  ∃o,w.heap[L]?=some o∧(bM.cH lk s n fs [] [] e c).is P ρ o:=by
 obtain⟨arr,rest,i,h1,h2,h3,h4⟩:=h.ex;exact⟨_,h1,SP h3 h2 hv (hn i h2) hf (by rw[hc];exact h4)⟩
noncomputable def fW(fr:bH)(dH:List Nat):fN:=⟨fr.fn,fr.nt,fr.todo,fr.defers,fr.mode,fr.kind,[],[],dH.map fun n=>fr.tmps.get n⟩
noncomputable def c7(r:M dw)(dH:List Nat)(dW:FuncId->List Nat):Option (fN×List fN):=
 match r with
 |.ok ⟨da,callers,h⟩=>some (yc ⟨da,[],h⟩ dH,callers.map fun fr=>fW fr (dW fr.fn))
 |.error _=>none
noncomputable def fN.under(V:fN)(cl:List bH):fN:=⟨V.fn,V.nt,V.todo,V.defers,V.mode,V.kind,cl,V.hp,V.dx⟩
theorem XF{r:M dw}{dH:List Nat}{dW:FuncId->List Nat}{V:fN}{Vs:List fN}(h:c7 r dH dW=some (V,Vs)):∃cl,see r dH=some (V.under cl)∧cl.map (fun fr=>fW fr (dW fr.fn))=Vs:=by
 cases r with
 |error e=>cases h
 |ok c=>obtain⟨da,cl,hh⟩:=c;have h':(yc ⟨da,[],hh⟩ dH,cl.map fun fr=>fW fr (dW fr.fn))=(V,Vs):=au h;obtain⟨h1,h2⟩:=Prod.mk.inj h';subst h1;exact⟨cl,rfl,h2⟩
theorem XG{α β:Type}{f:α->β}:∀{l:List α} {x:β},l.map f=[x]->∃a,l=[a]∧f a=x
 |[a],_,h=>by simp only[ah,ak,List.cons.injEq,and_true]at h;exact⟨a,rfl,h⟩
 |[],_,h=>by cases h
 |_::_::_,_,h=>by simp at h
theorem XH{P:Program}{ρ:cn}{a:bH}:∀{l:List Frame},c8 P ρ [a] l->∃f,l=[f]∧dj P ρ a f
 |[f],h=>⟨f,rfl,h.1⟩
 |[],h=>h.elim
 |_::_::_,h=>h.2.elim
theorem adI{α:Type}{P:Program}{Ev Ev':Event->Prop}{E:Value->World->Prop}(he:∀e,Ev e->Ev' e){s:Sem α}:∀{Q:α->World->Prop} {w:World},wq P Ev E s Q w->wq P Ev' E s Q w:=by
 induction s with
 |pure a=>intro Q w h;exact h
 |load m a k ih=>intro Q w h;obtain⟨v,h1,h2,h3⟩:=h;exact⟨v,h1,he _ h2,ih _ h3⟩
 |store m a v k ih=>intro Q w h;obtain⟨h1,h2,h3,h4,h5⟩:=h;exact⟨h1,h2,h3,he _ h4,ih h5⟩
 |new o k ih=>intro Q w h;exact ih _ h
 |shape r k ih=>intro Q w h;exact ih _ h
 |freeze a n k ih=>intro Q w h;exact h
 |frozen a k ih=>intro Q w h;exact ih _ h
 |getObj r k ih=>intro Q w h;obtain⟨o,h1,h2,h3,h4⟩:=h;exact⟨o,h1,h2,he _ h3,ih _ h4⟩
 |setObj r o k ih=>intro Q w h;obtain⟨h1,h2,h3⟩:=h;exact⟨h1,he _ h2,ih h3⟩
 |choose q k ih=>
  intro Q w h;simp only[wq]at h⊢;split
  ·rename_i hq;rw[if_pos hq]at h;exact ih _ h
  ·rename_i hq;rw[if_neg hq]at h;exact fun n=>ih _ (h n)
 |sys c k ih=>intro Q w h;exact h
 |program k ih=>intro Q w h;exact ih _ h
 |mark m k ih=>intro Q w h;exact⟨he _ h.1,ih h.2⟩
 |halt h=>intro Q w hh;cases h<;>exact hh
noncomputable def isT:M (AE×AH)->Bool
 |.ok (.returned (.bool (.lit true)),_)=>true
 |_=>false
theorem adJ{r:M (AE×AH)}(h:isT r=true):∃h',r=.ok (.returned (.bool (.lit true)),h'):=by
 unfold isT at h;split at h
 ·exact⟨_,rfl⟩
 ·cases h
def ajh(K:ik)(f:FuncId)(own:Nat->Prop)(cs:List Frame)(w:World)(g':Goroutine)(w':World):Prop:=cE own w w'∧∃bL,sV K f bL (.returned (.bool (.lit true))) cs g' w'
theorem Pa{K:ik}{main:Bool}(Gd:K.Good){own:Nat->Prop}{still:Nat->Nat->Prop}(fu:∀n,own n->K.own n){O:dP}{ext:Ext}{sum:om}(F:(K.sub O own still).il)(X:ib (K.sub O own still) ext)(Z:uN (K.sub O own still) main sum){n:Nat}{c:dw}
 (hv:isT (run? K.P O ext sum n c)=true){nb:Nat}(hl:bR nb c=true)(hnb:c.h.nb=nb)(hO:O.low nb=true){ρ:cn}{fr:Frame}{cC cs:List Frame}{w:World}(hf:dj K.P ρ c.da fr)(iw:c8 K.P ρ c.callers cC)(R:Rel (K.sub O own still) ρ c.h w):
  dy K.P main (DK K) (ajh K (wB c.da.fn c.callers) own cs w) 0 (G fr (cC++cs)) w:=by
 obtain⟨h',hc⟩:=adJ hv;obtain⟨N,E⟩:=Kr (K:=K.sub O own still) (main:=main) (mT Gd fu) F X Z hc;have W:=E (dR nb) ρ cs (G fr (cC++cs)) w (n_ (K:=K.sub O own still) hl hnb hO) ⟨R,fr,cC,hf,iw,rfl⟩;refine(dy.d_ (fun g' w' hd=>?_) (W.Kg (BC fu))).any;obtain⟨bL,_,kp,_,_,_,bT,fn',e1,e2,e3,e4,m1,m2,m3⟩:=hd;exact⟨kp,bL,bT,fn',e1,e2,e3,e4,m1,m2,fun d {Q} hq=>adI (fun e h=>h.1) (m3 d hq)⟩
end Go.Proofs.Ythaddgfbohmfoaa.SX
