/-
  A symbolic run of the model, proved sound, and the walk of the code: a text of its parts. Conditions: none.
-/
import Derived.Test.YthaddgfbohmfoaaLB
set_option linter.unusedSectionVars false
set_option maxRecDepth 100000
set_option linter.unusedVariables false
set_option linter.unusedSimpArgs false
namespace Go.Proofs.Ythaddgfbohmfoaa.SX
open Go.Conc
open _root_.List renaming mem_cons->ac,mem_singleton->ad,not_mem_nil->ae,map_cons->ah,mem_cons_of_mem->am,mem_cons_self->an,mem_append->ay,cons_append->az,mem_map->aJ,all_eq_true->aO,mem_filter->aU,map_congr_left->aY,mem_of_getElem?->bf,toList_toArray->bm
open _root_.Option renaming map_some->af
open _root_.Nat renaming le_refl->aq,eq_of_beq_eq_true->aI,lt_or_ge->bo,le_trans->bp,mul_le_mul_right->bq
open _root_.Option.some renaming inj->au
open _root_.Bool renaming and_eq_true->ax
open _root_.Array renaming getElem?_setIfInBounds_ne->aC,getElem?_eq_getElem->aT,getElem?_eq_some_iff->bc,getD_eq_getD_getElem?->be
section
variable {P:Program}{main:Bool}{b:Frame}{a:Act}{k:List Item}{cs:List Frame}{w:World}
theorem RT:stepG P main (G (b.atR a (.code .skip::k)) cs) w=.go (G (b.atR a k) cs) w:=by simp[G,stepG,stepG.exec,Frame.atR]
theorem Ow{l:Nat}:stepG P main (G (b.atR a (.code (.label l)::k)) cs) w=.go (G (b.atR a k) cs) w:=by simp[G,stepG,stepG.exec,Frame.atR]
theorem Hs{id:Nat}:stepG P main (G (b.atR a (.inBlock id::k)) cs) w=.go (G (b.atR a k) cs) w:=by simp[G,stepG,stepG.exec,Frame.atR]
theorem Ht{c:Code}:stepG P main (G (b.atR a (.inScope c::k)) cs) w=.go (G (b.atR a k) cs) w:=by simp[G,stepG,stepG.exec,Frame.atR]
theorem W_{x y:Code}:stepG P main (G (b.atR a (.code (.seq x y)::k)) cs) w=.go (G (b.atR a (.code x::.code y::k)) cs) w:=by simp[G,stepG,stepG.exec,Frame.atR]
theorem Hu{c:Operand}{x y:Code}{t:Bool}(h:a.eval c=.bool t):stepG P main (G (b.atR a (.code (.cond c x y)::k)) cs) w=.go (G (b.atR a (.code (if t then x else y)::k)) cs) w:=by
 have h':(b.atR a (.code (.cond c x y)::k)).eval c=.bool t:=by rw[Frame.eval_atR];exact h
 simp only[Frame.atR]at h';simp[G,stepG,stepG.exec,Frame.atR,h']
theorem Ox{id:Nat}{c:Code}:stepG P main (G (b.atR a (.code (.block id c)::k)) cs) w=.go (G (b.atR a (.code c::.inBlock id::k)) cs) w:=by simp[G,stepG,stepG.exec,Frame.atR]
theorem RU{c:Code}:stepG P main (G (b.atR a (.code (.loop c)::k)) cs) w=.go (G (b.atR a (.code c::.inLoop c::k)) cs) w:=by simp[G,stepG,stepG.exec,Frame.atR]
theorem Kh{c:Code}:stepG P main (G (b.atR a (.inLoop c::k)) cs) w=.go (G (b.atR a (.code c::.inLoop c::k)) cs) w:=by simp[G,stepG,stepG.exec,Frame.atR]
theorem Oy{c:Code}:stepG P main (G (b.atR a (.code (.scope c)::k)) cs) w=.go (G (b.atR a (.code c::.inScope c::k)) cs) w:=by simp[G,stepG,stepG.exec,Frame.atR]
theorem RV{id:Nat}{k':List Item}(h:exitTo id k=some k'):stepG P main (G (b.atR a (.code (.exit id)::k)) cs) w=.go (G (b.atR a k') cs) w:=by simp[G,stepG,stepG.exec,Frame.atR,h]
theorem RW{l:Nat}{k':List Item}(h:gotoIn l k=some k'):stepG P main (G (b.atR a (.code (.goto l)::k)) cs) w=.go (G (b.atR a k') cs) w:=by simp[G,stepG,stepG.exec,Frame.atR,h]
theorem Ki{id:Nat}{ops:Array Oper}:stepG P main (G (b.atR a (.code (.region id ops false)::k)) cs) w=.go (G (b.atR a (.inRegion ops (List.range ops.size)::k)) cs) w:=by simp[G,stepG,stepG.exec,Frame.atR]
theorem oF{ops:Array Oper}:stepG P main (G (b.atR a (.inRegion ops []::k)) cs) w=.go (G (b.atR a k) cs) w:=by simp[G,stepG,stepG.exec,Frame.atR]
theorem Xa(hb:b.roundOf=none):stepG P main (G (b.atR a []) cs) w=.go (G {b.atR a []with mode:=.returning} cs) w:=by simp[G,stepG,stepG.exec,Frame.atR,hb]
theorem Xb(hb:b.roundOf=none):stepG P main (G (b.atR a (.code .ret::k)) cs) w=.go (G {b.atR a (.code .ret::k)with mode:=.returning} cs) w:=by simp[G,stepG,stepG.exec,Frame.atR,hb]
theorem Oz(b:Frame)(a:Act){ops:Array Oper}{i:Nat}{rest:List Nat}{k:List Item}{o:Oper}(ho:ops[i]?=some o)(v:Value):(b.atR a (.inRegion ops (i::rest)::k)).finish v=b.atR (a.put o.dst v) (.inRegion ops rest::k):=by rw[Frame.finish_atR,ho];rfl
variable {ops:Array Oper}{i:Nat}{rest:List Nat}{o:Oper}{w':World}
theorem Fu(ho:ops[i]?=some o)(hw:Region.wanted o (yielded ops a.tmps)=false):
  stepG P main (G (b.atR a (.inRegion ops (i::rest)::k)) cs) w=.go (G (b.atR (a.put o.dst undef) (.inRegion ops rest::k)) cs) w #[]:=by
 rw[<-Oz b a ho];simp[G,stepG,stepG.exec,Frame.atR,ho,hw]
def xN(b:Frame)(o:Oper):Prop:=b.roundOf=none∨∀c,o.op≠.defer c
theorem qC(hf:xN b o)(ho:ops[i]?=some o)(hw:Region.wanted o (yielded ops a.tmps)=true):
  stepG P main (G (b.atR a (.inRegion ops (i::rest)::k)) cs) w=stepG.apply P true (b.atR a (.inRegion ops (i::rest)::k)) cs none (execOp a.eval o) w:=by
 have he:=Frame.eval_atR b a (.inRegion ops (i::rest)::k);have h1:stepG P main (G (b.atR a (.inRegion ops (i::rest)::k)) cs) w=stepG.oper P true (b.atR a (.inRegion ops (i::rest)::k)) cs none w:=by simp[G,stepG,stepG.exec,Frame.atR,ho,hw]
 rw[h1];have h2:(b.atR a (.inRegion ops (i::rest)::k)).oper?=some o:=by simp[Frame.oper?,Frame.atR,ho]
 have h3:(b.atR a (.inRegion ops (i::rest)::k)).roundOf=b.roundOf:=rfl;unfold stepG.oper;rw[h2];dsimp only;rw[h3,he];rcases hf with h|h
 ·rw[h]
 ·split
  ·rename_i l c _ hc;exact absurd hc (h c)
  ·rfl
theorem OA{v:Value}(hf:xN b o)(ho:ops[i]?=some o)(hw:Region.wanted o (yielded ops a.tmps)=true)(hk:b.kind≠.early)(hr:(execOp a.eval o).run P w=.ok (.value v) w'):
  stepG P main (G (b.atR a (.inRegion ops (i::rest)::k)) cs) w=.go (G (b.atR (a.put o.dst v) (.inRegion ops rest::k)) cs) w' (listed P b.fn a o w):=by
 have vg:(b.kind==CallKind.early)=false:=by simpa using hk
 rw[qC hf ho hw,<-Oz b a ho];simp[stepG.apply,hr,G,Frame.atR,vg,GStep.after,listed]
theorem RX(hf:xN b o)(ho:ops[i]?=some o)(hw:Region.wanted o (yielded ops a.tmps)=true)(hk:b.kind≠.early)(hr:(execOp a.eval o).run P w=.ok .skip w'):
  stepG P main (G (b.atR a (.inRegion ops (i::rest)::k)) cs) w=.go (G (b.atR (a.put o.dst undef) (.inRegion ops rest::k)) cs) w' (listed P b.fn a o w):=by
 have vg:(b.kind==CallKind.early)=false:=by simpa using hk
 rw[qC hf ho hw,<-Oz b a ho];simp[stepG.apply,hr,G,Frame.atR,vg,GStep.after,listed]
theorem OB{f:FuncId}{args:Array Value}(hf:xN b o)(ho:ops[i]?=some o)(hw:Region.wanted o (yielded ops a.tmps)=true)(hk:b.kind≠.early)(hr:(execOp a.eval o).run P w=.ok (.enter f args) w'):
  stepG P main (G (b.atR a (.inRegion ops (i::rest)::k)) cs) w=.go (G (Frame.enter P f args .normal) (b.atR a (.inRegion ops (i::rest)::k)::cs)) w' (listed P b.fn a o w):=by
 have vg:(b.kind==CallKind.early)=false:=by simpa using hk
 rw[qC hf ho hw];simp[stepG.apply,hr,G,Frame.atR,vg,GStep.after,listed]
theorem OC{v:Value}(hf:xN b o)(ho:ops[i]?=some o)(hw:Region.wanted o (yielded ops a.tmps)=true)(hk:b.kind≠.early)(hr:(execOp a.eval o).run P w=.halt (.panic v) w'):
  stepG P main (G (b.atR a (.inRegion ops (i::rest)::k)) cs) w=.go (G ((b.atR a (.inRegion ops (i::rest)::k)).raise [{v,recovered:=false}]) cs) w' (listed P b.fn a o w):=by
 have vg:(b.kind==CallKind.early)=false:=by simpa using hk
 rw[qC hf ho hw];simp[stepG.apply,hr,G,Frame.atR,vg,GStep.after,listed]
theorem OD{d:Deferred}(hb:b.roundOf=none)(ho:ops[i]?=some o)(hw:Region.wanted o (yielded ops a.tmps)=true)(hk:b.kind≠.early)(hr:(execOp a.eval o).run P w=.ok (.defer d) w'):
  stepG P main (G (b.atR a (.inRegion ops (i::rest)::k)) cs) w=.go (G (b.atR (({a with defers:=d::a.defers}:Act).put o.dst undef) (.inRegion ops rest::k)) cs) w' (listed P b.fn a o w):=by
 have ri:=Oz b {a with defers:=d::a.defers} (rest:=rest) (k:=k) ho undef;have vg:(b.kind==CallKind.early)=false:=by simpa using hk
 rw[qC (.inl hb) ho hw,<-ri];simp[stepG.apply,hr,G,Frame.atR,vg,GStep.after,listed]
theorem Hv(hb:b.roundOf=none)(ho:ops[i]?=some o)(hw:Region.wanted o (yielded ops a.tmps)=true)(hk:b.kind≠.early)(hr:(execOp a.eval o).run P w=.ok .recover w'):
  stepG P main (G (b.atR a (.inRegion ops (i::rest)::k)) cs) w=.go (match tryRecover (b.atR a (.inRegion ops (i::rest)::k)) cs with
   |some (v,io)=>G (b.atR (a.put o.dst v) (.inRegion ops rest::k)) io
   |none=>G (b.atR (a.put o.dst .nilIface) (.inRegion ops rest::k)) cs) w' (listed P b.fn a o w):=by
 have ri:∀v,(b.atR a (.inRegion ops (i::rest)::k)).finish v=b.atR (a.put o.dst v) (.inRegion ops rest::k):=Oz b a ho;have vg:(b.kind==CallKind.early)=false:=by simpa using hk
 rw[qC (.inl hb) ho hw];simp only[<-ri];generalize hf:(b.atR a (.inRegion ops (i::rest)::k))=f;have h1:f.roundOf=none:=by rw[<-hf];exact hb
 have h2:f.fn=b.fn:=by rw[<-hf];rfl
 have h3:f.kind=b.kind:=by rw[<-hf];rfl
 cases hx:tryRecover f cs with
 |none=>simp[stepG.apply,hr,G,h1,h2,h3,hx,vg,GStep.after,listed]
 |some x=>simp[stepG.apply,hr,G,h1,h2,h3,hx,vg,GStep.after,listed]
theorem DP{id:Nat}(hm:P.follows .mixedOrders=true):
  ∃d t,stepG P main (G (b.atR a (.code (.region id ops true)::k)) cs) w=.go (G (b.atR a (.inRegion ops (Region.schedule true ops t)::k)) cs) (cM w d):=by
 have hq:wq P (fun _=>True) (fun _ _=>False) (choose (.order b.fn id)) (fun t w'=>∃d,w'=cM w d) w:=by
  rw[tV];split
  ·exact⟨w.drawn,rfl⟩
  ·exact fun n=>⟨w.drawn+1,rfl⟩
 have:=(ou hq).1;generalize hr:(choose (.order b.fn id)).run P w=r at this;cases r with
 |ok t w'=>obtain⟨d,rfl⟩:=this;exact⟨d,t,by simp[G,stepG,stepG.exec,Frame.atR,hr,hm]⟩
 |halt x w'=>cases x<;>exact this.elim
end
def Next(K:ik)(U:Nat->Prop)(ρ:cn)(cs:List Frame)(w:World)(h0:AH)(c:dw)(g':Goroutine)(w':World):Prop:=
 ∃bL,cz U ρ bL∧cE K.own w w'∧d6 K U h0 c.h∧gq K (plus U h0.nb c.h.nb) c∧rh K bL c cs g' w'
def mQ(K:ik)(main:Bool)(c c':dw)(N:Nat):Prop:=∀U ρ cs g w,gq K U c->rh K ρ c cs g w->dy K.P main (DK K) (Next K U ρ cs w c.h c') N g w
def wB:FuncId->List bH->FuncId
 |f,[]=>f
 |_,fr::l=>wB fr.fn l
def sV(K:ik)(f:FuncId)(ρ:cn)(e:AE)(cs:List Frame)(g:Goroutine)(w:World):Prop:=
 ∃fr fn,g=G fr cs∧fr.fn=f∧fr.defers=[]∧K.P.funcs[fr.fn]?=some fn∧match e with
  |.returned v=>fr.mode=.returning∧fr.kind=.normal∧∀d,∀{Q:Value->World->Prop},Q (v.ev ρ) (cM w d)->wq K.P K.Ev (fun _ _=>False) (results fn fr.tmps) Q (cM w d)
  |.panicked chain=>fr.mode=(ia.panicking chain).ev ρ
def AE.In(U:Nat->Prop):AE->Prop
 |.returned v=>v.In U
 |.panicked chain=>∀x∈chain,x.1.In U
def Done(K:ik)(f:FuncId)(U:Nat->Prop)(ρ:cn)(cs:List Frame)(w:World)(h0:AH)(r:AE×AH)(g':Goroutine)(w':World):Prop:=
 ∃bL,cz U ρ bL∧cE K.own w w'∧d6 K U h0 r.2∧r.1.In (plus U h0.nb r.2.nb)∧Rel K bL r.2 w'∧sV K f bL r.1 cs g' w'
def Hw(K:ik)(main:Bool)(c:dw)(r:AE×AH)(N:Nat):Prop:=∀U ρ cs g w,gq K U c->rh K ρ c cs g w->dy K.P main (DK K) (Done K (wB c.da.fn c.callers) U ρ cs w c.h r) N g w
section
variable {K:ik}{main:Bool}{U:Nat->Prop}{ρ:cn}{cs:List Frame}
theorem gq.congr{U U':Nat->Prop}{c:dw}(I:gq K U c)(h:∀n,U n↔U' n):gq K U' c:=
 ⟨I.da.mono fun n=>(h n).1,fun fr hf=>(I.callers fr hf).mono fun n=>(h n).1,I.iC.congr h⟩
theorem mg(U:Nat->Prop)(a n:Nat):U n↔plus U a a n:=⟨.inl,qx n⟩
theorem AE.In.mono{U U':Nat->Prop}(hs:∀n,U n->U' n){e:AE}(h:e.In U):e.In U':=by
 cases e with
 |returned v=>exact AV.In.mono hs _ h
 |panicked c=>exact fun x hx=>AV.In.mono hs _ (h x hx)
theorem Next.trans{w w' yD:World}{h0:AH}{c c':dw}{Hx:Goroutine}{bL:cn}(A:cz U ρ bL)(k:cE K.own w w')(gr:d6 K U h0 c.h)
 (n:Next K (plus U h0.nb c.h.nb) bL cs w' c.h c' Hx yD):Next K U ρ cs w h0 c' Hx yD:=by
 obtain⟨CO,a1,a2,a3,a4,a5⟩:=n;exact⟨CO,A.trans a1 cG,k.trans a2,gr.trans a3,a4.congr fun n=>nZ gr.nb a3.nb n,a5⟩
theorem Done.trans{w w' yD:World}{h0:AH}{f:FuncId}{c:dw}{r:AE×AH}{Hx:Goroutine}{bL:cn}(A:cz U ρ bL)(k:cE K.own w w')(gr:d6 K U h0 c.h)
 (n:Done K f (plus U h0.nb c.h.nb) bL cs w' c.h r Hx yD):Done K f U ρ cs w h0 r Hx yD:=by
 obtain⟨CO,a1,a2,a3,a4,a5,a6⟩:=n;exact⟨CO,A.trans a1 cG,k.trans a2,gr.trans a3,a4.mono fun n=>(nZ gr.nb a3.nb n).1,a5,a6⟩
theorem mQ.trans{c c' c'':dw}{N M:Nat}(l:mQ K main c c' N)(l':mQ K main c' c'' M):mQ K main c c'' (N+M):=fun U ρ cs g w I Γ=>dy.trans (fun g' w' ⟨bL,a1,a2,a3,a4,a5⟩=>(l' _ bL cs g' w' a4 a5).d_ fun _ _ n=>Next.trans a1 a2 a3 n) (l U ρ cs g w I Γ)
theorem mQ.rk{c c':dw}{r:AE×AH}{N M:Nat}(hb:wB c'.da.fn c'.callers=wB c.da.fn c.callers)(l:mQ K main c c' N)(l':Hw K main c' r M):Hw K main c r (N+M):=fun U ρ cs g w I Γ=>dy.trans (fun g' w' ⟨bL,a1,a2,a3,a4,a5⟩=>(l' _ bL cs g' w' a4 a5).d_ fun _ _ n=>by rw[hb]at n;exact Done.trans a1 a2 a3 n) (l U ρ cs g w I Γ)
theorem fw(own:Nat->Prop)(w:World)(d:Nat):cE own w (cM w d):=⟨fun _ _=>rfl,aq _,rfl,rfl,rfl⟩
theorem Rel.drawn{h:AH}{w:World}(R:Rel K ρ h w)(d:Nat):Rel K ρ h (cM w d):=R.at rfl
theorem rh.drawn{c:dw}{g:Goroutine}{w:World}(h:rh K ρ c cs g w)(d:Nat):rh K ρ c cs g (cM w d):=⟨h.1.drawn d,h.2⟩
theorem rh.running{c:dw}{g:Goroutine}{w:World}(h:rh K ρ c cs g w):g.status=.running:=by obtain⟨_,fr,cC,_,_,rfl⟩:=h;rfl
theorem AQ{c c':dw}(hh:c'.h=c.h)(hin:∀U,gq K U c->gq K U c')(hs:∀ρ cs g w,rh K ρ c cs g w->∃g',stepG K.P main g w=.go g' w #[]∧rh K ρ c' cs g' w):
  mQ K main c c' 1:=fun U ρ cs g w I Γ=>dy.one Γ.running fun d=>by
 obtain⟨g',e,vj⟩:=hs ρ cs g _ (Γ.drawn d);rw[e];refine⟨⟨cE.refl _ _,fun e he=>(by simp at he),fun _ _ _ _ x=>x⟩,ρ,cz.refl _ _,fw _ _ _,?_,?_,vj⟩
 ·rw[hh];exact d6.refl I.iC
 ·rw[hh];exact(hin U I).congr (mg U _)
section frame
variable {fn:FuncId}{nt:Nat}{tmps:TT}{todo todo':List Item}{defers:List AD}{kind:CallKind}{callers:List bH}{h:AH}
theorem mF{g:Goroutine}{w:World}:rh K ρ ⟨⟨fn,nt,tmps,todo,defers,.run,kind⟩,callers,h⟩ cs g w↔
  Rel K ρ h w∧∃tm cC,pV ρ nt tmps tm∧(ic kind∨kind=.wrapped)∧(∃f,K.P.funcs[fn]?=some f)∧c8 K.P ρ callers cC∧g=G ((bB ρ fn kind).atR (aB ρ kind tm defers) todo) (cC++cs):=by
 constructor
 ·rintro⟨R,fr,cC,⟨tm,td,i,rfl⟩,hc,rfl⟩;have:td=todo:=i.todo rfl;subst this;exact⟨R,tm,cC,i.tmps,i.kind,i.fn,hc,rfl⟩
 ·rintro⟨R,tm,cC,h1,h2,h3,hc,rfl⟩;exact⟨R,_,cC,⟨tm,todo,⟨h1,h2,fun _=>rfl,h3⟩,rfl⟩,hc,rfl⟩
theorem fU(hs:∀ρ tm w cs,Rel K ρ h w->pV ρ nt tmps tm->∀(b:Frame) (ds:List Deferred),stepG K.P main (G (b.atR ⟨tm,ds⟩ todo) cs) w=.go (G (b.atR ⟨tm,ds⟩ todo') cs) w #[]):
  mQ K main ⟨⟨fn,nt,tmps,todo,defers,.run,kind⟩,callers,h⟩ ⟨⟨fn,nt,tmps,todo',defers,.run,kind⟩,callers,h⟩ 1:=
 AQ rfl (fun U I=>⟨⟨I.da.tmps,I.da.defers,trivial⟩,I.callers,I.iC⟩) fun ρ cs g w Γ=>by obtain⟨R,tm,cC,h1,h2,h3,hc,rfl⟩:=mF.1 Γ;exact⟨_,hs ρ tm w _ R h1 _ _,mF.2 ⟨R,tm,cC,h1,h2,h3,hc,rfl⟩⟩
theorem DQ(ht:gI kind=false)(hs:∀(b:Frame) (a:Act) w cs,b.roundOf=none->stepG K.P main (G (b.atR a todo) cs) w=.go (G {b.atR a todo with mode:=.returning} cs) w #[]):
  mQ K main ⟨⟨fn,nt,tmps,todo,defers,.run,kind⟩,callers,h⟩ ⟨⟨fn,nt,tmps,todo',defers,.returning,kind⟩,callers,h⟩ 1:=
 AQ rfl (fun U I=>⟨⟨I.da.tmps,I.da.defers,trivial⟩,I.callers,I.iC⟩) fun ρ cs g w Γ=>by obtain⟨R,tm,cC,h1,h2,h3,hc,rfl⟩:=mF.1 Γ;exact⟨_,hs _ _ w _ (sS (qA h2 ht) ρ fn),R,_,cC,⟨tm,todo,⟨h1,h2,(fun x=>by cases x),h3⟩,rfl⟩,hc,rfl⟩
theorem sW{ops:Array Oper}{i:Nat}{rest:List Nat}{k:List Item}{o:Oper}(ho:ops[i]?=some o)(hw:i9 K.O ops tmps o=.ok false):
  mQ K main ⟨⟨fn,nt,tmps,.inRegion ops (i::rest)::k,defers,.run,kind⟩,callers,h⟩ ⟨⟨fn,nt,jQ nt tmps o.dst cx,.inRegion ops rest::k,defers,.run,kind⟩,callers,h⟩ 1:=fun U ρ cs g w I Γ=>by
 have rW:nt≤60000:=by obtain⟨R,tm,cC,h1,_⟩:=mF.1 Γ;exact h1.le
 have hin:∀U,gq K U ⟨⟨fn,nt,tmps,.inRegion ops (i::rest)::k,defers,.run,kind⟩,callers,h⟩->gq K U ⟨⟨fn,nt,jQ nt tmps o.dst cx,.inRegion ops rest::k,defers,.run,kind⟩,callers,h⟩:=fun U I=>⟨⟨wA I.da.tmps (by simp[cx,AV.In,AV.iB]) rW,I.da.defers,trivial⟩,I.callers,I.iC⟩
 have L:mQ K main ⟨⟨fn,nt,tmps,.inRegion ops (i::rest)::k,defers,.run,kind⟩,callers,h⟩ ⟨⟨fn,nt,jQ nt tmps o.dst cx,.inRegion ops rest::k,defers,.run,kind⟩,callers,h⟩ 1:=by refine AQ rfl hin ?_;intro ρ cs g w Γ;obtain⟨R,tm,cC,h1,h2,h3,hc,rfl⟩:=mF.1 Γ;obtain⟨MD,e,Fv⟩:=sU (v:=cx) h1 (dB ρ kind (defers.map (AD.ev ρ))) o.dst;refine⟨_,Fu ho (AP R h1 hw),mF.2 ⟨R,MD,cC,Fv,h2,h3,hc,?_⟩⟩;show G ((bB ρ fn kind).atR (Act.put ⟨tm,dB ρ kind (defers.map (AD.ev ρ))⟩ o.dst (cx.ev ρ)) _) _=_;rw[e];rfl
 exact L U ρ cs g w I Γ
end frame
section op
variable {P:Program}{b:Frame}{a:Act}{k:List Item}{w:World}{ops:Array Oper}{i:Nat}{rest:List Nat}{o:Oper}{w':World}
theorem stepG_defer{d:Deferred}(ho:ops[i]?=some o)(hw:Region.wanted o (yielded ops a.tmps)=true)(hk:b.kind≠.early)(hr:(execOp a.eval o).run P w=.ok (.defer d) w'):
  stepG P main (G (b.at a (.inRegion ops (i::rest)::k)) cs) w=.go (G (b.at (({a with defers:=d::a.defers}:Act).put o.dst undef) (.inRegion ops rest::k)) cs) w' (listed P b.fn a o w):=by
 have ri:(b.at {a with defers:=d::a.defers} (.inRegion ops (i::rest)::k)).finish undef=b.at (({a with defers:=d::a.defers}:Act).put o.dst undef) (.inRegion ops rest::k):=by rw[Frame.finish_at,ho];rfl
 have vg:(b.kind==CallKind.early)=false:=by simpa using hk
 rw[stepG_oper ho hw,<-ri];simp[stepG.apply,hr,G,Frame.at,vg,GStep.after,listed]
theorem C_(ho:ops[i]?=some o)(hw:Region.wanted o (yielded ops a.tmps)=true)(hk:b.kind≠.early)(hr:(execOp a.eval o).run P w=.ok .recover w'):
  stepG P main (G (b.at a (.inRegion ops (i::rest)::k)) cs) w=.go (match tryRecover (b.at a (.inRegion ops (i::rest)::k)) cs with
   |some (v,io)=>G (b.at (a.put o.dst v) (.inRegion ops rest::k)) io
   |none=>G (b.at (a.put o.dst .nilIface) (.inRegion ops rest::k)) cs) w' (listed P b.fn a o w):=by
 have ri:∀v,(b.at a (.inRegion ops (i::rest)::k)).finish v=b.at (a.put o.dst v) (.inRegion ops rest::k):=fun v=>by rw[Frame.finish_at,ho];rfl
 have vg:(b.kind==CallKind.early)=false:=by simpa using hk
 rw[stepG_oper ho hw];simp only[<-ri];generalize hf:(b.at a (.inRegion ops (i::rest)::k))=f;have h1:f.roundOf=none:=by rw[<-hf];rfl
 have h2:f.fn=b.fn:=by rw[<-hf];rfl
 have h3:f.kind=b.kind:=by rw[<-hf];rfl
 cases hx:tryRecover f cs with
 |none=>simp[stepG.apply,hr,G,h1,h2,h3,hx,vg,GStep.after,listed]
 |some x=>simp[stepG.apply,hr,G,h1,h2,h3,hx,vg,GStep.after,listed]
end op
theorem OE{P:Program}{O:dP}{ext:Ext}{h h':AH}{f:Operand->AV}{o:Oper}{n:AN}{c:Call}(he:op? P O ext h f o=.ok (n,h'))(hc:o.op=.defer c):∃d,n=.defer d:=by
 unfold op? at he;rw[hc]at he;dsimp only at he;split at he
 ·cases he;exact⟨_,rfl⟩
 ·cases he
def abo(P:Program)(ρ:cn)(b:Frame)(a:Act)(dst:Option Tmp)(ops:Array Oper)(i:Nat)(rest:List Nat)(k:List Item)(cs:List Frame):AN->Goroutine->Prop
 |.value v,g=>g=G (b.atR (a.put dst (v.ev ρ)) (.inRegion ops rest::k)) cs
 |.skip,g=>g=G (b.atR (a.put dst undef) (.inRegion ops rest::k)) cs
 |.enter f args,g=>g=G (Frame.enter P f (AV.cf ρ args).toArray .normal) (b.atR a (.inRegion ops (i::rest)::k)::cs)
 |.defer d,g=>g=G (b.atR (({a with defers:=d.ev ρ::a.defers}:Act).put dst undef) (.inRegion ops rest::k)) cs
 |.recover,g=>g=match tryRecover (b.atR a (.inRegion ops (i::rest)::k)) cs with
  |some (v,io)=>G (b.atR (a.put dst v) (.inRegion ops rest::k)) io
  |none=>G (b.atR (a.put dst .nilIface) (.inRegion ops rest::k)) cs
 |.panic v,g=>g=G ((b.atR a (.inRegion ops (i::rest)::k)).raise [{v:=v.ev ρ,recovered:=false}]) cs
def Kj(K:ik)(U:Nat->Prop)(ρ:cn)(cs:List Frame)(w:World)(fn:FuncId)(nt:Nat)(tmps:TT)(defers:List AD)(kind:CallKind)(callers:List bH)(h:AH)(dst:Option Tmp)(ops:Array Oper)(i:Nat)(rest:List Nat)(k:List Item)
 (n:AN)(h':AH)(g':Goroutine)(w':World):Prop:=
 ∃bL,cz U ρ bL∧cE K.own w w'∧Rel K bL h' w'∧d6 K U h h'∧n.In (plus U h.nb h'.nb)∧∃tm cC,pV bL nt tmps tm∧(ic kind∨kind=.wrapped)∧(∃f,K.P.funcs[fn]?=some f)∧c8 K.P bL callers cC∧
  abo K.P bL (bB bL fn kind) (aB bL kind tm defers) dst ops i rest k (cC++cs) n g'
theorem t9(Gd:K.Good)(F:K.il){ext:Ext}(X:ib K ext){fn:FuncId}{nt:Nat}{tmps:TT}{defers:List AD}{kind:CallKind}{callers:List bH}{h:AH}{ops:Array Oper}{i:Nat}{rest:List Nat}{k:List Item}{o:Oper}{n:AN}{h':AH}
 (ho:ops[i]?=some o)(hw:i9 K.O ops tmps o=.ok true)(he:op? K.P K.O ext h (fC tmps) o=.ok (n,h'))(AS:qr kind n=true){g:Goroutine}{w:World}
 (I:gq K U ⟨⟨fn,nt,tmps,.inRegion ops (i::rest)::k,defers,.run,kind⟩,callers,h⟩)(Γ:rh K ρ ⟨⟨fn,nt,tmps,.inRegion ops (i::rest)::k,defers,.run,kind⟩,callers,h⟩ cs g w):
  dy K.P main (DK K) (Kj K U ρ cs w fn nt tmps defers kind callers h o.dst ops i rest k n h') 1 g w:=dy.one Γ.running fun d=>by
 obtain⟨R,tm,cC,h1,h2,h3,hc,rfl⟩:=mF.1 (Γ.drawn d);have N:=RR Gd F X R I.iC (sT I.da.tmps) he;have Jw:(aB ρ kind tm defers).eval=fun x=>(fC tmps x).ev ρ:=funext fun x=>jh h1 _ x;have hwt:Region.wanted o (yielded ops (aB ρ kind tm defers).tmps)=true:=AP R h1 hw;have rm:=W8 h2 ρ fn;have j_:xN (bB ρ fn kind) o:=by
  cases ht:gI kind with
  |false=>exact .inl (sS (qA h2 ht) ρ fn)
  |true=>refine .inr fun c hc=>?_;obtain⟨d,rfl⟩:=OE he hc;unfold qr at AS;rw[ht]at AS;cases AS
 have RY:gI kind=false->(bB ρ fn kind).roundOf=none:=fun ht=>sS (qA h2 ht) ρ fn;have htd:∀{d:AD},n=.defer d->gI kind=false:=fun e=>by
  subst e;cases ht:gI kind with
  |false=>rfl
  |true=>unfold qr at AS;rw[ht]at AS;cases AS
 have htr:n=.recover->gI kind=false:=fun e=>by
  subst e;cases ht:gI kind with
  |false=>rfl
  |true=>unfold qr at AS;rw[ht]at AS;cases AS
 have run:=ou (Ft Gd.WR _ (N.run (E:=fun v w'=>∃v',n=.panic v'∧h'=h∧v=v'.ev ρ∧w'=cM w d) (Q:=fun nx w'=>f_ K U ρ (cM w d) h' (fun bL=>n.is bL nx) w') (fun nx w' x=>x) (fun v hn hh=>⟨v,hn,hh,rfl,rfl⟩)));rw[<-Jw]at run;obtain⟨run,qS⟩:=run;have OF:∀e∈listed K.P (bB ρ fn kind).fn (aB ρ kind tm defers) o (cM w d),K.Ev e:=fun e he=>qS e (mem_listed he);have post:∀{bL:cn} {w':World} {g':Goroutine},cz U ρ bL->Rel K bL h' w'->cE K.own (cM w d) w'->
   abo K.P bL (bB ρ fn kind) (aB ρ kind tm defers) o.dst ops i rest k (cC++cs) n g'->
   Kj K U ρ cs w fn nt tmps defers kind callers h o.dst ops i rest k n h' g' w':=fun A R' k x=>
  ⟨_,A,(fw _ w d).trans k,R',N.uF,N.mem,tm,cC,h1.bE A I.da.tmps,h2,h3,iH A hc I.callers,by rw[ww A,wz A kind tm I.da.defers];exact x⟩
 generalize hr:(execOp (aB ρ kind tm defers).eval o).run K.P (cM w d)=r at run;cases r with
 |ok nx w'=>
  obtain⟨⟨bL,A,R',kp,is⟩,di⟩:=run;cases n with
  |value v=>have OG:nx=.value (v.ev bL):=is;subst OG;rw[OA j_ ho hwt rm hr];exact⟨⟨kp,OF,di⟩,post A R' kp rfl⟩
  |skip=>have OG:nx=.skip:=is;subst OG;rw[RX j_ ho hwt rm hr];exact⟨⟨kp,OF,di⟩,post A R' kp rfl⟩
  |enter f args=>have OG:nx=.enter f (AV.cf bL args).toArray:=is;subst OG;rw[OB j_ ho hwt rm hr];exact⟨⟨kp,OF,di⟩,post A R' kp rfl⟩
  |defer x=>have OG:nx=.defer (x.ev bL):=is;subst OG;rw[OD (RY (htd rfl)) ho hwt rm hr];exact⟨⟨kp,OF,di⟩,post A R' kp rfl⟩
  |recover=>have OG:nx=.recover:=is;subst OG;rw[Hv (RY (htr rfl)) ho hwt rm hr];exact⟨⟨kp,OF,di⟩,post A R' kp rfl⟩
  |panic v=>exact is.elim
 |halt x w'=>
  cases x with
  |panic v=>obtain⟨v',rfl,rfl,rfl,rfl⟩:=run;rw[OC j_ ho hwt rm hr];exact⟨⟨cE.refl _ _,OF,fun _ _ _ _ x=>x⟩,post (cz.refl _ _) R (cE.refl _ _) rfl⟩
  |_=>exact run.elim
end
section
variable {K:ik}{main:Bool}{U:Nat->Prop}{ρ:cn}{cs:List Frame}
variable {fn:FuncId}{nt:Nat}{tmps:TT}{todo todo':List Item}{defers:List AD}{kind:CallKind}{callers:List bH}{h:AH}
variable {ops:Array Oper}{i:Nat}{rest:List Nat}{k:List Item}{o:Oper}
theorem vk{fr:bH}{v:AV}{bT:bH}(hf:ey fr v=.ok bT):∃fn nt tmps ops i rest k defers kind,fr=⟨fn,nt,tmps,.inRegion ops (i::rest)::k,defers,.run,kind⟩∧
  bT=⟨fn,nt,jQ nt tmps ((ops[i]?).bind (·.dst)) v,.inRegion ops rest::k,defers,.run,kind⟩:=by
 unfold ey at hf;split at hf
 ·cases hf;exact⟨_,_,_,_,_,_,_,_,_,rfl,rfl⟩
 ·cases hf
theorem DR:cx.In U:=by simp[cx,AV.In,AV.iB]
theorem aiz{k:CallKind}{v:AV}:qr k (.value v)=true:=by unfold qr;cases gI k<;>rfl
theorem aiA{k:CallKind}:qr k .skip=true:=by unfold qr;cases gI k<;>rfl
theorem abq{k:CallKind}{f:FuncId}{args:List AV}:qr k (.enter f args)=true:=by unfold qr;cases gI k<;>rfl
theorem aiB{k:CallKind}{v:AV}:qr k (.panic v)=true:=by unfold qr;cases gI k<;>rfl
theorem Xc{ρ:cn}{k:CallKind}{tm:Array Value}{d:AD}{ds:List AD}:aB ρ k tm (d::ds)={aB ρ k tm ds with defers:=d.ev ρ::(aB ρ k tm ds).defers}:=by unfold aB;rw[ah,MC]
theorem oG{w w':World}{h':AH}{bL:cn}{v:AV}{tm:Array Value}{cC:List Frame}{ds:List AD}{fV:List bH}{dst:Option Tmp}
 (A:cz U ρ bL)(kp:cE K.own w w')(R:Rel K bL h' w')(gr:d6 K U h h')(hv:v.In (plus U h.nb h'.nb))(ht:tmps.In U)(hd:∀d∈ds,d.In (plus U h.nb h'.nb))(pd:∀fr∈fV,fr.In (plus U h.nb h'.nb))
 (h1:pV bL nt tmps tm)(h2:ic kind∨kind=.wrapped)(h3:∃f,K.P.funcs[fn]?=some f)(hc:c8 K.P bL fV cC):
  Next K U ρ cs w h ⟨⟨fn,nt,jQ nt tmps dst v,.inRegion ops rest::k,ds,.run,kind⟩,fV,h'⟩ (G ((bB bL fn kind).atR ((aB bL kind tm ds).put dst (v.ev bL)) (.inRegion ops rest::k)) (cC++cs)) w':=by
 obtain⟨MD,e,Fv⟩:=sU (v:=v) h1 (dB bL kind (ds.map (AD.ev bL))) dst;refine⟨bL,A,kp,gr,⟨⟨wA (TT.In.mono cG ht) hv h1.le,hd,trivial⟩,pd,gr.iC⟩,mF.2 ⟨R,MD,cC,Fv,h2,h3,hc,?_⟩⟩;show G ((bB bL fn kind).atR (Act.put ⟨tm,dB bL kind (ds.map (AD.ev bL))⟩ dst (v.ev bL)) _) _=_;rw[e];rfl
def RZ(P:Program)(U:Nat->Prop)(ρ:cn)(cs:List Frame)(fr:Frame)(cC:List Frame):Option (AV×List bH)->Prop
 |some (v,fV)=>v.In U∧(∀fr∈fV,fr.In U)∧∃dk,tryRecover fr (cC++cs)=some (v.ev ρ,dk++cs)∧c8 P ρ fV dk
 |none=>tryRecover fr (cC++cs)=none
theorem uJ{P:Program}{fr:Frame}{cC:List Frame}{r:Option (AV×List bH)}(hk:fr.kind=kind)(hr:Al kind callers=.ok r)(hc:c8 P ρ callers cC)(pd:∀fr∈callers,fr.In U):
  RZ P U ρ cs fr cC r:=by
 cases kind with
 |normal=>cases hr;show tryRecover _ _=none;simp[tryRecover,hk]
 |deferred=>
  cases callers with
  |nil=>cases hr
  |cons c tail=>
   obtain⟨fn,nt,tmps,todo,defers,mode,kd⟩:=c;cases cC with
   |nil=>simp only[c8]at hc
   |cons f cC=>
    simp only[c8]at hc;obtain⟨⟨tm,td',is,rfl⟩,W3⟩:=hc;have ME:r=none->(match mode.ev ρ with|.panicking ({v,recovered:=false,goexit:=false}::lQ)=>False|_=>True)->RZ P U ρ cs fr (dS ρ ⟨fn,nt,tmps,todo,defers,mode,kd⟩ tm td'::cC) r:=by
     intro h1 h2;subst h1;show tryRecover _ _=none;simp only[tryRecover,hk,az];have:(dS ρ ⟨fn,nt,tmps,todo,defers,mode,kd⟩ tm td').mode=mode.ev ρ:=rfl;rw[this];revert h2;generalize mode.ev ρ=m;split
     ·exact False.elim
     ·rename_i df;intro _;split
      ·rename_i v lQ;exact absurd rfl (df v lQ)
      ·rfl
    cases mode with
    |run=>cases hr;exact ME rfl trivial
    |returning=>cases hr;exact ME rfl trivial
    |panicking chain=>
     cases chain with
     |nil=>cases hr;exact ME rfl trivial
     |cons x lQ=>
      obtain⟨v,b'⟩:=x;cases b' with
      |true=>cases hr;exact ME rfl trivial
      |false=>
       cases hr;have hin:=pd _ (an ..);have hm:∀x∈(v,false)::lQ,x.1.In U:=hin.mode;refine⟨hm _ (an ..),?_,{dS ρ ⟨fn,nt,tmps,todo,defers,.panicking ((v,true)::lQ),kd⟩ tm td' with mode:=(ia.panicking ((v,true)::lQ)).ev ρ}::cC,?_,⟨tm,td',⟨is.tmps,is.kind,(fun x=>by cases x),is.fn⟩,rfl⟩,W3⟩
       ·intro fr R3;rcases ac.1 R3 with rfl|R3
        ·refine⟨hin.tmps,hin.defers,?_⟩;intro x hx;rcases ac.1 hx with rfl|hx
         ·exact hm (v,false) (an ..)
         ·exact hm x (am _ hx)
        ·exact pd fr (am _ R3)
       ·simp only[tryRecover,hk,az,dS,ia.ev,ah]
 |_=>cases hr
theorem t_{n:AN}{h':AH}{c':dw}{w w':World}{g':Goroutine}(hu:zd K.P ⟨fn,nt,tmps,.inRegion ops (i::rest)::k,defers,.run,kind⟩ callers n h'=.ok c')(ho:ops[i]?=some o)
 (I:gq K U ⟨⟨fn,nt,tmps,.inRegion ops (i::rest)::k,defers,.run,kind⟩,callers,h⟩)(post:Kj K U ρ cs w fn nt tmps defers kind callers h o.dst ops i rest k n h' g' w'):Next K U ρ cs w h c' g' w':=by
 obtain⟨bL,A,kp,R,gr,mem,tm,cC,h1,h2,h3,hc,ng⟩:=post;have hd:∀d∈defers,d.In (plus U h.nb h'.nb):=fun d hd=>(I.da.defers d hd).mono cG;have pd:∀fr∈callers,fr.In (plus U h.nb h'.nb):=fun fr hf=>(I.callers fr hf).mono cG;cases n with
 |value v=>simp only[zd,ey,ho]at hu;cases hu;have Kk:g'=_:=ng;rw[Kk];exact oG A kp R gr mem I.da.tmps hd pd h1 h2 h3 hc
 |skip=>simp only[zd,ey,ho]at hu;cases hu;have Kk:g'=_:=ng;rw[Kk];exact oG (v:=cx) A kp R gr DR I.da.tmps hd pd h1 h2 h3 hc
 |defer d=>
  simp only[zd,ey,ho]at hu;cases hu;have Kk:g'=_:=ng;rw[Kk];rw[<-Xc];refine oG (v:=cx) (ds:=d::defers) A kp R gr DR I.da.tmps ?_ pd h1 h2 h3 hc;intro x hx;rcases ac.1 hx with rfl|hx
  ·exact mem
  ·exact hd x hx
 |enter f args=>
  simp only[zd]at hu;split at hu
  ·rename_i bT he;cases hu;have Kk:g'=_:=ng;rw[Kk];obtain⟨e1,e2,e3,e4,e5⟩:=jW he (.inl rfl) mem (ρ:=bL);refine⟨bL,A,kp,gr,⟨e2,?_,gr.iC⟩,R,_,(bB bL fn kind).atR (aB bL kind tm defers) (.inRegion ops (i::rest)::k)::cC,e1,⟨⟨tm,_,⟨h1,h2,fun _=>rfl,h3⟩,rfl⟩,hc⟩,rfl⟩;intro fr R3;rcases ac.1 R3 with rfl|R3
   ·exact I.da.mono cG
   ·exact pd fr R3
  ·cases hu
 |recover=>
  simp only[zd,ey,ho]at hu;have Kk:g'=_:=ng;rw[Kk];split at hu
  ·cases hu
  ·rename_i v fV hr;cases hu;have JA:ic kind:=by
    rcases h2 with h2|rfl
    ·exact h2
    ·cases hr
   obtain⟨t1,t2,dk,t3,t4⟩:=uJ (cs:=cs) (fr:=(bB bL fn kind).atR (aB bL kind tm defers) (.inRegion ops (i::rest)::k)) (by rw[sR JA];rfl) hr hc pd;rw[t3];exact oG A kp R gr t1 I.da.tmps hd t2 h1 h2 h3 t4
  ·rename_i hr;cases hu;have JA:ic kind:=by
    rcases h2 with h2|rfl
    ·exact h2
    ·cases hr
   have t3:=uJ (cs:=cs) (fr:=(bB bL fn kind).atR (aB bL kind tm defers) (.inRegion ops (i::rest)::k)) (by rw[sR JA];rfl) hr hc pd;simp only[RZ]at t3;rw[t3];exact oG (v:=.nilIface) A kp R gr trivial I.da.tmps hd pd h1 h2 h3 hc
 |panic v=>simp only[zd,sD]at hu;cases hu;have Kk:g'=_:=ng;rw[Kk];refine⟨bL,A,kp,gr,⟨⟨TT.In.mono cG I.da.tmps,hd,?_⟩,pd,gr.iC⟩,R,_,cC,⟨tm,_,⟨h1,h2,(fun x=>by cases x),h3⟩,rfl⟩,hc,rfl⟩;intro x hx;simp only[ad]at hx;subst hx;exact mem
end
def kz(K:ik)(main:Bool)(call:FuncId->List AV->AH->M (AE×AH)):Prop:=
 ∀f args h r,call f args h=.ok r->∃fr N,fD K.P f args .normal=.ok fr∧Hw K main ⟨fr,[],h⟩ r N
section
variable {K:ik}{main:Bool}{U:Nat->Prop}{ρ:cn}{cs:List Frame}
variable {fn:FuncId}{nt:Nat}{tmps:TT}{todo todo':List Item}{defers:List AD}{kind:CallKind}{callers:List bH}{h:AH}
variable {ops:Array Oper}{i:Nat}{rest:List Nat}{k:List Item}{o:Oper}
theorem AT{f:FuncId}{ρ:cn}{v:AV}{eX:Frame}{g:Goroutine}{w:World}(E:sV K f ρ (.returned v) (eX::cs) g w):dy K.P main (DK K) (fun g' w'=>(∃d,w'=cM w d)∧g'=G (eX.finish (v.ev ρ)) cs) 1 g w:=by
 obtain⟨fr,fnn,rfl,_,hd,hf,hm,hk,hq⟩:=E;refine dy.one rfl fun d=>?_;have fJ:=ou (hq d (Q:=fun x w'=>x=v.ev ρ∧w'=cM w d) ⟨rfl,rfl⟩);obtain⟨fJ,qS⟩:=fJ;generalize hr:(results fnn fr.tmps).run K.P (cM w d)=r at fJ;cases r with
 |ok x w'=>
  obtain⟨rfl,rfl⟩:=fJ;have:stepG K.P main (G fr (eX::cs)) (cM w d)=.go (G (eX.finish (v.ev ρ)) cs) (cM w d) (seen K.P fr.fn ((results fnn fr.tmps).events K.P (cM w d) #[])):=by simp[G,stepG,unwind,doReturn,hm,hd,hf,hr,hk,GStep.after]
  rw[this];exact⟨⟨cE.refl _ _,fun e he=>qS e (mem_seen he),fun _ _ _ _ x=>x⟩,⟨d,rfl⟩,rfl⟩
 |halt x w'=>cases x<;>exact fJ.elim
theorem AU{f:FuncId}{ρ:cn}{chain:List (AV×Bool)}{eX:Frame}{g:Goroutine}{w:World}(E:sV K f ρ (.panicked chain) (eX::cs) g w):
  dy K.P main (DK K) (fun g' w'=>(∃d,w'=cM w d)∧g'=G (eX.raise (chain.map fun x=>{v:=x.1.ev ρ,recovered:=x.2})) cs) 1 g w:=by
 obtain⟨fr,fnn,rfl,_,hd,hf,hm⟩:=E;refine dy.one rfl fun d=>?_;have hm':fr.mode=.panicking (chain.map fun x=>{v:=x.1.ev ρ,recovered:=x.2}):=hm;have:stepG K.P main (G fr (eX::cs)) (cM w d)=.go (G (eX.raise (chain.map fun x=>{v:=x.1.ev ρ,recovered:=x.2})) cs) (cM w d) #[]:=by simp[G,stepG,unwind,hm',hd,hf,Frame.catches]
 rw[this];exact⟨⟨cE.refl _ _,fun e he=>(by simp at he),fun _ _ _ _ x=>x⟩,⟨d,rfl⟩,rfl⟩
def gh(K:ik)(U:Nat->Prop)(ρ:cn)(cs:List Frame)(w:World)(h0:AH)(fn:FuncId)(nt:Nat)(todo:List Item)(defers:List AD)(kind:CallKind)(callers:List bH):AR->Goroutine->World->Prop
 |.on t h,g',w'=>Next K U ρ cs w h0 ⟨⟨fn,nt,t,todo,defers,.run,kind⟩,callers,h⟩ g' w'
 |.panic t chain h,g',w'=>∀td,Next K U ρ cs w h0 ⟨⟨fn,nt,t,td,defers,.panicking chain,kind⟩,callers,h⟩ g' w'
theorem jX(Gd:K.Good)(F:K.il){ext:Ext}(X:ib K ext){call:FuncId->List AV->AH->M (AE×AH)}(C:kz K main call){r:AR}(he:kv K.P K.O ext call nt ops i tmps h=.ok r):
  ∃N,∀{fn defers kind callers U ρ cs g w rest k},gq K U ⟨⟨fn,nt,tmps,.inRegion ops (i::rest)::k,defers,.run,kind⟩,callers,h⟩->rh K ρ ⟨⟨fn,nt,tmps,.inRegion ops (i::rest)::k,defers,.run,kind⟩,callers,h⟩ cs g w->
   dy K.P main (DK K) (gh K U ρ cs w h fn nt (.inRegion ops rest::k) defers kind callers r) N g w:=by
 unfold kv at he;split at he
 ·cases he
 ·rename_i o ho;split at he
  ·cases he
  ·rename_i hw;cases he;exact⟨1,fun I Γ=>sW ho hw _ _ _ _ _ I Γ⟩
  ·rename_i hw;split at he
   ·cases he
   ·rename_i v h' fY;cases he;refine⟨1,fun{fn defers kind callers U ρ cs g w rest k} I Γ=>(t9 Gd F X ho hw fY aiz I Γ).d_ fun g' w' post=>t_ (c':=⟨⟨fn,nt,jQ nt tmps o.dst v,.inRegion ops rest::k,defers,.run,kind⟩,callers,h'⟩) ?_ ho I post⟩;simp[zd,ey,ho]
   ·rename_i h' fY;cases he;refine⟨1,fun{fn defers kind callers U ρ cs g w rest k} I Γ=>(t9 Gd F X ho hw fY aiA I Γ).d_ fun g' w' post=>t_ (c':=⟨⟨fn,nt,jQ nt tmps o.dst cx,.inRegion ops rest::k,defers,.run,kind⟩,callers,h'⟩) ?_ ho I post⟩;simp[zd,ey,ho]
   ·rename_i f args h' fY;split at he
    ·rename_i v WX R4;cases he;obtain⟨fr,N,zh,E⟩:=C _ _ _ _ R4;refine⟨1+(N+1),fun{fn defers kind callers U ρ cs g w rest k} I Γ=>dy.trans (fun g' w' post=>?_) (t9 Gd F X ho hw fY abq I Γ)⟩;obtain⟨bL,A,kp,R,gr,mem,tm,cC,h1,h2,h3,hc,ng⟩:=post;have Kk:g'=_:=ng;obtain⟨e1,e2,e3,e4,e5⟩:=jW zh (.inl rfl) mem (ρ:=bL);refine dy.trans (fun g2 w2 done=>?_) (E (plus U h.nb h'.nb) bL ((bB bL fn kind).atR (aB bL kind tm defers) (.inRegion ops (i::rest)::k)::(cC++cs)) g' w' ⟨e2,(fun _ x=>by simp at x),gr.iC⟩ ⟨R,_,[],e1,trivial,Kk⟩);obtain⟨rn,A2,R5,gr2,hv,R2,rk⟩:=done;refine(AT rk).d_ fun g3 w3 ⟨⟨d,hw3⟩,hg3⟩=>?_;subst hw3 hg3;have Xd:=gr.trans gr2;have A02:=A.trans A2 cG;have Kf:∀d∈defers,d.In (plus U h.nb h'.nb):=fun x hx=>(I.da.defers x hx).mono cG;have W3:=iH A2 hc fun fr hf=>(I.callers fr hf).mono cG;have Xe:v.In (plus U h.nb WX.nb):=AV.In.mono (fun n=>(nZ gr.nb gr2.nb n).1) _ hv;have:=oG (U:=U) (ρ:=ρ) (h:=h) (cs:=cs) (fn:=fn) (kind:=kind) (ops:=ops) (rest:=rest) (k:=k) (dst:=o.dst) (ds:=defers) A02 ((kp.trans R5).trans (fw _ w2 d)) (R2.drawn d) Xd Xe I.da.tmps (fun x hx=>(I.da.defers x hx).mono cG) (fun fr hf=>(I.callers fr hf).mono cG)
      (h1.bE A2 (TT.In.mono cG I.da.tmps)) h2 h3 W3
     rw[Oz _ _ ho,<-ww A2 fn kind,<-wz A2 kind tm Kf];exact this
    ·rename_i chain WX R4;cases he;obtain⟨fr,N,zh,E⟩:=C _ _ _ _ R4;refine⟨1+(N+1),fun{fn defers kind callers U ρ cs g w rest k} I Γ=>dy.trans (fun g' w' post=>?_) (t9 Gd F X ho hw fY abq I Γ)⟩;obtain⟨bL,A,kp,R,gr,mem,tm,cC,h1,h2,h3,hc,ng⟩:=post;have Kk:g'=_:=ng;obtain⟨e1,e2,e3,e4,e5⟩:=jW zh (.inl rfl) mem (ρ:=bL);refine dy.trans (fun g2 w2 done=>?_) (E (plus U h.nb h'.nb) bL ((bB bL fn kind).atR (aB bL kind tm defers) (.inRegion ops (i::rest)::k)::(cC++cs)) g' w' ⟨e2,(fun _ x=>by simp at x),gr.iC⟩ ⟨R,_,[],e1,trivial,Kk⟩);obtain⟨rn,A2,R5,gr2,hv,R2,rk⟩:=done;refine(AU rk).d_ fun g3 w3 ⟨⟨d,hw3⟩,hg3⟩=>?_;subst hw3 hg3;intro td;have Xd:=gr.trans gr2;have A02:=A.trans A2 cG;have Kf:∀d∈defers,d.In (plus U h.nb h'.nb):=fun x hx=>(I.da.defers x hx).mono cG;have W3:=iH A2 hc fun fr hf=>(I.callers fr hf).mono cG;have Xe:∀x∈chain,x.1.In (plus U h.nb WX.nb):=fun x hx=>AV.In.mono (fun n=>(nZ gr.nb gr2.nb n).1) _ (hv x hx);refine⟨rn,A02,(kp.trans R5).trans (fw _ w2 d),Xd,⟨⟨TT.In.mono cG I.da.tmps,fun x hx=>(I.da.defers x hx).mono cG,Xe⟩,fun fr hf=>(I.callers fr hf).mono cG,Xd.iC⟩,R2.drawn d,_,cC,
      ⟨tm,.inRegion ops (i::rest)::k,⟨h1.bE A2 (TT.In.mono cG I.da.tmps),h2,(fun x=>by cases x),h3⟩,rfl⟩,W3,?_⟩
     rw[<-ww A2 fn kind,<-wz A2 kind tm Kf];rfl
    ·cases he
   ·rename_i v h' fY;cases he;refine⟨1,fun{fn defers kind callers U ρ cs g w rest k} I Γ=>(t9 Gd F X ho hw fY aiB I Γ).d_ fun g' w' post=>?_⟩;intro td;have:=t_ (c':=⟨⟨fn,nt,tmps,.inRegion ops (i::rest)::k,defers,.panicking [(v,false)],kind⟩,callers,h'⟩) rfl ho I post;obtain⟨bL,a1,a2,a3,a4,R,fr,cC,⟨tm,td',is,rfl⟩,hc,rfl⟩:=this;exact⟨bL,a1,a2,a3,⟨⟨a4.da.tmps,a4.da.defers,a4.da.mode⟩,a4.callers,a4.iC⟩,R,_,cC,⟨tm,td',⟨is.tmps,is.kind,(fun x=>by cases x),is.fn⟩,rfl⟩,hc,rfl⟩
   ·cases he
end
def iq(ops:Array Oper):List Nat->List Nat->Prop
 |s,[]=>cZ ops s=[]
 |s,i::l=>i∈cZ ops s∧iq ops (i::s) l
def rq(ops:Array Oper)(s:List Nat):List Nat:=(List.range ops.size).filter fun i=>!s.contains i
theorem Hy{ops:Array Oper}{s:List Nat}{i:Nat}(hi:i∈rq ops s):(rq ops (i::s)).length<(rq ops s).length:=by
 have:rq ops (i::s)=(rq ops s).filter fun j=>!(j==i):=by unfold rq;rw[List.filter_filter];apply List.filter_congr;intro j _;by_cases hj:j=i<;>simp[List.contains_cons,hj]
 rw[this];exact List.length_filter_lt_length_iff_exists.2 ⟨i,hi,by simp⟩
theorem sX{ops:Array Oper}{s:List Nat}{i:Nat}(h:i∈cZ ops s):i∈rq ops s:=by unfold cZ at h;obtain⟨h1,h2⟩:=aU.1 h;exact aU.2 ⟨h1,by simp only[ax]at h2;exact h2.1⟩
theorem dL{ops:Array Oper}{s:List Nat}{i:Nat}(h:i∈cZ ops s):i<ops.size∧i∉s:=by obtain⟨h1,h2⟩:=aU.1 (sX h);exact⟨List.mem_range.1 h1,by simpa using h2⟩
theorem R6(ops:Array Oper):∀(fuel t:Nat) (listed:Array Bool) (gG s:List Nat),listed.size=ops.size->(∀j,listed.getD j false=s.contains j)->(rq ops s).length≤fuel->
  ∃l,Region.linearise.go .any ops fuel t listed gG=gG.reverse++l∧iq ops s l:=by
 intro fuel
 induction fuel with
 |zero=>intro t listed gG s _ _ ho;refine⟨[],by simp[Region.linearise.go],?_⟩;show cZ ops s=[];apply List.eq_nil_iff_forall_not_mem.2;intro i hi;have:=sX hi;rw[List.eq_nil_of_length_eq_zero (Nat.le_zero.1 ho)]at this;cases this
 |succ fuel ih=>
  intro t listed gG s hsz hl ho;have hrs:((List.range ops.size).filter fun i=>!listed.getD i true&&((ops[i]?).map (fun o=>o.after.all fun e=>!Region.binds .any e||listed.getD e.on false)).getD false)=cZ ops s:=by
   unfold cZ;apply List.filter_congr;intro i hi;have nN:i<ops.size:=List.mem_range.1 hi;have h1:listed.getD i true=listed.getD i false:=by rw[be,be,aT (by rw[hsz];exact nN)];rfl
   rw[h1,hl i,aT nN];simp only[af,Option.getD_some,tS];congr 1;congr 1;funext e;rw[hl e.on]
  rw[Region.linearise.go];simp only[hrs];split
  ·rename_i i hi;have qX:i∈cZ ops s:=bf hi;obtain⟨QU,vS⟩:=dL qX;have we:∀j,(listed.setIfInBounds i true).getD j false=(i::s).contains j:=fun j=>by
    rw[be,List.contains_cons];by_cases hj:j=i
    ·subst hj;simp[hsz,QU]
    ·have:(j==i)=false:=by simpa using hj
     rw[this,Bool.false_or,<-hl j,be,aC (fun x=>hj x.symm)]
   obtain⟨l,e,hs⟩:=ih (t / (cZ ops s).length) (listed.setIfInBounds i true) (i::gG) (i::s) (by simpa using hsz) we (by have:=Hy (sX qX);omega);exact⟨i::l,by rw[e];simp,qX,hs⟩
  ·rename_i hn;refine⟨[],by simp,?_⟩;show cZ ops s=[];rcases Nat.eq_zero_or_pos (cZ ops s).length with h0|h0
   ·exact List.eq_nil_of_length_eq_zero h0
   ·rw[List.getElem?_eq_none_iff]at hn;have:=Nat.mod_lt t h0;omega
theorem jE(ops:Array Oper)(t:Nat):iq ops [] (Region.schedule true ops t):=by
 obtain⟨l,e,h⟩:=R6 ops ops.size t (Array.replicate ops.size false) [] [] (by simp) (fun j=>by
  rw[be,Array.getElem?_replicate];split<;>simp) (by
  unfold rq;exact bp (List.length_filter_le _ _) (by simp))
 have:Region.schedule true ops t=l:=by simp[Region.schedule,Region.linearise,e]
 rw[this];exact h
theorem sY{a b:List Nat}(h:vZ a b=true)(i:Nat):i∈a↔i∈b:=by unfold vZ at h;simp only[ax,aO,List.contains_iff_mem]at h;exact⟨h.1 i,h.2 i⟩
theorem sZ{a b:List Nat}(h:∀i,i∈a↔i∈b)(i:Nat):a.contains i=b.contains i:=by
 have:=h i;by_cases hi:i∈a
 ·simp[hi,this.1 hi]
 ·have:i∉b:=fun x=>hi (this.2 x);simp[hi,this]
theorem pX{ops:Array Oper}{a b:List Nat}(h:∀i,i∈a↔i∈b):cZ ops a=cZ ops b:=by
 unfold cZ;apply List.filter_congr;intro i _;rw[sZ h];congr 1;split
 ·unfold tS;congr 1;funext e;rw[sZ h]
 ·rfl
theorem iq.congr{ops:Array Oper}:∀{l a b:List Nat},(∀i,i∈a↔i∈b)->iq ops a l->iq ops b l
 |[],a,b,h,hs=>by have:cZ ops a=[]:=hs;show cZ ops b=[];rw[<-pX h];exact this
 |i::l,a,b,h,hs=>⟨by rw[<-pX h];exact hs.1,iq.congr (fun j=>by simp[h j]) hs.2⟩
def Us(U0:Nat->Prop)(h0:AH)(s:List Nat):Nat->Prop:=fun n=>U0 n∨∃j∈s,h0.nb+j*jm h0≤n∧n<h0.nb+(j+1)*jm h0
theorem Kl(h0:AH){i:Nat}(hi:i<65536){n:Nat}(hn:n<h0.nb+(i+1)*jm h0)(Mu:h0.nb+i*jm h0≤n):n<h0.eH:=by have h1:(i+1)*jm h0≤65536*jm h0:=bq _ hi;have h2:65536*jm h0≤h0.eH-h0.nb:=Nat.mul_div_le _ _;omega
theorem Fw{s i j n nb:Nat}(h1:nb+i*s≤n)(h2:n<nb+(i+1)*s)(h3:nb+j*s≤n)(h4:n<nb+(j+1)*s):i=j:=by
 rcases Nat.lt_trichotomy i j with h|h|h
 ·have:=bq s (Nat.succ_le_of_lt h);simp only[Nat.succ_eq_add_one]at this;omega
 ·exact h
 ·have:=bq s (Nat.succ_le_of_lt h);simp only[Nat.succ_eq_add_one]at this;omega
theorem Hz{K:ik}{U0:Nat->Prop}{h0:AH}{s:List Nat}{i:Nat}(I0:h_ K U0 h0)(hi:i<65536)(hs:i∉s){n:Nat}(h1:h0.nb+i*jm h0≤n)(h2:n<h0.nb+(i+1)*jm h0):¬Us U0 h0 s n:=by
 rintro(x|⟨j,hj,x1,x2⟩)
 ·exact I0.fresh n (by omega) (Kl h0 hi h2 h1) x
 ·have:=Fw h1 h2 x1 x2;subst this;exact hs hj
theorem Rel.hp{K:ik}{ρ:cn}{h h':AH}{w:World}(R:Rel K ρ h w)(e:h'.hp=h.hp):Rel K ρ h' w:=
 ⟨fun i b hb=>R.kj i b (by rw[<-e];exact hb),fun i b hb=>R.qu i b (by rw[<-e];exact hb),fun i j b c h1 h2=>R.inj i j b c (by rw[<-e];exact h1) (by rw[<-e];exact h2),R.bs,R.is,R.mem,R.room,fun i b hb=>R.fT i b (by rw[<-e];exact hb),R.low⟩
theorem rh.hp{K:ik}{ρ:cn}{da:bH}{callers:List bH}{h h':AH}{cs:List Frame}{g:Goroutine}{w:World}(Γ:rh K ρ ⟨da,callers,h⟩ cs g w)(e:h'.hp=h.hp):rh K ρ ⟨da,callers,h'⟩ cs g w:=
 ⟨Rel.hp Γ.1 e,Γ.2⟩
theorem gq.Kg{K:ik}{U U':Nat->Prop}{da:bH}{callers:List bH}{h h':AH}(I:gq K U ⟨da,callers,h⟩)(e:h'.hp=h.hp)(hs:∀n,U n->U' n)(fr:∀n,h'.nb≤n->n<h'.eH->¬U' n):gq K U' ⟨da,callers,h'⟩:=
 ⟨I.da.mono hs,fun fr hf=>(I.callers fr hf).mono hs,⟨fun i b hb=>bM.In.mono hs (I.iC.hp i b (by rw[<-e];exact hb)),fun i hi=>hs i (I.iC.keys i (by show i∈Go.Proofs.Ythaddgfbohmfoaa.SX.keys h.hp;rw[<-e];exact hi)),(by show(Go.Proofs.Ythaddgfbohmfoaa.SX.keys h'.hp).Nodup;rw[e];exact I.iC.nodup),fr,I.iC.zE.mono hs⟩⟩
section
variable {K:ik}{main:Bool}{nt:Nat}{ops:Array Oper}
theorem DT{s:List Nat}{t:TT}{h:AH}:∀{L L':Mc},An s t h L=.ok L'->(∀e∈L,e∈L')∧∃s' h',(s',t,h')∈L'∧vZ s s'=true∧h'.hp=h.hp
 |[],L',he=>by simp only[An]at he;cases he;refine⟨(fun e x=>by cases x),s,h,ad.2 rfl,?_,rfl⟩;simp[vZ]
 |(s',t',h')::L,L',he=>by
  simp only[An]at he;split at he
  ·rename_i hs;split at he
   ·rename_i hq;cases he;simp only[ax]at hq;obtain rfl:=TT.dG hq.1;exact⟨fun e x=>x,s',h',an ..,hs,(G4 hq.2).symm⟩
   ·cases he
  ·split at he
   ·rename_i l hl;cases he;obtain⟨a,s2,h2,b,c,d⟩:=DT hl;refine⟨fun e x=>?_,s2,h2,am _ b,c,d⟩;rcases ac.1 x with rfl|x
    ·exact an ..
    ·exact am _ (a e x)
   ·cases he
def HA(K:ik)(U0:Nat->Prop)(h0:AH)(ρ:cn)(cs:List Frame)(w:World)(fn:FuncId)(nt:Nat)(ops:Array Oper)(l:List Nat)(k:List Item)(defers:List AD)(kind:CallKind)(callers:List bH)(s1:List Nat)(L':Mc)(g':Goroutine)(w':World):Prop:=
 ∃s' t' h',(s',t',h')∈L'∧(∀i,i∈s1↔i∈s')∧∃bL,cz U0 ρ bL∧cE K.own w w'∧gq K (Us U0 h0 s') ⟨⟨fn,nt,t',.inRegion ops l::k,defers,.run,kind⟩,callers,ij h'⟩∧
  rh K bL ⟨⟨fn,nt,t',.inRegion ops l::k,defers,.run,kind⟩,callers,h'⟩ cs g' w'
theorem HA.sub{U0:Nat->Prop}{h0:AH}{ρ:cn}{cs:List Frame}{w:World}{fn:FuncId}{l:List Nat}{k:List Item}{defers:List AD}{kind:CallKind}{callers:List bH}{s1:List Nat}{L L':Mc}{g':Goroutine}{w':World}
 (hs:∀e∈L,e∈L')(F:HA K U0 h0 ρ cs w fn nt ops l k defers kind callers s1 L g' w'):HA K U0 h0 ρ cs w fn nt ops l k defers kind callers s1 L' g' w':=by
 obtain⟨s',t',h',a,b⟩:=F;exact⟨s',t',h',hs _ a,b⟩
theorem vl(Gd:K.Good)(F:K.il){ext:Ext}(X:ib K ext){call:FuncId->List AV->AH->M (AE×AH)}(C:kz K main call)(gu:ops.size≤65536){h0:AH}{s:List Nat}{t:TT}{h:AH}:
  ∀{r:List Nat} {L L':Mc},tT K.P K.O ext call nt ops h0 s t h r L=.ok L'->(∀e∈L,e∈L')∧
   ∃N,∀i∈r,i<ops.size->i∉s->∀{fn defers kind callers U0 ρ cs g w l k},h_ K U0 h0->gq K (Us U0 h0 s) ⟨⟨fn,nt,t,.inRegion ops (i::l)::k,defers,.run,kind⟩,callers,ij h⟩->
    rh K ρ ⟨⟨fn,nt,t,.inRegion ops (i::l)::k,defers,.run,kind⟩,callers,h⟩ cs g w->dy K.P main (DK K) (HA K U0 h0 ρ cs w fn nt ops l k defers kind callers (i::s) L') N g w
 |[],L,L',he=>by simp only[tT]at he;cases he;exact⟨fun e x=>x,0,fun i x=>by cases x⟩
 |i::r,L,L',he=>by
  simp only[tT]at he;split at he
  ·cases he
  ·cases he
  ·rename_i t' h' fY;split at he
   ·rename_i aiD;split at he
    ·rename_i L1 adf;obtain⟨a1,s',hh,a2,a3,a4⟩:=DT adf;obtain⟨b1,N,b2⟩:=vl Gd F X C gu he;obtain⟨M,hM⟩:=jX Gd F X C fY;refine⟨fun e x=>b1 e (a1 e x),N+M,fun j hj QV hj2 {fn defers kind callers U0 ρ cs g w l k} I0 I Γ=>?_⟩;rcases ac.1 hj with rfl|hj
     ·have I':gq K (Us U0 h0 s) ⟨⟨fn,nt,t,.inRegion ops (j::l)::k,defers,.run,kind⟩,callers,ol h0 j h⟩:=
       I.Kg rfl (fun n x=>x) fun n x1 x2=>Hz I0 (by omega) hj2 x1 x2
      refine((hM I' (Γ.hp rfl)).d_ fun g' w' nx=>?_).mono (Nat.le_add_left _ _);obtain⟨bL,c1,c2,c3,c4,c5⟩:=nx;refine⟨s',t',hh,b1 _ a2,sY a3,bL,c1.mono (fun n x=>.inl x),c2,?_,c5.hp a4⟩;refine c4.Kg a4 (fun n x=>?_) fun n x1 x2=>by simp[ij]at x2
      rcases x with(x|⟨q,q1,q2⟩)|x
      ·exact .inl x
      ·exact .inr ⟨q,(sY a3 q).1 (am _ q1),q2⟩
      ·have hl:h'.eH=(ol h0 j h).eH:=c3.eH;refine .inr ⟨j,(sY a3 j).1 (an ..),x.1,?_⟩;have Fx:h'.eH=h0.nb+(j+1)*jm h0:=hl;have hx:=x.2;dsimp only at hx;omega
     ·exact(b2 j hj QV hj2 I0 I Γ).mono (Nat.le_add_right _ _)
    ·cases he
   ·cases he
theorem AW(Gd:K.Good)(F:K.il){ext:Ext}(X:ib K ext){call:FuncId->List AV->AH->M (AE×AH)}(C:kz K main call)(gu:ops.size≤65536){h0:AH}:
  ∀{A L L':Mc},v1 K.P K.O ext call nt ops h0 A L=.ok L'->(∀e∈L,e∈L')∧
   ∃N,∀s t h,(s,t,h)∈A->cZ ops s≠[]∧∀i∈cZ ops s,∀{fn defers kind callers U0 ρ cs g w l k},h_ K U0 h0->gq K (Us U0 h0 s) ⟨⟨fn,nt,t,.inRegion ops (i::l)::k,defers,.run,kind⟩,callers,ij h⟩->
    rh K ρ ⟨⟨fn,nt,t,.inRegion ops (i::l)::k,defers,.run,kind⟩,callers,h⟩ cs g w->dy K.P main (DK K) (HA K U0 h0 ρ cs w fn nt ops l k defers kind callers (i::s) L') N g w
 |[],L,L',he=>by simp only[v1]at he;cases he;exact⟨fun e x=>x,0,fun s t h x=>by cases x⟩
 |(s,t,h)::A,L,L',he=>by
  simp only[v1]at he;split at he
  ·cases he
  ·rename_i df;split at he
   ·rename_i L1 h1;obtain⟨a1,N,a2⟩:=vl Gd F X C gu h1;obtain⟨b1,M,b2⟩:=AW Gd F X C gu he;refine⟨fun e x=>b1 e (a1 e x),N+M,fun s' t' h' hm=>?_⟩;rcases ac.1 hm with hq|hm
    ·cases hq;refine⟨fun x=>df (by simp[x]),fun i hi {fn defers kind callers U0 ρ cs g w l k} I0 I Γ=>?_⟩;obtain⟨x1,x2⟩:=dL hi;exact((a2 i hi x1 x2 I0 I Γ).d_ fun g' w' f=>f.sub b1).mono (Nat.le_add_right _ _)
    ·obtain⟨c1,c2⟩:=b2 s' t' h' hm;exact⟨c1,fun i hi {fn defers kind callers U0 ρ cs g w l k} I0 I Γ=>(c2 i hi I0 I Γ).mono (Nat.le_add_left _ _)⟩
   ·cases he
end
theorem fG(m i:Nat):pR m i=m.testBit i:=by
 unfold pR Rf;have h:Nat.land m (Nat.pow 2 i)=m&&& 2 ^ i:=rfl;rw[h];cases hb:m.testBit i with
 |true=>
  have:m&&& 2 ^ i≠0:=fun e=>by have:=congrArg (fun x=>Nat.testBit x i) e;simp[Nat.testBit_and,hb,Nat.testBit_two_pow_self]at this
  cases hq:Nat.beq (m&&& 2 ^ i) 0 with
  |true=>exact absurd (aI hq) this
  |false=>rfl
 |false=>
  have:m&&& 2 ^ i=0:=by
   apply Nat.eq_of_testBit_eq;intro j;rw[Nat.testBit_and,Nat.zero_testBit];by_cases e:i=j
   ·subst e;simp[hb]
   ·simp[Nat.testBit_two_pow,e]
  rw[this];rfl
theorem MF(m i j:Nat):pR (xE m i) j=(pR m j||decide (i=j)):=by
 rw[fG,fG];have:xE m i=m ||| 2 ^ i:=rfl
 rw[this,Nat.testBit_or,Nat.testBit_two_pow]
theorem AX(i:Nat):pR 0 i=false:=by rw[fG];simp
theorem R7{a m:Nat}(h:Nat.beq (Nat.land a m) a=true){j:Nat}(hj:pR a j=true):pR m j=true:=by have e:a&&& m=a:=aI h;rw[fG]at hj⊢;have:=congrArg (fun x=>Nat.testBit x j) e;simp only[Nat.testBit_and,hj,Bool.true_and]at this;exact this
theorem R8{a m:Nat}(h:∀j,pR a j=true->pR m j=true):Nat.beq (Nat.land a m) a=true:=by
 have:a&&& m=a:=by
  apply Nat.eq_of_testBit_eq;intro j;rw[Nat.testBit_and];have:=h j;rw[fG,fG]at this;cases ha:a.testBit j with
  |false=>rfl
  |true=>rw[this ha];rfl
 have h2:Nat.land a m=a:=this;rw[h2];exact Nat.beq_refl a
theorem oH{l:List Edge}{j:Nat}:pR (iz l) j=true↔∃e∈l,Region.binds .any e=true∧e.on=j:=by
 induction l with
 |nil=>simp[iz,AX]
 |cons e l ih=>
  unfold iz;cases hb:Region.binds .any e with
  |true=>
   simp only[MF,Bool.or_eq_true,ih,decide_eq_true_eq,ac];constructor
   ·rintro(⟨x,hx,a,b⟩|h)
    ·exact⟨x,.inr hx,a,b⟩
    ·exact⟨e,.inl rfl,hb,h⟩
   ·rintro⟨x,rfl|hx,a,b⟩
    ·exact .inr b
    ·exact .inl ⟨x,hx,a,b⟩
  |false=>
   simp only[ih,ac];constructor
   ·rintro⟨x,hx,a,b⟩;exact⟨x,.inr hx,a,b⟩
   ·rintro⟨x,rfl|hx,a,b⟩
    ·rw[hb]at a;cases a
    ·exact⟨x,hx,a,b⟩
theorem Da{l:List Oper}:∀{n:Nat} {x:lJ},x∈qp n l↔∃i o,l[i]?=some o∧x=(n+i,o,iz o.after.toList,jS o):=by
 induction l with
 |nil=>intro n x;simp[qp]
 |cons o l ih=>
  intro n x;simp only[qp,ac,ih];constructor
  ·rintro(rfl|⟨i,o',h,rfl⟩)
   ·exact⟨0,o,rfl,rfl⟩
   ·exact⟨i+1,o',by simpa using h,by rw[show n+1+i=n+(i+1) by omega]⟩
  ·rintro⟨i,o',h,rfl⟩;cases i with
   |zero=>simp at h;subst h;exact .inl rfl
   |succ i=>exact .inr ⟨i,o',by simpa using h,by rw[show n+1+i=n+(i+1) by omega]⟩
theorem fy{ops:Array Oper}{x:lJ}:x∈dm ops↔∃i o,ops[i]?=some o∧x=(i,o,iz o.after.toList,jS o):=by unfold dm;rw[Da];simp
def ut(s:List Nat)(m:Nat):Prop:=∀i,pR m i=true↔i∈s
theorem ut.add{s:List Nat}{m i:Nat}(h:ut s m):ut (i::s) (xE m i):=fun j=>by
 rw[MF,Bool.or_eq_true,h j,decide_eq_true_eq,ac];constructor
 ·rintro(x|x)
  ·exact .inr x
  ·exact .inl x.symm
 ·rintro(x|x)
  ·exact .inr x.symm
  ·exact .inl x
theorem AY:ut [] 0:=fun i=>by simp[AX]
theorem fL{ops:Array Oper}{s:List Nat}{i:Nat}:i∈cZ ops s↔i∉s∧∃o,ops[i]?=some o∧∀e∈o.after.toList,Region.binds .any e=true->e.on∈s:=by
 unfold cZ;rw[aU];constructor
 ·rintro⟨h1,h2⟩;simp only[ax,Bool.not_eq_true',List.contains_eq_mem,decide_eq_false_iff_not]at h2;refine⟨h2.1,?_⟩;have h3:=h2.2;split at h3
  ·rename_i o ho;refine⟨o,ho,fun e he hb=>?_⟩;unfold tS at h3;rw[<-Array.all_toList,aO]at h3;have:=h3 e he;simpa[hb] using this
  ·cases h3
 ·rintro⟨h1,o,ho,h2⟩;refine⟨List.mem_range.2 (bc.1 ho).1,?_⟩;simp only[ax,Bool.not_eq_true',List.contains_eq_mem,decide_eq_false_iff_not];refine⟨h1,?_⟩;rw[ho];show tS s o=true;unfold tS;rw[<-Array.all_toList,aO];intro e he;cases hb:Region.binds .any e with
  |false=>rfl
  |true=>simpa using h2 e he hb
theorem nO{ops:Array Oper}{s:List Nat}{m:Nat}(c:ut s m){i:Nat}{o:Oper}(ho:ops[i]?=some o):v2 m (i,o,iz o.after.toList,jS o)=true↔i∈cZ ops s:=by
 rw[fL];unfold v2;simp only[ax,Bool.not_eq_true'];constructor
 ·rintro⟨h1,h2⟩;refine⟨fun hi=>?_,o,ho,fun e he hb=>(c _).1 (R7 h2 (oH.2 ⟨e,he,hb,rfl⟩))⟩;rw[(c i).2 hi]at h1;cases h1
 ·rintro⟨h1,o',vm,h2⟩;rw[ho]at vm;cases vm;refine⟨?_,R8 fun j hj=>?_⟩
  ·cases hq:pR m i with
   |false=>rfl
   |true=>exact absurd ((c i).1 hq) h1
  ·obtain⟨e,he,hb,rfl⟩:=oH.1 hj;exact(c _).2 (h2 e he hb)
theorem xO{P:Program}{O:dP}{ext:Ext}{h:AH}{f g:Operand->AV}{o:Oper}(e:∀x∈o.op.operands.toList,f x=g x):op? P O ext h f o=op? P O ext h g o:=by
 have hc:∀(c:Call),(∀x∈c.operands.toList,f x=g x)->∀ty,resolve? f c ty=resolve? g c ty:=by
  intro c hc ty;have pz:c.args.toList.map f=c.args.toList.map g:=aY fun x hx=>hc x (by unfold Call.operands;simp only[Array.toList_append,ay];exact .inr hx)
  unfold resolve?;rw[pz];split
  ·rfl
  ·rename_i recv name pd;have:f recv=g recv:=hc recv (by unfold Call.operands;rw[pd];simp);rw[this]
  ·rename_i fx pd;have:f fx=g fx:=hc fx (by unfold Call.operands;rw[pd];simp);rw[this]
 have R9:∀(ps:Array (Nat×Operand)),(∀x∈(ps.toList.map (·.2)),f x=g x)->ps.toList.map (fun(i,x)=>(i,f x))=ps.toList.map (fun(i,x)=>(i,g x)):=fun ps hp=>aY fun x hx=>by have:f x.2=g x.2:=hp x.2 (aJ.2 ⟨x,hx,rfl⟩);show(x.1,f x.2)=(x.1,g x.2);rw[this]
 unfold op?;generalize fY:o.op=op at e;cases op<;>simp only[Op.operands,ac,ae,or_false,forall_eq_or_imp,forall_eq,bm,Array.toList_append,ay]at e<;>dsimp only
 case pick c a b=>rw[e.1,e.2.1,e.2.2]
 case build t ps=>rw[R9 ps e]
 case buildSlice t n ps=>rw[R9 ps e]
 case makeFunc fn fs cs=>rw[aY (f:=f) (g:=g) fun x hx=>e x (.inl hx),aY (f:=f) (g:=g) fun x hx=>e x (.inr hx)]
 case slice t x l hh mx=>
  have hx:f x=g x:=e x (by simp);have ho:∀(y:Option Operand),(∀z,y=some z->f z=g z)->(y.map fun x=>rU O (f x))=y.map fun x=>rU O (g x):=fun y hy=>by
   cases y with
   |none=>rfl
   |some z=>simp[hy z rfl]
  rw[hx,ho l fun z hz=>e z (by subst hz;simp),ho hh fun z hz=>e z (by subst hz;simp),ho mx fun z hz=>e z (by subst hz;simp)]
 case makeMap t r=>
  have:r.map f=r.map g:=by
   cases r with
   |none=>rfl
   |some z=>simp[e z (by simp)]
  rw[this]
 case call c=>rw[hc c e]
 case defer c=>rw[hc c e]
 case unOp u t x=>cases u<;>dsimp only<;>simp only[e]
 all_goals first
  |rfl
  |(simp only[e];done)
  |(simp only[e.1,e.2];done)
theorem AZ{r:M AV}{h h':AH}{n:AN}(he:k0 r h=.ok (n,h')):h'=h:=by
 unfold k0 at he;split at he
 ·cases he;rfl
 ·cases he
theorem A7{P:Program}{O:dP}{ext:Ext}{h h':AH}{f:Operand->AV}{o:Oper}{n:AN}(hq:jS o=true)(he:op? P O ext h f o=.ok (n,h')):h'=h:=by
 unfold jS at hq;unfold op? at he;generalize o.op=op at hq he;cases op<;>simp at hq<;>dsimp only at he
 case unOp u t x=>cases u<;>dsimp only at he<;>(repeat' split at he)<;>first|(cases he;rfl)|cases he
 all_goals first
  |exact AZ he
  |(cases he;rfl)
  |((repeat' split at he)<;>first|exact AZ he|(cases he;rfl)|cases he)
def DU(ops:Array Oper)(o:Oper)(t t':TT):Prop:=∀d∈o.looksAt ops,t'.get d=t.get d
theorem DU.eval{ops:Array Oper}{o:Oper}{t t':TT}(h:DU ops o t t'):∀x∈o.op.operands.toList,fC t' x=fC t x:=by
 intro x hx;cases x with
 |tmp d=>exact h d (List.mem_append_left _ (List.mem_filterMap.2 ⟨.tmp d,hx,rfl⟩))
 |_=>rfl
theorem DU.wanted{O:dP}{ops:Array Oper}{o:Oper}{t t':TT}(h:DU ops o t t'):i9 O ops t' o=i9 O ops t o:=by
 unfold i9;cases hg:o.guard with
 |none=>rfl
 |some gw=>
  obtain⟨j,want⟩:=gw;dsimp only;have:sC O ops t' j=sC O ops t j:=by
   unfold sC;cases hd:(ops[j]?).bind (·.dst)with
   |none=>rfl
   |some d=>dsimp only;rw[h d (List.mem_append_right _ (by rw[hg];simp[hd]))]
  rw[this]
theorem wC{P:Program}{O:dP}{ext:Ext}{call:FuncId->List AV->AH->M (AE×AH)}{nt:Nat}{ops:Array Oper}{i:Nat}{o:Oper}{t t' t1:TT}{h h1:AH}(ho:ops[i]?=some o)(ha:DU ops o t t')
 (he:kv P O ext call nt ops i t h=.ok (.on t1 h1)):∃v,t1=jQ nt t o.dst v∧kv P O ext call nt ops i t' h=.ok (.on (jQ nt t' o.dst v) h1):=by
 unfold kv at he⊢;rw[ho]at he⊢;dsimp only at he⊢;rw[ha.wanted,xO ha.eval];split at he
 ·cases he
 ·rename_i hw;cases he;exact⟨_,rfl,rfl⟩
 ·rename_i hw;split at he
  ·cases he
  ·rename_i v h' fY;cases he;exact⟨v,rfl,rfl⟩
  ·rename_i h' fY;cases he;exact⟨cx,rfl,rfl⟩
  ·rename_i f args h' fY;split at he
   ·rename_i v WX hc;cases he;exact⟨v,rfl,rfl⟩
   ·cases he
   ·cases he
  ·cases he
  ·cases he
theorem wD{P:Program}{O:dP}{ext:Ext}{call:FuncId->List AV->AH->M (AE×AH)}{nt:Nat}{ops:Array Oper}{i:Nat}{o:Oper}{t:TT}{h:AH}(ho:ops[i]?=some o)(hq:jS o=true){v:AV}
 (he:i9 O ops t o=.ok false∧v=cx∨i9 O ops t o=.ok true∧∃h',op? P O ext h (fC t) o=.ok (.value v,h')):kv P O ext call nt ops i t h=.ok (.on (jQ nt t o.dst v) h):=by
 unfold kv;rw[ho];dsimp only;rcases he with⟨hw,rfl⟩|⟨hw,h',fY⟩
 ·rw[hw]
 ·rw[hw];dsimp only;have:=A7 hq fY;subst this;rw[fY]
theorem oI{nt:Nat}(rW:nt≤60000)(t:TT)(dst:Option Tmp)(v:AV)(n:Nat):(jQ nt t dst v).get n=if dst=some n∧n<nt then v else t.get n:=by
 unfold jQ;cases dst with
 |none=>simp
 |some d=>
  dsimp only;cases hb:Nat.ble (d+1) nt with
  |true=>
   have hd:Nat.succ d≤nt:=Nat.le_of_ble_eq_true hb;have Ov:Nat.succ d<2 ^ 16:=Nat.lt_of_le_of_lt (bp hd rW) (by decide);dsimp only;rw[TT.v6 v 16 t d n Ov];by_cases e:n=d
   ·subst e;rw[if_pos rfl,if_pos ⟨rfl,hd⟩]
   ·rw[if_neg e,if_neg fun x=>e (au x.1).symm]
  |false=>dsimp only;rw[if_neg];rintro⟨e,hn⟩;obtain rfl:=au e;have h2:Nat.ble (d+1) nt=true:=Nat.ble_eq_true_of_le (Nat.succ_le_of_lt hn);rw[h2]at hb;cases hb
def Xf(ops:Array Oper)(s r:List Nat)(n:Nat):Prop:=∃i o,i∈s∧i∉r∧ops[i]?=some o∧o.dst=some n
def wE(ops:Array Oper)(r:List Nat):Prop:=∀i∈r,∀o,ops[i]?=some o->∀e∈o.after.toList,Region.binds .any e=true->e.on∈r
theorem wE.cons{ops:Array Oper}{r:List Nat}(d:wE ops r){i:Nat}(h:i∈cZ ops r):wE ops (i::r):=by
 obtain⟨_,o,ho,hp⟩:=fL.1 h;intro j hj oj Xg e he hb;rcases ac.1 hj with rfl|hj
 ·rw[ho]at Xg;cases Xg;exact am _ (hp e he hb)
 ·exact am _ (d j hj oj Xg e he hb)
structure lK(ops:Array Oper)(nt:Nat)(s r:List Nat)(t tr:TT):Prop where
 sub:∀i∈r,i∈s
 k7:∀i∈s,i∉r->∃o,ops[i]?=some o∧jS o=true
 eL:∀n,n<nt->¬Xf ops s r n->tr.get n=t.get n
 out:∀n,nt≤n->tr.get n=t.get n
 down:wE ops r
theorem Xh(a b j:Nat):pR (Nat.lor a b) j=(pR a j||pR b j):=by rw[fG,fG,fG];exact Nat.testBit_or a b j
theorem A8{m i:Nat}:∀{l:List lJ},pR (v4 m l) i=true->∃x∈l,x.2.2.2=false∧pR m x.1=true∧pR x.2.2.1 i=true
 |[],h=>by simp[v4,AX]at h
 |x::l,h=>by
  simp only[v4]at h;split at h
  ·rename_i hb;simp only[ax,Bool.not_eq_true']at hb;rw[Xh,Bool.or_eq_true]at h;rcases h with h|h
   ·exact⟨x,an ..,hb.1,hb.2,h⟩
   ·obtain⟨y,hy,z⟩:=A8 h;exact⟨y,am _ hy,z⟩
  ·obtain⟨y,hy,z⟩:=A8 h;exact⟨y,am _ hy,z⟩
theorem Xi{dO:List lJ}{m i:Nat}(h1:pR m i=true)(h2:pR (v4 m dO) i=false):pR (JL dO m) i=true:=by unfold JL;rw[fG]at h1 h2⊢;show(m&&& (m ^^^ v4 m dO)).testBit i=true;rw[Nat.testBit_and,Nat.testBit_xor,h1,h2];rfl
theorem lK.rem{ops:Array Oper}{nt:Nat}{s r:List Nat}{t tr:TT}(N:lK ops nt s r t tr){m:Nat}(hc:ut s m){i:Nat}(hi:i∈s)(hr:i∉r):pR (JL (dm ops) m) i=true:=by
 refine Xi ((hc i).2 hi) ?_;cases hd:pR (v4 m (dm ops)) i with
 |false=>rfl
 |true=>
  obtain⟨x,hx,h1,h2,h3⟩:=A8 hd;obtain⟨j,o,ho,rfl⟩:=fy.1 hx;dsimp only at h1 h2 h3;have hj:j∈s:=(hc j).1 h2;by_cases Km:j∈r
  ·obtain⟨e,he,hb,rfl⟩:=oH.1 h3;exact absurd (N.down j Km o ho e he hb) hr
  ·obtain⟨o',vm,hq⟩:=N.k7 j hj Km;rw[ho]at vm;cases vm;rw[hq]at h1;cases h1
def pe(ops:Array Oper):List Nat->Prop
 |[]=>True
 |i::s=>i∈cZ ops s∧pe ops s
theorem pe.ready{ops:Array Oper}{r:List Nat}:∀{s:List Nat},pe ops s->(∃i∈s,i∉r)->∃i∈s,i∈cZ ops r
 |[],_,⟨i,h,_⟩=>by cases h
 |a::s,⟨h1,h2⟩,hx=>by
  by_cases hs:∃i∈s,i∉r
  ·obtain⟨i,hi,hr⟩:=pe.ready h2 hs;exact⟨i,am _ hi,hr⟩
  ·have jc:∀i∈s,i∈r:=fun i hi=>Classical.byContradiction fun hn=>hs ⟨i,hi,hn⟩;obtain⟨i,hi,hn⟩:=hx;rcases ac.1 hi with rfl|hi
   ·obtain⟨_,o,ho,hp⟩:=fL.1 h1;exact⟨i,an ..,fL.2 ⟨hn,o,ho,fun e he hb=>jc _ (hp e he hb)⟩⟩
   ·exact absurd (jc i hi) hn
theorem pe.lt{ops:Array Oper}:∀{s:List Nat},pe ops s->∀i∈s,i<ops.size
 |[],_,i,h=>by cases h
 |a::s,⟨h1,h2⟩,i,h=>by
  rcases ac.1 h with rfl|h
  ·exact(dL h1).1
  ·exact pe.lt h2 i h
theorem Db{ops:Array Oper}(h:jx ops (dm ops)=true){i j d:Nat}{oi oj:Oper}(hi:ops[i]?=some oi)(hj:ops[j]?=some oj)(hq:jS oi=true)(hd:oi.dst=some d)(hl:d∈oj.looksAt ops):
  ∃e∈oj.after.toList,Region.binds .any e=true∧e.on=i:=by
 unfold jx at h;rw[aO]at h;have h1:=h _ (fy.2 ⟨i,oi,hi,rfl⟩);dsimp only at h1;rw[hq,hd]at h1;dsimp only at h1;rw[aO]at h1;have h2:=h1 _ (fy.2 ⟨j,oj,hj,rfl⟩);dsimp only at h2;have hc:(oj.looksAt ops).contains d=true:=by simpa using hl
 rw[hc]at h2;simp only[Bool.not_true,Bool.false_or]at h2;exact oH.1 h2
theorem lK.MG{ops:Array Oper}{nt:Nat}{s r:List Nat}{t tr:TT}(N:lK ops nt s r t tr)(hok:jx ops (dm ops)=true){j:Nat}{oj:Oper}(hj:ops[j]?=some oj)(hr:j∈cZ ops r):DU ops oj t tr:=by
 intro d hd;rcases bo d nt with dU|qB
 rotate_left
 ·exact N.out d qB
 refine N.eL d dU fun⟨i,oi,h1,h2,h3,h4⟩=>?_;obtain⟨o,ho,hq⟩:=N.k7 i h1 h2;rw[h3]at ho;cases ho;obtain⟨e,he,hb,rfl⟩:=Db hok h3 hj hq h4 hd;obtain⟨_,o',vm,hp⟩:=fL.1 hr;rw[hj]at vm;cases vm;exact h2 (hp e he hb)
theorem lK.drawn{ops:Array Oper}{nt:Nat}(rW:nt≤60000){s r:List Nat}{t tr:TT}(N:lK ops nt s r t tr){i:Nat}{o:Oper}(ho:ops[i]?=some o)(hi:i∈s)(Dc:i∈cZ ops r){v:AV}(hv:∀d,o.dst=some d->d<nt->t.get d=v):
  lK ops nt s (i::r) t (jQ nt tr o.dst v):=by
 refine⟨fun j hj=>?_,fun j hj hn=>N.k7 j hj fun x=>hn (am _ x),fun n dU hn=>?_,fun n qB=>?_,?_⟩
 ·rcases ac.1 hj with rfl|hj
  ·exact hi
  ·exact N.sub j hj
 ·rw[oI rW];split
  ·rename_i hd;exact(hv n hd.1 hd.2).symm
  ·rename_i hd;refine N.eL n dU fun⟨a,oa,h1,h2,h3,h4⟩=>?_;by_cases e:a=i
   ·subst e;rw[ho]at h3;cases h3;exact hd ⟨h4,dU⟩
   ·exact hn ⟨a,oa,h1,(fun x=>(ac.1 x).elim e h2),h3,h4⟩
 ·rw[oI rW,if_neg fun x=>absurd x.2 (Nat.not_lt.2 qB)];exact N.out n qB
 ·exact N.down.cons Dc
structure Fy(ops:Array Oper)(nt:Nat)(s:List Nat)(t:TT)(s2:List Nat)(m2:Nat)(t2:TT):Prop where
 sub:∀i∈s,i∈s2
 k7:∀i∈s2,i∉s->∃o,ops[i]?=some o∧jS o=true
 eL:∀n,(¬∃i o,i∈s2∧i∉s∧ops[i]?=some o∧o.dst=some n∧n<nt)->t2.get n=t.get n
 cons:ut s2 m2
 A9:pe ops s2
theorem li{P:Program}{O:dP}{ext:Ext}{nt:Nat}(rW:nt≤60000){ops:Array Oper}{h:AH}:∀{l:List lJ},(∀x∈l,x∈dm ops)->∀{s:List Nat} {m:Nat} {t:TT} {s2:List Nat} {m2:Nat} {t2:TT},ut s m->pe ops s->
  po P O ext nt ops h l s m t=.ok (s2,m2,t2)->Fy ops nt s t s2 m2 t2
 |[],_,s,m,t,s2,m2,t2,c,tp,he=>by simp only[po]at he;cases he;exact⟨fun i x=>x,fun i x y=>absurd x y,fun n _=>rfl,c,tp⟩
 |x::l,hl,s,m,t,s2,m2,t2,c,tp,he=>by
  have we:∀y∈l,y∈dm ops:=fun y hy=>hl y (am _ hy);simp only[po]at he;split at he
  ·exact li rW we c tp he
  ·rename_i hb;rw[ax]at hb;obtain⟨i,o,ho,rfl⟩:=fy.1 (hl x (an ..));dsimp only at hb he;have hr:=(nO c ho).1 hb.2;have step:∀{v:AV} {s2:List Nat} {m2:Nat} {t2:TT},po P O ext nt ops h l (i::s) (xE m i) (jQ nt t o.dst v)=.ok (s2,m2,t2)->Fy ops nt s t s2 m2 t2:=by
    intro v s2 m2 t2 he;have S:=li rW we (c.add (i:=i)) (show pe ops (i::s)from⟨hr,tp⟩) he;refine⟨fun j hj=>S.sub j (am _ hj),fun j hj hn=>?_,fun n hn=>?_,S.cons,S.A9⟩
    ·by_cases e:j=i
     ·subst e;exact⟨o,ho,hb.1⟩
     ·exact S.k7 j hj fun x=>(ac.1 x).elim e hn
    ·rw[S.eL n fun⟨j,oj,h1,h2,h3,h4,h5⟩=>hn ⟨j,oj,h1,fun x=>h2 (am _ x),h3,h4,h5⟩,oI rW];refine if_neg fun⟨h4,h5⟩=>hn ⟨i,o,S.sub i (an ..),(dL hr).2,ho,h4,h5⟩
   split at he
   ·cases he
   ·exact step he
   ·split at he
    ·exact step he
    ·cases he
    ·cases he
theorem lK.next{ops:Array Oper}{nt:Nat}(rW:nt≤60000){s r:List Nat}{t tr:TT}(N:lK ops nt s r t tr){j:Nat}{o:Oper}(ho:ops[j]?=some o)(hj:j∉s)(Km:j∈cZ ops r){v:AV}{s2:List Nat}{m2:Nat}{t2:TT}
 (S:Fy ops nt (j::s) (jQ nt t o.dst v) s2 m2 t2):lK ops nt s2 (j::r) t2 (jQ nt tr o.dst v):=by
 have aiE:∀i∈j::r,i∈j::s:=fun i hi=>by
  rcases ac.1 hi with rfl|hi
  ·exact an ..
  ·exact am _ (N.sub i hi)
 have abr:∀n,(¬∃i o,i∈s2∧i∉j::r∧ops[i]?=some o∧o.dst=some n∧n<nt)->t2.get n=(jQ nt t o.dst v).get n:=fun n hn=>S.eL n fun⟨i,oi,h1,h2,h3,h4,h5⟩=>hn ⟨i,oi,h1,fun x=>h2 (aiE i x),h3,h4,h5⟩
 refine⟨fun i hi=>S.sub i (aiE i hi),fun i hi hn=>?_,fun n dU hn=>?_,fun n qB=>?_,N.down.cons Km⟩
 ·by_cases e:i∈j::s
  ·rcases ac.1 e with rfl|e
   ·exact absurd (an ..) hn
   ·exact N.k7 i e fun x=>hn (am _ x)
  ·exact S.k7 i hi e
 ·rw[abr n fun⟨i,oi,h1,h2,h3,h4,h5⟩=>hn ⟨i,oi,h1,h2,h3,h4⟩,oI rW,oI rW];split
  ·rfl
  ·refine N.eL n dU fun⟨a,oa,h1,h2,h3,h4⟩=>hn ⟨a,oa,S.sub a (am _ h1),(fun x=>?_),h3,h4⟩;rcases ac.1 x with rfl|x
   ·exact hj h1
   ·exact h2 x
 ·rw[abr n fun⟨i,oi,h1,h2,h3,h4,h5⟩=>absurd h5 (Nat.not_lt.2 qB),oI rW,oI rW,if_neg fun x=>absurd x.2 (Nat.not_lt.2 qB),if_neg fun x=>absurd x.2 (Nat.not_lt.2 qB)];exact N.out n qB
theorem lK.begin{ops:Array Oper}{nt:Nat}{t:TT}{s2:List Nat}{m2:Nat}{t2:TT}(S:Fy ops nt [] t s2 m2 t2):lK ops nt s2 [] t2 t:=
 ⟨(fun i hi=>by cases hi),fun i hi hn=>S.k7 i hi hn,fun n dU hn=>(S.eL n fun⟨i,oi,h1,h2,h3,h4,h5⟩=>hn ⟨i,oi,h1,h2,h3,h4⟩).symm,fun n qB=>(S.eL n fun⟨i,oi,h1,h2,h3,h4,h5⟩=>absurd h5 (Nat.not_lt.2 qB)).symm,fun i hi=>by cases hi⟩
theorem lK.over{ops:Array Oper}{nt:Nat}{s r:List Nat}{t tr:TT}(N:lK ops nt s r t tr)(tp:pe ops s)(hr:cZ ops r=[]):(∀i∈s,i∈r)∧cZ ops s=[]∧∀n,tr.get n=t.get n:=by
 have jc:∀i∈s,i∈r:=fun i hi=>Classical.byContradiction fun hn=>by obtain⟨j,_,hj⟩:=tp.ready ⟨i,hi,hn⟩;rw[hr]at hj;cases hj
 refine⟨jc,?_,fun n=>?_⟩
 ·rw[pX (b:=r) fun i=>⟨jc i,N.sub i⟩];exact hr
 ·rcases bo n nt with dU|qB
  ·exact N.eL n dU fun⟨i,o,h1,h2,_⟩=>h2 (jc i h1)
  ·exact N.out n qB
theorem xP{P:Program}{O:dP}{ext:Ext}{nt:Nat}{ops:Array Oper}{m:Nat}{t:TT}{h:AH}:∀{l:List lJ},pS P O ext nt ops m t h l=true->∀x∈l,x.2.2.2=true->pR m x.1=true->
  ∃v,(i9 O ops t x.2.1=.ok false∧v=cx∨i9 O ops t x.2.1=.ok true∧∃h',op? P O ext h (fC t) x.2.1=.ok (.value v,h'))∧∀d,x.2.1.dst=some d->d<nt->t.get d=v
 |[],_,x,hx,_,_=>by cases hx
 |y::l,he,x,hx,hq,hm=>by
  simp only[pS,ax]at he;have put:∀{v:AV},Me nt t x.2.1.dst v=true->∀d,x.2.1.dst=some d->d<nt->t.get d=v:=by intro v hd d hdd dU;unfold Me at hd;rw[hdd]at hd;dsimp only at hd;have h2:Nat.ble (d+1) nt=true:=Nat.ble_eq_true_of_le (Nat.succ_le_of_lt dU);rw[h2]at hd;exact AV.dG _ _ hd
  rcases ac.1 hx with rfl|hx
  ·have h1:=he.1;rw[hq,hm]at h1;simp only[Bool.and_self]at h1;split at h1
   ·cases h1
   ·rename_i hw;exact⟨_,.inl ⟨hw,rfl⟩,put h1⟩
   ·rename_i hw;split at h1
    ·rename_i v h' fY;exact⟨v,.inr ⟨hw,h',fY⟩,put h1⟩
    ·cases h1
  ·exact xP he.2 x hx hq hm
section
variable {K:ik}{main:Bool}{nt:Nat}{ops:Array Oper}
theorem Next.lj{U:Nat->Prop}{ρ bL:cn}{cs:List Frame}{w w' yD:World}{h0:AH}{c:dw}{Hx:Goroutine}(A:cz U ρ bL)(k:cE K.own w w')(n:Next K U bL cs w' h0 c Hx yD):Next K U ρ cs w h0 c Hx yD:=by obtain⟨CO,a1,a2,a3,a4,a5⟩:=n;exact⟨CO,A.trans a1 (fun _ x=>x),k.trans a2,a3,a4,a5⟩
theorem Next.Kn{U:Nat->Prop}{ρ bL:cn}{cs:List Frame}{w w' yD:World}{h0 h1:AH}{c:dw}{Hx:Goroutine}(A:cz U ρ bL)(k:cE K.own w w')(gr:d6 K U h0 h1)
 (n:Next K (plus U h0.nb h1.nb) bL cs w' h1 c Hx yD):Next K U ρ cs w h0 c Hx yD:=by
 obtain⟨CO,a1,a2,a3,a4,a5⟩:=n;exact⟨CO,A.trans a1 cG,k.trans a2,gr.trans a3,a4.congr fun n=>nZ gr.nb a3.nb n,a5⟩
theorem gh.lj{U:Nat->Prop}{ρ bL:cn}{cs:List Frame}{w w' yD:World}{h0:AH}{fn:FuncId}{todo:List Item}{defers:List AD}{kind:CallKind}{callers:List bH}{r:AR}{Hx:Goroutine}(A:cz U ρ bL)(k:cE K.own w w')
 (n:gh K U bL cs w' h0 fn nt todo defers kind callers r Hx yD):gh K U ρ cs w h0 fn nt todo defers kind callers r Hx yD:=by
 cases r with
 |on t h=>exact Next.lj A k n
 |panic t c h=>exact fun td=>Next.lj A k (n td)
theorem gh.Kn{U:Nat->Prop}{ρ bL:cn}{cs:List Frame}{w w' yD:World}{h0 h1:AH}{fn:FuncId}{todo:List Item}{defers:List AD}{kind:CallKind}{callers:List bH}{r:AR}{Hx:Goroutine}(A:cz U ρ bL)(k:cE K.own w w')(gr:d6 K U h0 h1)
 (n:gh K (plus U h0.nb h1.nb) bL cs w' h1 fn nt todo defers kind callers r Hx yD):gh K U ρ cs w h0 fn nt todo defers kind callers r Hx yD:=by
 cases r with
 |on t h=>exact Next.Kn A k gr n
 |panic t c h=>exact fun td=>Next.Kn A k gr (n td)
def abs(K:ik)(U0:Nat->Prop)(s:List Nat)(da:bH)(callers:List bH)(h:AH):Option AH->Prop
 |none=>gq K U0 ⟨da,callers,h⟩
 |some h0=>h_ K U0 h0∧gq K (Us U0 h0 s) ⟨da,callers,ij h⟩
theorem Ko(Gd:K.Good)(F:K.il){ext:Ext}(X:ib K ext){call:FuncId->List AV->AH->M (AE×AH)}(C:kz K main call)(gu:ops.size≤65536):
  ∀{n:Nat} {u7:Option AH} {L:Mc} {r:AR},pn K.P K.O ext call nt ops n u7 L=.ok r->
   ∃N,∀s t h,(s,t,h)∈L->∀{fn defers kind callers U0 ρ cs g w l k},(∀j∈s,j<ops.size)->iq ops s l->
    abs K U0 s ⟨fn,nt,t,.inRegion ops l::k,defers,.run,kind⟩ callers h u7->rh K ρ ⟨⟨fn,nt,t,.inRegion ops l::k,defers,.run,kind⟩,callers,h⟩ cs g w->
    dy K.P main (DK K) (gh K U0 ρ cs w (u7.getD h) fn nt k defers kind callers r) N g w:=by
 intro n
 induction n with
 |zero=>intro u7 L r he;simp only[pn]at he;cases he
 |succ n ih=>
  intro u7 L r he;simp only[pn]at he;split at he
  ·rename_i s t h h0;obtain⟨N,hN⟩:=ih he;refine⟨N,fun s' t' h' hm {fn defers kind callers U0 ρ cs g w l k} hb hs I Γ=>?_⟩;cases ad.1 hm;obtain⟨I0,I⟩:=I;have di:ops.size*jm h0≤h0.eH-h0.nb:=bp (bq _ gu) (Nat.mul_div_le _ _);have hI:gq K (plus U0 h0.nb (kQ h0 ops.size h).nb) ⟨⟨fn,nt,t,.inRegion ops l::k,defers,.run,kind⟩,callers,kQ h0 ops.size h⟩:=by
    refine I.Kg rfl (fun m x=>?_) fun m x1 x2 x3=>?_
    ·rcases x with x|⟨j,j1,j2,j3⟩
     ·exact .inl x
     ·refine .inr ⟨by omega,Nat.lt_of_lt_of_le j3 (Nat.add_le_add_left (bq _ (hb j j1)) _)⟩
    ·have hx1:h0.nb+ops.size*jm h0≤m:=x1;rcases x3 with x|x
     ·exact I0.fresh m (by omega) x2 x
     ·have:=x.2;exact absurd this (Nat.not_lt.2 x1)
   have gr:d6 K U0 h0 (kQ h0 ops.size h):=⟨Nat.le_add_right _ _,rfl,hI.iC⟩;have:=hN s t _ (ad.2 rfl) hb hs hI (Γ.hp rfl);exact this.d_ fun g' w' x=>gh.Kn (cz.refl _ _) (cE.refl _ _) gr x
  ·rename_i s t h;split at he
   ·rename_i hr;cases he;refine⟨1,fun s' t' h' hm {fn defers kind callers U0 ρ cs g w l k} hb hs I Γ=>?_⟩;cases ad.1 hm;cases l with
    |cons i l=>have:=hs.1;rw[hr]at this;cases this
    |nil=>exact fU (fun ρ tm w cs R T b ds=>oF) U0 ρ cs g w I Γ
   ·rename_i i hr;have lR:∀{l},iq ops s l->∃l',l=i::l'∧iq ops (i::s) l':=fun{l} hs=>by
     cases l with
     |nil=>have:cZ ops s=[]:=hs;rw[hr]at this;cases this
     |cons j l=>have:=hs.1;rw[hr]at this;obtain rfl:=ad.1 this;exact⟨l,rfl,hs.2⟩
    have hi:i<ops.size:=(dL (s:=s) (by rw[hr];exact ad.2 rfl)).1;split at he
    ·cases he
    ·rename_i t' c h' fY;cases he;obtain⟨N,hN⟩:=jX Gd F X C fY;refine⟨N,fun s' t' h' hm {fn defers kind callers U0 ρ cs g w l k} hb hs I Γ=>?_⟩;cases ad.1 hm;obtain⟨l',rfl,OH⟩:=lR hs;exact hN I Γ
    ·rename_i t' h' fY;obtain⟨N,hN⟩:=jX Gd F X C fY;obtain⟨M,hM⟩:=ih he;refine⟨N+M,fun s' t2 h2 hm {fn defers kind callers U0 ρ cs g w l k} hb hs I Γ=>?_⟩;cases ad.1 hm;obtain⟨l',rfl,OH⟩:=lR hs;refine dy.trans (fun g' w' nx=>?_) (hN I Γ);obtain⟨bL,a1,a2,a3,a4,a5⟩:=nx;refine(hM (i::s) t' h' (ad.2 rfl) ?_ OH a4 a5).d_ fun g2 w2 x=>gh.Kn a1 a2 a3 x;intro j hj;rcases ac.1 hj with rfl|hj
     ·exact hi
     ·exact hb j hj
   ·rename_i hn1 OI;split at he
    ·rename_i L' di;obtain⟨_,N,hN⟩:=vl Gd F X C gu di;obtain⟨M,hM⟩:=ih he;refine⟨N+M,fun s' t2 h2 hm {fn defers kind callers U0 ρ cs g w l k} hb hs I Γ=>?_⟩;cases ad.1 hm;cases l with
     |nil=>exact absurd hs hn1
     |cons i l=>
      obtain⟨QU,vS⟩:=dL hs.1;have I':gq K U0 ⟨⟨fn,nt,t,.inRegion ops (i::l)::k,defers,.run,kind⟩,callers,h⟩:=I;refine dy.trans (fun g' w' fk=>?_) (hN i hs.1 QU vS I'.iC (I'.Kg rfl (fun n x=>.inl x) fun n x1 x2=>by simp[ij]at x2) Γ);obtain⟨s',t',h',b1,b2,bL,b3,b4,b5,b6⟩:=fk;refine(hM s' t' h' b1 (fun j hj=>?_) (hs.2.congr b2) ⟨I'.iC,b5⟩ b6).d_ fun g2 w2 x=>gh.lj b3 b4 x;rcases ac.1 ((b2 j).2 hj)with rfl|hj
      ·exact QU
      ·exact hb j hj
    ·cases he
  ·rename_i h0 hn;split at he
   ·rename_i L' di;obtain⟨_,N,hN⟩:=AW Gd F X C gu di;obtain⟨M,hM⟩:=ih he;refine⟨N+M,fun s' t2 h2 hm {fn defers kind callers U0 ρ cs g w l k} hb hs I Γ=>?_⟩;obtain⟨c1,c2⟩:=hN s' t2 h2 hm;cases l with
    |nil=>exact absurd hs c1
    |cons i l=>
     obtain⟨QU,vS⟩:=dL hs.1;obtain⟨I0,I⟩:=I;refine dy.trans (fun g' w' fk=>?_) (c2 i hs.1 I0 I Γ);obtain⟨s',t',h',b1,b2,bL,b3,b4,b5,b6⟩:=fk;refine(hM s' t' h' b1 (fun j hj=>?_) (hs.2.congr b2) ⟨I0,b5⟩ b6).d_ fun g2 w2 x=>gh.lj b3 b4 x;rcases ac.1 ((b2 j).2 hj)with rfl|hj
     ·exact QU
     ·exact hb j hj
   ·cases he
  ·cases he
theorem Dd{P:Program}{b:Frame}{a:Act}{k:List Item}{cs:List Frame}{w:World}{c:Code}:stepG P main (G (b.at a (.inScope c::k)) cs) w=.go (G (b.at a k) cs) w:=by simp[G,stepG,stepG.exec,Frame.at]
theorem HB{P:Program}{b:Frame}{a:Act}{k:List Item}{cs:List Frame}{w:World}{c:Code}:stepG P main (G (b.at a (.code (.scope c)::k)) cs) w=.go (G (b.at a (.code c::.inScope c::k)) cs) w:=by simp[G,stepG,stepG.exec,Frame.at]
theorem ua(F:K.il){tmps:TT}{h:AH}{id:Nat}{fn:FuncId}{defers:List AD}{kind:CallKind}{callers:List bH}{ρ:cn}{cs:List Frame}{g:Goroutine}{w:World}{k:List Item}
 (Γ:rh K ρ ⟨⟨fn,nt,tmps,.code (.region id ops true)::k,defers,.run,kind⟩,callers,h⟩ cs g w):
  dy K.P main (DK K) (fun g' w'=>∃t,cE K.own w w'∧rh K ρ ⟨⟨fn,nt,tmps,.inRegion ops (Region.schedule true ops t)::k,defers,.run,kind⟩,callers,h⟩ cs g' w') 1 g w:=by
 refine dy.one Γ.running fun d=>?_;obtain⟨R,tm,cC,h1,h2,h3,hc,rfl⟩:=mF.1 (Γ.drawn d);obtain⟨d',t,e⟩:=DP (main:=main) (ops:=ops) (b:=bB ρ fn kind) (a:=aB ρ kind tm defers) (k:=k) (cs:=cC++cs) (w:=cM w d) (id:=id) F.mixed;rw[e];exact⟨⟨⟨fun _ _=>rfl,aq _,rfl,rfl,rfl⟩,fun e he=>(by simp at he),fun _ _ _ _ x=>x⟩,t,⟨fun _ _=>rfl,aq _,rfl,rfl,rfl⟩,mF.2 ⟨R.at rfl,tm,cC,h1,h2,h3,hc,rfl⟩⟩
theorem yH(Gd:K.Good)(F:K.il){ext:Ext}(X:ib K ext){call:FuncId->List AV->AH->M (AE×AH)}(C:kz K main call){tmps:TT}{h:AH}{r:AR}{id:Nat}(he:v5 K.P K.O ext call nt ops tmps h=.ok r):
  ∃N,∀{fn defers kind callers U ρ cs g w k},gq K U ⟨⟨fn,nt,tmps,.code (.region id ops true)::k,defers,.run,kind⟩,callers,h⟩->rh K ρ ⟨⟨fn,nt,tmps,.code (.region id ops true)::k,defers,.run,kind⟩,callers,h⟩ cs g w->
   dy K.P main (DK K) (gh K U ρ cs w h fn nt k defers kind callers r) N g w:=by
 unfold v5 at he;split at he
 ·rename_i gu;obtain⟨N,hN⟩:=Ko Gd F X C gu he;refine⟨1+N,fun{fn defers kind callers U ρ cs g w k} I Γ=>?_⟩;have hs:=ua (main:=main) F Γ;refine dy.trans (fun g' w' ⟨t,kp,vj⟩=>?_) hs;refine(hN [] tmps h (ad.2 rfl) (fun j hj=>by cases hj) (jE ops t) (U0:=U) ⟨⟨I.da.tmps,I.da.defers,trivial⟩,I.callers,I.iC⟩ vj).d_ fun g2 w2 x=>gh.lj (cz.refl _ _) kp x
 ·cases he
end
section
variable {K:ik}{main:Bool}{nt:Nat}{ops:Array Oper}
theorem Fz{ρ:cn}{fn:FuncId}{t t':TT}{todo:List Item}{defers:List AD}{mode:ia}{kind:CallKind}{callers:List bH}{h:AH}{cs:List Frame}{g:Goroutine}{w:World}(e:∀n,t'.get n=t.get n)
 (Γ:rh K ρ ⟨⟨fn,nt,t',todo,defers,mode,kind⟩,callers,h⟩ cs g w):rh K ρ ⟨⟨fn,nt,t,todo,defers,mode,kind⟩,callers,h⟩ cs g w:=by
 obtain⟨R,fr,cC,⟨tm,td,is,rfl⟩,hc,rfl⟩:=Γ;exact⟨R,_,cC,⟨tm,td,⟨⟨is.tmps.size,is.tmps.le,fun n hn=>by rw[is.tmps.get n hn,e],fun n hn=>by rw[<-e];exact is.tmps.out n hn⟩,is.kind,is.todo,is.fn⟩,rfl⟩,hc,rfl⟩
theorem zK{U:Nat->Prop}{fn:FuncId}{t t':TT}{todo:List Item}{defers:List AD}{mode:ia}{kind:CallKind}{callers:List bH}{h:AH}(e:∀n,t'.get n=t.get n)
 (I:gq K U ⟨⟨fn,nt,t',todo,defers,mode,kind⟩,callers,h⟩):gq K U ⟨⟨fn,nt,t,todo,defers,mode,kind⟩,callers,h⟩:=
 ⟨⟨fun n=>by have:=I.da.tmps n;rw[e]at this;exact this,I.da.defers,I.da.mode⟩,I.callers,I.iC⟩
theorem vn{ρ:cn}{fn:FuncId}{t:TT}{todo:List Item}{defers:List AD}{mode:ia}{kind:CallKind}{callers:List bH}{h:AH}{cs:List Frame}{g:Goroutine}{w:World}(Γ:rh K ρ ⟨⟨fn,nt,t,todo,defers,mode,kind⟩,callers,h⟩ cs g w):nt≤60000:=by obtain⟨R,fr,cC,⟨tm,td,is,rfl⟩,hc,rfl⟩:=Γ;exact is.tmps.le
def R_(K:ik)(nt:Nat)(ops:Array Oper)(U:Nat->Prop)(s:List Nat)(t:TT)(h:AH)(ρ:cn)(cs:List Frame)(w:World)(fn:FuncId)(k:List Item)(defers:List AD)(kind:CallKind)(callers:List bH)(g':Goroutine)(w':World):Prop:=
 ∃r' DV l' bL,lK ops nt s r' t DV∧iq ops r' l'∧cz U ρ bL∧cE K.own w w'∧gq K U ⟨⟨fn,nt,DV,.inRegion ops l'::k,defers,.run,kind⟩,callers,ij h⟩∧rh K bL ⟨⟨fn,nt,DV,.inRegion ops l'::k,defers,.run,kind⟩,callers,h⟩ cs g' w'∧
  (l'=[]∨∃i l'',l'=i::l''∧i∉s)
theorem Xj(Gd:K.Good)(F:K.il){ext:Ext}(X:ib K ext){call:FuncId->List AV->AH->M (AE×AH)}(C:kz K main call)(hok:jx ops (dm ops)=true){s:List Nat}{m:Nat}{t:TT}{h:AH}(hc:ut s m)
 (hq:pS K.P K.O ext nt ops (JL (dm ops) m) t (ij h) (dm ops)=true){U:Nat->Prop}{cs:List Frame}{fn:FuncId}{k:List Item}{defers:List AD}{kind:CallKind}{callers:List bH}:
  ∀{l r:List Nat} {tr:TT} {ρ:cn} {g:Goroutine} {w:World},lK ops nt s r t tr->iq ops r l->gq K U ⟨⟨fn,nt,tr,.inRegion ops l::k,defers,.run,kind⟩,callers,ij h⟩->
   rh K ρ ⟨⟨fn,nt,tr,.inRegion ops l::k,defers,.run,kind⟩,callers,h⟩ cs g w->dy K.P main (DK K) (R_ K nt ops U s t h ρ cs w fn k defers kind callers) 0 g w
 |[],r,tr,ρ,g,w,N,sc,I,Γ=>dy.stop ⟨r,tr,[],ρ,N,sc,cz.refl _ _,cE.refl _ _,I,Γ,.inl rfl⟩
 |i::l,r,tr,ρ,g,w,N,sc,I,Γ=>by
  by_cases hi:i∈s
  ·obtain⟨Dc,hsc⟩:=sc;obtain⟨_,o,ho,_⟩:=fL.1 Dc;obtain⟨o',vm,hqo⟩:=N.k7 i hi (dL Dc).2;rw[ho]at vm;cases vm;obtain⟨v,hv,hd⟩:=xP hq _ (fy.2 ⟨i,o,ho,rfl⟩) hqo (N.rem hc hi (dL Dc).2);have al:=N.MG hok ho Dc;have fY:kv K.P K.O ext call nt ops i tr (ij h)=.ok (.on (jQ nt tr o.dst v) (ij h)):=wD ho hqo (by
    rcases hv with⟨a,b⟩|⟨a,h',b⟩
    ·exact .inl ⟨by rw[al.wanted];exact a,b⟩
    ·exact .inr ⟨by rw[al.wanted];exact a,h',by rw[xO al.eval];exact b⟩)
   obtain⟨M,hM⟩:=jX Gd F X C fY;refine(dy.trans (m:=0) (fun g' w' nx=>?_) (hM I (Γ.hp rfl))).any;obtain⟨bL,a1,a2,a3,a4,a5⟩:=nx;have I':=a4.congr (U':=U) fun n=>(mg U _ n).symm;refine(Xj Gd F X C hok hc hq (N.drawn (vn Γ) ho hi Dc hd) hsc I' (a5.hp rfl)).d_ fun g2 w2 p=>?_;obtain⟨r',DV,l',rn,b1,b2,b3,b4,b5⟩:=p;exact⟨r',DV,l',rn,b1,b2,a1.trans b3 (fun _ x=>x),a2.trans b4,b5⟩
  ·exact dy.stop ⟨r,tr,i::l,ρ,N,sc,cz.refl _ _,cE.refl _ _,I,Γ,.inr ⟨i,l,rfl,hi⟩⟩
def s9(ops:Array Oper)(L:uo):Prop:=∀e∈L,ut e.1 e.2.1∧pe ops e.1
theorem A_{s:List Nat}{m:Nat}{t:TT}{h:AH}:∀{L L':uo},v3 s m t h L=.ok L'->(∀e∈L,e∈L')∧(s9 ops L->ut s m->pe ops s->s9 ops L')∧∃s' h',(s',m,t,h')∈L'∧h'.hp=h.hp
 |[],L',he=>by simp only[v3]at he;cases he;refine⟨(fun e x=>by cases x),fun _ a b e he=>?_,s,h,ad.2 rfl,rfl⟩;cases ad.1 he;exact⟨a,b⟩
 |(s',m',t',h')::L,L',he=>by
  simp only[v3]at he;split at he
  ·rename_i hs;obtain rfl:=aI hs;split at he
   ·rename_i hq;cases he;simp only[ax]at hq;obtain rfl:=TT.dG hq.1;exact⟨fun e x=>x,fun a _ _=>a,s',h',an ..,(G4 hq.2).symm⟩
   ·cases he
  ·split at he
   ·rename_i l hl;cases he;obtain⟨a,ag,s2,h2,b,c⟩:=A_ (L:=L) hl;refine⟨fun e x=>?_,fun g1 g2 g3 e x=>?_,s2,h2,am _ b,c⟩
    ·rcases ac.1 x with rfl|x
     ·exact an ..
     ·exact am _ (a e x)
    ·rcases ac.1 x with rfl|x
     ·exact g1 _ (an ..)
     ·exact ag (fun e he=>g1 e (am _ he)) g2 g3 e x
   ·cases he
theorem MH{P:Program}{O:dP}{ext:Ext}{call:FuncId->List AV->AH->M (AE×AH)}{dO:List lJ}{s:List Nat}{m:Nat}{t:TT}{h:AH}{i:Nat}{s2:List Nat}{m2:Nat}{t2:TT}{h1:AH}
 (he:WO P O ext call nt ops dO s m t h i=.ok (s2,m2,t2,h1)):∃t1,kv P O ext call nt ops i t h=.ok (.on t1 h1)∧po P O ext nt ops (ij h1) dO (i::s) (xE m i) t1=.ok (s2,m2,t2):=by
 unfold WO at he;split at he
 ·cases he
 ·cases he
 ·rename_i t1 Fv fY;split at he
  ·cases he
  ·rename_i hs;cases he;exact⟨t1,fY,hs⟩
def Sa(P:Program)(O:dP)(ext:Ext)(call:FuncId->List AV->AH->M (AE×AH))(nt:Nat)(ops:Array Oper)(h0:AH)(s:List Nat)(m:Nat)(t:TT)(h:AH)(i:Nat)(L':uo):Prop:=
 ∃t1 h1 s2 m2 t2 s' h',kv P O ext call nt ops i t (ol h0 i h)=.ok (.on t1 h1)∧h1.nb≤h1.eH∧po P O ext nt ops (ij h1) (dm ops) (i::s) (xE m i) t1=.ok (s2,m2,t2)∧(s',m2,t2,h')∈L'∧h'.hp=h1.hp
theorem s_{P:Program}{O:dP}{ext:Ext}{call:FuncId->List AV->AH->M (AE×AH)}(rW:nt≤60000){h0:AH}{s:List Nat}{m:Nat}{t:TT}{h:AH}(hc:ut s m)(tp:pe ops s):
  ∀{js:List lJ},(∀x∈js,x∈dm ops∧v2 m x=true)->∀{L L':uo},qq P O ext call nt ops (dm ops) h0 s m t h js L=.ok L'->(∀e∈L,e∈L')∧(s9 ops L->s9 ops L')∧∀x∈js,Sa P O ext call nt ops h0 s m t h x.1 L'
 |[],_,L,L',he=>by simp only[qq]at he;cases he;exact⟨fun e x=>x,fun g=>g,fun x hx=>by cases hx⟩
 |x::js,hj,L,L',he=>by
  simp only[qq]at he;split at he
  ·cases he
  ·rename_i s2 m2 t2 h1 pb;split at he
   ·rename_i aiD;split at he
    ·rename_i L1 adf;obtain⟨t1,fY,ub⟩:=MH pb;obtain⟨hx,Ba⟩:=hj x (an ..);obtain⟨i,o,ho,rfl⟩:=fy.1 hx;have hr:=(nO hc ho).1 Ba;have S:=li rW (fun _ x=>x) (hc.add (i:=i)) (show pe ops (i::s)from⟨hr,tp⟩) ub;obtain⟨a1,a2,s',h',a3,a4⟩:=A_ (ops:=ops) adf;obtain⟨b1,b2,b3⟩:=s_ rW hc tp (fun y hy=>hj y (am _ hy)) he;refine⟨fun e x=>b1 e (a1 e x),fun g=>b2 (a2 g S.cons S.A9),fun y hy=>?_⟩;rcases ac.1 hy with rfl|hy
     ·exact⟨t1,h1,s2,m2,t2,s',h',fY,aiD,ub,b1 _ a3,a4⟩
     ·exact b3 y hy
    ·cases he
   ·cases he
theorem yI{P:Program}{O:dP}{ext:Ext}{call:FuncId->List AV->AH->M (AE×AH)}(rW:nt≤60000){h0:AH}:
  ∀{A:uo},s9 ops A->∀{L L':uo},sF P O ext call nt ops (dm ops) h0 A L=.ok L'->(∀e∈L,e∈L')∧(s9 ops L->s9 ops L')∧
   ∀s m t h,(s,m,t,h)∈A->(dm ops).filter (v2 m)≠[]∧∀x∈(dm ops).filter (v2 m),Sa P O ext call nt ops h0 s m t h x.1 L'
 |[],_,L,L',he=>by simp only[sF]at he;cases he;exact⟨fun e x=>x,fun g=>g,fun _ _ _ _ x=>by cases x⟩
 |(s,m,t,h)::A,gA,L,L',he=>by
  simp only[sF]at he;split at he
  ·cases he
  ·rename_i df;split at he
   ·rename_i L1 h1;obtain⟨hc,tp⟩:=gA _ (an ..);obtain⟨a1,a2,a3⟩:=s_ rW hc tp (fun x hx=>by
     obtain⟨p,q⟩:=aU.1 hx;exact⟨p,q⟩) h1
    obtain⟨b1,b2,b3⟩:=yI rW (fun e he=>gA e (am _ he)) he;refine⟨fun e x=>b1 e (a1 e x),fun g=>b2 (a2 g),fun s' m' t' h' hm=>?_⟩;rcases ac.1 hm with hq|hm
    ·cases hq;refine⟨df,fun x hx=>?_⟩;obtain⟨t1,h1,s2,m2,t2,s',h',c1,c2,c3,c4,c5⟩:=a3 x hx;exact⟨t1,h1,s2,m2,t2,s',h',c1,c2,c3,b1 _ c4,c5⟩
    ·exact b3 s' m' t' h' hm
   ·cases he
theorem lK.head{s r:List Nat}{m:Nat}{t tr:TT}(N:lK ops nt s r t tr)(hc:ut s m){i:Nat}(hi:i∈cZ ops r)(hn:i∉s):∃o,ops[i]?=some o∧i∈cZ ops s∧(i,o,iz o.after.toList,jS o)∈(dm ops).filter (v2 m):=by obtain⟨_,o,ho,hp⟩:=fL.1 hi;have hr:i∈cZ ops s:=fL.2 ⟨hn,o,ho,fun e he hb=>N.sub _ (hp e he hb)⟩;exact⟨o,ho,hr,aU.2 ⟨fy.2 ⟨i,o,ho,rfl⟩,(nO hc ho).2 hr⟩⟩
theorem DW(Gd:K.Good)(F:K.il){ext:Ext}(X:ib K ext){call:FuncId->List AV->AH->M (AE×AH)}(C:kz K main call)(gu:ops.size≤65536)(hok:jx ops (dm ops)=true){h0:AH}{s r:List Nat}{m:Nat}{t tr:TT}{h:AH}{i:Nat}{L':uo}
 (hc:ut s m)(tp:pe ops s)(gL:s9 ops L')(Md:Sa K.P K.O ext call nt ops h0 s m t h i L')(N:lK ops nt s r t tr)(hi:i∈cZ ops r)(hn:i∉s){U0:Nat->Prop}{ρ:cn}{cs:List Frame}{g:Goroutine}{w:World}{fn:FuncId}{l:List Nat}{k:List Item}{defers:List AD}{kind:CallKind}{callers:List bH}
 (I0:h_ K U0 h0)(I:gq K (Us U0 h0 s) ⟨⟨fn,nt,tr,.inRegion ops (i::l)::k,defers,.run,kind⟩,callers,ij h⟩)(Γ:rh K ρ ⟨⟨fn,nt,tr,.inRegion ops (i::l)::k,defers,.run,kind⟩,callers,h⟩ cs g w):
  dy K.P main (DK K) (fun g' w'=>∃s' m' t' h' DV bL,(s',m',t',h')∈L'∧lK ops nt s' (i::r) t' DV∧cz U0 ρ bL∧cE K.own w w'∧gq K (Us U0 h0 s') ⟨⟨fn,nt,DV,.inRegion ops l::k,defers,.run,kind⟩,callers,ij h'⟩∧
   rh K bL ⟨⟨fn,nt,DV,.inRegion ops l::k,defers,.run,kind⟩,callers,h'⟩ cs g' w') 0 g w:=by
 obtain⟨t1,h1,s2,m2,t2,s',h',c1,c2,c3,c4,c5⟩:=Md;obtain⟨o,ho,hr,_⟩:=N.head hc hi hn;have rW:=vn Γ;obtain⟨v,rfl,fY⟩:=wC ho (N.MG hok ho hi) c1;have S:=li rW (fun _ x=>x) (hc.add (i:=i)) (show pe ops (i::s)from⟨hr,tp⟩) c3;have QU:=(dL hr).1;obtain⟨M,hM⟩:=jX Gd F X C fY;have I':gq K (Us U0 h0 s) ⟨⟨fn,nt,tr,.inRegion ops (i::l)::k,defers,.run,kind⟩,callers,ol h0 i h⟩:=
  I.Kg rfl (fun n x=>x) fun n x1 x2=>Hz I0 (by omega) hn x1 x2
 have mem:∀j,j∈s2↔j∈s':=fun j=>((S.cons j).symm).trans ((gL _ c4).1 j);refine((hM I' (Γ.hp rfl)).d_ fun g' w' nx=>?_).any;obtain⟨bL,a1,a2,a3,a4,a5⟩:=nx;have NN:=N.next rW ho hn hi S;have NN':lK ops nt s' (i::r) t2 (jQ nt tr o.dst v):=⟨fun j hj=>(mem j).1 (NN.sub j hj),fun j hj hx=>NN.k7 j ((mem j).2 hj) hx,fun n dU hx=>NN.eL n dU fun⟨j,oj,x1,x2⟩=>hx ⟨j,oj,(mem j).1 x1,x2⟩,NN.out,NN.down⟩;refine⟨s',m2,t2,h',_,bL,c4,NN',a1.mono (fun n x=>.inl x),a2,?_,a5.hp c5⟩;refine a4.Kg c5 (fun n x=>?_) fun n x1 x2=>by simp[ij]at x2
 rcases x with(x|⟨q,q1,q2⟩)|x
 ·exact .inl x
 ·exact .inr ⟨q,(mem q).1 (S.sub q (am _ q1)),q2⟩
 ·have hl:h1.eH=(ol h0 i h).eH:=a3.eH;refine .inr ⟨i,(mem i).1 (S.sub i (an ..)),x.1,?_⟩;have Fx:h1.eH=h0.nb+(i+1)*jm h0:=hl;have hx:=x.2;dsimp only at hx;omega
theorem HC(Gd:K.Good)(F:K.il){ext:Ext}(X:ib K ext){call:FuncId->List AV->AH->M (AE×AH)}(C:kz K main call)(gu:ops.size≤65536)(hok:jx ops (dm ops)=true)(rW:nt≤60000):
  ∀{n:Nat} {u7:Option AH} {L:uo} {R:AR},mO K.P K.O ext call nt ops (dm ops) n u7 L=.ok R->s9 ops L->
   ∀s m t h,(s,m,t,h)∈L->∀{fn defers kind callers U0 ρ cs g w l k r tr},lK ops nt s r t tr->iq ops r l->
    abs K U0 s ⟨fn,nt,tr,.inRegion ops l::k,defers,.run,kind⟩ callers h u7->rh K ρ ⟨⟨fn,nt,tr,.inRegion ops l::k,defers,.run,kind⟩,callers,h⟩ cs g w->
    dy K.P main (DK K) (gh K U0 ρ cs w (u7.getD h) fn nt k defers kind callers R) 0 g w:=by
 intro n
 induction n with
 |zero=>intro u7 L R he;simp only[mO]at he;cases he
 |succ n ih=>
  intro u7 L R he gL;simp only[mO]at he;split at he
  ·cases he
  rename_i CP;rw[aO]at CP;have ze:∀s m t h,(s,m,t,h)∈L->pS K.P K.O ext nt ops (JL (dm ops) m) t (ij h) (dm ops)=true:=fun s m t h hm=>by have:=CP _ hm;unfold Mh at this;rw[ax]at this;exact this.2
  split at he
  ·rename_i s m t h h0;intro s' m' t' h' hm fn defers kind callers U0 ρ cs g w l k r tr N sc I Γ;cases ad.1 hm;obtain⟨I0,I⟩:=I;obtain⟨hc,tp⟩:=gL _ (ad.2 rfl);have di:ops.size*jm h0≤h0.eH-h0.nb:=bp (bq _ gu) (Nat.mul_div_le _ _);have hI:gq K (plus U0 h0.nb (kQ h0 ops.size h).nb) ⟨⟨fn,nt,tr,.inRegion ops l::k,defers,.run,kind⟩,callers,kQ h0 ops.size h⟩:=by
    refine I.Kg rfl (fun m x=>?_) fun m x1 x2 x3=>?_
    ·rcases x with x|⟨j,j1,j2,j3⟩
     ·exact .inl x
     ·refine .inr ⟨by omega,Nat.lt_of_lt_of_le j3 (Nat.add_le_add_left (bq _ (tp.lt j j1)) _)⟩
    ·have hx1:h0.nb+ops.size*jm h0≤m:=x1;rcases x3 with x|x
     ·exact I0.fresh m (by omega) x2 x
     ·have:=x.2;exact absurd this (Nat.not_lt.2 x1)
   have gr:d6 K U0 h0 (kQ h0 ops.size h):=⟨Nat.le_add_right _ _,rfl,hI.iC⟩;have:=ih he (fun e he=>by cases ad.1 he;exact⟨hc,tp⟩) s m t _ (ad.2 rfl) N sc hI (Γ.hp rfl);exact this.d_ fun g' w' x=>gh.Kn (cz.refl _ _) (cE.refl _ _) gr x
  ·rename_i s m t h;intro s' m' t' h' hm fn defers kind callers U0 ρ cs g w l k r tr N sc I Γ;cases ad.1 hm;obtain⟨hc,tp⟩:=gL _ (ad.2 rfl);have I1:gq K U0 ⟨⟨fn,nt,tr,.inRegion ops l::k,defers,.run,kind⟩,callers,h⟩:=I;have Wp:=Xj Gd F X C hok hc (ze _ _ _ _ (ad.2 rfl)) N sc (I1.Kg (h':=ij h) rfl (fun n x=>x) fun n x1 x2=>by simp[ij]at x2) Γ;refine(dy.trans (m:=0) (fun g1 w1 p=>?_) Wp).any;obtain⟨r1,tr1,l1,bW,N1,JB,A1,kp1,Ib,Γ1,RP⟩:=p;have J1:gq K U0 ⟨⟨fn,nt,tr1,.inRegion ops l1::k,defers,.run,kind⟩,callers,h⟩:=⟨Ib.da,Ib.callers,I1.iC⟩;split at he
   ·rename_i hr;cases he;rcases RP with rfl|⟨i,l2,rfl,hi⟩
    ·obtain⟨_,_,e⟩:=N1.over tp JB;have L1:=fU (K:=K) (main:=main) (fn:=fn) (nt:=nt) (tmps:=t) (todo:=.inRegion ops []::k) (todo':=k) (defers:=defers) (kind:=kind) (callers:=callers) (h:=h) (fun ρ tm w cs R T b ds=>oF);exact((L1 U0 bW cs g1 w1 (zK e J1) (Fz e Γ1)).d_ fun g2 w2 x=>gh.lj A1 kp1 (r:=.on t h) x).any
    ·obtain⟨o,_,_,hx⟩:=N1.head hc JB.1 hi;rw[hr]at hx;cases hx
   ·rename_i x hr;split at he
    ·cases he
    ·rename_i e pb;obtain⟨s2,m2,t2,h2⟩:=e;obtain⟨t1,fY,ub⟩:=MH pb;rcases RP with rfl|⟨i,l2,rfl,hi⟩
     ·obtain⟨_,e,_⟩:=N1.over tp JB;have hx:x∈(dm ops).filter (v2 m):=by rw[hr];exact ad.2 rfl
      obtain⟨p,q⟩:=aU.1 hx;obtain⟨i,o,ho,rfl⟩:=fy.1 p;have:=(nO hc ho).1 q;rw[e]at this;cases this
     ·obtain⟨o,ho,hrs,hx⟩:=N1.head hc JB.1 hi;rw[hr]at hx;obtain rfl:=ad.1 hx;dsimp only at fY ub;obtain⟨v,rfl,apg⟩:=wC ho (N1.MG hok ho JB.1) fY;have S:=li rW (fun _ x=>x) (hc.add (i:=i)) (show pe ops (i::s)from⟨hrs,tp⟩) ub;obtain⟨M,hM⟩:=jX Gd F X C apg;refine(dy.trans (m:=0) (fun g2 w2 nx=>?_) (hM J1 Γ1)).any;obtain⟨rn,a1,a2,a3,a4,a5⟩:=nx;refine(ih he (fun e he=>by cases ad.1 he;exact⟨S.cons,S.A9⟩) s2 m2 t2 h2 (ad.2 rfl) (N1.next rW ho hi JB.1 S) JB.2 a4 a5).d_ fun g3 w3 y=>?_;exact gh.lj A1 kp1 (gh.Kn a1 a2 a3 y)
   ·rename_i hn1 OI;split at he
    ·rename_i L' di;obtain⟨_,g2,HD⟩:=s_ rW hc tp (fun x hx=>by
      obtain⟨p,q⟩:=aU.1 hx;exact⟨p,q⟩) di
     have gL':s9 ops L':=g2 fun e he=>by cases he
     rcases RP with rfl|⟨i,l2,rfl,hi⟩
     ·obtain⟨_,e,_⟩:=N1.over tp JB;refine absurd (List.eq_nil_iff_forall_not_mem.2 fun x hx=>?_) hn1;obtain⟨p,q⟩:=aU.1 hx;obtain⟨i,o,ho,rfl⟩:=fy.1 p;have:=(nO hc ho).1 q;rw[e]at this;cases this
     ·obtain⟨o,ho,hrs,hx⟩:=N1.head hc JB.1 hi;have Md:=HD _ hx;refine(dy.trans (m:=0) (fun g2 w2 nx=>?_) (DW Gd F X C gu hok hc tp gL' Md N1 JB.1 hi J1.iC (Ib.Kg rfl (fun n x=>.inl x) fun n x1 x2=>by simp[ij]at x2) Γ1)).any;obtain⟨s3,m3,t3,h3,tr3,qm,b1,b2,b3,b4,b5,b6⟩:=nx;refine(ih he gL' s3 m3 t3 h3 b1 b2 JB.2 ⟨J1.iC,b5⟩ b6).d_ fun g3 w3 y=>?_;exact gh.lj A1 kp1 (gh.lj b3 b4 y)
    ·cases he
  ·rename_i h0 hn;split at he
   ·rename_i L' di;obtain⟨_,g2,HD⟩:=yI rW gL di;have gL':s9 ops L':=g2 fun e he=>by cases he
    intro s m t h hm fn defers kind callers U0 ρ cs g w l k r tr N sc I Γ;obtain⟨hc,tp⟩:=gL _ hm;obtain⟨df,HD⟩:=HD s m t h hm;obtain⟨I0,I⟩:=I;have Wp:=Xj Gd F X C hok hc (ze _ _ _ _ hm) N sc I Γ;refine(dy.trans (m:=0) (fun g1 w1 p=>?_) Wp).any;obtain⟨r1,tr1,l1,bW,N1,JB,A1,kp1,Ib,Γ1,RP⟩:=p;rcases RP with rfl|⟨i,l2,rfl,hi⟩
    ·obtain⟨_,e,_⟩:=N1.over tp JB;refine absurd (List.eq_nil_iff_forall_not_mem.2 fun x hx=>?_) df;obtain⟨p,q⟩:=aU.1 hx;obtain⟨i,o,ho,rfl⟩:=fy.1 p;have:=(nO hc ho).1 q;rw[e]at this;cases this
    ·obtain⟨o,ho,hrs,hx⟩:=N1.head hc JB.1 hi;have Md:=HD _ hx;refine(dy.trans (m:=0) (fun g2 w2 nx=>?_) (DW Gd F X C gu hok hc tp gL' Md N1 JB.1 hi I0 Ib Γ1)).any;obtain⟨s3,m3,t3,h3,tr3,qm,b1,b2,b3,b4,b5,b6⟩:=nx;refine(ih he gL' s3 m3 t3 h3 b1 b2 JB.2 ⟨I0,b5⟩ b6).d_ fun g3 w3 y=>?_;exact gh.lj (A1.mono fun n x=>.inl x) kp1 (gh.lj b3 b4 y)
   ·cases he
  ·cases he
theorem HE(Gd:K.Good)(F:K.il){ext:Ext}(X:ib K ext){call:FuncId->List AV->AH->M (AE×AH)}(C:kz K main call){tmps:TT}{h:AH}{r:AR}{id:Nat}(he:drawn K.P K.O ext call nt ops tmps h=.ok r):
  ∃N,∀{fn defers kind callers U ρ cs g w k},gq K U ⟨⟨fn,nt,tmps,.code (.region id ops true)::k,defers,.run,kind⟩,callers,h⟩->rh K ρ ⟨⟨fn,nt,tmps,.code (.region id ops true)::k,defers,.run,kind⟩,callers,h⟩ cs g w->
   dy K.P main (DK K) (gh K U ρ cs w h fn nt k defers kind callers r) N g w:=by
 unfold drawn at he;split at he
 ·exact yH Gd F X C he
 ·rename_i hb;rw[ax]at hb;have gu:ops.size≤65536:=Nat.le_of_ble_eq_true hb.1;split at he
  ·rename_i r' hm;cases he;refine⟨0,fun{fn defers kind callers U ρ cs g w k} I Γ=>?_⟩;unfold Rg at hm;split at hm
   ·cases hm
   ·rename_i s m t ub;have rW:=vn Γ;have S:=li rW (fun _ x=>x) AY (show pe ops []from trivial) ub;refine(dy.trans (m:=0) (fun g' w' ⟨q,kp,vj⟩=>?_) (ua (main:=main) F Γ)).any;refine(HC Gd F X C gu hb.2 rW hm (fun e he=>by cases ad.1 he;exact⟨S.cons,S.A9⟩) s m t h (ad.2 rfl) (lK.begin S) (jE ops q) (U0:=U) ⟨⟨I.da.tmps,I.da.defers,trivial⟩,I.callers,I.iC⟩ vj).d_ fun g2 w2 x=>gh.lj (cz.refl _ _) kp x
  ·exact yH Gd F X C he
end
section
variable {K:ik}{main:Bool}{nt:Nat}{ops:Array Oper}
theorem vo{r:List Nat}(d:wE ops r):∀{l:List lJ},(∀x∈l,x∈dm ops)->∀{m:Nat},(∀i,pR m i=true->i∈r)->∀i,pR (nu l m) i=true->i∈r
 |[],_,m,hm,i,hi=>hm i hi
 |x::l,hl,m,hm,i,hi=>by
  have ih:=vo d (l:=l) (fun y hy=>hl y (am _ hy)) hm;simp only[nu]at hi;split at hi
  ·rename_i hx;have h1:pR (nu l m) i=true∨pR x.2.2.1 i=true:=by
    rw[fG]at hi⊢;rw[fG];have e:Nat.lor (nu l m) x.2.2.1=nu l m ||| x.2.2.1:=rfl
    rw[e,Nat.testBit_or,Bool.or_eq_true]at hi;exact hi
   rcases h1 with h1|h1
   ·exact ih i h1
   ·obtain⟨j,o,ho,rfl⟩:=fy.1 (hl x (an ..));obtain⟨e,he,hb,rfl⟩:=oH.1 h1;exact d j (ih j hx) o ho e he hb
  ·exact ih i hi
theorem Sb(Gd:K.Good)(F:K.il){ext:Ext}(X:ib K ext){call:FuncId->List AV->AH->M (AE×AH)}(C:kz K main call)(hok:jx ops (dm ops)=true){s:List Nat}{m:Nat}{t:TT}{h:AH}(hc:ut s m)
 (hq:pS K.P K.O ext nt ops m t (ij h) (dm ops)=true){U:Nat->Prop}{cs:List Frame}{fn:FuncId}{k:List Item}{defers:List AD}{kind:CallKind}{callers:List bH}:
  ∀{l r:List Nat} {tr:TT} {ρ:cn} {g:Goroutine} {w:World},lK ops nt s r t tr->iq ops r l->wE ops r->gq K U ⟨⟨fn,nt,tr,.inRegion ops l::k,defers,.run,kind⟩,callers,ij h⟩->
   rh K ρ ⟨⟨fn,nt,tr,.inRegion ops l::k,defers,.run,kind⟩,callers,h⟩ cs g w->dy K.P main (DK K) (fun g' w'=>∃r' DV l' bL,wE ops r'∧lK ops nt s r' t DV∧iq ops r' l'∧cz U ρ bL∧cE K.own w w'∧gq K U ⟨⟨fn,nt,DV,.inRegion ops l'::k,defers,.run,kind⟩,callers,ij h⟩∧rh K bL ⟨⟨fn,nt,DV,.inRegion ops l'::k,defers,.run,kind⟩,callers,h⟩ cs g' w'∧
  (l'=[]∨∃i l'',l'=i::l''∧i∉s)) 0 g w
 |[],r,tr,ρ,g,w,N,sc,dn,I,Γ=>dy.stop ⟨r,tr,[],ρ,dn,N,sc,cz.refl _ _,cE.refl _ _,I,Γ,.inl rfl⟩
 |i::l,r,tr,ρ,g,w,N,sc,dn,I,Γ=>by
  by_cases hi:i∈s
  ·obtain⟨Dc,hsc⟩:=sc;obtain⟨_,o,ho,_⟩:=fL.1 Dc;obtain⟨o',vm,hqo⟩:=N.k7 i hi (dL Dc).2;rw[ho]at vm;cases vm;obtain⟨v,hv,hd⟩:=xP hq _ (fy.2 ⟨i,o,ho,rfl⟩) hqo ((hc i).2 hi);have al:=N.MG hok ho Dc;have fY:kv K.P K.O ext call nt ops i tr (ij h)=.ok (.on (jQ nt tr o.dst v) (ij h)):=wD ho hqo (by
    rcases hv with⟨a,b⟩|⟨a,h',b⟩
    ·exact .inl ⟨by rw[al.wanted];exact a,b⟩
    ·exact .inr ⟨by rw[al.wanted];exact a,h',by rw[xO al.eval];exact b⟩)
   obtain⟨M,hM⟩:=jX Gd F X C fY;refine(dy.trans (m:=0) (fun g' w' nx=>?_) (hM I (Γ.hp rfl))).any;obtain⟨bL,a1,a2,a3,a4,a5⟩:=nx;have I':=a4.congr (U':=U) fun n=>(mg U _ n).symm;refine(Sb Gd F X C hok hc hq (N.drawn (vn Γ) ho hi Dc hd) hsc (dn.cons Dc) I' (a5.hp rfl)).d_ fun g2 w2 p=>?_;obtain⟨r',DV,l',rn,b0,b1,b2,b3,b4,b5⟩:=p;exact⟨r',DV,l',rn,b0,b1,b2,a1.trans b3 (fun _ x=>x),a2.trans b4,b5⟩
  ·exact dy.stop ⟨r,tr,i::l,ρ,dn,N,sc,cz.refl _ _,cE.refl _ _,I,Γ,.inr ⟨i,l,rfl,hi⟩⟩
theorem OJ(Gd:K.Good)(F:K.il){ext:Ext}(X:ib K ext){call:FuncId->List AV->AH->M (AE×AH)}(C:kz K main call){tmps t:TT}{h:AH}{j id:Nat}(he:JM K.P K.O ext nt ops (dm ops) tmps h=some (j,t)){fn:FuncId}{defers:List AD}{kind:CallKind}{callers:List bH}{k:List Item}:
  mQ K main ⟨⟨fn,nt,tmps,.code (.region id ops true)::k,defers,.run,kind⟩,callers,h⟩ ⟨⟨fn,nt,t,.inRegion ops [j]::k,defers,.run,kind⟩,callers,h⟩ 0:=by
 intro U ρ cs g w I Γ;unfold JM at he;split at he
 ·rename_i x hx;split at he
  ·cases he
  ·rename_i hb;simp only[ax]at hb;obtain⟨_,J9,Fj⟩:=hb;split at he
   ·cases he
   ·rename_i s m t' ub;split at he
    ·rename_i hz;simp only[ax]at hz;obtain⟨⟨z1,z2⟩,z3⟩:=hz;cases he;have rW:=vn Γ;have S:=li rW (fun _ x=>x) AY (show pe ops []from trivial) ub;have hxm:x∈dm ops:=(aU.1 (show x∈(dm ops).filter fun x=>!x.2.2.2 by rw[hx];exact ad.2 rfl)).1;obtain⟨j,oj,Xg,rfl⟩:=fy.1 hxm;dsimp only at z1 z2⊢;have Km:j∈cZ ops s:=(nO S.cons Xg).1 z1;have hjs:j∉s:=(dL Km).2;rw[aO]at z2;have HF:∀i,i<ops.size->i≠j->i∈s∧pR (nu (dm ops) (iz oj.after.toList)) i=true:=by
      intro i hi df;have:=z2 _ (fy.2 ⟨i,ops[i],aT hi,rfl⟩);simp only[Bool.or_eq_true,ax]at this;rcases this with h1|⟨h1,h2⟩
      ·exact absurd (aI h1) df
      ·exact⟨(S.cons i).1 h1,h2⟩
     refine(dy.trans (m:=0) (fun g' w' ⟨q,kp,vj⟩=>?_) (ua (main:=main) F Γ)).any;have I0:gq K U ⟨⟨fn,nt,tmps,.inRegion ops (Region.schedule true ops q)::k,defers,.run,kind⟩,callers,ij h⟩:=
      ⟨⟨I.da.tmps,I.da.defers,trivial⟩,I.callers,⟨I.iC.hp,I.iC.keys,I.iC.nodup,fun n h1 h2=>(by simp[ij]at h2),I.iC.zE⟩⟩
     refine(Sb Gd F X C Fj S.cons z3 (lK.begin S) (jE ops q) (fun i hi=>by cases hi) I0 vj).d_ fun g2 w2 p=>?_;obtain⟨r',DV,l',rn,dn,N,sc,A2,R5,I2,Γ2,hl⟩:=p;rcases hl with rfl|⟨i,l2,rfl,hi⟩
     ·have:=(N.over S.A9 sc).2.1;rw[this]at Km;cases Km
     ·have Dc:=sc.1;have hij:i=j:=Classical.byContradiction fun df=>hi (HF i (dL Dc).1 df).1;subst hij;have hpr:∀a,pR (iz oj.after.toList) a=true->a∈r':=by
       intro a ha;obtain⟨e,he,hbb,rfl⟩:=oH.1 ha;obtain⟨_,o',vm,hp⟩:=fL.1 Dc;rw[Xg]at vm;cases vm;exact hp e he hbb
      have jc:∀a,a<ops.size->a≠i->a∈r':=fun a ha df=>vo dn (fun _ x=>x) hpr a (HF a ha df).2;have Fx:l2=[]:=by
       cases l2 with
       |nil=>rfl
       |cons b l3=>
        have hb:=dL sc.2.1;refine absurd (show b∈i::r' from ?_) hb.2;by_cases e:b=i
        ·subst e;exact an ..
        ·exact am _ (jc b hb.1 e)
      subst Fx;have eL:∀n,DV.get n=t.get n:=fun n=>by
       rcases bo n nt with dU|qB
       ·refine N.eL n dU fun⟨a,o,h1,h2,h3,h4⟩=>h2 (jc a (bc.1 h3).1 fun e=>hjs (e▸h1))
       ·exact N.out n qB
      have I3:=zK eL I2;exact⟨rn,A2,kp.trans R5,d6.refl I.iC,gq.congr (U:=U) ⟨I3.da,I3.callers,I.iC⟩ (mg U _),Fz eL Γ2⟩
    ·cases he
 ·cases he
end
section
variable {K:ik}{main:Bool}{U:Nat->Prop}{ρ:cn}{cs:List Frame}
variable {fn:FuncId}{nt:Nat}{tmps:TT}{todo todo':List Item}{defers:List AD}{kind:CallKind}{callers:List bH}{h:AH}
variable {k:List Item}
theorem Xk(Gd:K.Good)(F:K.il){ext:Ext}(X:ib K ext){call:FuncId->List AV->AH->M (AE×AH)}(C:kz K main call){c':dw}(he:exec? K.P K.O ext call fn nt tmps todo defers kind callers h=.ok c'):
  ∃N,mQ K main ⟨⟨fn,nt,tmps,todo,defers,.run,kind⟩,callers,h⟩ c' N:=by
 unfold exec? at he;split at he
 ·split at he
  ·cases he
  ·rename_i ht;cases he;exact⟨1,DQ ht fun _ _ _ _ hb=>Xa hb⟩
 ·rename_i ops is k;split at he
  ·cases he;exact⟨1,fU fun _ _ _ _ _ _ _ _=>oF⟩
  ·rename_i i rest;split at he
   ·cases he
   ·rename_i o ho;split at he
    ·cases he
    ·rename_i hw;cases he;exact⟨1,sW ho hw⟩
    ·rename_i hw;split at he
     ·cases he
     ·rename_i n h' fY;split at he
      ·cases he
      rename_i AS;split at he
      ·exact⟨1,fun U ρ cs g w I Γ=>(t9 Gd F X ho hw fY AS I Γ).d_ fun g' w' post=>t_ he ho I post⟩
      ·split at he
       ·rename_i t WX hf;cases he;obtain⟨N,hN⟩:=jX Gd F X C hf;exact⟨N,fun U ρ cs g w I Γ=>hN I Γ⟩
       ·rename_i t ch WX hf;cases he;obtain⟨N,hN⟩:=jX Gd F X C hf;exact⟨N,fun U ρ cs g w I Γ=>(hN I Γ).d_ fun g' w' x=>x _⟩
       ·cases he
 ·cases he;exact⟨1,fU fun _ _ _ _ _ _ _ _=>Hs⟩
 ·cases he;exact⟨1,fU fun _ _ _ _ _ _ _ _=>Ht⟩
 ·cases he;exact⟨1,fU fun _ _ _ _ _ _ _ _=>Kh⟩
 ·rename_i c k;split at he
  ·split at he
   ·cases he
   ·rename_i ht;cases he;exact⟨1,DQ ht fun _ _ _ _ hb=>Xb hb⟩
  ·cases he;exact⟨1,fU fun _ _ _ _ _ _ _ _=>RT⟩
  ·cases he;exact⟨1,fU fun _ _ _ _ _ _ _ _=>Ow⟩
  ·cases he;exact⟨1,fU fun _ _ _ _ _ _ _ _=>W_⟩
  ·rename_i x thn els;split at he
   ·rename_i b hx;split at he
    ·rename_i hb;cases he;refine⟨1,fU fun ρ tm w cs R T b ds=>?_⟩;have:Act.eval ⟨tm,ds⟩ x=.bool true:=by rw[jh T,hx];simp only[AV.ev,oA R hb]
     exact Hu this
    ·rename_i hb;cases he;refine⟨1,fU fun ρ tm w cs R T b ds=>?_⟩;have:Act.eval ⟨tm,ds⟩ x=.bool false:=by rw[jh T,hx];simp only[AV.ev,oA R hb]
     exact Hu this
    ·cases he
   ·cases he
  ·cases he;exact⟨1,fU fun _ _ _ _ _ _ _ _=>Ox⟩
  ·cases he;exact⟨1,fU fun _ _ _ _ _ _ _ _=>RU⟩
  ·cases he;exact⟨1,fU fun _ _ _ _ _ _ _ _=>Oy⟩
  ·split at he
   ·rename_i hx;cases he;exact⟨1,fU fun _ _ _ _ _ _ _ _=>RV hx⟩
   ·cases he
  ·split at he
   ·rename_i hx;cases he;exact⟨1,fU fun _ _ _ _ _ _ _ _=>RW hx⟩
   ·cases he
  ·rename_i id ops draw;split at he
   ·cases he;exact⟨1,fU fun _ _ _ _ _ _ _ _=>Ki⟩
   ·split at he
    ·rename_i j t hd;cases he;exact⟨0,OJ Gd F X C hd⟩
    ·split at he
     ·rename_i t h' hd;cases he;obtain⟨N,hN⟩:=HE Gd F X C (id:=id) hd;exact⟨N,fun U ρ cs g w I Γ=>hN I Γ⟩
     ·rename_i t ch h' hd;cases he;obtain⟨N,hN⟩:=HE Gd F X C (id:=id) hd;exact⟨N,fun U ρ cs g w I Γ=>(hN I Γ).d_ fun g' w' x=>x k⟩
     ·cases he
  ·cases he
 ·cases he
theorem wF(Gd:K.Good){w:World}{tm:Array Value}(R:Rel K ρ h w)(T:pV ρ nt tmps tm){E:Value->World->Prop}:∀{l:List ResultVar} {vs:List AV},jR K.P K.O h tmps l=.ok vs->
  ∀{Q:List Value->World->Prop},Q (AV.cf ρ vs) w->wq K.P K.Ev E (l.mapM fun|.tmp t=>(pure (tm.getD t undef):Sem Value)|.cell a t=>do loadVar t (<-asAddr (tm.getD a undef))) Q w
 |[],vs,he,Q,hq=>by simp only[jR]at he;cases he;simpa only[List.mapM_nil,bO,AV.cf] using hq
 |r::l,vs,he,Q,hq=>by
  simp only[jR]at he;split at he
  ·rename_i v hv;split at he
   ·rename_i vs' Mr;cases he;simp only[List.mapM_cons,bG];have tail:wq K.P K.Ev E (l.mapM fun|.tmp t=>(pure (tm.getD t undef):Sem Value)|.cell a t=>do loadVar t (<-asAddr (tm.getD a undef))) (fun xs w=>wq K.P K.Ev E (pure (v.ev ρ::xs)) Q w) w:=
     wF Gd R T Mr (by rw[bO];exact hq)
    cases r with
    |tmp t=>simp only[sE]at hv;cases hv;simp only[bO];rw[T.getD t];exact tail
    |cell a t=>
     simp only[sE]at hv;split at hv
     ·rename_i x hx;simp only[bG];rw[T.getD a,hx];simp only[AV.ev,af,asAddr,bO];exact mf R Gd hv tail
     ·cases hv
   ·cases he
  ·cases he
theorem rr(I:h_ K U h)(ht:tmps.In U):∀{l:List ResultVar} {vs:List AV},jR K.P K.O h tmps l=.ok vs->AV.iB U vs
 |[],vs,he=>by simp only[jR]at he;cases he;trivial
 |r::l,vs,he=>by
  simp only[jR]at he;split at he
  ·rename_i v hv;split at he
   ·rename_i vs' Mr;cases he;refine⟨?_,rr I ht Mr⟩;cases r with
    |tmp t=>simp only[sE]at hv;cases hv;exact ht t
    |cell a t=>
     simp only[sE]at hv;split at hv
     ·exact pt I hv
     ·cases hv
   ·cases he
  ·cases he
theorem HG(Gd:K.Good){v:AV}(he:results? K.P K.O h fn tmps=.ok v):∃f,K.P.funcs[fn]?=some f∧(∀{U},h_ K U h->tmps.In U->v.In U)∧
  ∀{ρ:cn} {nt:Nat} {w:World} {tm:Array Value} {E:Value->World->Prop},Rel K ρ h w->pV ρ nt tmps tm->∀{Q:Value->World->Prop},Q (v.ev ρ) w->wq K.P K.Ev E (results f tm) Q w:=by
 unfold results? at he;split at he
 ·rename_i f hf;have run:∀{ρ:cn} {nt:Nat} {w:World} {tm:Array Value} {E:Value->World->Prop} {vs:List AV},jR K.P K.O h tmps f.results.toList=.ok vs->Rel K ρ h w->pV ρ nt tmps tm->∀{Q:Value->World->Prop},
    Q (if hs:(AV.cf ρ vs).toArray.size=1 then(AV.cf ρ vs).toArray[0]else .tuple (AV.cf ρ vs).toArray) w->wq K.P K.Ev E (results f tm) Q w:=by
   intro ρ nt w tm E vs Mr R T Q hq;unfold results;rw[Array.mapM_eq_mapM_toList];simp only[bG,Rj,bO];exact wF Gd R T Mr hq
  split at he
  ·rename_i v' hv;cases he;refine⟨f,hf,fun I ht=>(rr I ht hv).1,fun{ρ nt w tm E} R T {Q} hq=>run hv R T ?_⟩;simpa[AV.cf] using hq
  ·rename_i vs df hv;cases he;refine⟨f,hf,fun I ht=>rr I ht hv,fun{ρ nt w tm E} R T {Q} hq=>run hv R T ?_⟩;have:¬(AV.cf ρ vs).toArray.size=1:=by
    simp only[List.size_toArray,dt];intro h1;obtain⟨x,rfl⟩:=List.length_eq_one_iff.1 h1;exact df x rfl
   rw[dif_neg this];exact hq
  ·cases he
 ·cases he
end
section
variable {P:Program}{main:Bool}{fr:Frame}{cs:List Frame}{w w':World}{D:Deferred}{Ds:List Deferred}
theorem ll(hm:fr.mode≠.run)(hd:fr.defers=D::Ds)(ht:(∃f c,D.target=.fn f c)∨∃b a t c,D.target=.builtin b a t c):
  stepG P main (G fr cs) w=callDeferred P {fr with defers:=Ds} cs none D w:=by
 obtain⟨fn,tmps,todo,defers,mode,kind,ro⟩:=fr;obtain⟨target,args⟩:=D;dsimp only at hm hd ht;subst hd;have h1:stepG P main (G ⟨fn,tmps,todo,⟨target,args⟩::Ds,mode,kind,ro⟩ cs) w=unwind P main ⟨fn,tmps,todo,⟨target,args⟩::Ds,mode,kind,ro⟩ cs none w:=by
  cases mode with
  |run=>exact absurd rfl hm
  |returning=>rfl
  |panicking c=>rfl
 rw[h1];rcases ht with⟨f,c,rfl⟩|⟨b,a,t,c,rfl⟩<;>rfl
theorem jd{f:FuncId}{args:Array Value}(hn:(∃f c,D.target=.fn f c)∨∃b a t c,D.target=.builtin b a t c)(hr:(invoke D.target D.args).run P w=.ok (.enter f args) w'):
  callDeferred P fr cs none D w=.go (G (Frame.enter P f args .deferred) (fr::cs)) w' (seen P fr.fn ((invoke D.target D.args).events P w #[])):=by
 rcases hn with⟨f,c,hn⟩|⟨b,a,t,c,hn⟩<;>(rw[hn]at hr;simp[callDeferred,hn,hr,GStep.after,G])
theorem vp{v:Value}(hn:(∃f c,D.target=.fn f c)∨∃b a t c,D.target=.builtin b a t c)(hr:(invoke D.target D.args).run P w=.ok (.value v) w'):
  callDeferred P fr cs none D w=.go (G fr cs) w' (seen P fr.fn ((invoke D.target D.args).events P w #[])):=by
 rcases hn with⟨f,c,hn⟩|⟨b,a,t,c,hn⟩<;>(rw[hn]at hr;simp[callDeferred,hn,hr,GStep.after,G])
end
section
variable {K:ik}{main:Bool}{U:Nat->Prop}{ρ:cn}{cs:List Frame}
variable {fn:FuncId}{nt:Nat}{tmps:TT}{todo:List Item}{mode:ia}{kind:CallKind}{callers:List bH}{h:AH}
theorem AD.xQ(ρ:cn)(d:AD):(∃f c,(d.ev ρ).target=.fn f c)∨∃b a t c,(d.ev ρ).target=.builtin b a t c:=by
 obtain⟨t,a⟩:=d;cases t with
 |fn f c=>exact .inl ⟨_,_,rfl⟩
 |builtin b a t c=>exact .inr ⟨_,_,_,_,rfl⟩
theorem Kq(ρ:cn)(hm:mode≠.run):mode.ev ρ≠.run:=by
 cases mode with
 |run=>exact absurd rfl hm
 |returning=>exact fun x=>by cases x
 |panicking c=>exact fun x=>by cases x
theorem HH(Gd:K.Good)(F:K.il){ext:Ext}(X:ib K ext){d:AD}{ds:List AD}{c':dw}(hm:mode≠.run)(he:defer? K.P K.O ext fn nt tmps todo d ds mode kind callers h=.ok c'):
  mQ K main ⟨⟨fn,nt,tmps,todo,d::ds,mode,kind⟩,callers,h⟩ c' 1:=fun U ρ cs g w I Γ=>dy.one Γ.running fun dr=>by
 obtain⟨R,fr,cC,⟨tm,td,is,rfl⟩,hc,rfl⟩:=Γ.drawn dr;have aiL:d.In U:=I.da.defers d (an ..);have step:=ll (P:=K.P) (main:=main) (fr:=dS ρ ⟨fn,nt,tmps,todo,d::ds,mode,kind⟩ tm td) (cs:=cC++cs) (w:=cM w dr) (D:=d.ev ρ) (Ds:=dB ρ kind (ds.map (AD.ev ρ))) (Kq ρ hm) (by show dB ρ kind (d.ev ρ::ds.map (AD.ev ρ))=_;rw[MC]) (AD.xQ ρ d);rw[step];have R3:({dS ρ ⟨fn,nt,tmps,todo,d::ds,mode,kind⟩ tm td with defers:=dB ρ kind (ds.map (AD.ev ρ))}:Frame)=dS ρ ⟨fn,nt,tmps,todo,ds,mode,kind⟩ tm td:=rfl;rw[R3];have hds:∀x∈ds,x.In U:=fun x hx=>I.da.defers x (am _ hx);have hin:(⟨fn,nt,tmps,todo,ds,mode,kind⟩:bH).In U:=⟨I.da.tmps,hds,I.da.mode⟩;have base:∀{bL:cn},cz U ρ bL->dj K.P bL ⟨fn,nt,tmps,todo,ds,mode,kind⟩ (dS ρ ⟨fn,nt,tmps,todo,ds,mode,kind⟩ tm td):=fun A=>dj.bE A ⟨tm,td,⟨is.tmps,is.kind,(fun x=>absurd x hm),is.fn⟩,rfl⟩ hin
 unfold defer? at he;split at he
 ·rename_i f args h' hi;split at he
  ·rename_i bT zh;cases he;have N:=vi Gd F X R I.iC aiL hi;obtain⟨run,qS⟩:=ou (Ft Gd.WR _ (N.run (E:=fun _ _=>False) (Q:=fun nx w'=>f_ K U ρ (cM w dr) h' (fun bL=>AN.is bL (.enter f args) nx) w') (fun nx w' x=>x) (fun v hn _=>by cases hn)));generalize hr:(invoke (d.target.ev ρ) (AV.cf ρ d.args).toArray).run K.P (cM w dr)=r at run;cases r with
   |halt x w'=>cases x<;>exact run.elim
   |ok nx w'=>
    obtain⟨⟨bL,A,R',kp,OG⟩,di⟩:=run;have is2:nx=.enter f (AV.cf bL args).toArray:=OG;subst is2;rw[jd (AD.xQ ρ d) hr];obtain⟨e1,e2,e3,e4,e5⟩:=jW zh (.inr rfl) N.mem (ρ:=bL);refine⟨⟨kp,fun e he=>qS e (mem_seen he),di⟩,bL,A,(fw _ _ _).trans kp,N.uF,⟨e2,?_,N.uF.iC⟩,R',_,dS ρ ⟨fn,nt,tmps,todo,ds,mode,kind⟩ tm td::cC,e1,⟨base A,iH A hc I.callers⟩,rfl⟩;intro fr hf;rcases ac.1 hf with rfl|hf
    ·exact hin.mono cG
    ·exact(I.callers fr hf).mono cG
  ·cases he
 ·rename_i v h' hi;cases he;have N:=vi Gd F X R I.iC aiL hi;obtain⟨run,qS⟩:=ou (Ft Gd.WR _ (N.run (E:=fun _ _=>False) (Q:=fun nx w'=>f_ K U ρ (cM w dr) h' (fun bL=>AN.is bL (.value v) nx) w') (fun nx w' x=>x) (fun v hn _=>by cases hn)));generalize hr:(invoke (d.target.ev ρ) (AV.cf ρ d.args).toArray).run K.P (cM w dr)=r at run;cases r with
  |halt x w'=>cases x<;>exact run.elim
  |ok nx w'=>obtain⟨⟨bL,A,R',kp,OG⟩,di⟩:=run;have is2:nx=.value (v.ev bL):=OG;subst is2;rw[vp (AD.xQ ρ d) hr];exact⟨⟨kp,fun e he=>qS e (mem_seen he),di⟩,bL,A,(fw _ _ _).trans kp,N.uF,⟨hin.mono cG,fun fr hf=>(I.callers fr hf).mono cG,N.uF.iC⟩,R',_,cC,base A,iH A hc I.callers,rfl⟩
 ·cases he
 ·cases he
theorem kA{P:Program}{fr eX:Frame}{f:Func}{v:Value}{w:World}(hm:fr.mode=.returning)(hd:fr.defers=[])(hk:fr.kind=.deferred)(hf:P.funcs[fr.fn]?=some f)(hr:(results f fr.tmps).run P w=.ok v w):
  stepG P main (G fr (eX::cs)) w=.go (G (match eX.mode with
   |.panicking ({recovered:=true,..}::lQ)=>
    match lQ.dropWhile (!·.goexit)with
    |[]=>{eX with mode:=.returning}
    |rest=>{eX with mode:=.panicking rest}
   |_=>eX) cs) w (seen P fr.fn ((results f fr.tmps).events P w #[])):=by
 simp[G,stepG,unwind,doReturn,hm,hd,hf,hr,hk,GStep.after];rfl
theorem Bb(ρ:cn):∀(l:List (AV×Bool)),(l.map fun x=>({v:=x.1.ev ρ,recovered:=x.2}:PanicEntry)).dropWhile (!·.goexit)=[]
 |[]=>rfl
 |y::l=>by simp only[ah,List.dropWhile_cons,Bool.not_false,if_true];exact Bb ρ l
theorem FC{P:Program}{c:bH}{f:Frame}(hc:dj P ρ c f):dj P ρ (xF c) (match f.mode with
    |.panicking ({recovered:=true,..}::lQ)=>
     match lQ.dropWhile (!·.goexit)with
     |[]=>{f with mode:=.returning}
     |rest=>{f with mode:=.panicking rest}
    |_=>f):=by
 obtain⟨tm,td,is,rfl⟩:=hc;obtain⟨fn,nt,tmps,todo,defers,mode,kind⟩:=c;have hm:(dS ρ ⟨fn,nt,tmps,todo,defers,mode,kind⟩ tm td).mode=mode.ev ρ:=rfl;rw[hm];cases mode with
 |run=>exact⟨tm,td,is,rfl⟩
 |returning=>exact⟨tm,td,is,rfl⟩
 |panicking chain=>
  cases chain with
  |nil=>exact⟨tm,td,is,rfl⟩
  |cons x lQ=>
   obtain⟨v,b⟩:=x;cases b with
   |false=>exact⟨tm,td,is,rfl⟩
   |true=>simp only[ia.ev,ah,Bb];exact⟨tm,td,⟨is.tmps,is.kind,(fun x=>by cases x),is.fn⟩,rfl⟩
theorem xR{c:bH}(hc:c.In U):(xF c).In U:=by
 obtain⟨fn,nt,tmps,todo,defers,mode,kind⟩:=c;cases mode with
 |run=>exact hc
 |returning=>exact hc
 |panicking chain=>
  cases chain with
  |nil=>exact hc
  |cons x lQ=>
   obtain⟨v,b⟩:=x;cases b with
   |false=>exact hc
   |true=>exact⟨hc.tmps,hc.defers,trivial⟩
theorem Sc{P:Program}{c:bH}{f:Frame}{chain:List (AV×Bool)}(hc:dj P ρ c f):dj P ρ (sD c chain) (f.raise (chain.map fun x=>{v:=x.1.ev ρ,recovered:=x.2})):=by
 obtain⟨tm,td,is,rfl⟩:=hc;obtain⟨fn,nt,tmps,todo,defers,mode,kind⟩:=c;cases mode with
 |run=>exact⟨tm,td,⟨is.tmps,is.kind,(fun x=>by cases x),is.fn⟩,rfl⟩
 |returning=>exact⟨tm,td,⟨is.tmps,is.kind,(fun x=>by cases x),is.fn⟩,rfl⟩
 |panicking lQ=>exact⟨tm,td,⟨is.tmps,is.kind,(fun x=>by cases x),is.fn⟩,by simp[sD,Frame.raise,dS,ia.ev]⟩
theorem OK{c:bH}{chain:List (AV×Bool)}(hc:c.In U)(hx:∀x∈chain,x.1.In U):(sD c chain).In U:=by
 obtain⟨fn,nt,tmps,todo,defers,mode,kind⟩:=c;cases mode with
 |run=>exact⟨hc.tmps,hc.defers,hx⟩
 |returning=>exact⟨hc.tmps,hc.defers,hx⟩
 |panicking lQ=>
  refine⟨hc.tmps,hc.defers,fun x hm=>?_⟩;rcases ay.1 hm with hm|hm
  ·exact hx x hm
  ·exact hc.mode x hm
theorem Bc(own:Nat->Prop){w w':World}(h:∃d,w'=cM w d):cE own w w':=by obtain⟨d,rfl⟩:=h;exact fw _ _ _
theorem Be{w w':World}(R:Rel K ρ h w)(e:∃d,w'=cM w d):Rel K ρ h w':=by obtain⟨d,rfl⟩:=e;exact R.drawn _
def HI(K:ik)(main:Bool)(c:dw):dw⊕(AE×AH)->Prop
 |.inl c'=>∃N,mQ K main c c' N
 |.inr e=>∃N,Hw K main c e N
theorem wG(Gd:K.Good)(F:K.il){ext:Ext}(X:ib K ext){call:FuncId->List AV->AH->M (AE×AH)}(C:kz K main call){c:dw}{r:dw⊕(AE×AH)}(he:step? K.P K.O ext call c=.ok r):HI K main c r:=by
 obtain⟨⟨fn,nt,tmps,todo,defers,mode,kind⟩,callers,h⟩:=c;unfold step? at he;dsimp only at he;split at he
 ·split at he
  ·rename_i c' hx;cases he;exact Xk Gd F X C hx
  ·cases he
 ·split at he
  ·cases he
  rename_i ht;split at he
  ·rename_i d ds;split at he
   ·rename_i c' hx;cases he;exact⟨1,HH Gd F X (by simp) hx⟩
   ·cases he
  ·split at he
   ·cases he
   ·rename_i v hv;obtain⟨f,hf,hin,fJ⟩:=HG Gd hv;have rk:∀{ρ:cn} {cs:List Frame} {w:World} {cC:List Frame} {tm:Array Value} {td:List Item},kind=.normal->Rel K ρ h w->adb K.P ρ ⟨fn,nt,tmps,todo,[],.returning,kind⟩ tm td->
      sV K fn ρ (.returned v) cs (G (dS ρ ⟨fn,nt,tmps,todo,[],.returning,kind⟩ tm td) cs) w:=fun{ρ cs w cC tm td} hk R is=>by
     have hp:=qA is.kind ht;have e1:(dS ρ ⟨fn,nt,tmps,todo,[],.returning,kind⟩ tm td).fn=fn:=abn ρ fn kind;exact⟨_,f,rfl,e1,AO hp ρ [],by rw[e1];exact hf,rfl,by show(bB ρ fn kind).kind=.normal;rw[sR hp];exact hk,fun d {Q} hq=>fJ (R.drawn d) is.tmps hq⟩
    split at he
    ·split at he
     ·cases he;refine⟨0,fun U ρ cs g w I Γ=>?_⟩;obtain⟨R,fr,cC,⟨tm,td,is,rfl⟩,hc,rfl⟩:=Γ;cases cC with
      |cons a b=>exact absurd hc (by simp[c8])
      |nil=>exact dy.stop ⟨ρ,cz.refl _ _,cE.refl _ _,d6.refl I.iC,AV.In.mono cG _ (hin I.iC I.da.tmps),R,rk (cC:=[]) rfl R is⟩
     ·cases he
    ·rename_i eX rest;split at he
     ·split at he
      ·rename_i anQ ri;cases he;obtain⟨fn',nt',DO,ops,i,xz,k,wH,uK,rfl,rfl⟩:=vk ri;refine⟨1,fun U ρ cs g w I Γ=>?_⟩;obtain⟨R,fr,cC,⟨tm,td,is,rfl⟩,hc,rfl⟩:=Γ;cases cC with
       |nil=>exact absurd hc (by simp[c8])
       |cons c1 cC=>
        obtain⟨⟨tm1,td1,is1,rfl⟩,hc⟩:=hc;have htd:td1=.inRegion ops (i::xz)::k:=is1.todo rfl;subst htd;have aiN:=I.callers _ (an ..);refine(AT (rk (cC:=[]) rfl R is)).d_ fun g' w' ⟨hw,hg⟩=>?_;subst hg;have:=oG (U:=U) (ρ:=ρ) (h:=h) (cs:=cs) (fn:=fn') (kind:=uK) (ops:=ops) (rest:=xz) (k:=k) (dst:=(ops[i]?).bind (·.dst)) (ds:=wH) (cz.refl U ρ) (Bc K.own hw) (Be R hw) (d6.refl I.iC)
         (AV.In.mono cG _ (hin I.iC I.da.tmps)) aiN.tmps (fun x hx=>(aiN.defers x hx).mono cG) (fun fr hf=>(I.callers fr (am _ hf)).mono cG) is1.tmps is1.kind is1.fn hc
        have hb:dS ρ ⟨fn',nt',DO,.inRegion ops (i::xz)::k,wH,.run,uK⟩ tm1 (.inRegion ops (i::xz)::k)=(bB ρ fn' uK).atR (aB ρ uK tm1 wH) (.inRegion ops (i::xz)::k):=rfl;rw[hb,Frame.finish_atR];exact this
      ·cases he
     ·cases he;refine⟨1,fun U ρ cs g w I Γ=>dy.one Γ.running fun d=>?_⟩;obtain⟨R,fr,cC,⟨tm,td,is,rfl⟩,hc,rfl⟩:=Γ.drawn d;cases cC with
      |nil=>exact absurd hc (by simp[c8])
      |cons c1 cC=>
       obtain⟨Xl,hc⟩:=hc;obtain⟨run,qS⟩:=ou (fJ (E:=fun _ _=>False) R is.tmps (Q:=fun x w'=>x=v.ev ρ∧w'=cM w d) ⟨rfl,rfl⟩);generalize hr:(results f tm).run K.P (cM w d)=r at run;cases r with
       |halt x w'=>cases x<;>exact run.elim
       |ok x w'=>obtain⟨rfl,rfl⟩:=run;rw[az,kA (fr:=dS ρ ⟨fn,nt,tmps,todo,[],.returning,.deferred⟩ tm td) rfl rfl rfl hf hr];refine⟨⟨cE.refl _ _,fun e he=>qS e (mem_seen he),fun _ _ _ _ x=>x⟩,ρ,cz.refl _ _,fw _ _ _,d6.refl I.iC,?_,R,_,cC,FC Xl,hc,rfl⟩;exact gq.congr (U:=U) ⟨xR (I.callers _ (an ..)),fun fr hf=>I.callers fr (am _ hf),I.iC⟩ (mg U _)
     ·cases he
 ·rename_i chain;split at he
  ·cases he
  rename_i ht;split at he
  ·rename_i d ds;split at he
   ·rename_i c' hx;cases he;exact⟨1,HH Gd F X (by simp) hx⟩
   ·cases he
  ·have rk:∀{ρ:cn} {cs:List Frame} {w:World} {tm:Array Value} {td:List Item},adb K.P ρ ⟨fn,nt,tmps,todo,[],.panicking chain,kind⟩ tm td->
      sV K fn ρ (.panicked chain) cs (G (dS ρ ⟨fn,nt,tmps,todo,[],.panicking chain,kind⟩ tm td) cs) w:=fun{ρ cs w tm td} is=>by
    obtain⟨f,hf⟩:=is.fn;have e1:(dS ρ ⟨fn,nt,tmps,todo,[],.panicking chain,kind⟩ tm td).fn=fn:=abn ρ fn kind;exact⟨_,f,rfl,e1,AO (qA is.kind ht) ρ [],by rw[e1];exact hf,rfl⟩
   split at he
   ·cases he;refine⟨0,fun U ρ cs g w I Γ=>?_⟩;obtain⟨R,fr,cC,⟨tm,td,is,rfl⟩,hc,rfl⟩:=Γ;cases cC with
    |cons a b=>exact absurd hc (by simp[c8])
    |nil=>exact dy.stop ⟨ρ,cz.refl _ _,cE.refl _ _,d6.refl I.iC,fun x hx=>AV.In.mono cG _ (I.da.mode x hx),R,rk is⟩
   ·rename_i eX rest;cases he;refine⟨1,fun U ρ cs g w I Γ=>?_⟩;obtain⟨R,fr,cC,⟨tm,td,is,rfl⟩,hc,rfl⟩:=Γ;cases cC with
    |nil=>exact absurd hc (by simp[c8])
    |cons c1 cC=>obtain⟨Xl,hc⟩:=hc;refine(AU (rk is)).d_ fun g' w' ⟨hw,hg⟩=>?_;subst hg;refine⟨ρ,cz.refl _ _,Bc _ hw,d6.refl I.iC,?_,Be R hw,_,cC,Sc Xl,hc,rfl⟩;exact gq.congr (U:=U) ⟨OK (I.callers _ (an ..)) I.da.mode,fun fr hf=>I.callers fr (am _ hf),I.iC⟩ (mg U _)
theorem mh{fr bT:bH}{v:AV}(h:ey fr v=.ok bT):bT.fn=fr.fn:=by obtain⟨fn,nt,tmps,ops,i,rest,k,defers,kind,rfl,rfl⟩:=vk h;rfl
theorem DX{fr:bH}{vs:List (AV×Bool)}:(sD fr vs).fn=fr.fn:=by obtain⟨fn,nt,tmps,todo,defers,mode,kind⟩:=fr;cases mode<;>rfl
theorem Sd{P:Program}{fr:bH}{callers:List bH}{n:AN}{h:AH}{c':dw}(he:zd P fr callers n h=.ok c'):wB c'.da.fn c'.callers=wB fr.fn callers:=by
 obtain⟨fn,nt,tmps,todo,defers,mode,kind⟩:=fr;unfold zd at he;split at he
 ·split at he
  ·rename_i hx;cases he;show wB _ callers=_;rw[mh hx]
  ·cases he
 ·split at he
  ·rename_i hx;cases he;show wB _ callers=_;rw[mh hx]
  ·cases he
 ·split at he
  ·cases he;rfl
  ·cases he
 ·dsimp only at he;split at he
  ·rename_i hx;cases he;show wB _ callers=_;rw[mh hx]
  ·cases he
 ·split at he
  ·cases he
  ·rename_i v fV hr;split at he
   ·rename_i hx;cases he;show wB _ fV=_;rw[mh hx];unfold Al at hr;split at hr
    ·cases hr
    ·split at hr
     ·cases hr
     ·split at hr
      ·cases hr;rfl
      ·cases hr
    ·cases hr
   ·cases he
  ·split at he
   ·rename_i hx;cases he;show wB _ callers=_;rw[mh hx]
   ·cases he
 ·cases he;show wB (sD _ _).fn callers=_;rw[DX]
theorem Se{P:Program}{O:dP}{ext:Ext}{call:FuncId->List AV->AH->M (AE×AH)}{defers:List AD}{c':dw}(he:exec? P O ext call fn nt tmps todo defers kind callers h=.ok c'):wB c'.da.fn c'.callers=wB fn callers:=by
 unfold exec? at he;split at he
 ·split at he
  ·cases he
  ·cases he;rfl
 ·split at he
  ·cases he;rfl
  ·split at he
   ·cases he
   ·split at he
    ·cases he
    ·cases he;rfl
    ·split at he
     ·cases he
     ·split at he
      ·cases he
      split at he
      ·exact Sd he
      ·split at he
       ·cases he;rfl
       ·cases he;rfl
       ·cases he
 ·cases he;rfl
 ·cases he;rfl
 ·cases he;rfl
 ·split at he
  ·split at he
   ·cases he
   ·cases he;rfl
  ·cases he;rfl
  ·cases he;rfl
  ·cases he;rfl
  ·split at he
   ·split at he
    ·cases he;rfl
    ·cases he;rfl
    ·cases he
   ·cases he
  ·cases he;rfl
  ·cases he;rfl
  ·cases he;rfl
  ·split at he
   ·cases he;rfl
   ·cases he
  ·split at he
   ·cases he;rfl
   ·cases he
  ·split at he
   ·cases he;rfl
   ·split at he
    ·cases he;rfl
    ·split at he
     ·cases he;rfl
     ·cases he;rfl
     ·cases he
  ·cases he
 ·cases he
theorem DY{P:Program}{O:dP}{ext:Ext}{d:AD}{ds:List AD}{c':dw}(he:defer? P O ext fn nt tmps todo d ds mode kind callers h=.ok c'):wB c'.da.fn c'.callers=wB fn callers:=by
 unfold defer? at he;split at he
 ·split at he
  ·cases he;rfl
  ·cases he
 ·cases he;rfl
 ·cases he
 ·cases he
theorem HJ{P:Program}{O:dP}{ext:Ext}{call:FuncId->List AV->AH->M (AE×AH)}{c c':dw}(he:step? P O ext call c=.ok (.inl c')):wB c'.da.fn c'.callers=wB c.da.fn c.callers:=by
 obtain⟨⟨fn,nt,tmps,todo,defers,mode,kind⟩,callers,h⟩:=c;unfold step? at he;dsimp only at he;split at he
 ·split at he
  ·rename_i hx;cases he;exact Se hx
  ·cases he
 ·split at he
  ·cases he
  split at he
  ·split at he
   ·rename_i hx;cases he;exact DY hx
   ·cases he
  ·split at he
   ·cases he
   ·split at he
    ·split at he<;>cases he
    ·split at he
     ·split at he
      ·rename_i hx;cases he;simp only[wB,mh hx]
      ·cases he
     ·cases he;show wB (xF _).fn _=wB _ _;unfold xF;split<;>rfl
     ·cases he
 ·split at he
  ·cases he
  split at he
  ·split at he
   ·rename_i hx;cases he;exact DY hx
   ·cases he
  ·split at he
   ·cases he
   ·cases he;simp only[wB,DX]
def uN(K:ik)(main:Bool)(sum:om):Prop:=
 ∀f args h r,sum f args h=some (.ok r)->∃fr N,fD K.P f args .normal=.ok fr∧Hw K main ⟨fr,[],h⟩ r N
theorem uc:uN K main oq:=fun _ _ _ _ h=>by cases h
theorem xS{sum:om}(Z:uN K main sum){k:dw->M (AE×AH)}(ih:∀{c r},k c=.ok r->∃N,Hw K main c r N):
  kz K main (fun f args h=>match sum f args h with
   |some r=>r
   |none=>match fD K.P f args .normal with
    |.ok fr=>k ⟨fr,[],h⟩
    |.error e=>.error e):=by
 intro f args h r hr;dsimp only at hr;split at hr
 ·rename_i r' hs;subst hr;exact Z _ _ _ _ hs
 ·split at hr
  ·rename_i fr zh;obtain⟨N,E⟩:=ih hr;exact⟨fr,N,zh,E⟩
  ·cases hr
theorem Kr(Gd:K.Good)(F:K.il){ext:Ext}(X:ib K ext){sum:om}(Z:uN K main sum):∀{n:Nat} {c:dw} {r:AE×AH},run? K.P K.O ext sum n c=.ok r->∃N,Hw K main c r N:=by
 intro n
 induction n with
 |zero=>intro c r he;cases he
 |succ n ih=>
  intro c r he;have jO:(match step? K.P K.O ext (fun f args h=>match sum f args h with
   |some r=>r
   |none=>match fD K.P f args .normal with
    |.ok fr=>run? K.P K.O ext sum n ⟨fr,[],h⟩
    |.error e=>.error e) c with
   |.ok (.inl c)=>run? K.P K.O ext sum n c
   |.ok (.inr r)=>.ok r
   |.error e=>.error e)=.ok r:=he
  have C:=xS (K:=K) (main:=main) Z (k:=run? K.P K.O ext sum n) ih;split at jO
  ·rename_i c' hs;obtain⟨N,L⟩:=wG Gd F X C hs;obtain⟨M,E⟩:=ih jO;exact⟨N+M,L.rk (HJ hs) E⟩
  ·rename_i r' hs;cases jO;exact wG Gd F X C hs
  ·cases jO
end
end Go.Proofs.Ythaddgfbohmfoaa.SX
namespace Go.Proofs.Ythaddgfbohmfoaa.SX
open _root_.Option renaming map_some->af
open _root_.Nat renaming le_refl->aq
open _root_.Bool renaming and_eq_true->ax,false_eq_true->aR
def XE.sem:XE->(Array Value->Sem Value)->Prop
 |.ld k,e=>e=Extern.Atomic.loadT (.int k)
 |.st,e=>e=Extern.Atomic.storeT
 |.sw k,e=>e=Extern.Atomic.swapT (.int k)
 |.GR k,e=>e=Extern.Atomic.casT (.int k)
 |.add k,e=>e=Extern.Atomic.update (Op.intArith .add) k true
 |.acquire,e=>e=Extern.Race.marked .acquire
 |.release,e=>e=Extern.Race.marked .release
 |.releaseMerge,e=>e=Extern.Race.marked .releaseMerge
 |.k7,e=>∃m,e=fun _=>do mark m;pure Extern.Race.none_
 |.typeOf,e=>e=Extern.ReflectliteType.typeOf
 |.Mi,e=>e=fun args=>Extern.ReflectliteValue.unpack (args.getD 0 (.tuple #[]))
 |.abj,e=>∃z,e=Extern.ReflectliteValue.methodAny z fun t _ _ _=>Extern.ReflectliteType.toType t
 |.Rh,e=>∃z,e=Extern.ReflectliteValue.method z Extern.ReflectliteValue.isNil
 |.abi,e=>∃z,e=Extern.ReflectliteValue.method z Extern.ReflectliteValue.elem
 |.aib,e=>e=Extern.ReflectliteValue.set
section
variable {K:ik}{ρ:cn}{h:AH}{w:World}{U:Nat->Prop}
theorem tb(R:Rel K ρ h w)(G:K.Good){a:AA}{k:IntKind}{e:IE}(hl:uA K.O h a k=.ok e):w.cell? (a.ev ρ)=some (.int k (e.ev ρ))∧(∀s,K.Ev ⟨.cell (a.ev ρ),false,s⟩)∧∀{U},h_ K U h->e.In U:=by
 unfold uA at hl;rw[bN]at hl;obtain⟨v,hv,hl⟩:=hl;obtain⟨h1,h2⟩:=sH R G hv;split at hl
 ·split at hl
  ·rename_i hk;cases hl;subst hk;exact⟨h1,h2,fun I=>As I hv⟩
  ·cases hl
 ·cases hl
theorem zL{E:Value->World->Prop}{a:Addr}{k:IntKind}{n:Int}(hc:w.cell? a=some (.int k n))(he:∀s,K.Ev ⟨.cell a,false,s⟩){Q:Value->World->Prop}(hq:Q (.int k n) w):wq K.P K.Ev E (Extern.Atomic.read (.int k) a) Q w:=by unfold Extern.Atomic.read;simp only[bG,v9];refine⟨_,hc,he _,?_⟩;simp only[if_true,bO];exact hq
theorem ud{E:Value->World->Prop}{a:AA}{v:AV}{h':AH}(R:Rel K ρ h w)(G:K.Good)(hs:iQ h a v=.ok h'){Q:Unit->World->Prop}(hq:Q () (w.setCell (a.ev ρ) (v.ev ρ))):wq K.P K.Ev E (store (a.ev ρ) (v.ev ρ) .atomic) Q w:=by obtain⟨s1,s2,s3,s4,_⟩:=jb R G hs;rw[v_];exact⟨s1,s2,s3,s4 _,hq⟩
theorem nQ(I:h_ K U h){a:AA}{v:AV}{h':AH}(hs:iQ h a v=.ok h')(ha:a.In U)(hv:v.In U)(hn:h'.nb=h.nb)(hl:h'.eH=h.eH):d6 K U h h':=
 ⟨by rw[hn];exact aq _,hl,by rw[hn];exact(Au I hs ha hv).congr (fun n=>⟨.inl,qx n⟩)⟩
theorem pE(R:Rel K ρ h w)(G:K.Good){a:AA}{v:AV}{h':AH}(hs:iQ h a v=.ok h'){Q:cn->Prop}(hq:Q ρ):f_ K U ρ w h' Q (w.setCell (a.ev ρ) (v.ev ρ)):=by obtain⟨_,_,_,_,s5,s6,_⟩:=jb R G hs;exact⟨ρ,cz.refl _ _,s5,s6,hq⟩
theorem aiO(G:K.Good)(R:Rel K ρ h w)(I:h_ K U h){a:AA}{k:IntKind}{e:IE}(hl:uA K.O h a k=.ok e):qk K U ρ h w (Extern.Atomic.loadT (.int k) (AV.cf ρ [.ptr (some a)]).toArray) (.int k e) h:=by obtain⟨h1,h2,h3⟩:=tb R G hl;refine qk.pure R I (h3 I) fun{E Q} hq=>?_;show wq K.P K.Ev E (do Extern.Atomic.read (.int k) (<-asAddr (.pointer (some (a.ev ρ))))) Q w;simp only[bG,asAddr,bO];exact zL h1 h2 hq
theorem aiP(G:K.Good)(R:Rel K ρ h w)(I:h_ K U h){a:AA}{v:AV}{h':AH}(ha:a.In U)(hv:v.In U)(hs:iQ h a v=.ok h'):qk K U ρ h w (Extern.Atomic.storeT (AV.cf ρ [.ptr (some a),v]).toArray) cx h':=by obtain⟨_,_,_,_,_,_,hn,hl⟩:=jb R G hs;refine⟨by simp[cx,AV.In,AV.iB],nQ I hs ha hv hn hl,fun{E Q} hq=>?_⟩;show wq K.P K.Ev E (do store (<-asAddr (.pointer (some (a.ev ρ)))) (v.ev ρ) .atomic;pure Extern.Atomic.none_) Q w;simp only[bG,asAddr,bO];exact ud R G hs (hq _ _ (pE R G hs rfl))
theorem aiQ(G:K.Good)(R:Rel K ρ h w)(I:h_ K U h){a:AA}{v:AV}{k:IntKind}{e:IE}{h':AH}(ha:a.In U)(hv:v.In U)(hl:uA K.O h a k=.ok e)(hs:iQ h a v=.ok h'):
  qk K U ρ h w (Extern.Atomic.swapT (.int k) (AV.cf ρ [.ptr (some a),v]).toArray) (.int k e) h':=by
 obtain⟨h1,h2,h3⟩:=tb R G hl;obtain⟨_,_,_,_,_,_,hn,we⟩:=jb R G hs;refine⟨IE.In.mono cG (h3 I),nQ I hs ha hv hn we,fun{E Q} hq=>?_⟩;show wq K.P K.Ev E (do let a<-asAddr (.pointer (some (a.ev ρ)));let old<-Extern.Atomic.read (.int k) a;store a (v.ev ρ) .atomic;pure old) Q w;simp only[bG,asAddr,bO];refine zL h1 h2 ?_;exact ud R G hs (hq _ _ (pE R G hs rfl))
theorem adj(G:K.Good)(R:Rel K ρ h w)(I:h_ K U h){a:AA}{k k':IntKind}{e d:IE}{h':AH}(ha:a.In U)(hd:d.In U)(hl:uA K.O h a k=.ok e)(hs:iQ h a (.int k (K.O.int (.op .add k e d)))=.ok h')
 (hin:(K.O.int (.op .add k e d)).In U):
  qk K U ρ h w (Extern.Atomic.update (Op.intArith .add) k true (AV.cf ρ [.ptr (some a),.int k' d]).toArray) (.int k (K.O.int (.op .add k e d))) h':=by
 obtain⟨h1,h2,h3⟩:=tb R G hl;obtain⟨_,_,_,_,_,_,hn,we⟩:=jb R G hs;refine⟨IE.In.mono cG hin,nQ I hs ha hin hn we,fun{E Q} hq=>?_⟩;show wq K.P K.Ev E (do
  let a<-asAddr (.pointer (some (a.ev ρ)));let old<-Extern.Atomic.read (.int k) a;let new<-Op.intArith .add k (<-asInt old) (<-asInt (.int k' (d.ev ρ)))
  store a new .atomic
  pure (if true then new else old)) Q w
 simp only[bG,asAddr,bO];refine zL h1 h2 ?_;simp only[asInt,asIntOf,bO,bG];have hx:Op.intArith .add k (e.ev ρ) (d.ev ρ)=(pure ((AV.int k (K.O.int (.op .add k e d))).ev ρ):Sem Value):=by simp only[AV.ev,oz R,IE.ev,o0];rfl
 rw[hx];simp only[bO,if_true];exact ud R G hs (hq _ _ (pE R G hs rfl))
theorem OM{a:AA}{v:AV}{h':AH}(hs:qU h a v=.ok h'):∃i off b,a=⟨.cN i,off⟩∧cV i h.hp=some b∧b.qo=true:=by
 obtain⟨kj,off⟩:=a;unfold qU at hs;dsimp only at hs;split at hs
 ·rename_i i n;split at hs
  ·rename_i b hb;split at hs
   ·rename_i hc;simp only[ax,decide_eq_true_eq]at hc;exact⟨i,_,b,rfl,hb,wd hc.1.1⟩
   ·cases hs
  ·cases hs
 ·cases hs
theorem ON{a:AA}{v:AV}{h':AH}(hs:iQ h a v=.ok h'):∃i off b,a=⟨.cN i,off⟩∧cV i h.hp=some b∧b.qo=true:=by
 unfold iQ at hs;split at hs
 ·rename_i h1 hh;exact OM hh
 ·split at hs
  ·rename_i h1 hh;obtain⟨kj,off⟩:=a;unfold preSet? at hh;dsimp only at hh;split at hh
   ·rename_i i _;split at hh
    ·rename_i b hb;split at hh
     ·rename_i b' qj;exact⟨i,off,b,rfl,hb,by cases b<;>first|rfl|cases qj⟩
     ·cases hh
    ·cases hh
   ·cases hh
  ·cases hs
theorem adk(G:K.Good)(R:Rel K ρ h w)(I:h_ K U h){a:AA}{v:AV}{k k':IntKind}{e old:IE}{h':AH}{b:Bool}(ha:a.In U)(hv:v.In U)(hl:uA K.O h a k=.ok e)(hb:K.O.dec (.cmp .eql e old)=.ok b)(hs:iQ h a v=.ok h'):
  qk K U ρ h w (Extern.Atomic.casT (.int k) (AV.cf ρ [.ptr (some a),.int k' old,v]).toArray) (.bool (.lit b)) (if b then h' else h):=by
 obtain⟨h1,h2,h3⟩:=tb R G hl;obtain⟨_,_,hfz,_,_,_,hn,we⟩:=jb R G hs;obtain⟨i,off,kj,rfl,Hn,qX⟩:=ON hs;obtain⟨arr,wo,_⟩:=R.arr Hn qX;have hd:=pT R hb;refine⟨trivial,?_,fun{E Q} hq=>?_⟩
 ·cases b
  ·exact d6.refl I
  ·exact nQ I hs ha hv hn we
 ·have hsh:(w.shape? (AA.ev ρ ⟨.cN i,off⟩).block)=some (kj.elem,arr.size):=by
   show w.shape? (ρ.b i)=_;simp[World.shape?,wo]
  have acV:(e.ev ρ==old.ev ρ)=b:=by simpa[BE.ev,G2] using hd
  show wq K.P K.Ev E (asAddr (.pointer (some (AA.ev ρ ⟨.cN i,off⟩)))>>= _) Q w;refine(bG _ _).2 ?_;show wq K.P K.Ev E (Extern.Atomic.touchesFrozen (AA.ev ρ ⟨.cN i,off⟩)>>= _) Q w;refine(bG _ _).2 ?_;simp only[bG,bO,Extern.Atomic.touchesFrozen,viewAt,v8,hsh,Option.isSome_some,if_true,qt,hfz];show wq K.P K.Ev E (Extern.Atomic.read (.int k) (AA.ev ρ ⟨.cN i,off⟩)>>= _) Q w;refine(bG _ _).2 (zL h1 h2 ?_);show wq K.P K.Ev E (pure (IE.ev ρ e==IE.ev ρ old)>>= _) Q w;refine(bG _ _).2 ?_;rw[bO,acV];cases b with
  |true=>simp only[if_true,bG,bO];exact ud R G hs (hq _ _ (pE R G hs rfl))
  |false=>simp only[aR,if_false,bO,bG];exact hq _ _ (f_.eL R rfl)
theorem FD(G:K.Good)(R:Rel K ρ h w)(I:h_ K U h)(m:Addr->Mark)(m1:∀a,E6 (m a)=true){a:AA}:qk K U ρ h w (Extern.Race.marked m (AV.cf ρ [.ptr (some a)]).toArray) cx h:=by refine qk.pure R I (by simp[cx,AV.In,AV.iB]) fun{E Q} hq=>?_;show wq K.P K.Ev E (do mark (m (<-(pure (a.ev ρ):Sem Addr)));pure Extern.Race.none_) Q w;simp only[bG,bO,pp];exact⟨G.ext _ (m1 _),hq⟩
theorem Sf(G:K.Good)(L:K.kx)(R:Rel K ρ h w)(I:h_ K U h)(m:Mark):qk K U ρ h w (do mark m;pure Extern.Race.none_) cx h:=by refine qk.pure R I (by simp[cx,AV.In,AV.iB]) fun{E Q} hq=>?_;simp only[bG,bO,pp];exact⟨G.kx L _,hq⟩
end
section
variable {K:ik}{ρ:cn}{h:AH}{w:World}{U:Nat->Prop}{E:Value->World->Prop}
theorem HK{P:Program}{t:TypeId}{n:Nat}(hk:kind? P t=.ok n):fi P (Extern.Rtype.kind t)=some n:=by
 unfold kind? at hk;split at hk
 ·rename_i h;cases hk;exact h
 ·cases hk
theorem OP{t:TypeId}{Q:Value->World->Prop}(hq:Q (.pointer (some ⟨K.P.globals.size,t,none⟩)) w):wq K.P K.Ev E (Extern.Rtype.handle t) Q w:=by simp only[Extern.Rtype.handle,bG,jz,bO];exact hq
theorem abt{t:TypeId}{a:AA}{fl:Nat}{r:AV}(hr:mkV? K.P t a fl=.ok r){Q:Value->World->Prop}(hq:Q (r.ev ρ) w):wq K.P K.Ev E (Extern.ReflectliteValue.mk t (a.ev ρ) fl) Q w:=by unfold mkV? at hr;rw[bN]at hr;obtain⟨n,hn,hr⟩:=hr;cases hr;unfold Extern.ReflectliteValue.mk;simp only[bG];refine OP (iG (HK hn) ?_);rw[bO];exact hq
theorem MI{P:Program}{t:TypeId}{a:AA}{fl:Nat}{r:AV}(hr:mkV? P t a fl=.ok r)(ha:a.In U):r.In U:=by unfold mkV? at hr;rw[bN]at hr;obtain⟨n,hn,hr⟩:=hr;cases hr;exact⟨⟨trivial,trivial⟩,ha,trivial,trivial⟩
theorem Ks{P:Program}{x:AV}{t:TypeId}(hx:handle? P x=some t)(ρ:cn):handleType P (x.ev ρ)=some t:=by
 unfold handle? at hx;split at hx
 ·split at hx
  ·rename_i b o hb;cases hx;simp only[AV.ev,af,AA.ev,BR.ev,IE.ev,handleType,hb,if_true];rfl
  ·cases hx
 ·cases hx
structure ru(P:Program)(x:AV)(t:TypeId)(a:AA)(f:Nat):Prop where
 ex:∃h,x=.agg [h,.ptr (some a),.int .u64 (.lit (.ofNat f))]∧handle? P h=some t
 pos:f≠0
 apk:P.packed t=false
theorem oJ{P:Program}{x:AV}{t:TypeId}{a:AA}{f:Nat}(hp:partsV? P x=.ok (t,a,f)):ru P x t a f:=by
 unfold partsV? at hp;split at hp
 ·split at hp
  ·rename_i hh;split at hp
   ·cases hp
   ·rename_i hc;cases hp;simp only[Bool.or_eq_true,decide_eq_true_eq,not_or,Bool.not_eq_true]at hc;exact⟨⟨_,rfl,hh⟩,hc.1,hc.2⟩
  ·cases hp
 ·cases hp
theorem ru.in{x:AV}{t:TypeId}{a:AA}{f:Nat}(p:ru K.P x t a f)(hx:x.In U):a.In U:=by obtain⟨hh,rfl,_⟩:=p.ex;exact hx.2.1
theorem yJ{x:AV}{t:TypeId}{a:AA}{f:Nat}(p:ru K.P x t a f){Q:Option (TypeId×Addr×Nat)->World->Prop}(hq:Q (some (t,a.ev ρ,f)) w):wq K.P K.Ev E (Extern.ReflectliteValue.partsAny (x.ev ρ)) Q w:=by obtain⟨hh,rfl,ht⟩:=p.ex;have df:f≠0:=p.pos;obtain⟨m,rfl⟩:∃m,f=m+1:=⟨f-1,by omega⟩;show wq K.P K.Ev E (Extern.Rtype.ofHandle (hh.ev ρ)>>= fun t=>pure (some (t,a.ev ρ,m+1))) Q w;simp only[bG,Extern.Rtype.ofHandle,jz,Ks ht,bO];exact hq
theorem OQ{s:String}{t:TypeId}(hp:K.P.packed t=false){Q:Unit->World->Prop}(hq:Q () w):wq K.P K.Ev E (Extern.Rtype.noPack s t) Q w:=by unfold Extern.Rtype.noPack;simp only[bG,jz,hp,aR,if_false,bO];exact hq
theorem Bf{x:AV}{t:TypeId}{a:AA}{f:Nat}(p:ru K.P x t a f){Q:Option (TypeId×Addr×Nat)->World->Prop}(hq:Q (some (t,a.ev ρ,f)) w):wq K.P K.Ev E (Extern.ReflectliteValue.parts (x.ev ρ)) Q w:=by unfold Extern.ReflectliteValue.parts;rw[bG];refine yJ p ?_;simp only[bG];refine OQ p.apk ?_;rw[bO];exact hq
theorem vq{z:Sem Value}{g:TypeId->Addr->Nat->Nat->Sem Value}{x:AV}{t:TypeId}{a:AA}{f:Nat}(p:ru K.P x t a f){Q:Value->World->Prop}(hq:wq K.P K.Ev E (g t (a.ev ρ) f (f % 32)) Q w):
  wq K.P K.Ev E (Extern.ReflectliteValue.method z g (AV.cf ρ [x]).toArray) Q w:=by
 show wq K.P K.Ev E (Extern.ReflectliteValue.parts (x.ev ρ)>>= _) Q w;rw[bG];exact Bf p hq
theorem De{z:Sem Value}{g:TypeId->Addr->Nat->Nat->Sem Value}{x:AV}{t:TypeId}{a:AA}{f:Nat}(p:ru K.P x t a f){Q:Value->World->Prop}(hq:wq K.P K.Ev E (g t (a.ev ρ) f (f % 32)) Q w):
  wq K.P K.Ev E (Extern.ReflectliteValue.methodAny z g (AV.cf ρ [x]).toArray) Q w:=by
 show wq K.P K.Ev E (Extern.ReflectliteValue.partsAny (x.ev ρ)>>= _) Q w;rw[bG];exact yJ p hq
theorem DZ(G:K.Good)(R:Rel K ρ h w)(I:h_ K U h){x r:AV}{h':AH}(hx:x.In U)(hu:unpackV? K.P h x=.ok (r,h')):qk K U ρ h w (Extern.ReflectliteValue.unpack (x.ev ρ)) r h':=by
 unfold unpackV? at hu;split at hu
 ·rename_i t v;rw[bN]at hu;obtain⟨cs,hc,hu⟩:=hu;rw[bN]at hu;obtain⟨⟨y,h1⟩,ha,hu⟩:=hu;dsimp only at hu;split at hu
  ·rename_i a;rw[bN]at hu;obtain⟨r',hr,hu⟩:=hu;cases hu;obtain⟨_,g1,g2,g3⟩:=qZ R I ha (me hc hx);refine⟨MI hr g1,g2,fun{E Q} hq=>?_⟩;show wq K.P K.Ev E (newVar t (v.ev ρ)>>= fun b=>Extern.ReflectliteValue.mk t b 0) Q w;rw[bG];refine rb (iR hc ρ) ?_;obtain⟨bL,a1,a2,a3,a4⟩:=g3 (AV.cf ρ cs).toArray (by simp[bM.jg]);have ha4:a.ev bL=⟨w.heap.size,0,none⟩:=by simpa[AV.ev] using a4
   rw[<-ha4];exact abt hr (hq _ _ ⟨bL,a1,a2,a3,rfl⟩)
  ·cases hu
 ·cases hu;exact qk.pure R I ⟨trivial,trivial,trivial,trivial⟩ fun{E Q} hq=>hq
 ·cases hu
theorem D3(R:Rel K ρ h w)(I:h_ K U h){t:TypeId}{v:Value}(hv:fi K.P (Extern.ReflectliteType.toType t)=some v):qk K U ρ h w (Extern.ReflectliteType.toType t) (ofValue v) h:=
 qk.pure R I (oy v) fun{E Q} hq=>iG hv (by rw[ox]at hq;exact hq)
theorem Sg{v:AV}{b:Bool}(hb:isNil? v=.ok b){Q:Value->World->Prop}(hq:Q (.bool b) w):
  wq K.P K.Ev E (match v.ev ρ with
   |.chan none|.nilFunc|.nilIface|.map none|.pointer none|.slice none _ _=>(pure (.bool true):Sem Value)
   |_=>pure (.bool false)) Q w:=by
 unfold isNil? at hb;split at hb<;>cases hb<;>exact hq
theorem OR(G:K.Good)(R:Rel K ρ h w)(I:h_ K U h){z:Sem Value}{x r:AV}{h':AH}(hx:x.In U)(he:xIsNil? K.P K.O h x=.ok (r,h')):qk K U ρ h w (Extern.ReflectliteValue.method z Extern.ReflectliteValue.isNil (AV.cf ρ [x]).toArray) r h':=by
 unfold xIsNil? at he;rw[bN]at he;obtain⟨⟨t,a,fl⟩,hp,he⟩:=he;dsimp only at he;split at he
 ·rename_i hk;rw[bN]at he;obtain⟨v,hv,he⟩:=he;rw[bN]at he;obtain⟨b,hb,he⟩:=he;cases he;have p:=oJ hp;refine qk.pure R I trivial fun{E Q} hq=>vq p ?_;unfold Extern.ReflectliteValue.isNil;simp only[hk,Bool.not_true,aR,if_false,bG,bO];exact mf R G hv (Sg hb hq)
 ·cases he
theorem OS{P:Program}{t e:TypeId}(he:elemT? P t=.ok e):fi P (Extern.Rtype.elem? t)=some (some e):=by
 unfold elemT? at he;split at he
 ·rename_i h;cases he;exact h
 ·cases he
theorem Sh(G:K.Good)(R:Rel K ρ h w)(I:h_ K U h){z:Sem Value}{x r:AV}{h':AH}(hx:x.In U)(he:xElem? K.P K.O h x=.ok (r,h')):qk K U ρ h w (Extern.ReflectliteValue.method z Extern.ReflectliteValue.elem (AV.cf ρ [x]).toArray) r h':=by
 unfold xElem? at he;rw[bN]at he;obtain⟨⟨t,a,fl⟩,hp,he⟩:=he;dsimp only at he;have p:=oJ hp;rw[bN]at he;obtain⟨v,hv,he⟩:=he;have OT:=pt I hv;split at he
 ·rename_i hk;rw[bN]at he;obtain⟨e,Df,he⟩:=he;have adm:=OS Df;have lR:∀{E:Value->World->Prop} {Q:Value->World->Prop},wq K.P K.Ev E (match(22:Nat),v.ev ρ,some e with
    |20,i,_=>Extern.ReflectliteValue.unpack i
    |22,.pointer none,_=>pure Extern.ReflectliteValue.zeroV
    |22,.pointer (some p),some e=>Extern.ReflectliteValue.mk e p Extern.ReflectliteValue.flagAddr
    |_,_,_=>Extern.ReflectliteValue.valueError "reflectlite.Value.Elem" 22) Q w->wq K.P K.Ev E (Extern.ReflectliteValue.method z Extern.ReflectliteValue.elem (AV.cf ρ [x]).toArray) Q w:=by
   intro E Q hq;refine vq p ?_;rw[hk];show wq K.P K.Ev E (loadVar t (a.ev ρ)>>= _) Q w;rw[bG];refine mf R G hv ?_;rw[bG];exact iG adm hq
  split at he
  ·cases he;exact qk.pure R I ⟨trivial,trivial,trivial,trivial⟩ fun{E Q} hq=>lR hq
  ·rename_i q;rw[bN]at he;obtain⟨r',hr,he⟩:=he;cases he;exact qk.pure R I (MI hr OT) fun{E Q} hq=>lR (abt hr hq)
  ·cases he
 ·split at he
  ·rename_i hk;rw[bN]at he;obtain⟨e,Df,he⟩:=he;have adm:fi K.P (Extern.Rtype.elem? t)=some e:=by
    split at Df
    ·rename_i h;cases Df;exact h
    ·cases Df
   have H:=DZ G R I OT he;refine⟨H.mem,H.uF,fun{E Q} hq=>?_⟩;refine vq p ?_;rw[hk];show wq K.P K.Ev E (loadVar t (a.ev ρ)>>= _) Q w;rw[bG];refine mf R G hv ?_;rw[bG];refine iG adm ?_;exact H.run hq
  ·cases he
theorem Bg{P:Program}{s:Sem Bool}{b:Bool}(h:Mj P s=.ok b):fi P s=some b:=by
 unfold Mj at h;split at h
 ·rename_i h';cases h;exact h'
 ·cases h
theorem Xm(G:K.Good)(R:Rel K ρ h w)(I:h_ K U h){v x r:AV}{h':AH}(hv:v.In U)(hx:x.In U)(he:xSet? K.P K.O h v x=.ok (r,h')):qk K U ρ h w (Extern.ReflectliteValue.set (AV.cf ρ [v,x]).toArray) r h':=by
 unfold xSet? at he;rw[bN]at he;obtain⟨⟨dst,a,fl⟩,hp,he⟩:=he;dsimp only at he;have p:=oJ hp;rw[bN]at he;obtain⟨⟨src,b,fl2⟩,QW,he⟩:=he;dsimp only at he;have p2:=oJ QW;split at he
 ·cases he
 ·rename_i hfl;rw[bN]at he;obtain⟨val,Kt,he⟩:=he;rw[bN]at he;obtain⟨adn,iU,he⟩:=he;rw[bN]at he;obtain⟨h1,di,he⟩:=he;cases he;have OT:=pt I Kt;unfold setVal? at iU;have aiR:adn.In U:=by
   split at iU
   ·cases iU
   ·cases iU;exact OT
   ·split at iU
    ·split at iU
     ·split at iU
      ·split at iU
       ·cases iU;exact OT
       ·cases iU
      ·cases iU;exact OT
     ·cases iU
    ·cases iU
    ·cases iU
  have apm:=uC I di (p.in hv) aiR;have ky:∀{E:Value->World->Prop} {Q:Value->World->Prop},(∀x w',f_ K U ρ w h' (fun bL=>x=cx.ev bL) w'->Q x w')->wq K.P K.Ev E (storeVar dst (a.ev ρ) (adn.ev ρ)) (fun _ w=>Q (.tuple #[]) w) w:=fun hq=>pu R G di fun w' R' kp _ _=>hq _ _ ⟨ρ,cz.refl _ _,R',kp,rfl⟩
  have nb:h'.nb=h.nb∧h'.eH=h.eH:=by
   have:=(ou (P:=K.P) (Ev:=K.Ev) (E:=fun _ _=>False) (Q:=fun _ _=>h'.nb=h.nb∧h'.eH=h.eH) (pu (ρ:=ρ) R G di (Q:=fun _ _=>h'.nb=h.nb∧h'.eH=h.eH) fun w' _ _ a b=>⟨a,b⟩)).1;generalize(storeVar dst (a.ev ρ) (adn.ev ρ)).run K.P w=r at this;cases r with
   |ok u w'=>exact this
   |halt y w'=>cases y<;>exact this.elim
  refine⟨by simp[cx,AV.In,AV.iB],⟨by rw[nb.1];exact aq _,nb.2,by rw[nb.1];exact apm.congr (fun n=>⟨.inl,qx n⟩)⟩,fun{E Q} hq=>?_⟩;show wq K.P K.Ev E (Extern.ReflectliteValue.parts (v.ev ρ)>>= _) Q w;rw[bG];refine Bf p ?_;rw[bG];refine Bf p2 ?_;have apn:(fl / Extern.ReflectliteValue.flagAddr % 2==0)=false:=by simpa[Extern.ReflectliteValue.flagAddr] using hfl
  simp only[apn,aR,if_false,bG];refine mf R G Kt ?_;split at iU
  ·cases iU
  ·rename_i hda;cases iU;refine iG (Bg hda) ?_;simp only[if_true,bG,bO];exact ky hq
  ·rename_i hda;refine iG (Bg hda) ?_;simp only[aR,if_false,bG];split at iU
   ·rename_i him;rw[Ai]at him;refine iG (Bg him) ?_;simp only[if_true,bG];split at iU
    ·rename_i k hk;refine iG (HK hk) ?_;split at iU
     ·rename_i Xn;subst Xn;simp only[beq_self_eq_true,if_true];split at iU
      ·cases iU;simp only[AV.ev,bG,bO];exact ky hq
      ·cases iU
     ·rename_i Xn;have:(k==20)=false:=by simpa using Xn
      cases iU;simp only[this,aR,if_false,bG,bO];exact ky hq
    ·cases iU
   ·cases iU
   ·cases iU
def HL(P:Program)(tab:List (FuncId×XE)):Prop:=∀p∈tab,∃e,ko P p.1 e∧p.2.sem e
theorem xT(G:K.Good){tab:List (FuncId×XE)}(L:K.kx∨∀p∈tab,p.2≠.k7)(T:HL K.P tab):ib K (ext? K.P K.O tab):=by
 intro U ρ h w f args v h' R I ha he;have apq:∀{e:Array Value->Sem Value},ko K.P f e->qk K U ρ h w (e (AV.cf ρ args).toArray) v h'->vT K U ρ h w (callFunc f (AV.cf ρ args).toArray) (.value v) h':=fun hf H=>⟨H.mem,H.uF,fun hq _=>DM G hf (H.run fun x w' ⟨bL,a1,a2,a3,a4⟩=>hq _ _ ⟨bL,a1,a2,a3,by rw[a4];rfl⟩)⟩
 unfold ext? at he;split at he
 ·cases he
 ·rename_i x hx;obtain⟨f',hm,xx⟩:=iv hx;have:f=f':=by simpa using xx
  subst this;obtain⟨e,MJ,tc⟩:=T _ hm;refine apq MJ ?_;dsimp only at tc;split at he
  ·
   have hs:e=_:=tc;subst hs;rw[bN]at he;obtain⟨n,hn,he⟩:=he;cases he;exact aiO G R I hn
  ·have hs:e=_:=tc;subst hs;rw[bN]at he;obtain⟨n,hn,he⟩:=he;cases he;exact aiP G R I ha.1 ha.2.1 hn
  ·have hs:e=_:=tc;subst hs;rw[bN]at he;obtain⟨n,hn,he⟩:=he;rw[bN]at he;obtain⟨h1,hh,he⟩:=he;cases he;exact aiQ G R I ha.1 ha.2.1 hn hh
  ·have hs:e=_:=tc;subst hs;rw[bN]at he;obtain⟨n,hn,he⟩:=he;rw[bN]at he;obtain⟨b,hb,he⟩:=he;rw[bN]at he;obtain⟨h1,hh,he⟩:=he;cases he;exact adk G R I ha.1 ha.2.2.1 hn hb hh
  ·have hs:e=_:=tc;subst hs;rw[bN]at he;obtain⟨n,hn,he⟩:=he;rw[bN]at he;obtain⟨h1,hh,he⟩:=he;cases he;exact adj G R I ha.1 ha.2.1 hn hh (ve I ⟨(tb R G hn).2.2 I,ha.2.1⟩)
  ·have hs:e=_:=tc;subst hs;cases he;exact FD G R I _ (fun _=>rfl)
  ·have hs:e=_:=tc;subst hs;cases he;exact FD G R I _ (fun _=>rfl)
  ·have hs:e=_:=tc;subst hs;cases he;exact FD G R I _ (fun _=>rfl)
  ·obtain⟨m,rfl⟩:=tc;cases he;exact Sf G (L.resolve_right fun x=>x _ hm rfl) R I m
  ·have hs:e=_:=tc;subst hs;split at he
   ·rename_i t _ vv hv;cases he;exact D3 R I hv
   ·cases he
  ·have hs:e=_:=tc;subst hs;cases he;exact qk.pure R I trivial fun{E Q} hq=>hq
  ·have hs:e=_:=tc;subst hs;exact DZ G R I ha.1 he
  ·obtain⟨z,rfl⟩:=tc;rw[bN]at he;obtain⟨⟨t,a,fl⟩,hp,he⟩:=he;dsimp only at he;split at he
   ·rename_i vv hv;cases he;have H:=D3 R I hv (U:=U);exact⟨H.mem,H.uF,fun{E Q} hq=>De (oJ hp) (H.run hq)⟩
   ·cases he
  ·obtain⟨z,rfl⟩:=tc;exact OR G R I ha.1 he
  ·obtain⟨z,rfl⟩:=tc;exact Sh G R I ha.1 he
  ·have hs:e=_:=tc;subst hs;exact Xm G R I ha.1 ha.2.1 he
  ·cases he
end
end Go.Proofs.Ythaddgfbohmfoaa.SX
namespace Go.Proofs.Ythaddgfbohmfoaa
open Go.ChangeShapes Go.WideShapes Go.RowKit Go.Proofs.Ythaddgfbohmfoaa.SX
open Go.Proofs.Try renaming prog->aa
open _root_.List renaming mem_cons->ac,not_mem_nil->ae
def Jv:List Nat:=[2,3,4,5,6,7,8,9,10,11,12,13,14,15,16,17,18,19,20,21,22,23,24,25,26,27,28,29,30,31,32,33,34,35,36,37,38,39,41,42,43,44,45,46,47,48,49,50,51,52,53,54,55,56,57,61,62,63,64,65,66,67,68,69,70,71,72,73,74,75,76,77,78,79,80,81,82,83,84,85,86]
def ext:List (FuncId×(Array Value->Sem Value)):=[]
theorem aiS:ko aa 40 (Extern.Atomic.loadT (.int .i64)):=⟨⟨Try.f40,Try.func40,by kernel_rfl,by kernel_rfl,by kernel_rfl,by kernel_rfl⟩⟩
theorem aiT:ko aa 58 (Extern.Atomic.storeT):=⟨⟨Try.f58,Try.func58,by kernel_rfl,by kernel_rfl,by kernel_rfl,by kernel_rfl⟩⟩
theorem aiU:ko aa 59 (Extern.Atomic.casT (.int .i64)):=⟨⟨Try.f59,Try.func59,by kernel_rfl,by kernel_rfl,by kernel_rfl,by kernel_rfl⟩⟩
theorem aiV:ko aa 60 (Extern.Atomic.update (Op.intArith .add) .i64 true):=⟨⟨Try.f60,Try.func60,by kernel_rfl,by kernel_rfl,by kernel_rfl,by kernel_rfl⟩⟩
theorem mi:∀p∈ext,ko aa p.1 p.2:=by intro p hp;cases hp
def Si:List (FuncId×XE):=[(40,.ld .i64),(58,.st),(59,.GR .i64),(60,.add .i64)]
theorem mj:HL aa Si:=by
 intro p hp;simp only[Si,ac,ae,or_false]at hp;rcases hp with rfl|rfl|rfl|rfl
 ·exact⟨_,aiS,rfl⟩
 ·exact⟨_,aiT,rfl⟩
 ·exact⟨_,aiU,rfl⟩
 ·exact⟨_,aiV,rfl⟩
theorem vr:Jv.all (CZ aa)=true:=by kernel_rfl
theorem Try.own:ownKnob Try.prog.godebug=none:=by kernel_rfl
theorem mixed:Try.prog.follows .mixedOrders=true:=by kernel_rfl
end Go.Proofs.Ythaddgfbohmfoaa
namespace Go.Proofs.Ythaddgfbohmfoaa.SX
noncomputable section
def steps?(P:Program)(O:dP)(ext:Ext)(sum:om)(f n:Nat):dw->M (dw⊕(AE×AH)):=
 Nat.rec (fun c=>.ok (.inl c)) (fun _ ih c=>
  match step? P O ext (fun g args h=>match sum g args h with
   |some r=>r
   |none=>match fD P g args .normal with
    |.ok fr=>run? P O ext sum f ⟨fr,[],h⟩
    |.error e=>.error e) c with
  |.ok (.inl c)=>ih c
  |.ok (.inr r)=>.ok (.inr r)
  |.error e=>.error e) n
def aiW(l:List (Nat×bM)):List Nat->List (Nat×bM):=
 List.rec (fun _=>[]) (fun p _ ih ks=>List.rec [] (fun k ks' _=>Bool.rec (ih ks) (p::ih ks') (Nat.beq p.1 k)) ks) l
namespace Short
end Short
def pc(c:Code)(p:List Nat):Code:=
 match p with
 |[]=>c
 |i::p=>match c with
  |.seq a b=>match i with
   |0=>pc a p
   |_=>pc b p
  |.cond _ a b=>match i with
   |0=>pc a p
   |_=>pc b p
  |.block _ b=>pc b p
  |.loop b=>pc b p
  |.scope b=>pc b p
  |c=>c
def fP(c:Code):Array Oper:=
 match c with
 |.region _ ops _=>ops
 |_=>#[]
def bQ(f:Func):Code:=
 match f.body with
 |some c=>c
 |none=>.skip
end
noncomputable section
def ue(o:Oper):Bool:=
 match o.op with
 |.move _|.assign _|.load _ _|.fieldAddr _ _ _|.nilCheck (.tmp _)|.makeFunc _ _ _|.defer _=>true
 |_=>false
def e0:AH:=⟨[],0,0⟩
def Sj(t:TT)(o:Oper):Bool:=
 match o.op with
 |.nilCheck (.tmp n)=>match t.get n with
  |.ptr (some _)=>true
  |_=>false
 |_=>true
def lstep?(P:Program)(O:dP)(ext:Ext)(c:dw):M dw:=
 match c with
 |⟨⟨fn,nt,tmps,todo,defers,mode,kind⟩,callers,h⟩=>match mode with
  |.run=>match gI kind with
   |true=>.error "loose marked"
   |false=>match todo with
    |.inRegion ops is::k=>match is with
     |[]=>.ok ⟨⟨fn,nt,tmps,k,defers,.run,kind⟩,callers,h⟩
     |i::rest=>match ops[i]? with
      |none=>.error "loose no operation"
      |some o=>match o.guard,ue o&&Sj tmps o with
       |none,true=>match op? P O ext e0 (fC tmps) o with
        |.ok (.value v,_)=>.ok ⟨⟨fn,nt,jQ nt tmps o.dst v,.inRegion ops rest::k,defers,.run,kind⟩,callers,h⟩
        |.ok (.defer d,_)=>.ok ⟨⟨fn,nt,jQ nt tmps o.dst cx,.inRegion ops rest::k,d::defers,.run,kind⟩,callers,h⟩
        |.ok _=>.error "loose this yield"
        |.error e=>.error e
       |_,_=>.error "loose this operation"
    |.inBlock _::k=>.ok ⟨⟨fn,nt,tmps,k,defers,.run,kind⟩,callers,h⟩
    |.inScope _::k=>.ok ⟨⟨fn,nt,tmps,k,defers,.run,kind⟩,callers,h⟩
    |.code c::k=>match c with
     |.skip=>.ok ⟨⟨fn,nt,tmps,k,defers,.run,kind⟩,callers,h⟩
     |.seq a b=>.ok ⟨⟨fn,nt,tmps,.code a::.code b::k,defers,.run,kind⟩,callers,h⟩
     |.block id body=>.ok ⟨⟨fn,nt,tmps,.code body::.inBlock id::k,defers,.run,kind⟩,callers,h⟩
     |.scope body=>.ok ⟨⟨fn,nt,tmps,.code body::.inScope body::k,defers,.run,kind⟩,callers,h⟩
     |.region _ ops false=>.ok ⟨⟨fn,nt,tmps,.inRegion ops (List.range ops.size)::k,defers,.run,kind⟩,callers,h⟩
     |_=>.error "loose this code"
    |_=>.error "loose this item"
  |_=>.error "loose this mode"
def lrun?(P:Program)(O:dP)(ext:Ext)(n:Nat):dw->M dw:=
 Nat.rec (fun c=>.ok c) (fun _ ih c=>match lstep? P O ext c with
  |.ok c=>ih c
  |.error e=>.error e) n
def recvAt?(P:Program)(c:dw):Option (BR×Value×Bool):=
 match c with
 |⟨⟨_,_,tmps,.inRegion ops (i::_)::_,_,.run,kind⟩,_,_⟩=>match gI kind with
  |true=>none
  |false=>match ops[i]? with
   |none=>none
   |some o=>match o.guard,o.op with
    |none,.recv t x ok=>match fC tmps x,P.underlying t with
     |.chan (some r),some (.chan _ elem)=>match fi P (zeroValue elem)with
      |some z=>some (r,z,ok)
      |none=>none
     |_,_=>none
    |_,_=>none
 |_=>none
def leave1?(P:Program)(O:dP)(ext:Ext)(ih:dw->Bool)(c:dw):Bool:=
 match c with
 |⟨⟨fn,nt,tmps,todo,defers,mode,kind⟩,callers,h⟩=>match mode with
  |.run=>match gI kind with
   |true=>false
   |false=>match todo with
    |[]=>ih ⟨⟨fn,nt,tmps,[],defers,.returning,kind⟩,callers,h⟩
    |.code .ret::k=>ih ⟨⟨fn,nt,tmps,.code .ret::k,defers,.returning,kind⟩,callers,h⟩
    |_=>match lstep? P O ext c with
     |.ok c=>ih c
     |.error _=>false
  |.returning=>match defers,kind,P.funcs[fn]? with
    |[],.deferred,some f=>match f.results.toList,callers with
     |[],[]=>true
     |[],eX::rest=>ih ⟨xF eX,rest,h⟩
     |_,_=>false
    |_,_,_=>false
  |_=>false
def leave?(P:Program)(O:dP)(ext:Ext)(n:Nat):dw->Bool:=Nat.rec (fun _=>false) (fun _ ih c=>leave1? P O ext ih c) n
end
end Go.Proofs.Ythaddgfbohmfoaa.SX
