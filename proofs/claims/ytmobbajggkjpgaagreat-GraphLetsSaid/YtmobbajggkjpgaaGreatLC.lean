/-
  A symbolic run of the model, proved sound, and the walk of the code: a text of its parts. Conditions: none.
-/
import Derived.Test.YtmobbajggkjpgaaGreatLB
import Derived.Conc.Own4
import Derived.AtR
import Derived.Calls
set_option linter.unusedSectionVars false
set_option maxRecDepth 100000
set_option linter.unusedVariables false
set_option linter.unusedSimpArgs false
namespace Go.Proofs.YtmobbajggkjpgaaGreat.SX
open Go.Conc
open _root_.List renaming mem_cons_of_mem->aa,getElem?_eq_getElem->af,mem_singleton->ah,mem_cons_self->ai,mem_cons->aj,mem_of_getElem?->ay,not_mem_nil->az,all_eq_true->aD,map_cons->aK,mem_append->aR,mem_filter->aW,map_congr_left->a_,getD_eq_getElem?_getD->bg,mem_map->bq,eq_nil_of_length_eq_zero->bw
open _root_.Bool renaming and_eq_true->an,false_eq_true->aF
open _root_.Option.some renaming inj->au
open _root_.Option renaming map_some->av
open _root_.Nat renaming le_refl->ax,le_trans->aA,eq_of_beq_eq_true->aH,mul_le_mul_right->bf
open _root_.Array renaming getElem?_eq_getElem->aO,getD_eq_getD_getElem?->aX,getElem?_setIfInBounds_ne->bu
def cx(w:World)(d:Nat):World:={w with drawn:=d}
inductive fO(P:Program)(main:Bool)(D:World->World->Array Event->Prop)(S:Goroutine->World->Prop):Nat->Goroutine->World->Prop where
 |stop (g:Goroutine) (w:World):S g w->fO P main D S 0 g w
 |step (n:Nat) (g:Goroutine) (w:World) (g':Nat->Goroutine) (w':Nat->World) (es:Nat->Array Event):g.status=.running->(∀d,stepG P main g (cx w d)=.go (g' d) (w' d) (es d))->
  (∀d,D (cx w d) (w' d) (es d))->(∀d,fO P main D S n (g' d) (w' d))->fO P main D S n g w
 |off (n:Nat) (g:Goroutine) (w:World) (g':Goroutine):g.status=.running->(∀d,stepG P main g (cx w d)=.go g' (cx w d) #[⟨.mark .disable,false,true⟩])->
  (∀d,fO P main D S (n+1) g' (cx w d))->fO P main D S n g w
 |on (n:Nat) (g:Goroutine) (w:World) (g':Goroutine):g.status=.running->(∀d,stepG P main g (cx w d)=.go g' (cx w d) #[⟨.mark .enable,false,true⟩])->
  (∀d,fO P main D S n g' (cx w d))->fO P main D S (n+1) g w
def Walk(P:Program)(main:Bool)(D:World->World->Array Event->Prop)(S:Goroutine->World->Prop)(_:Nat)(g:Goroutine)(w:World):Prop:=fO P main D S 0 g w
section
variable {P:Program}{main:Bool}{D:World->World->Array Event->Prop}{S T:Goroutine->World->Prop}
theorem Walk.stop{n:Nat}{g:Goroutine}{w:World}(h:S g w):Walk P main D S n g w:=fO.stop g w h
theorem HT{s:GStep}{K K':Goroutine->World->Array Event->Prop}(h:s.goes K)(hk:∀g w es,K g w es->K' g w es):s.goes K':=by cases s<;>first|exact hk _ _ _ h|exact h
theorem NO{s:GStep}{K:Goroutine->World->Array Event->Prop}(h:s.goes K):∃g w es,s=.go g w es∧K g w es:=by
 cases s with
 |go g w es=>exact⟨g,w,es,rfl,h⟩
 |_=>exact h.elim
theorem Walk.mono{n m:Nat}{g:Goroutine}{w:World}(_:n≤m)(h:Walk P main D S n g w):Walk P main D S m g w:=h
theorem Walk.any{n m:Nat}{g:Goroutine}{w:World}(h:Walk P main D S n g w):Walk P main D S m g w:=h
theorem fO.trans(Wa:∀g w,S g w->fO P main D T 0 g w){n:Nat}{g:Goroutine}{w:World}(h:fO P main D S n g w):fO P main D T n g w:=by
 induction h with
 |stop g w hs=>exact Wa g w hs
 |step n g w g' w' es hr hs hd _ ih=>exact fO.step n g w g' w' es hr hs hd fun d=>ih d
 |off n g w g' hr hs _ ih=>exact fO.off n g w g' hr hs fun d=>ih d
 |on n g w g' hr hs _ ih=>exact fO.on n g w g' hr hs fun d=>ih d
theorem Walk.trans{n m:Nat}(Wa:∀g w,S g w->Walk P main D T m g w){g:Goroutine}{w:World}(h:Walk P main D S n g w):Walk P main D T (n+m) g w:=fO.trans Wa h
theorem Walk.weaken{n:Nat}(Wa:∀g w,S g w->T g w){g:Goroutine}{w:World}(h:Walk P main D S n g w):Walk P main D T n g w:=
 (Walk.trans (m:=0) (fun g w hs=>Walk.stop (Wa g w hs)) h).any
theorem Walk.head{n m:Nat}{g:Goroutine}{w:World}(hs:g.status=.running)(h:∀d,(stepG P main g (cx w d)).goes fun g' w' es=>D (cx w d) w' es∧Walk P main D S n g' w'):Walk P main D S m g w:=by
 have h':∀d,∃g' w' es,stepG P main g (cx w d)=.go g' w' es∧D (cx w d) w' es∧Walk P main D S n g' w':=fun d=>NO (h d);exact fO.step 0 g w (fun d=>(h' d).choose) (fun d=>(h' d).choose_spec.choose) (fun d=>(h' d).choose_spec.choose_spec.choose) hs (fun d=>(h' d).choose_spec.choose_spec.choose_spec.1)
  (fun d=>(h' d).choose_spec.choose_spec.choose_spec.2.1) (fun d=>(h' d).choose_spec.choose_spec.choose_spec.2.2)
theorem Walk.one{g:Goroutine}{w:World}(hs:g.status=.running)(h:∀d,(stepG P main g (cx w d)).goes fun g' w' es=>D (cx w d) w' es∧S g' w'):Walk P main D S 1 g w:=
 Walk.head (n:=0) hs fun d=>HT (h d) fun g' w' es ⟨a,b⟩=>⟨a,Walk.stop b⟩
theorem Walk.lax{D':World->World->Array Event->Prop}{n:Nat}(hd:∀w w' es,D w w' es->D' w w' es){g:Goroutine}{w:World}(h:Walk P main D S n g w):Walk P main D' S n g w:=by
 change fO P main D S 0 g w at h;show fO P main D' S 0 g w;generalize(0:Nat)=k at h⊢
 induction h with
 |stop g w hs=>exact fO.stop g w hs
 |step n g w g' w' es hr hs Kn _ ih=>exact fO.step n g w g' w' es hr hs (fun d=>hd _ _ _ (Kn d)) fun d=>ih d
 |off n g w g' hr hs _ ih=>exact fO.off n g w g' hr hs fun d=>ih d
 |on n g w g' hr hs _ ih=>exact fO.on n g w g' hr hs fun d=>ih d
end
def m5(S:Nat->Nat->Prop)(w w':World):Prop:=∀b n v,S b n->w.cell? ⟨b,n,none⟩=some v->w'.cell? ⟨b,n,none⟩=some v
theorem Af{α:Type}{P:Program}{Ev:Event->Prop}{E:Value->World->Prop}{S:Nat->Nat->Prop}(hE:∀b n s,S b n->¬Ev ⟨.cell ⟨b,n,none⟩,true,s⟩)(m:Sem α):∀{Q:α->World->Prop} {w:World},wq P Ev E m Q w->
  wq P Ev E m (fun x w'=>Q x w'∧m5 S w w') w:=by
 have pre:∀{w w1:World},m5 S w w1->∀{m:Sem α} {Q:α->World->Prop},wq P Ev E m (fun x w'=>Q x w'∧m5 S w1 w') w1->wq P Ev E m (fun x w'=>Q x w'∧m5 S w w') w1:=by intro w w1 hs m Q h;exact ND (fun _ _ x=>x) (fun x w' ⟨a,b⟩=>⟨a,fun b' n v x y=>b b' n v x (hs b' n v x y)⟩) h
 induction m with
 |pure a=>intro Q w h;exact⟨h,fun _ _ _ _ x=>x⟩
 |load m a k ih=>intro Q w h;obtain⟨v,h1,h2,h3⟩:=h;exact⟨v,h1,h2,ih v h3⟩
 |store m a v k ih=>
  intro Q w h;obtain⟨h1,h2,h3,h4,h5⟩:=h;refine⟨h1,h2,h3,h4,pre ?_ (ih h5)⟩;intro b n u hs hc;simp only[World.cell?]at hc⊢;rw[heap_setCell];by_cases e:b=a.block
  ·rw[if_pos e];cases ho:w.heap[b]? with
   |none=>rw[ho]at hc;cases hc
   |some o=>
    rw[ho]at hc;cases o with
    |cells c elem fr=>
     simp only[av];simp only[Option.isSome_none,aF,if_false]at hc⊢;by_cases hsp:a.spot.isSome=true
     ·rw[if_pos hsp];exact hc
     ·rw[if_neg hsp];by_cases en:a.off=n
      ·exfalso;have:a=⟨b,n,none⟩:=by
        obtain⟨ab,ao,asp⟩:=a;simp only[Option.not_isSome_iff_eq_none]at hsp
        simp_all
       exact hE b n _ hs (this▸h4)
      ·rw[bu en];exact hc
    |_=>cases hc
  ·rw[if_neg e];exact hc
 |new o k ih=>
  intro Q w h;refine(pre ?_ (ih _ h):wq P Ev E (k w.heap.size) _ _);intro b n u hs hc;simp only[World.cell?]at hc⊢;have hlt:b<w.heap.size:=by
   rcases Nat.lt_or_ge b w.heap.size with h'|h'
   ·exact h'
   ·rw[Array.getElem?_eq_none h']at hc;cases hc
  rw[Array.getElem?_push_lt hlt];rw[aO hlt]at hc;exact hc
 |shape r k ih=>intro Q w h;exact ih _ h
 |freeze a n k ih=>intro Q w h;exact h.elim
 |frozen a k ih=>intro Q w h;exact ih _ h
 |getObj r k ih=>intro Q w h;obtain⟨o,h1,h2,h3,h4⟩:=h;exact⟨o,h1,h2,h3,ih o h4⟩
 |setObj r o k ih=>
  intro Q w h;obtain⟨⟨o',h1,h2⟩,h3,h4⟩:=h;refine⟨⟨o',h1,h2⟩,h3,pre ?_ (ih h4)⟩;intro b n u hs hc;simp only[World.cell?]at hc⊢;by_cases e:r=b
  ·subst e;rw[h1]at hc;cases o' with
   |cells c el fr=>exact absurd rfl (h2 _ _ _)
   |_=>cases hc
  ·rw[bu e];exact hc
 |choose q k ih=>
  intro Q w h;simp only[wq]at h⊢;split
  ·rename_i hf;rw[if_pos hf]at h;exact ih 0 h
  ·rename_i hf;rw[if_neg hf]at h;exact fun n=>pre (fun _ _ _ _ x=>x) (ih _ (h n))
 |sys c k ih=>intro Q w h;exact h.elim
 |program k ih=>intro Q w h;exact ih P h
 |mark m k ih=>intro Q w h;exact⟨h.1,ih h.2⟩
 |halt x=>intro Q w h;cases x<;>exact h
def DK(K:Ctx)(w w':World)(es:Array Event):Prop:=bS K.own w w'∧(∀e∈es,K.Ev e)∧m5 K.still w w'
structure oR(ρ:Env)(nt:Nat)(t:TT)(tmps:Array Value):Prop where
 size:tmps.size=nt
 le:nt≤60000
 get:∀n,n<nt->tmps[n]?=some ((t.get n).ev ρ)
 out:∀n,nt≤n->t.get n=cJ
def gK.ev(ρ:Env):gK->FrameMode
 |.run=>.run
 |.returning=>.returning
 |.panicking chain=>.panicking (chain.map fun x=>{v:=x.1.ev ρ,recovered:=x.2})
def wj(fn:FuncId)(kind:CallKind):Frame:={(default:Frame)with fn:=fn,kind:=kind}
def bB(ρ:Env)(fn:FuncId)(kind:CallKind):Frame:=
 match kind with
 |.wrapped=>{wj fn .normal with roundOf:=ρ.bt.1}
 |k=>wj fn k
def dB(ρ:Env)(kind:CallKind)(ds:List Deferred):List Deferred:=
 match kind with
 |.wrapped=>ds++ρ.bt.2
 |_=>ds
def aB(ρ:Env)(kind:CallKind)(tm:Array Value)(ds:List AD):Act:=⟨tm,dB ρ kind (ds.map (AD.ev ρ))⟩
def iC(k:CallKind):Prop:=k=.normal∨k=.deferred
theorem pD{k:CallKind}(h:iC k∨k=.wrapped)(ht:tagged k=false):iC k:=by
 rcases h with h|rfl
 ·exact h
 ·cases ht
theorem pE{k:CallKind}(h:iC k)(ρ:Env)(fn:FuncId):bB ρ fn k=wj fn k:=by rcases h with rfl|rfl<;>rfl
theorem wm{k:CallKind}(h:iC k)(ρ:Env)(ds:List Deferred):dB ρ k ds=ds:=by rcases h with rfl|rfl<;>rfl
theorem Ko{k:CallKind}(h:iC k)(ρ:Env)(tm:Array Value)(ds:List AD):aB ρ k tm ds=⟨tm,ds.map (AD.ev ρ)⟩:=by unfold aB;rw[wm h]
theorem wo{k:CallKind}(h:iC k)(ρ:Env)(fn:FuncId)(tm:Array Value)(ds:List AD)(todo:List Item):(bB ρ fn k).atR (aB ρ k tm ds) todo=(wj fn k).at ⟨tm,ds.map (AD.ev ρ)⟩ todo:=by rw[pE h,Ko h];rfl
theorem plain_round{k:CallKind}(h:iC k)(ρ:Env)(fn:FuncId):(bB ρ fn k).roundOf=none:=by rw[pE h];rfl
theorem NP{k:CallKind}(h:iC k∨k=.wrapped)(ρ:Env)(fn:FuncId):(bB ρ fn k).kind≠.early:=by rcases h with(rfl|rfl)|rfl<;>simp[bB,wj]
theorem PL(ρ:Env)(fn:FuncId)(k:CallKind):(bB ρ fn k).fn=fn:=by cases k<;>rfl
theorem FN(ρ:Env)(k:CallKind)(d:Deferred)(ds:List Deferred):dB ρ k (d::ds)=d::dB ρ k ds:=by cases k<;>rfl
def dR(ρ:Env)(fr:bR)(tmps:Array Value)(todo:List Item):Frame:={(bB ρ fr.fn fr.kind).atR (aB ρ fr.kind tmps fr.defers) todo with mode:=fr.mode.ev ρ}
structure Re(P:Program)(ρ:Env)(fr:bR)(tmps:Array Value)(todo:List Item):Prop where
 tmps:oR ρ fr.nt fr.tmps tmps
 kind:iC fr.kind∨fr.kind=.wrapped
 todo:fr.mode=.run->todo=fr.todo
 fn:∃fn,P.funcs[fr.fn]?=some fn
def j5(P:Program)(ρ:Env)(fr:bR)(g:Frame):Prop:=∃tmps todo,Re P ρ fr tmps todo∧g=dR ρ fr tmps todo
def ic(P:Program)(ρ:Env):List bR->List Frame->Prop
 |[],[]=>True
 |a::l,b::m=>j5 P ρ a b∧ic P ρ l m
 |_,_=>False
def qd(K:Ctx)(ρ:Env)(c:dU)(cs:List Frame)(g:Goroutine)(w:World):Prop:=
 Rel K ρ c.h w∧∃fr fV,j5 K.P ρ c.cur fr∧ic K.P ρ c.callers fV∧g=G fr (fV++cs)
def gK.In(U:Nat->Prop):gK->Prop
 |.panicking chain=>∀x∈chain,x.1.In U
 |_=>True
structure bR.In(U:Nat->Prop)(fr:bR):Prop where
 tmps:fr.tmps.In U
 defers:∀d∈fr.defers,d.In U
 mode:fr.mode.In U
structure gp(K:Ctx)(U:Nat->Prop)(c:dU):Prop where
 cur:c.cur.In U
 callers:∀fr∈c.callers,fr.In U
 ids:f_ K U c.h
theorem jw.In.mono{U U':Nat->Prop}(hs:∀n,U n->U' n){t:jw}(h:t.In U):t.In U':=by
 cases t with
 |fn f c=>exact AV.iw.mono hs _ h
 |builtin b a t c=>trivial
theorem AD.In.mono{U U':Nat->Prop}(hs:∀n,U n->U' n){d:AD}(h:d.In U):d.In U':=⟨jw.In.mono hs h.1,AV.iw.mono hs _ h.2⟩
theorem gK.In.mono{U U':Nat->Prop}(hs:∀n,U n->U' n){m:gK}(h:m.In U):m.In U':=by
 cases m with
 |panicking chain=>exact fun x hx=>AV.In.mono hs _ (h x hx)
 |_=>trivial
theorem bR.In.mono{U U':Nat->Prop}(hs:∀n,U n->U' n){fr:bR}(h:fr.In U):fr.In U':=
 ⟨TT.In.mono hs h.tmps,fun d hd=>AD.In.mono hs (h.defers d hd),gK.In.mono hs h.mode⟩
section
variable {U:Nat->Prop}{ρ ρ':Env}
theorem AD.bV(A:cv U ρ ρ'){d:AD}(h:d.In U):d.ev ρ'=d.ev ρ:=by
 obtain⟨t,a⟩:=d;simp only[AD.ev];rw[AV.fe A _ h.2];cases t with
 |fn f c=>simp only[jw.ev];rw[AV.fe A _ h.1]
 |builtin b a t c=>rfl
theorem gK.bV(A:cv U ρ ρ'){m:gK}(h:m.In U):m.ev ρ'=m.ev ρ:=by
 cases m with
 |panicking chain=>simp only[gK.ev];congr 1;exact a_ fun x hx=>by rw[AV.bV A _ (h x hx)]
 |_=>rfl
theorem sF(A:cv U ρ ρ')(fn:FuncId)(k:CallKind):bB ρ' fn k=bB ρ fn k:=by unfold bB;rw[A.bt]
theorem sG(A:cv U ρ ρ')(k:CallKind)(tm:Array Value){ds:List AD}(h:∀d∈ds,d.In U):aB ρ' k tm ds=aB ρ k tm ds:=by have:ds.map (AD.ev ρ')=ds.map (AD.ev ρ):=a_ fun d hd=>AD.bV A (h d hd);unfold aB dB;rw[this,A.bt]
theorem oR.mS(A:cv U ρ ρ'){nt:Nat}{t:TT}{tmps:Array Value}(h:oR ρ nt t tmps)(hi:t.In U):oR ρ' nt t tmps:=
 ⟨h.size,h.le,fun n hn=>by rw[h.get n hn,AV.bV A _ (hi n)],h.out⟩
theorem yw(A:cv U ρ ρ'){fr:bR}(hi:fr.In U)(tmps:Array Value)(todo:List Item):dR ρ' fr tmps todo=dR ρ fr tmps todo:=by unfold dR;rw[gK.bV A hi.mode,sG A fr.kind tmps hi.defers,sF A]
theorem j5.mS{P:Program}(A:cv U ρ ρ'){fr:bR}{g:Frame}(h:j5 P ρ fr g)(hi:fr.In U):j5 P ρ' fr g:=by obtain⟨tmps,todo,h1,h3⟩:=h;exact⟨tmps,todo,⟨h1.tmps.mS A hi.tmps,h1.kind,h1.todo,h1.fn⟩,by rw[h3,yw A hi]⟩
theorem iy{P:Program}(A:cv U ρ ρ'):∀{l:List bR} {fV:List Frame},ic P ρ l fV->(∀fr∈l,fr.In U)->ic P ρ' l fV
 |[],[],_,_=>trivial
 |_::_,_::_,h,hi=>⟨h.1.mS A (hi _ (by simp)),iy A h.2 fun fr hf=>hi fr (aa _ hf)⟩
end
section
variable {ρ:Env}{nt:Nat}{t:TT}{tmps:Array Value}{U:Nat->Prop}
theorem oR.getD(h:oR ρ nt t tmps)(n:Nat):tmps.getD n undef=(t.get n).ev ρ:=by
 rw[aX];rcases Nat.lt_or_ge n nt with hn|hn
 ·rw[h.get n hn];rfl
 ·rw[h.out n hn,Array.getElem?_eq_none (by rw[h.size];exact hn)];rfl
theorem sH(h:oR ρ nt t tmps)(ds:List Deferred)(x:Operand):Act.eval ⟨tmps,ds⟩ x=(kP t x).ev ρ:=by
 cases x with
 |tmp n=>exact h.getD n
 |const v=>exact(l6 ρ v).symm
 |global g=>rfl
 |func f=>rfl
theorem Bw(h:t.In U)(x:Operand):(kP t x).In U:=by
 cases x with
 |tmp n=>exact h n
 |const v=>exact l7 v
 |global g=>exact⟨trivial,trivial⟩
 |func f=>exact⟨trivial,trivial⟩
theorem Bx(h:oR ρ nt t tmps)(ds:List Deferred)(dst:Option Tmp)(v:AV):∃tmps',(Act.put ⟨tmps,ds⟩ dst (v.ev ρ))=⟨tmps',ds⟩∧oR ρ nt (jl nt t dst v) tmps':=by
 cases dst with
 |none=>exact⟨tmps,rfl,h⟩
 |some d=>
  refine⟨tmps.setIfInBounds d (v.ev ρ),rfl,?_⟩;unfold jl;dsimp only;cases hb:Nat.ble (d+1) nt with
  |true=>
   have hd:Nat.succ d≤nt:=Nat.le_of_ble_eq_true hb;have HU:Nat.succ d<2 ^ 16:=Nat.lt_of_le_of_lt (aA hd h.le) (by decide);refine⟨by simpa using h.size,h.le,fun n hn=>?_,fun n hn=>?_⟩
   ·dsimp only at hn⊢;rw[TT.r5 v 16 t d n HU];by_cases e:n=d
    ·subst e;rw[if_pos rfl];simp[h.size,hn]
    ·rw[if_neg e,bu (fun x=>e x.symm)];exact h.get n hn
   ·dsimp only;rw[TT.r5 v 16 t d n HU,if_neg (show ¬n=d from fun e=>by subst e;exact Nat.lt_irrefl _ (Nat.lt_of_lt_of_le hd hn))];exact h.out n hn
  |false=>
   have hd:nt≤d:=Nat.le_of_not_lt fun hlt=>by have:=Nat.ble_eq_true_of_le hlt;have h2:Nat.ble (d+1) nt=true:=this;rw[h2]at hb;cases hb
   have:tmps.setIfInBounds d (v.ev ρ)=tmps:=Array.setIfInBounds_eq_of_size_le (by rw[h.size];exact hd);rw[this];exact h
theorem FO{dst:Option Tmp}{v:AV}(h:t.In U)(hv:v.In U)(hnt:nt≤60000):(jl nt t dst v).In U:=by
 cases dst with
 |none=>exact h
 |some d=>
  unfold jl;dsimp only;cases hb:Nat.ble (d+1) nt with
  |true=>
   have hd:Nat.succ d≤nt:=Nat.le_of_ble_eq_true hb;have HU:Nat.succ d<2 ^ 16:=Nat.lt_of_le_of_lt (aA hd hnt) (by decide);intro n;dsimp only;rw[TT.r5 v 16 t d n HU];split
   ·exact hv
   ·exact h n
  |false=>exact h
theorem rm{K:Ctx}{h:AH}{w:World}(R:Rel K ρ h w)(T:oR ρ nt t tmps){ops:Array Oper}{o:Oper}{b:Bool}(he:gz K.O ops t o=.ok b):Region.wanted o (yielded ops tmps)=b:=by
 unfold gz at he;unfold Region.wanted;split at he
 ·rename_i hg;rw[hg];cases he;rfl
 ·rename_i j want hg;rw[hg];split at he
  ·rename_i y hy;cases he;have:yielded ops tmps j=y:=by
    unfold oW at hy;unfold yielded;split at hy
    ·cases hy
    ·rename_i d hd;rw[hd];simp only[Option.bind_some];rcases Nat.lt_or_ge d nt with hlt|hge
     ·rw[T.get d hlt];split at hy
      ·rename_i b' hb';split at hy
       ·rename_i b2 oQ;cases hy;rw[hb'];simp only[AV.ev,jS R oQ]
       ·cases hy
      ·rename_i vs hvs;cases hy;rw[hvs];rfl
      ·cases hy
     ·rw[Array.getElem?_eq_none (by rw[T.size];exact hge)];rw[T.out d hge]at hy;simp only[cJ]at hy;cases hy;rfl
   show(yielded ops tmps j==some want)=_;rw[this]
  ·cases he
theorem NQ:∀{l:List AV} {n:Nat} {t:TT},n+l.length≤60000->AV.iw U l->t.In U->(TT.fill l n t).In U:=by
 intro l n t hle hl ht m;rw[TT.r6 l n t m hle];split
 ·rename_i hm;have:m-n<l.length:=by omega
  rw[bg,af this];exact cS.1 hl _ (List.getElem_mem this)
 ·exact ht m
end
theorem gS{P:Program}{ρ:Env}{U:Nat->Prop}{f:FuncId}{args:List AV}{kind:CallKind}{fr:bR}(he:bP P f args kind=.ok fr)(hk:kind=.normal∨kind=.deferred)(ha:AV.iw U args):
  j5 P ρ fr (Frame.enter P f (AV.evs ρ args).toArray kind)∧fr.In U∧fr.kind=kind∧fr.fn=f∧∃fn,P.funcs[f]?=some fn:=by
 unfold bP at he;split at he
 ·rename_i fn hf;split at he
  ·rename_i c hc;split at he
   ·rename_i hlen;cases he;refine⟨⟨(AV.evs ρ args).toArray++Array.replicate (fn.ntmps-args.length) undef,[.code c],⟨?_,.inl hk,fun _=>rfl,fn,hf⟩,?_⟩,⟨?_,by simp,trivial⟩,rfl,rfl,fn,hf⟩
    ·have hl:(AV.evs ρ args).length=args.length:=cM ρ args;refine⟨by simp[hl];omega,hlen.2,fun n hn=>?_,fun n hn=>?_⟩
     ·dsimp only at hn⊢;rw[TT.r6 args 0 .leaf n (by omega)];by_cases hlt:n<args.length
      ·rw[if_pos ⟨Nat.zero_le _,by omega⟩,Array.getElem?_append_left (by simp[hl];exact hlt)];rw[List.getElem?_toArray,mR];simp[bg,af hlt]
      ·rw[if_neg (by omega),Array.getElem?_append_right (by simp[hl];omega)];rw[Array.getElem?_replicate,if_pos (by simp[hl];omega)];rfl
     ·dsimp only at hn⊢;rw[TT.r6 args 0 .leaf n (by omega),if_neg (by omega)];rfl
    ·unfold dR Frame.enter;dsimp only;rw[wo hk];simp[wj,Frame.at,gK.ev,hf,hc,cM]
    ·exact NQ (by omega) ha (fun _=>trivial)
   ·cases he
  ·cases he
 ·cases he
section
variable {P:Program}{main:Bool}{b:Frame}{a:Act}{k:List Item}{cs:List Frame}{w:World}
theorem Kq:stepG P main (G (b.atR a (.code .skip::k)) cs) w=.go (G (b.atR a k) cs) w:=by simp[G,stepG,stepG.exec,Frame.atR]
theorem HV{l:Nat}:stepG P main (G (b.atR a (.code (.label l)::k)) cs) w=.go (G (b.atR a k) cs) w:=by simp[G,stepG,stepG.exec,Frame.atR]
theorem By{id:Nat}:stepG P main (G (b.atR a (.inBlock id::k)) cs) w=.go (G (b.atR a k) cs) w:=by simp[G,stepG,stepG.exec,Frame.atR]
theorem Bz{c:Code}:stepG P main (G (b.atR a (.inScope c::k)) cs) w=.go (G (b.atR a k) cs) w:=by simp[G,stepG,stepG.exec,Frame.atR]
theorem NR{x y:Code}:stepG P main (G (b.atR a (.code (.seq x y)::k)) cs) w=.go (G (b.atR a (.code x::.code y::k)) cs) w:=by simp[G,stepG,stepG.exec,Frame.atR]
theorem BA{c:Operand}{x y:Code}{t:Bool}(h:a.eval c=.bool t):stepG P main (G (b.atR a (.code (.cond c x y)::k)) cs) w=.go (G (b.atR a (.code (if t then x else y)::k)) cs) w:=by
 have h':(b.atR a (.code (.cond c x y)::k)).eval c=.bool t:=by rw[Frame.eval_atR];exact h
 simp only[Frame.atR]at h';simp[G,stepG,stepG.exec,Frame.atR,h']
theorem HW{id:Nat}{c:Code}:stepG P main (G (b.atR a (.code (.block id c)::k)) cs) w=.go (G (b.atR a (.code c::.inBlock id::k)) cs) w:=by simp[G,stepG,stepG.exec,Frame.atR]
theorem Kr{c:Code}:stepG P main (G (b.atR a (.code (.loop c)::k)) cs) w=.go (G (b.atR a (.code c::.inLoop c::k)) cs) w:=by simp[G,stepG,stepG.exec,Frame.atR]
theorem D6{c:Code}:stepG P main (G (b.atR a (.inLoop c::k)) cs) w=.go (G (b.atR a (.code c::.inLoop c::k)) cs) w:=by simp[G,stepG,stepG.exec,Frame.atR]
theorem HX{c:Code}:stepG P main (G (b.atR a (.code (.scope c)::k)) cs) w=.go (G (b.atR a (.code c::.inScope c::k)) cs) w:=by simp[G,stepG,stepG.exec,Frame.atR]
theorem Ks{id:Nat}{k':List Item}(h:exitTo id k=some k'):stepG P main (G (b.atR a (.code (.exit id)::k)) cs) w=.go (G (b.atR a k') cs) w:=by simp[G,stepG,stepG.exec,Frame.atR,h]
theorem Kt{l:Nat}{k':List Item}(h:gotoIn l k=some k'):stepG P main (G (b.atR a (.code (.goto l)::k)) cs) w=.go (G (b.atR a k') cs) w:=by simp[G,stepG,stepG.exec,Frame.atR,h]
theorem D7{id:Nat}{ops:Array Oper}:stepG P main (G (b.atR a (.code (.region id ops false)::k)) cs) w=.go (G (b.atR a (.inRegion ops (List.range ops.size)::k)) cs) w:=by simp[G,stepG,stepG.exec,Frame.atR]
theorem me{ops:Array Oper}:stepG P main (G (b.atR a (.inRegion ops []::k)) cs) w=.go (G (b.atR a k) cs) w:=by simp[G,stepG,stepG.exec,Frame.atR]
theorem NS(hb:b.roundOf=none):stepG P main (G (b.atR a []) cs) w=.go (G {b.atR a []with mode:=.returning} cs) w:=by simp[G,stepG,stepG.exec,Frame.atR,hb]
theorem NT(hb:b.roundOf=none):stepG P main (G (b.atR a (.code .ret::k)) cs) w=.go (G {b.atR a (.code .ret::k)with mode:=.returning} cs) w:=by simp[G,stepG,stepG.exec,Frame.atR,hb]
theorem HY(b:Frame)(a:Act){ops:Array Oper}{i:Nat}{rest:List Nat}{k:List Item}{o:Oper}(ho:ops[i]?=some o)(v:Value):(b.atR a (.inRegion ops (i::rest)::k)).finish v=b.atR (a.put o.dst v) (.inRegion ops rest::k):=by rw[Frame.finish_atR,ho];rfl
variable {ops:Array Oper}{i:Nat}{rest:List Nat}{o:Oper}{w':World}
theorem Ah(ho:ops[i]?=some o)(hw:Region.wanted o (yielded ops a.tmps)=false):
  stepG P main (G (b.atR a (.inRegion ops (i::rest)::k)) cs) w=.go (G (b.atR (a.put o.dst undef) (.inRegion ops rest::k)) cs) w #[]:=by
 rw[<-HY b a ho];simp[G,stepG,stepG.exec,Frame.atR,ho,hw]
def tR(b:Frame)(o:Oper):Prop:=b.roundOf=none∨∀c,o.op≠.defer c
theorem nP(hf:tR b o)(ho:ops[i]?=some o)(hw:Region.wanted o (yielded ops a.tmps)=true):
  stepG P main (G (b.atR a (.inRegion ops (i::rest)::k)) cs) w=stepG.apply P true (b.atR a (.inRegion ops (i::rest)::k)) cs none (execOp a.eval o) w:=by
 have he:=Frame.eval_atR b a (.inRegion ops (i::rest)::k);have h1:stepG P main (G (b.atR a (.inRegion ops (i::rest)::k)) cs) w=stepG.oper P true (b.atR a (.inRegion ops (i::rest)::k)) cs none w:=by simp[G,stepG,stepG.exec,Frame.atR,ho,hw]
 rw[h1];have h2:(b.atR a (.inRegion ops (i::rest)::k)).oper?=some o:=by simp[Frame.oper?,Frame.atR,ho]
 have h3:(b.atR a (.inRegion ops (i::rest)::k)).roundOf=b.roundOf:=rfl;unfold stepG.oper;rw[h2];dsimp only;rw[h3,he];rcases hf with h|h
 ·rw[h]
 ·split
  ·rename_i l c _ hc;exact absurd hc (h c)
  ·rfl
theorem HZ{v:Value}(hf:tR b o)(ho:ops[i]?=some o)(hw:Region.wanted o (yielded ops a.tmps)=true)(hk:b.kind≠.early)(hr:(execOp a.eval o).run P w=.ok (.value v) w'):
  stepG P main (G (b.atR a (.inRegion ops (i::rest)::k)) cs) w=.go (G (b.atR (a.put o.dst v) (.inRegion ops rest::k)) cs) w' (listed P b.fn a o w):=by
 have hk':(b.kind==CallKind.early)=false:=by simpa using hk
 rw[nP hf ho hw,<-HY b a ho];simp[stepG.apply,hr,G,Frame.atR,hk',GStep.after,listed]
theorem Ku(hf:tR b o)(ho:ops[i]?=some o)(hw:Region.wanted o (yielded ops a.tmps)=true)(hk:b.kind≠.early)(hr:(execOp a.eval o).run P w=.ok .skip w'):
  stepG P main (G (b.atR a (.inRegion ops (i::rest)::k)) cs) w=.go (G (b.atR (a.put o.dst undef) (.inRegion ops rest::k)) cs) w' (listed P b.fn a o w):=by
 have hk':(b.kind==CallKind.early)=false:=by simpa using hk
 rw[nP hf ho hw,<-HY b a ho];simp[stepG.apply,hr,G,Frame.atR,hk',GStep.after,listed]
theorem H6{f:FuncId}{args:Array Value}(hf:tR b o)(ho:ops[i]?=some o)(hw:Region.wanted o (yielded ops a.tmps)=true)(hk:b.kind≠.early)(hr:(execOp a.eval o).run P w=.ok (.enter f args) w'):
  stepG P main (G (b.atR a (.inRegion ops (i::rest)::k)) cs) w=.go (G (Frame.enter P f args .normal) (b.atR a (.inRegion ops (i::rest)::k)::cs)) w' (listed P b.fn a o w):=by
 have hk':(b.kind==CallKind.early)=false:=by simpa using hk
 rw[nP hf ho hw];simp[stepG.apply,hr,G,Frame.atR,hk',GStep.after,listed]
theorem H7{v:Value}(hf:tR b o)(ho:ops[i]?=some o)(hw:Region.wanted o (yielded ops a.tmps)=true)(hk:b.kind≠.early)(hr:(execOp a.eval o).run P w=.halt (.panic v) w'):
  stepG P main (G (b.atR a (.inRegion ops (i::rest)::k)) cs) w=.go (G ((b.atR a (.inRegion ops (i::rest)::k)).raise [{v,recovered:=false}]) cs) w' (listed P b.fn a o w):=by
 have hk':(b.kind==CallKind.early)=false:=by simpa using hk
 rw[nP hf ho hw];simp[stepG.apply,hr,G,Frame.atR,hk',GStep.after,listed]
theorem H8{d:Deferred}(hb:b.roundOf=none)(ho:ops[i]?=some o)(hw:Region.wanted o (yielded ops a.tmps)=true)(hk:b.kind≠.early)(hr:(execOp a.eval o).run P w=.ok (.defer d) w'):
  stepG P main (G (b.atR a (.inRegion ops (i::rest)::k)) cs) w=.go (G (b.atR (({a with defers:=d::a.defers}:Act).put o.dst undef) (.inRegion ops rest::k)) cs) w' (listed P b.fn a o w):=by
 have Kv:=HY b {a with defers:=d::a.defers} (rest:=rest) (k:=k) ho undef;have hk':(b.kind==CallKind.early)=false:=by simpa using hk
 rw[nP (.inl hb) ho hw,<-Kv];simp[stepG.apply,hr,G,Frame.atR,hk',GStep.after,listed]
theorem BB(hb:b.roundOf=none)(ho:ops[i]?=some o)(hw:Region.wanted o (yielded ops a.tmps)=true)(hk:b.kind≠.early)(hr:(execOp a.eval o).run P w=.ok .recover w'):
  stepG P main (G (b.atR a (.inRegion ops (i::rest)::k)) cs) w=.go (match tryRecover (b.atR a (.inRegion ops (i::rest)::k)) cs with
   |some (v,cs')=>G (b.atR (a.put o.dst v) (.inRegion ops rest::k)) cs'
   |none=>G (b.atR (a.put o.dst .nilIface) (.inRegion ops rest::k)) cs) w' (listed P b.fn a o w):=by
 have Kv:∀v,(b.atR a (.inRegion ops (i::rest)::k)).finish v=b.atR (a.put o.dst v) (.inRegion ops rest::k):=HY b a ho;have hk':(b.kind==CallKind.early)=false:=by simpa using hk
 rw[nP (.inl hb) ho hw];simp only[<-Kv];generalize hf:(b.atR a (.inRegion ops (i::rest)::k))=f;have h1:f.roundOf=none:=by rw[<-hf];exact hb
 have h2:f.fn=b.fn:=by rw[<-hf];rfl
 have h3:f.kind=b.kind:=by rw[<-hf];rfl
 cases hx:tryRecover f cs with
 |none=>simp[stepG.apply,hr,G,h1,h2,h3,hx,hk',GStep.after,listed]
 |some x=>simp[stepG.apply,hr,G,h1,h2,h3,hx,hk',GStep.after,listed]
theorem H9{id:Nat}(hm:P.follows .mixedOrders=true):
  ∃d t,stepG P main (G (b.atR a (.code (.region id ops true)::k)) cs) w=.go (G (b.atR a (.inRegion ops (Region.schedule true ops t)::k)) cs) (cx w d):=by
 have hq:wq P (fun _=>True) (fun _ _=>False) (choose (.order b.fn id)) (fun t w'=>∃d,w'=cx w d) w:=by
  rw[tI];split
  ·exact⟨w.drawn,rfl⟩
  ·exact fun n=>⟨w.drawn+1,rfl⟩
 have:=(lZ hq).1;generalize hr:(choose (.order b.fn id)).run P w=r at this;cases r with
 |ok t w'=>obtain⟨d,rfl⟩:=this;exact⟨d,t,by simp[G,stepG,stepG.exec,Frame.atR,hr,hm]⟩
 |halt x w'=>cases x<;>exact this.elim
end
def Next(K:Ctx)(U:Nat->Prop)(ρ:Env)(cs:List Frame)(w:World)(h0:AH)(c:dU)(g':Goroutine)(w':World):Prop:=
 ∃ρ',cv U ρ ρ'∧bS K.own w w'∧c7 K U h0 c.h∧gp K (plus U h0.nb c.h.nb) c∧qd K ρ' c cs g' w'
def kS(K:Ctx)(main:Bool)(c c':dU)(N:Nat):Prop:=∀U ρ cs g w,gp K U c->qd K ρ c cs g w->Walk K.P main (DK K) (Next K U ρ cs w c.h c') N g w
def bot:FuncId->List bR->FuncId
 |f,[]=>f
 |_,fr::l=>bot fr.fn l
def wu(K:Ctx)(f:FuncId)(ρ:Env)(e:AE)(cs:List Frame)(g:Goroutine)(w:World):Prop:=
 ∃fr fn,g=G fr cs∧fr.fn=f∧fr.defers=[]∧K.P.funcs[fr.fn]?=some fn∧match e with
  |.returned v=>fr.mode=.returning∧fr.kind=.normal∧∀d,∀{Q:Value->World->Prop},Q (v.ev ρ) (cx w d)->wq K.P K.Ev (fun _ _=>False) (results fn fr.tmps) Q (cx w d)
  |.panicked chain=>fr.mode=(gK.panicking chain).ev ρ
def AE.In(U:Nat->Prop):AE->Prop
 |.returned v=>v.In U
 |.panicked chain=>∀x∈chain,x.1.In U
def Done(K:Ctx)(f:FuncId)(U:Nat->Prop)(ρ:Env)(cs:List Frame)(w:World)(h0:AH)(r:AE×AH)(g':Goroutine)(w':World):Prop:=
 ∃ρ',cv U ρ ρ'∧bS K.own w w'∧c7 K U h0 r.2∧r.1.In (plus U h0.nb r.2.nb)∧Rel K ρ' r.2 w'∧wu K f ρ' r.1 cs g' w'
def Ends(K:Ctx)(main:Bool)(c:dU)(r:AE×AH)(N:Nat):Prop:=∀U ρ cs g w,gp K U c->qd K ρ c cs g w->Walk K.P main (DK K) (Done K (bot c.cur.fn c.callers) U ρ cs w c.h r) N g w
section
variable {K:Ctx}{main:Bool}{U:Nat->Prop}{ρ:Env}{cs:List Frame}
theorem gp.congr{U U':Nat->Prop}{c:dU}(I:gp K U c)(h:∀n,U n↔U' n):gp K U' c:=
 ⟨I.cur.mono fun n=>(h n).1,fun fr hf=>(I.callers fr hf).mono fun n=>(h n).1,I.ids.congr h⟩
theorem ku(U:Nat->Prop)(a n:Nat):U n↔plus U a a n:=⟨.inl,qa n⟩
theorem AE.In.mono{U U':Nat->Prop}(hs:∀n,U n->U' n){e:AE}(h:e.In U):e.In U':=by
 cases e with
 |returned v=>exact AV.In.mono hs _ h
 |panicked c=>exact fun x hx=>AV.In.mono hs _ (h x hx)
theorem Next.trans{w w' w'':World}{h0:AH}{c c':dU}{BD:Goroutine}{ρ':Env}(A:cv U ρ ρ')(k:bS K.own w w')(gr:c7 K U h0 c.h)
 (n:Next K (plus U h0.nb c.h.nb) ρ' cs w' c.h c' BD w''):Next K U ρ cs w h0 c' BD w'':=by
 obtain⟨yf,a1,a2,a3,a4,a5⟩:=n;exact⟨yf,A.trans a1 b_,k.trans a2,gr.trans a3,a4.congr fun n=>lM gr.nb a3.nb n,a5⟩
theorem Done.trans{w w' w'':World}{h0:AH}{f:FuncId}{c:dU}{r:AE×AH}{BD:Goroutine}{ρ':Env}(A:cv U ρ ρ')(k:bS K.own w w')(gr:c7 K U h0 c.h)
 (n:Done K f (plus U h0.nb c.h.nb) ρ' cs w' c.h r BD w''):Done K f U ρ cs w h0 r BD w'':=by
 obtain⟨yf,a1,a2,a3,a4,a5,a6⟩:=n;exact⟨yf,A.trans a1 b_,k.trans a2,gr.trans a3,a4.mono fun n=>(lM gr.nb a3.nb n).1,a5,a6⟩
theorem kS.trans{c c' c'':dU}{N M:Nat}(l:kS K main c c' N)(l':kS K main c' c'' M):kS K main c c'' (N+M):=fun U ρ cs g w I Γ=>Walk.trans (fun g' w' ⟨ρ',a1,a2,a3,a4,a5⟩=>(l' _ ρ' cs g' w' a4 a5).weaken fun _ _ n=>Next.trans a1 a2 a3 n) (l U ρ cs g w I Γ)
theorem kS.ends{c c':dU}{r:AE×AH}{N M:Nat}(hb:bot c'.cur.fn c'.callers=bot c.cur.fn c.callers)(l:kS K main c c' N)(l':Ends K main c' r M):Ends K main c r (N+M):=fun U ρ cs g w I Γ=>Walk.trans (fun g' w' ⟨ρ',a1,a2,a3,a4,a5⟩=>(l' _ ρ' cs g' w' a4 a5).weaken fun _ _ n=>by rw[hb]at n;exact Done.trans a1 a2 a3 n) (l U ρ cs g w I Γ)
theorem gZ(own:Nat->Prop)(w:World)(d:Nat):bS own w (cx w d):=⟨fun _ _=>rfl,ax _,rfl,rfl,rfl⟩
theorem Rel.drawn{h:AH}{w:World}(R:Rel K ρ h w)(d:Nat):Rel K ρ h (cx w d):=R.at rfl
theorem qd.drawn{c:dU}{g:Goroutine}{w:World}(h:qd K ρ c cs g w)(d:Nat):qd K ρ c cs g (cx w d):=⟨h.1.drawn d,h.2⟩
theorem qd.running{c:dU}{g:Goroutine}{w:World}(h:qd K ρ c cs g w):g.status=.running:=by obtain⟨_,fr,fV,_,_,rfl⟩:=h;rfl
theorem wv{c c':dU}(hh:c'.h=c.h)(hin:∀U,gp K U c->gp K U c')(hs:∀ρ cs g w,qd K ρ c cs g w->∃g',stepG K.P main g w=.go g' w #[]∧qd K ρ c' cs g' w):
  kS K main c c' 1:=fun U ρ cs g w I Γ=>Walk.one Γ.running fun d=>by
 obtain⟨g',e,Rf⟩:=hs ρ cs g _ (Γ.drawn d);rw[e];refine⟨⟨bS.refl _ _,fun e he=>(by simp at he),fun _ _ _ _ x=>x⟩,ρ,cv.refl _ _,gZ _ _ _,?_,?_,Rf⟩
 ·rw[hh];exact c7.refl I.ids
 ·rw[hh];exact(hin U I).congr (ku U _)
section frame
variable {fn:FuncId}{nt:Nat}{tmps:TT}{todo todo':List Item}{defers:List AD}{kind:CallKind}{callers:List bR}{h:AH}
theorem kI{g:Goroutine}{w:World}:qd K ρ ⟨⟨fn,nt,tmps,todo,defers,.run,kind⟩,callers,h⟩ cs g w↔
  Rel K ρ h w∧∃tm fV,oR ρ nt tmps tm∧(iC kind∨kind=.wrapped)∧(∃f,K.P.funcs[fn]?=some f)∧ic K.P ρ callers fV∧g=G ((bB ρ fn kind).atR (aB ρ kind tm defers) todo) (fV++cs):=by
 constructor
 ·rintro⟨R,fr,fV,⟨tm,td,i,rfl⟩,hc,rfl⟩;have:td=todo:=i.todo rfl;subst this;exact⟨R,tm,fV,i.tmps,i.kind,i.fn,hc,rfl⟩
 ·rintro⟨R,tm,fV,h1,h2,h3,hc,rfl⟩;exact⟨R,_,fV,⟨tm,todo,⟨h1,h2,fun _=>rfl,h3⟩,rfl⟩,hc,rfl⟩
theorem eP(hs:∀ρ tm w cs,Rel K ρ h w->oR ρ nt tmps tm->∀(b:Frame) (ds:List Deferred),stepG K.P main (G (b.atR ⟨tm,ds⟩ todo) cs) w=.go (G (b.atR ⟨tm,ds⟩ todo') cs) w #[]):
  kS K main ⟨⟨fn,nt,tmps,todo,defers,.run,kind⟩,callers,h⟩ ⟨⟨fn,nt,tmps,todo',defers,.run,kind⟩,callers,h⟩ 1:=
 wv rfl (fun U I=>⟨⟨I.cur.tmps,I.cur.defers,trivial⟩,I.callers,I.ids⟩) fun ρ cs g w Γ=>by obtain⟨R,tm,fV,h1,h2,h3,hc,rfl⟩:=kI.1 Γ;exact⟨_,hs ρ tm w _ R h1 _ _,kI.2 ⟨R,tm,fV,h1,h2,h3,hc,rfl⟩⟩
theorem y5(ht:tagged kind=false)(hs:∀(b:Frame) (a:Act) w cs,b.roundOf=none->stepG K.P main (G (b.atR a todo) cs) w=.go (G {b.atR a todo with mode:=.returning} cs) w #[]):
  kS K main ⟨⟨fn,nt,tmps,todo,defers,.run,kind⟩,callers,h⟩ ⟨⟨fn,nt,tmps,todo',defers,.returning,kind⟩,callers,h⟩ 1:=
 wv rfl (fun U I=>⟨⟨I.cur.tmps,I.cur.defers,trivial⟩,I.callers,I.ids⟩) fun ρ cs g w Γ=>by obtain⟨R,tm,fV,h1,h2,h3,hc,rfl⟩:=kI.1 Γ;exact⟨_,hs _ _ w _ (plain_round (pD h2 ht) ρ fn),R,_,fV,⟨tm,todo,⟨h1,h2,(fun x=>by cases x),h3⟩,rfl⟩,hc,rfl⟩
theorem pF{ops:Array Oper}{i:Nat}{rest:List Nat}{k:List Item}{o:Oper}(ho:ops[i]?=some o)(hw:gz K.O ops tmps o=.ok false):
  kS K main ⟨⟨fn,nt,tmps,.inRegion ops (i::rest)::k,defers,.run,kind⟩,callers,h⟩ ⟨⟨fn,nt,jl nt tmps o.dst cJ,.inRegion ops rest::k,defers,.run,kind⟩,callers,h⟩ 1:=fun U ρ cs g w I Γ=>by
 have hnt:nt≤60000:=by obtain⟨R,tm,fV,h1,_⟩:=kI.1 Γ;exact h1.le
 have hin:∀U,gp K U ⟨⟨fn,nt,tmps,.inRegion ops (i::rest)::k,defers,.run,kind⟩,callers,h⟩->gp K U ⟨⟨fn,nt,jl nt tmps o.dst cJ,.inRegion ops rest::k,defers,.run,kind⟩,callers,h⟩:=fun U I=>⟨⟨FO I.cur.tmps (by simp[cJ,AV.In,AV.iw]) hnt,I.cur.defers,trivial⟩,I.callers,I.ids⟩
 have L:kS K main ⟨⟨fn,nt,tmps,.inRegion ops (i::rest)::k,defers,.run,kind⟩,callers,h⟩ ⟨⟨fn,nt,jl nt tmps o.dst cJ,.inRegion ops rest::k,defers,.run,kind⟩,callers,h⟩ 1:=by refine wv rfl hin ?_;intro ρ cs g w Γ;obtain⟨R,tm,fV,h1,h2,h3,hc,rfl⟩:=kI.1 Γ;obtain⟨tm',e,AW⟩:=Bx (v:=cJ) h1 (dB ρ kind (defers.map (AD.ev ρ))) o.dst;refine⟨_,Ah ho (rm R h1 hw),kI.2 ⟨R,tm',fV,AW,h2,h3,hc,?_⟩⟩;show G ((bB ρ fn kind).atR (Act.put ⟨tm,dB ρ kind (defers.map (AD.ev ρ))⟩ o.dst (cJ.ev ρ)) _) _=_;rw[e];rfl
 exact L U ρ cs g w I Γ
end frame
section op
variable {P:Program}{b:Frame}{a:Act}{k:List Item}{w:World}{ops:Array Oper}{i:Nat}{rest:List Nat}{o:Oper}{w':World}
end op
theorem H_{P:Program}{O:dH}{ext:Ext}{h h':AH}{f:Operand->AV}{o:Oper}{n:AN}{c:Call}(he:op? P O ext h f o=.ok (n,h'))(hc:o.op=.defer c):∃d,n=.defer d:=by
 unfold op? at he;rw[hc]at he;dsimp only at he;split at he
 ·cases he;exact⟨_,rfl⟩
 ·cases he
def PM(P:Program)(ρ:Env)(b:Frame)(a:Act)(dst:Option Tmp)(ops:Array Oper)(i:Nat)(rest:List Nat)(k:List Item)(cs:List Frame):AN->Goroutine->Prop
 |.value v,g=>g=G (b.atR (a.put dst (v.ev ρ)) (.inRegion ops rest::k)) cs
 |.skip,g=>g=G (b.atR (a.put dst undef) (.inRegion ops rest::k)) cs
 |.enter f args,g=>g=G (Frame.enter P f (AV.evs ρ args).toArray .normal) (b.atR a (.inRegion ops (i::rest)::k)::cs)
 |.defer d,g=>g=G (b.atR (({a with defers:=d.ev ρ::a.defers}:Act).put dst undef) (.inRegion ops rest::k)) cs
 |.recover,g=>g=match tryRecover (b.atR a (.inRegion ops (i::rest)::k)) cs with
  |some (v,cs')=>G (b.atR (a.put dst v) (.inRegion ops rest::k)) cs'
  |none=>G (b.atR (a.put dst .nilIface) (.inRegion ops rest::k)) cs
 |.panic v,g=>g=G ((b.atR a (.inRegion ops (i::rest)::k)).raise [{v:=v.ev ρ,recovered:=false}]) cs
def D8(K:Ctx)(U:Nat->Prop)(ρ:Env)(cs:List Frame)(w:World)(fn:FuncId)(nt:Nat)(tmps:TT)(defers:List AD)(kind:CallKind)(callers:List bR)(h:AH)(dst:Option Tmp)(ops:Array Oper)(i:Nat)(rest:List Nat)(k:List Item)
 (n:AN)(h':AH)(g':Goroutine)(w':World):Prop:=
 ∃ρ',cv U ρ ρ'∧bS K.own w w'∧Rel K ρ' h' w'∧c7 K U h h'∧n.In (plus U h.nb h'.nb)∧∃tm fV,oR ρ' nt tmps tm∧(iC kind∨kind=.wrapped)∧(∃f,K.P.funcs[fn]?=some f)∧ic K.P ρ' callers fV∧
  PM K.P ρ' (bB ρ' fn kind) (aB ρ' kind tm defers) dst ops i rest k (fV++cs) n g'
theorem qe(Gd:K.Good)(F:K.iK){ext:Ext}(X:iL K ext){fn:FuncId}{nt:Nat}{tmps:TT}{defers:List AD}{kind:CallKind}{callers:List bR}{h:AH}{ops:Array Oper}{i:Nat}{rest:List Nat}{k:List Item}{o:Oper}{n:AN}{h':AH}
 (ho:ops[i]?=some o)(hw:gz K.O ops tmps o=.ok true)(he:op? K.P K.O ext h (kP tmps) o=.ok (n,h'))(wz:nI kind n=true){g:Goroutine}{w:World}
 (I:gp K U ⟨⟨fn,nt,tmps,.inRegion ops (i::rest)::k,defers,.run,kind⟩,callers,h⟩)(Γ:qd K ρ ⟨⟨fn,nt,tmps,.inRegion ops (i::rest)::k,defers,.run,kind⟩,callers,h⟩ cs g w):
  Walk K.P main (DK K) (D8 K U ρ cs w fn nt tmps defers kind callers h o.dst ops i rest k n h') 1 g w:=Walk.one Γ.running fun d=>by
 obtain⟨R,tm,fV,h1,h2,h3,hc,rfl⟩:=kI.1 (Γ.drawn d);have N:=Km Gd F X R I.ids (Bw I.cur.tmps) he;have hev:(aB ρ kind tm defers).eval=fun x=>(kP tmps x).ev ρ:=funext fun x=>sH h1 _ x;have AX:Region.wanted o (yielded ops (aB ρ kind tm defers).tmps)=true:=rm R h1 hw;have Vz:=NP h2 ρ fn;have hfree:tR (bB ρ fn kind) o:=by
  cases ht:tagged kind with
  |false=>exact .inl (plain_round (pD h2 ht) ρ fn)
  |true=>refine .inr fun c hc=>?_;obtain⟨d,rfl⟩:=H_ he hc;unfold nI at wz;rw[ht]at wz;cases wz
 have Kx:tagged kind=false->(bB ρ fn kind).roundOf=none:=fun ht=>plain_round (pD h2 ht) ρ fn;have htd:∀{d:AD},n=.defer d->tagged kind=false:=fun e=>by
  subst e;cases ht:tagged kind with
  |false=>rfl
  |true=>unfold nI at wz;rw[ht]at wz;cases wz
 have ji:n=.recover->tagged kind=false:=fun e=>by
  subst e;cases ht:tagged kind with
  |false=>rfl
  |true=>unfold nI at wz;rw[ht]at wz;cases wz
 have run:=lZ (Af Gd.NF _ (N.run (E:=fun v w'=>∃v',n=.panic v'∧h'=h∧v=v'.ev ρ∧w'=cx w d) (Q:=fun nx w'=>After K U ρ (cx w d) h' (fun ρ'=>n.is ρ' nx) w') (fun nx w' x=>x) (fun v hn hh=>⟨v,hn,hh,rfl,rfl⟩)));rw[<-hev]at run;obtain⟨run,hes⟩:=run;have Ia:∀e∈listed K.P (bB ρ fn kind).fn (aB ρ kind tm defers) o (cx w d),K.Ev e:=fun e he=>hes e (mem_listed he);have post:∀{ρ':Env} {w':World} {g':Goroutine},cv U ρ ρ'->Rel K ρ' h' w'->bS K.own (cx w d) w'->
   PM K.P ρ' (bB ρ fn kind) (aB ρ kind tm defers) o.dst ops i rest k (fV++cs) n g'->
   D8 K U ρ cs w fn nt tmps defers kind callers h o.dst ops i rest k n h' g' w':=fun A R' k x=>
  ⟨_,A,(gZ _ w d).trans k,R',N.qz,N.mem,tm,fV,h1.mS A I.cur.tmps,h2,h3,iy A hc I.callers,by rw[sF A,sG A kind tm I.cur.defers];exact x⟩
 generalize hr:(execOp (aB ρ kind tm defers).eval o).run K.P (cx w d)=r at run;cases r with
 |ok nx w'=>
  obtain⟨⟨ρ',A,R',kp,is⟩,hst⟩:=run;cases n with
  |value v=>have Ic:nx=.value (v.ev ρ'):=is;subst Ic;rw[HZ hfree ho AX Vz hr];exact⟨⟨kp,Ia,hst⟩,post A R' kp rfl⟩
  |skip=>have Ic:nx=.skip:=is;subst Ic;rw[Ku hfree ho AX Vz hr];exact⟨⟨kp,Ia,hst⟩,post A R' kp rfl⟩
  |enter f args=>have Ic:nx=.enter f (AV.evs ρ' args).toArray:=is;subst Ic;rw[H6 hfree ho AX Vz hr];exact⟨⟨kp,Ia,hst⟩,post A R' kp rfl⟩
  |defer x=>have Ic:nx=.defer (x.ev ρ'):=is;subst Ic;rw[H8 (Kx (htd rfl)) ho AX Vz hr];exact⟨⟨kp,Ia,hst⟩,post A R' kp rfl⟩
  |recover=>have Ic:nx=.recover:=is;subst Ic;rw[BB (Kx (ji rfl)) ho AX Vz hr];exact⟨⟨kp,Ia,hst⟩,post A R' kp rfl⟩
  |panic v=>exact is.elim
 |halt x w'=>
  cases x with
  |panic v=>obtain⟨v',rfl,rfl,rfl,rfl⟩:=run;rw[H7 hfree ho AX Vz hr];exact⟨⟨bS.refl _ _,Ia,fun _ _ _ _ x=>x⟩,post (cv.refl _ _) R (bS.refl _ _) rfl⟩
  |_=>exact run.elim
end
section
variable {K:Ctx}{main:Bool}{U:Nat->Prop}{ρ:Env}{cs:List Frame}
variable {fn:FuncId}{nt:Nat}{tmps:TT}{todo todo':List Item}{defers:List AD}{kind:CallKind}{callers:List bR}{h:AH}
variable {ops:Array Oper}{i:Nat}{rest:List Nat}{k:List Item}{o:Oper}
theorem wH{fr:bR}{v:AV}{fr':bR}(hf:hJ fr v=.ok fr'):∃fn nt tmps ops i rest k defers kind,fr=⟨fn,nt,tmps,.inRegion ops (i::rest)::k,defers,.run,kind⟩∧
  fr'=⟨fn,nt,jl nt tmps ((ops[i]?).bind (·.dst)) v,.inRegion ops rest::k,defers,.run,kind⟩:=by
 unfold hJ at hf;split at hf
 ·cases hf;exact⟨_,_,_,_,_,_,_,_,_,rfl,rfl⟩
 ·cases hf
theorem y6:cJ.In U:=by simp[cJ,AV.In,AV.iw]
theorem Wb{k:CallKind}{v:AV}:nI k (.value v)=true:=by unfold nI;cases tagged k<;>rfl
theorem Wc{k:CallKind}:nI k .skip=true:=by unfold nI;cases tagged k<;>rfl
theorem PN{k:CallKind}{f:FuncId}{args:List AV}:nI k (.enter f args)=true:=by unfold nI;cases tagged k<;>rfl
theorem Wd{k:CallKind}{v:AV}:nI k (.panic v)=true:=by unfold nI;cases tagged k<;>rfl
theorem NU{ρ:Env}{k:CallKind}{tm:Array Value}{d:AD}{ds:List AD}:aB ρ k tm (d::ds)={aB ρ k tm ds with defers:=d.ev ρ::(aB ρ k tm ds).defers}:=by unfold aB;rw[aK,FN]
theorem mg{w w':World}{h':AH}{ρ':Env}{v:AV}{tm:Array Value}{fV:List Frame}{ds:List AD}{callers':List bR}{dst:Option Tmp}
 (A:cv U ρ ρ')(kp:bS K.own w w')(R:Rel K ρ' h' w')(gr:c7 K U h h')(hv:v.In (plus U h.nb h'.nb))(ht:tmps.In U)(hd:∀d∈ds,d.In (plus U h.nb h'.nb))(nQ:∀fr∈callers',fr.In (plus U h.nb h'.nb))
 (h1:oR ρ' nt tmps tm)(h2:iC kind∨kind=.wrapped)(h3:∃f,K.P.funcs[fn]?=some f)(hc:ic K.P ρ' callers' fV):
  Next K U ρ cs w h ⟨⟨fn,nt,jl nt tmps dst v,.inRegion ops rest::k,ds,.run,kind⟩,callers',h'⟩ (G ((bB ρ' fn kind).atR ((aB ρ' kind tm ds).put dst (v.ev ρ')) (.inRegion ops rest::k)) (fV++cs)) w':=by
 obtain⟨tm',e,AW⟩:=Bx (v:=v) h1 (dB ρ' kind (ds.map (AD.ev ρ'))) dst;refine⟨ρ',A,kp,gr,⟨⟨FO (TT.In.mono b_ ht) hv h1.le,hd,trivial⟩,nQ,gr.ids⟩,kI.2 ⟨R,tm',fV,AW,h2,h3,hc,?_⟩⟩;show G ((bB ρ' fn kind).atR (Act.put ⟨tm,dB ρ' kind (ds.map (AD.ev ρ'))⟩ dst (v.ev ρ')) _) _=_;rw[e];rfl
def Ky(P:Program)(U:Nat->Prop)(ρ:Env)(cs:List Frame)(fr:Frame)(fV:List Frame):Option (AV×List bR)->Prop
 |some (v,callers')=>v.In U∧(∀fr∈callers',fr.In U)∧∃sI,tryRecover fr (fV++cs)=some (v.ev ρ,sI++cs)∧ic P ρ callers' sI
 |none=>tryRecover fr (fV++cs)=none
theorem qD{P:Program}{fr:Frame}{fV:List Frame}{r:Option (AV×List bR)}(hk:fr.kind=kind)(hr:vD kind callers=.ok r)(hc:ic P ρ callers fV)(nQ:∀fr∈callers,fr.In U):
  Ky P U ρ cs fr fV r:=by
 cases kind with
 |normal=>cases hr;show tryRecover _ _=none;simp[tryRecover,hk]
 |deferred=>
  cases callers with
  |nil=>cases hr
  |cons c tail=>
   obtain⟨fn,nt,tmps,todo,defers,mode,kd⟩:=c;cases fV with
   |nil=>simp only[ic]at hc
   |cons f fV=>
    simp only[ic]at hc;obtain⟨⟨tm,VA,is,rfl⟩,NM⟩:=hc;have other:r=none->(match mode.ev ρ with|.panicking ({v,recovered:=false,goexit:=false}::older)=>False|_=>True)->Ky P U ρ cs fr (dR ρ ⟨fn,nt,tmps,todo,defers,mode,kd⟩ tm VA::fV) r:=by
     intro h1 h2;subst h1;show tryRecover _ _=none;simp only[tryRecover,hk,List.cons_append];have:(dR ρ ⟨fn,nt,tmps,todo,defers,mode,kd⟩ tm VA).mode=mode.ev ρ:=rfl;rw[this];revert h2;generalize mode.ev ρ=m;split
     ·exact False.elim
     ·rename_i hne;intro _;split
      ·rename_i v older;exact absurd rfl (hne v older)
      ·rfl
    cases mode with
    |run=>cases hr;exact other rfl trivial
    |returning=>cases hr;exact other rfl trivial
    |panicking chain=>
     cases chain with
     |nil=>cases hr;exact other rfl trivial
     |cons x older=>
      obtain⟨v,b'⟩:=x;cases b' with
      |true=>cases hr;exact other rfl trivial
      |false=>
       cases hr;have hin:=nQ _ (ai ..);have hm:∀x∈(v,false)::older,x.1.In U:=hin.mode;refine⟨hm _ (ai ..),?_,{dR ρ ⟨fn,nt,tmps,todo,defers,.panicking ((v,true)::older),kd⟩ tm VA with mode:=(gK.panicking ((v,true)::older)).ev ρ}::fV,?_,⟨tm,VA,⟨is.tmps,is.kind,(fun x=>by cases x),is.fn⟩,rfl⟩,NM⟩
       ·intro fr hfr;rcases aj.1 hfr with rfl|hfr
        ·refine⟨hin.tmps,hin.defers,?_⟩;intro x hx;rcases aj.1 hx with rfl|hx
         ·exact hm (v,false) (ai ..)
         ·exact hm x (aa _ hx)
        ·exact nQ fr (aa _ hfr)
       ·simp only[tryRecover,hk,List.cons_append,dR,gK.ev,aK]
 |_=>cases hr
theorem qf{n:AN}{h':AH}{c':dU}{w w':World}{g':Goroutine}(hu:upon K.P ⟨fn,nt,tmps,.inRegion ops (i::rest)::k,defers,.run,kind⟩ callers n h'=.ok c')(ho:ops[i]?=some o)
 (I:gp K U ⟨⟨fn,nt,tmps,.inRegion ops (i::rest)::k,defers,.run,kind⟩,callers,h⟩)(post:D8 K U ρ cs w fn nt tmps defers kind callers h o.dst ops i rest k n h' g' w'):Next K U ρ cs w h c' g' w':=by
 obtain⟨ρ',A,kp,R,gr,mem,tm,fV,h1,h2,h3,hc,ng⟩:=post;have hd:∀d∈defers,d.In (plus U h.nb h'.nb):=fun d hd=>(I.cur.defers d hd).mono b_;have nQ:∀fr∈callers,fr.In (plus U h.nb h'.nb):=fun fr hf=>(I.callers fr hf).mono b_;cases n with
 |value v=>simp only[upon,hJ,ho]at hu;cases hu;have D9:g'=_:=ng;rw[D9];exact mg A kp R gr mem I.cur.tmps hd nQ h1 h2 h3 hc
 |skip=>simp only[upon,hJ,ho]at hu;cases hu;have D9:g'=_:=ng;rw[D9];exact mg (v:=cJ) A kp R gr y6 I.cur.tmps hd nQ h1 h2 h3 hc
 |defer d=>
  simp only[upon,hJ,ho]at hu;cases hu;have D9:g'=_:=ng;rw[D9];rw[<-NU];refine mg (v:=cJ) (ds:=d::defers) A kp R gr y6 I.cur.tmps ?_ nQ h1 h2 h3 hc;intro x hx;rcases aj.1 hx with rfl|hx
  ·exact mem
  ·exact hd x hx
 |enter f args=>
  simp only[upon]at hu;split at hu
  ·rename_i fr' he;cases hu;have D9:g'=_:=ng;rw[D9];obtain⟨e1,e2,e3,e4,e5⟩:=gS he (.inl rfl) mem (ρ:=ρ');refine⟨ρ',A,kp,gr,⟨e2,?_,gr.ids⟩,R,_,(bB ρ' fn kind).atR (aB ρ' kind tm defers) (.inRegion ops (i::rest)::k)::fV,e1,⟨⟨tm,_,⟨h1,h2,fun _=>rfl,h3⟩,rfl⟩,hc⟩,rfl⟩;intro fr hfr;rcases aj.1 hfr with rfl|hfr
   ·exact I.cur.mono b_
   ·exact nQ fr hfr
  ·cases hu
 |recover=>
  simp only[upon,hJ,ho]at hu;have D9:g'=_:=ng;rw[D9];split at hu
  ·cases hu
  ·rename_i v callers' hr;cases hu;have hpk:iC kind:=by
    rcases h2 with h2|rfl
    ·exact h2
    ·cases hr
   obtain⟨t1,t2,sI,t3,t4⟩:=qD (cs:=cs) (fr:=(bB ρ' fn kind).atR (aB ρ' kind tm defers) (.inRegion ops (i::rest)::k)) (by rw[pE hpk];rfl) hr hc nQ;rw[t3];exact mg A kp R gr t1 I.cur.tmps hd t2 h1 h2 h3 t4
  ·rename_i hr;cases hu;have hpk:iC kind:=by
    rcases h2 with h2|rfl
    ·exact h2
    ·cases hr
   have t3:=qD (cs:=cs) (fr:=(bB ρ' fn kind).atR (aB ρ' kind tm defers) (.inRegion ops (i::rest)::k)) (by rw[pE hpk];rfl) hr hc nQ;simp only[Ky]at t3;rw[t3];exact mg (v:=.nilIface) A kp R gr trivial I.cur.tmps hd nQ h1 h2 h3 hc
 |panic v=>simp only[upon,oX]at hu;cases hu;have D9:g'=_:=ng;rw[D9];refine⟨ρ',A,kp,gr,⟨⟨TT.In.mono b_ I.cur.tmps,hd,?_⟩,nQ,gr.ids⟩,R,_,fV,⟨tm,_,⟨h1,h2,(fun x=>by cases x),h3⟩,rfl⟩,hc,rfl⟩;intro x hx;simp only[ah]at hx;subst hx;exact mem
end
def jU(K:Ctx)(main:Bool)(call:FuncId->List AV->AH->M (AE×AH)):Prop:=
 ∀f args h r,call f args h=.ok r->∃fr N,bP K.P f args .normal=.ok fr∧Ends K main ⟨fr,[],h⟩ r N
section
variable {K:Ctx}{main:Bool}{U:Nat->Prop}{ρ:Env}{cs:List Frame}
variable {fn:FuncId}{nt:Nat}{tmps:TT}{todo todo':List Item}{defers:List AD}{kind:CallKind}{callers:List bR}{h:AH}
variable {ops:Array Oper}{i:Nat}{rest:List Nat}{k:List Item}{o:Oper}
theorem wI{f:FuncId}{ρ:Env}{v:AV}{caller:Frame}{g:Goroutine}{w:World}(E:wu K f ρ (.returned v) (caller::cs) g w):Walk K.P main (DK K) (fun g' w'=>(∃d,w'=cx w d)∧g'=G (caller.finish (v.ev ρ)) cs) 1 g w:=by
 obtain⟨fr,fnn,rfl,_,hd,hf,hm,hk,hq⟩:=E;refine Walk.one rfl fun d=>?_;have hrun:=lZ (hq d (Q:=fun x w'=>x=v.ev ρ∧w'=cx w d) ⟨rfl,rfl⟩);obtain⟨hrun,hes⟩:=hrun;generalize hr:(results fnn fr.tmps).run K.P (cx w d)=r at hrun;cases r with
 |ok x w'=>
  obtain⟨rfl,rfl⟩:=hrun;have:stepG K.P main (G fr (caller::cs)) (cx w d)=.go (G (caller.finish (v.ev ρ)) cs) (cx w d) (seen K.P fr.fn ((results fnn fr.tmps).events K.P (cx w d) #[])):=by simp[G,stepG,unwind,doReturn,hm,hd,hf,hr,hk,GStep.after]
  rw[this];exact⟨⟨bS.refl _ _,fun e he=>hes e (mem_seen he),fun _ _ _ _ x=>x⟩,⟨d,rfl⟩,rfl⟩
 |halt x w'=>cases x<;>exact hrun.elim
theorem wJ{f:FuncId}{ρ:Env}{chain:List (AV×Bool)}{caller:Frame}{g:Goroutine}{w:World}(E:wu K f ρ (.panicked chain) (caller::cs) g w):
  Walk K.P main (DK K) (fun g' w'=>(∃d,w'=cx w d)∧g'=G (caller.raise (chain.map fun x=>{v:=x.1.ev ρ,recovered:=x.2})) cs) 1 g w:=by
 obtain⟨fr,fnn,rfl,_,hd,hf,hm⟩:=E;refine Walk.one rfl fun d=>?_;have hm':fr.mode=.panicking (chain.map fun x=>{v:=x.1.ev ρ,recovered:=x.2}):=hm;have:stepG K.P main (G fr (caller::cs)) (cx w d)=.go (G (caller.raise (chain.map fun x=>{v:=x.1.ev ρ,recovered:=x.2})) cs) (cx w d) #[]:=by simp[G,stepG,unwind,hm',hd,hf,Frame.catches]
 rw[this];exact⟨⟨bS.refl _ _,fun e he=>(by simp at he),fun _ _ _ _ x=>x⟩,⟨d,rfl⟩,rfl⟩
def fu(K:Ctx)(U:Nat->Prop)(ρ:Env)(cs:List Frame)(w:World)(h0:AH)(fn:FuncId)(nt:Nat)(todo:List Item)(defers:List AD)(kind:CallKind)(callers:List bR):AR->Goroutine->World->Prop
 |.on t h,g',w'=>Next K U ρ cs w h0 ⟨⟨fn,nt,t,todo,defers,.run,kind⟩,callers,h⟩ g' w'
 |.panic t chain h,g',w'=>∀td,Next K U ρ cs w h0 ⟨⟨fn,nt,t,td,defers,.panicking chain,kind⟩,callers,h⟩ g' w'
theorem iY(Gd:K.Good)(F:K.iK){ext:Ext}(X:iL K ext){call:FuncId->List AV->AH->M (AE×AH)}(C:jU K main call){r:AR}(he:jB K.P K.O ext call nt ops i tmps h=.ok r):
  ∃N,∀{fn defers kind callers U ρ cs g w rest k},gp K U ⟨⟨fn,nt,tmps,.inRegion ops (i::rest)::k,defers,.run,kind⟩,callers,h⟩->qd K ρ ⟨⟨fn,nt,tmps,.inRegion ops (i::rest)::k,defers,.run,kind⟩,callers,h⟩ cs g w->
   Walk K.P main (DK K) (fu K U ρ cs w h fn nt (.inRegion ops rest::k) defers kind callers r) N g w:=by
 unfold jB at he;split at he
 ·cases he
 ·rename_i o ho;split at he
  ·cases he
  ·rename_i hw;cases he;exact⟨1,fun I Γ=>pF ho hw _ _ _ _ _ I Γ⟩
  ·rename_i hw;split at he
   ·cases he
   ·rename_i v h' hop;cases he;refine⟨1,fun{fn defers kind callers U ρ cs g w rest k} I Γ=>(qe Gd F X ho hw hop Wb I Γ).weaken fun g' w' post=>qf (c':=⟨⟨fn,nt,jl nt tmps o.dst v,.inRegion ops rest::k,defers,.run,kind⟩,callers,h'⟩) ?_ ho I post⟩;simp[upon,hJ,ho]
   ·rename_i h' hop;cases he;refine⟨1,fun{fn defers kind callers U ρ cs g w rest k} I Γ=>(qe Gd F X ho hw hop Wc I Γ).weaken fun g' w' post=>qf (c':=⟨⟨fn,nt,jl nt tmps o.dst cJ,.inRegion ops rest::k,defers,.run,kind⟩,callers,h'⟩) ?_ ho I post⟩;simp[upon,hJ,ho]
   ·rename_i f args h' hop;split at he
    ·rename_i v h'' Kz;cases he;obtain⟨fr,N,Rg,E⟩:=C _ _ _ _ Kz;refine⟨1+(N+1),fun{fn defers kind callers U ρ cs g w rest k} I Γ=>Walk.trans (fun g' w' post=>?_) (qe Gd F X ho hw hop PN I Γ)⟩;obtain⟨ρ',A,kp,R,gr,mem,tm,fV,h1,h2,h3,hc,ng⟩:=post;have D9:g'=_:=ng;obtain⟨e1,e2,e3,e4,e5⟩:=gS Rg (.inl rfl) mem (ρ:=ρ');refine Walk.trans (fun g2 w2 done=>?_) (E (plus U h.nb h'.nb) ρ' ((bB ρ' fn kind).atR (aB ρ' kind tm defers) (.inRegion ops (i::rest)::k)::(fV++cs)) g' w' ⟨e2,(fun _ x=>by simp at x),gr.ids⟩ ⟨R,_,[],e1,trivial,D9⟩);obtain⟨NV,A2,KA,We,hv,R2,ends⟩:=done;refine(wI ends).weaken fun g3 w3 ⟨⟨d,hw3⟩,hg3⟩=>?_;subst hw3 hg3;have NW:=gr.trans We;have A02:=A.trans A2 b_;have bX:∀d∈defers,d.In (plus U h.nb h'.nb):=fun x hx=>(I.cur.defers x hx).mono b_;have NM:=iy A2 hc fun fr hf=>(I.callers fr hf).mono b_;have hv':v.In (plus U h.nb h''.nb):=AV.In.mono (fun n=>(lM gr.nb We.nb n).1) _ hv;have:=mg (U:=U) (ρ:=ρ) (h:=h) (cs:=cs) (fn:=fn) (kind:=kind) (ops:=ops) (rest:=rest) (k:=k) (dst:=o.dst) (ds:=defers) A02 ((kp.trans KA).trans (gZ _ w2 d)) (R2.drawn d) NW hv' I.cur.tmps (fun x hx=>(I.cur.defers x hx).mono b_) (fun fr hf=>(I.callers fr hf).mono b_)
      (h1.mS A2 (TT.In.mono b_ I.cur.tmps)) h2 h3 NM
     rw[HY _ _ ho,<-sF A2 fn kind,<-sG A2 kind tm bX];exact this
    ·rename_i chain h'' Kz;cases he;obtain⟨fr,N,Rg,E⟩:=C _ _ _ _ Kz;refine⟨1+(N+1),fun{fn defers kind callers U ρ cs g w rest k} I Γ=>Walk.trans (fun g' w' post=>?_) (qe Gd F X ho hw hop PN I Γ)⟩;obtain⟨ρ',A,kp,R,gr,mem,tm,fV,h1,h2,h3,hc,ng⟩:=post;have D9:g'=_:=ng;obtain⟨e1,e2,e3,e4,e5⟩:=gS Rg (.inl rfl) mem (ρ:=ρ');refine Walk.trans (fun g2 w2 done=>?_) (E (plus U h.nb h'.nb) ρ' ((bB ρ' fn kind).atR (aB ρ' kind tm defers) (.inRegion ops (i::rest)::k)::(fV++cs)) g' w' ⟨e2,(fun _ x=>by simp at x),gr.ids⟩ ⟨R,_,[],e1,trivial,D9⟩);obtain⟨NV,A2,KA,We,hv,R2,ends⟩:=done;refine(wJ ends).weaken fun g3 w3 ⟨⟨d,hw3⟩,hg3⟩=>?_;subst hw3 hg3;intro td;have NW:=gr.trans We;have A02:=A.trans A2 b_;have bX:∀d∈defers,d.In (plus U h.nb h'.nb):=fun x hx=>(I.cur.defers x hx).mono b_;have NM:=iy A2 hc fun fr hf=>(I.callers fr hf).mono b_;have hv':∀x∈chain,x.1.In (plus U h.nb h''.nb):=fun x hx=>AV.In.mono (fun n=>(lM gr.nb We.nb n).1) _ (hv x hx);refine⟨NV,A02,(kp.trans KA).trans (gZ _ w2 d),NW,⟨⟨TT.In.mono b_ I.cur.tmps,fun x hx=>(I.cur.defers x hx).mono b_,hv'⟩,fun fr hf=>(I.callers fr hf).mono b_,NW.ids⟩,R2.drawn d,_,fV,
      ⟨tm,.inRegion ops (i::rest)::k,⟨h1.mS A2 (TT.In.mono b_ I.cur.tmps),h2,(fun x=>by cases x),h3⟩,rfl⟩,NM,?_⟩
     rw[<-sF A2 fn kind,<-sG A2 kind tm bX];rfl
    ·cases he
   ·rename_i v h' hop;cases he;refine⟨1,fun{fn defers kind callers U ρ cs g w rest k} I Γ=>(qe Gd F X ho hw hop Wd I Γ).weaken fun g' w' post=>?_⟩;intro td;have:=qf (c':=⟨⟨fn,nt,tmps,.inRegion ops (i::rest)::k,defers,.panicking [(v,false)],kind⟩,callers,h'⟩) rfl ho I post;obtain⟨ρ',a1,a2,a3,a4,R,fr,fV,⟨tm,VA,is,rfl⟩,hc,rfl⟩:=this;exact⟨ρ',a1,a2,a3,⟨⟨a4.cur.tmps,a4.cur.defers,a4.cur.mode⟩,a4.callers,a4.ids⟩,R,_,fV,⟨tm,VA,⟨is.tmps,is.kind,(fun x=>by cases x),is.fn⟩,rfl⟩,hc,rfl⟩
   ·cases he
end
def je(ops:Array Oper):List Nat->List Nat->Prop
 |s,[]=>cI ops s=[]
 |s,i::l=>i∈cI ops s∧je ops (i::s) l
def ou(ops:Array Oper)(s:List Nat):List Nat:=(List.range ops.size).filter fun i=>!s.contains i
theorem BF{ops:Array Oper}{s:List Nat}{i:Nat}(hi:i∈ou ops s):(ou ops (i::s)).length<(ou ops s).length:=by
 have:ou ops (i::s)=(ou ops s).filter fun j=>!(j==i):=by unfold ou;rw[List.filter_filter];apply List.filter_congr;intro j _;by_cases hj:j=i<;>simp[List.contains_cons,hj]
 rw[this];exact List.length_filter_lt_length_iff_exists.2 ⟨i,hi,by simp⟩
theorem pG{ops:Array Oper}{s:List Nat}{i:Nat}(h:i∈cI ops s):i∈ou ops s:=by unfold cI at h;obtain⟨h1,h2⟩:=aW.1 h;exact aW.2 ⟨h1,by simp only[an]at h2;exact h2.1⟩
theorem dg{ops:Array Oper}{s:List Nat}{i:Nat}(h:i∈cI ops s):i<ops.size∧i∉s:=by obtain⟨h1,h2⟩:=aW.1 (pG h);exact⟨List.mem_range.1 h1,by simpa using h2⟩
theorem KB(ops:Array Oper):∀(fuel t:Nat) (listed:Array Bool) (acc s:List Nat),listed.size=ops.size->(∀j,listed.getD j false=s.contains j)->(ou ops s).length≤fuel->
  ∃l,Region.linearise.go .any ops fuel t listed acc=acc.reverse++l∧je ops s l:=by
 intro fuel
 induction fuel with
 |zero=>intro t listed acc s _ _ ho;refine⟨[],by simp[Region.linearise.go],?_⟩;show cI ops s=[];apply List.eq_nil_iff_forall_not_mem.2;intro i hi;have:=pG hi;rw[bw (Nat.le_zero.1 ho)]at this;cases this
 |succ fuel ih=>
  intro t listed acc s hsz hl ho;have hrs:((List.range ops.size).filter fun i=>!listed.getD i true&&((ops[i]?).map (fun o=>o.after.all fun e=>!Region.binds .any e||listed.getD e.on false)).getD false)=cI ops s:=by
   unfold cI;apply List.filter_congr;intro i hi;have hi':i<ops.size:=List.mem_range.1 hi;have h1:listed.getD i true=listed.getD i false:=by rw[aX,aX,aO (by rw[hsz];exact hi')];rfl
   rw[h1,hl i,aO hi'];simp only[av,Option.getD_some,pZ];congr 1;congr 1;funext e;rw[hl e.on]
  rw[Region.linearise.go];simp only[hrs];split
  ·rename_i i hi;have hmem:i∈cI ops s:=ay hi;obtain⟨hi1,hi2⟩:=dg hmem;have hl':∀j,(listed.setIfInBounds i true).getD j false=(i::s).contains j:=fun j=>by
    rw[aX,List.contains_cons];by_cases hj:j=i
    ·subst hj;simp[hsz,hi1]
    ·have:(j==i)=false:=by simpa using hj
     rw[this,Bool.false_or,<-hl j,aX,bu (fun x=>hj x.symm)]
   obtain⟨l,e,hs⟩:=ih (t / (cI ops s).length) (listed.setIfInBounds i true) (i::acc) (i::s) (by simpa using hsz) hl' (by have:=BF (pG hmem);omega);exact⟨i::l,by rw[e];simp,hmem,hs⟩
  ·rename_i hn;refine⟨[],by simp,?_⟩;show cI ops s=[];rcases Nat.eq_zero_or_pos (cI ops s).length with h0|h0
   ·exact bw h0
   ·rw[List.getElem?_eq_none_iff]at hn;have:=Nat.mod_lt t h0;omega
theorem jV(ops:Array Oper)(t:Nat):je ops [] (Region.schedule true ops t):=by
 obtain⟨l,e,h⟩:=KB ops ops.size t (Array.replicate ops.size false) [] [] (by simp) (fun j=>by
  rw[aX,Array.getElem?_replicate];split<;>simp) (by
  unfold ou;exact aA (List.length_filter_le _ _) (by simp))
 have:Region.schedule true ops t=l:=by simp[Region.schedule,Region.linearise,e]
 rw[this];exact h
theorem pH{a b:List Nat}(h:rV a b=true)(i:Nat):i∈a↔i∈b:=by unfold rV at h;simp only[an,aD,List.contains_iff_mem]at h;exact⟨h.1 i,h.2 i⟩
theorem contains_congr{a b:List Nat}(h:∀i,i∈a↔i∈b)(i:Nat):a.contains i=b.contains i:=by
 have:=h i;by_cases hi:i∈a
 ·simp[hi,this.1 hi]
 ·have:i∉b:=fun x=>hi (this.2 x);simp[hi,this]
theorem nv{ops:Array Oper}{a b:List Nat}(h:∀i,i∈a↔i∈b):cI ops a=cI ops b:=by
 unfold cI;apply List.filter_congr;intro i _;rw[contains_congr h];congr 1;split
 ·unfold pZ;congr 1;funext e;rw[contains_congr h]
 ·rfl
theorem je.congr{ops:Array Oper}:∀{l a b:List Nat},(∀i,i∈a↔i∈b)->je ops a l->je ops b l
 |[],a,b,h,hs=>by have:cI ops a=[]:=hs;show cI ops b=[];rw[<-nv h];exact this
 |i::l,a,b,h,hs=>⟨by rw[<-nv h];exact hs.1,je.congr (fun j=>by simp[h j]) hs.2⟩
def Us(U0:Nat->Prop)(h0:AH)(s:List Nat):Nat->Prop:=fun n=>U0 n∨∃j∈s,h0.nb+j*iB h0≤n∧n<h0.nb+(j+1)*iB h0
theorem D_(h0:AH){i:Nat}(hi:i<65536){n:Nat}(hn:n<h0.nb+(i+1)*iB h0)(hn0:h0.nb+i*iB h0≤n):n<h0.fJ:=by have h1:(i+1)*iB h0≤65536*iB h0:=bf _ hi;have h2:65536*iB h0≤h0.fJ-h0.nb:=Nat.mul_div_le _ _;omega
theorem Ai{s i j n nb:Nat}(h1:nb+i*s≤n)(h2:n<nb+(i+1)*s)(h3:nb+j*s≤n)(h4:n<nb+(j+1)*s):i=j:=by
 rcases Nat.lt_trichotomy i j with h|h|h
 ·have:=bf s (Nat.succ_le_of_lt h);simp only[Nat.succ_eq_add_one]at this;omega
 ·exact h
 ·have:=bf s (Nat.succ_le_of_lt h);simp only[Nat.succ_eq_add_one]at this;omega
theorem BG{K:Ctx}{U0:Nat->Prop}{h0:AH}{s:List Nat}{i:Nat}(I0:f_ K U0 h0)(hi:i<65536)(hs:i∉s){n:Nat}(h1:h0.nb+i*iB h0≤n)(h2:n<h0.nb+(i+1)*iB h0):¬Us U0 h0 s n:=by
 rintro(x|⟨j,hj,x1,x2⟩)
 ·exact I0.fresh n (by omega) (D_ h0 hi h2 h1) x
 ·have:=Ai h1 h2 x1 x2;subst this;exact hs hj
theorem Rel.hp{K:Ctx}{ρ:Env}{h h':AH}{w:World}(R:Rel K ρ h w)(e:h'.hp=h.hp):Rel K ρ h' w:=
 ⟨fun i b hb=>R.blk i b (by rw[<-e];exact hb),fun i b hb=>R.qV i b (by rw[<-e];exact hb),fun i j b c h1 h2=>R.inj i j b c (by rw[<-e];exact h1) (by rw[<-e];exact h2),R.bs,R.is,R.mem,R.room,fun i b hb=>R.gi i b (by rw[<-e];exact hb),R.low⟩
theorem qd.hp{K:Ctx}{ρ:Env}{cur:bR}{callers:List bR}{h h':AH}{cs:List Frame}{g:Goroutine}{w:World}(Γ:qd K ρ ⟨cur,callers,h⟩ cs g w)(e:h'.hp=h.hp):qd K ρ ⟨cur,callers,h'⟩ cs g w:=
 ⟨Rel.hp Γ.1 e,Γ.2⟩
theorem gp.lax{K:Ctx}{U U':Nat->Prop}{cur:bR}{callers:List bR}{h h':AH}(I:gp K U ⟨cur,callers,h⟩)(e:h'.hp=h.hp)(hs:∀n,U n->U' n)(fr:∀n,h'.nb≤n->n<h'.fJ->¬U' n):gp K U' ⟨cur,callers,h'⟩:=
 ⟨I.cur.mono hs,fun fr hf=>(I.callers fr hf).mono hs,⟨fun i b hb=>bO.In.mono hs (I.ids.hp i b (by rw[<-e];exact hb)),fun i hi=>hs i (I.ids.keys i (by show i∈Go.Proofs.YtmobbajggkjpgaaGreat.SX.keys h.hp;rw[<-e];exact hi)),(by show(Go.Proofs.YtmobbajggkjpgaaGreat.SX.keys h'.hp).Nodup;rw[e];exact I.ids.nodup),fr,I.ids.A8.mono hs⟩⟩
section
variable {K:Ctx}{main:Bool}{nt:Nat}{ops:Array Oper}
theorem y7{s:List Nat}{t:TT}{h:AH}:∀{L L':Fq},vF s t h L=.ok L'->(∀e∈L,e∈L')∧∃s' h',(s',t,h')∈L'∧rV s s'=true∧h'.hp=h.hp
 |[],L',he=>by simp only[vF]at he;cases he;refine⟨(fun e x=>by cases x),s,h,ah.2 rfl,?_,rfl⟩;simp[rV]
 |(s',t',h')::L,L',he=>by
  simp only[vF]at he;split at he
  ·rename_i hs;split at he
   ·rename_i hq;cases he;simp only[an]at hq;obtain rfl:=TT.cK hq.1;exact⟨fun e x=>x,s',h',ai ..,hs,(A5 hq.2).symm⟩
   ·cases he
  ·split at he
   ·rename_i l hl;cases he;obtain⟨a,s2,h2,b,c,d⟩:=y7 hl;refine⟨fun e x=>?_,s2,h2,aa _ b,c,d⟩;rcases aj.1 x with rfl|x
    ·exact ai ..
    ·exact aa _ (a e x)
   ·cases he
def BH(K:Ctx)(U0:Nat->Prop)(h0:AH)(ρ:Env)(cs:List Frame)(w:World)(fn:FuncId)(nt:Nat)(ops:Array Oper)(l:List Nat)(k:List Item)(defers:List AD)(kind:CallKind)(callers:List bR)(s1:List Nat)(L':Fq)(g':Goroutine)(w':World):Prop:=
 ∃s' t' h',(s',t',h')∈L'∧(∀i,i∈s1↔i∈s')∧∃ρ',cv U0 ρ ρ'∧bS K.own w w'∧gp K (Us U0 h0 s') ⟨⟨fn,nt,t',.inRegion ops l::k,defers,.run,kind⟩,callers,bare h'⟩∧
  qd K ρ' ⟨⟨fn,nt,t',.inRegion ops l::k,defers,.run,kind⟩,callers,h'⟩ cs g' w'
theorem BH.sub{U0:Nat->Prop}{h0:AH}{ρ:Env}{cs:List Frame}{w:World}{fn:FuncId}{l:List Nat}{k:List Item}{defers:List AD}{kind:CallKind}{callers:List bR}{s1:List Nat}{L L':Fq}{g':Goroutine}{w':World}
 (hs:∀e∈L,e∈L')(F:BH K U0 h0 ρ cs w fn nt ops l k defers kind callers s1 L g' w'):BH K U0 h0 ρ cs w fn nt ops l k defers kind callers s1 L' g' w':=by
 obtain⟨s',t',h',a,b⟩:=F;exact⟨s',t',h',hs _ a,b⟩
theorem rq(Gd:K.Good)(F:K.iK){ext:Ext}(X:iL K ext){call:FuncId->List AV->AH->M (AE×AH)}(C:jU K main call)(hops:ops.size≤65536){h0:AH}{s:List Nat}{t:TT}{h:AH}:
  ∀{r:List Nat} {L L':Fq},p6 K.P K.O ext call nt ops h0 s t h r L=.ok L'->(∀e∈L,e∈L')∧
   ∃N,∀i∈r,i<ops.size->i∉s->∀{fn defers kind callers U0 ρ cs g w l k},f_ K U0 h0->gp K (Us U0 h0 s) ⟨⟨fn,nt,t,.inRegion ops (i::l)::k,defers,.run,kind⟩,callers,bare h⟩->
    qd K ρ ⟨⟨fn,nt,t,.inRegion ops (i::l)::k,defers,.run,kind⟩,callers,h⟩ cs g w->Walk K.P main (DK K) (BH K U0 h0 ρ cs w fn nt ops l k defers kind callers (i::s) L') N g w
 |[],L,L',he=>by simp only[p6]at he;cases he;exact⟨fun e x=>x,0,fun i x=>by cases x⟩
 |i::r,L,L',he=>by
  simp only[p6]at he;split at he
  ·cases he
  ·cases he
  ·rename_i t' h' hop;split at he
   ·rename_i Wh;split at he
    ·rename_i L1 hput;obtain⟨a1,s',hh,a2,a3,a4⟩:=y7 hput;obtain⟨b1,N,b2⟩:=rq Gd F X C hops he;obtain⟨M,hM⟩:=iY Gd F X C hop;refine⟨fun e x=>b1 e (a1 e x),N+M,fun j hj hj1 hj2 {fn defers kind callers U0 ρ cs g w l k} I0 I Γ=>?_⟩;rcases aj.1 hj with rfl|hj
     ·have I':gp K (Us U0 h0 s) ⟨⟨fn,nt,t,.inRegion ops (j::l)::k,defers,.run,kind⟩,callers,lW h0 j h⟩:=
       I.lax rfl (fun n x=>x) fun n x1 x2=>BG I0 (by omega) hj2 x1 x2
      refine((hM I' (Γ.hp rfl)).weaken fun g' w' nx=>?_).mono (Nat.le_add_left _ _);obtain⟨ρ',c1,c2,c3,c4,c5⟩:=nx;refine⟨s',t',hh,b1 _ a2,pH a3,ρ',c1.mono (fun n x=>.inl x),c2,?_,c5.hp a4⟩;refine c4.lax a4 (fun n x=>?_) fun n x1 x2=>by simp[bare]at x2
      rcases x with(x|⟨q,q1,q2⟩)|x
      ·exact .inl x
      ·exact .inr ⟨q,(pH a3 q).1 (aa _ q1),q2⟩
      ·have hl:h'.fJ=(lW h0 j h).fJ:=c3.fJ;refine .inr ⟨j,(pH a3 j).1 (ai ..),x.1,?_⟩;have VB:h'.fJ=h0.nb+(j+1)*iB h0:=hl;have hx:=x.2;dsimp only at hx;omega
     ·exact(b2 j hj hj1 hj2 I0 I Γ).mono (Nat.le_add_right _ _)
    ·cases he
   ·cases he
theorem wK(Gd:K.Good)(F:K.iK){ext:Ext}(X:iL K ext){call:FuncId->List AV->AH->M (AE×AH)}(C:jU K main call)(hops:ops.size≤65536){h0:AH}:
  ∀{A L L':Fq},rW K.P K.O ext call nt ops h0 A L=.ok L'->(∀e∈L,e∈L')∧
   ∃N,∀s t h,(s,t,h)∈A->cI ops s≠[]∧∀i∈cI ops s,∀{fn defers kind callers U0 ρ cs g w l k},f_ K U0 h0->gp K (Us U0 h0 s) ⟨⟨fn,nt,t,.inRegion ops (i::l)::k,defers,.run,kind⟩,callers,bare h⟩->
    qd K ρ ⟨⟨fn,nt,t,.inRegion ops (i::l)::k,defers,.run,kind⟩,callers,h⟩ cs g w->Walk K.P main (DK K) (BH K U0 h0 ρ cs w fn nt ops l k defers kind callers (i::s) L') N g w
 |[],L,L',he=>by simp only[rW]at he;cases he;exact⟨fun e x=>x,0,fun s t h x=>by cases x⟩
 |(s,t,h)::A,L,L',he=>by
  simp only[rW]at he;split at he
  ·cases he
  ·rename_i hne;split at he
   ·rename_i L1 h1;obtain⟨a1,N,a2⟩:=rq Gd F X C hops h1;obtain⟨b1,M,b2⟩:=wK Gd F X C hops he;refine⟨fun e x=>b1 e (a1 e x),N+M,fun s' t' h' hm=>?_⟩;rcases aj.1 hm with hq|hm
    ·cases hq;refine⟨fun x=>hne (by simp[x]),fun i hi {fn defers kind callers U0 ρ cs g w l k} I0 I Γ=>?_⟩;obtain⟨x1,x2⟩:=dg hi;exact((a2 i hi x1 x2 I0 I Γ).weaken fun g' w' f=>f.sub b1).mono (Nat.le_add_right _ _)
    ·obtain⟨c1,c2⟩:=b2 s' t' h' hm;exact⟨c1,fun i hi {fn defers kind callers U0 ρ cs g w l k} I0 I Γ=>(c2 i hi I0 I Γ).mono (Nat.le_add_left _ _)⟩
   ·cases he
end
theorem dZ(m i:Nat):oP m i=m.testBit i:=by
 unfold oP JO;have h:Nat.land m (Nat.pow 2 i)=m&&& 2 ^ i:=rfl;rw[h];cases hb:m.testBit i with
 |true=>
  have:m&&& 2 ^ i≠0:=fun e=>by have:=congrArg (fun x=>Nat.testBit x i) e;simp[Nat.testBit_and,hb,Nat.testBit_two_pow_self]at this
  cases hq:Nat.beq (m&&& 2 ^ i) 0 with
  |true=>exact absurd (aH hq) this
  |false=>rfl
 |false=>
  have:m&&& 2 ^ i=0:=by
   apply Nat.eq_of_testBit_eq;intro j;rw[Nat.testBit_and,Nat.zero_testBit];by_cases e:i=j
   ·subst e;simp[hb]
   ·simp[Nat.testBit_two_pow,e]
  rw[this];rfl
theorem FP(m i j:Nat):oP (ye m i) j=(oP m j||decide (i=j)):=by
 rw[dZ,dZ];have:ye m i=m ||| 2 ^ i:=rfl
 rw[this,Nat.testBit_or,Nat.testBit_two_pow]
theorem wL(i:Nat):oP 0 i=false:=by rw[dZ];simp
theorem KC{a m:Nat}(h:Nat.beq (Nat.land a m) a=true){j:Nat}(hj:oP a j=true):oP m j=true:=by have e:a&&& m=a:=aH h;rw[dZ]at hj⊢;have:=congrArg (fun x=>Nat.testBit x j) e;simp only[Nat.testBit_and,hj,Bool.true_and]at this;exact this
theorem KD{a m:Nat}(h:∀j,oP a j=true->oP m j=true):Nat.beq (Nat.land a m) a=true:=by
 have:a&&& m=a:=by
  apply Nat.eq_of_testBit_eq;intro j;rw[Nat.testBit_and];have:=h j;rw[dZ,dZ]at this;cases ha:a.testBit j with
  |false=>rfl
  |true=>rw[this ha];rfl
 have h2:Nat.land a m=a:=this;rw[h2];exact Nat.beq_refl a
theorem nS{l:List Edge}{j:Nat}:oP (ir l) j=true↔∃e∈l,Region.binds .any e=true∧e.on=j:=by
 induction l with
 |nil=>simp[ir,wL]
 |cons e l ih=>
  unfold ir;cases hb:Region.binds .any e with
  |true=>
   simp only[FP,Bool.or_eq_true,ih,decide_eq_true_eq,aj];constructor
   ·rintro(⟨x,hx,a,b⟩|h)
    ·exact⟨x,.inr hx,a,b⟩
    ·exact⟨e,.inl rfl,hb,h⟩
   ·rintro⟨x,rfl|hx,a,b⟩
    ·exact .inr b
    ·exact .inl ⟨x,hx,a,b⟩
  |false=>
   simp only[ih,aj];constructor
   ·rintro⟨x,hx,a,b⟩;exact⟨x,.inr hx,a,b⟩
   ·rintro⟨x,rfl|hx,a,b⟩
    ·rw[hb]at a;cases a
    ·exact⟨x,hx,a,b⟩
theorem yx{l:List Oper}:∀{n:Nat} {x:Info},x∈nG n l↔∃i o,l[i]?=some o∧x=(n+i,o,ir o.after.toList,jP o):=by
 induction l with
 |nil=>intro n x;simp[nG]
 |cons o l ih=>
  intro n x;simp only[nG,aj,ih];constructor
  ·rintro(rfl|⟨i,o',h,rfl⟩)
   ·exact⟨0,o,rfl,rfl⟩
   ·exact⟨i+1,o',by simpa using h,by rw[show n+1+i=n+(i+1) by omega]⟩
  ·rintro⟨i,o',h,rfl⟩;cases i with
   |zero=>simp at h;subst h;exact .inl rfl
   |succ i=>exact .inr ⟨i,o',by simpa using h,by rw[show n+1+i=n+(i+1) by omega]⟩
theorem fo{ops:Array Oper}{x:Info}:x∈cW ops↔∃i o,ops[i]?=some o∧x=(i,o,ir o.after.toList,jP o):=by unfold cW;rw[yx];simp
def Cons(s:List Nat)(m:Nat):Prop:=∀i,oP m i=true↔i∈s
theorem Cons.add{s:List Nat}{m i:Nat}(h:Cons s m):Cons (i::s) (ye m i):=fun j=>by
 rw[FP,Bool.or_eq_true,h j,decide_eq_true_eq,aj];constructor
 ·rintro(x|x)
  ·exact .inr x
  ·exact .inl x.symm
 ·rintro(x|x)
  ·exact .inr x.symm
  ·exact .inl x
theorem BI:Cons [] 0:=fun i=>by simp[wL]
theorem fW{ops:Array Oper}{s:List Nat}{i:Nat}:i∈cI ops s↔i∉s∧∃o,ops[i]?=some o∧∀e∈o.after.toList,Region.binds .any e=true->e.on∈s:=by
 unfold cI;rw[aW];constructor
 ·rintro⟨h1,h2⟩;simp only[an,Bool.not_eq_true',List.contains_eq_mem,decide_eq_false_iff_not]at h2;refine⟨h2.1,?_⟩;have h3:=h2.2;split at h3
  ·rename_i o ho;refine⟨o,ho,fun e he hb=>?_⟩;unfold pZ at h3;rw[<-Array.all_toList,aD]at h3;have:=h3 e he;simpa[hb] using this
  ·cases h3
 ·rintro⟨h1,o,ho,h2⟩;refine⟨List.mem_range.2 (Array.getElem?_eq_some_iff.1 ho).1,?_⟩;simp only[an,Bool.not_eq_true',List.contains_eq_mem,decide_eq_false_iff_not];refine⟨h1,?_⟩;rw[ho];show pZ s o=true;unfold pZ;rw[<-Array.all_toList,aD];intro e he;cases hb:Region.binds .any e with
  |false=>rfl
  |true=>simpa using h2 e he hb
theorem ov{ops:Array Oper}{s:List Nat}{m:Nat}(c:Cons s m){i:Nat}{o:Oper}(ho:ops[i]?=some o):u_ m (i,o,ir o.after.toList,jP o)=true↔i∈cI ops s:=by
 rw[fW];unfold u_;simp only[an,Bool.not_eq_true'];constructor
 ·rintro⟨h1,h2⟩;refine⟨fun hi=>?_,o,ho,fun e he hb=>(c _).1 (KC h2 (nS.2 ⟨e,he,hb,rfl⟩))⟩;rw[(c i).2 hi]at h1;cases h1
 ·rintro⟨h1,o',ho',h2⟩;rw[ho]at ho';cases ho';refine⟨?_,KD fun j hj=>?_⟩
  ·cases hq:oP m i with
   |false=>rfl
   |true=>exact absurd ((c i).1 hq) h1
  ·obtain⟨e,he,hb,rfl⟩:=nS.1 hj;exact(c _).2 (h2 e he hb)
theorem tS{P:Program}{O:dH}{ext:Ext}{h:AH}{f g:Operand->AV}{o:Oper}(e:∀x∈o.op.operands.toList,f x=g x):op? P O ext h f o=op? P O ext h g o:=by
 have hc:∀(c:Call),(∀x∈c.operands.toList,f x=g x)->∀ty,resolve? f c ty=resolve? g c ty:=by
  intro c hc ty;have hargs:c.args.toList.map f=c.args.toList.map g:=a_ fun x hx=>hc x (by unfold Call.operands;simp only[Array.toList_append,aR];exact .inr hx)
  unfold resolve?;rw[hargs];split
  ·rfl
  ·rename_i recv name nQ;have:f recv=g recv:=hc recv (by unfold Call.operands;rw[nQ];simp);rw[this]
  ·rename_i fx nQ;have:f fx=g fx:=hc fx (by unfold Call.operands;rw[nQ];simp);rw[this]
 have KE:∀(ps:Array (Nat×Operand)),(∀x∈(ps.toList.map (·.2)),f x=g x)->ps.toList.map (fun(i,x)=>(i,f x))=ps.toList.map (fun(i,x)=>(i,g x)):=fun ps hp=>a_ fun x hx=>by have:f x.2=g x.2:=hp x.2 (bq.2 ⟨x,hx,rfl⟩);show(x.1,f x.2)=(x.1,g x.2);rw[this]
 unfold op?;generalize hop:o.op=op at e;cases op<;>simp only[Op.operands,aj,az,or_false,forall_eq_or_imp,forall_eq,List.toList_toArray,Array.toList_append,aR]at e<;>dsimp only
 case pick c a b=>rw[e.1,e.2.1,e.2.2]
 case build t ps=>rw[KE ps e]
 case buildSlice t n ps=>rw[KE ps e]
 case makeFunc fn fs cs=>rw[a_ (f:=f) (g:=g) fun x hx=>e x (.inl hx),a_ (f:=f) (g:=g) fun x hx=>e x (.inr hx)]
 case slice t x l hh mx=>
  have hx:f x=g x:=e x (by simp);have ho:∀(y:Option Operand),(∀z,y=some z->f z=g z)->(y.map fun x=>oF O (f x))=y.map fun x=>oF O (g x):=fun y hy=>by
   cases y with
   |none=>rfl
   |some z=>simp[hy z rfl]
  rw[hx,ho l fun z hz=>e z (by subst hz;simp),ho hh fun z hz=>e z (by subst hz;simp),ho mx fun z hz=>e z (by subst hz;simp)]
 case makeMap t r=>
  have:r.map f=r.map g:=by
   cases r with
   |none=>rfl
   |some z=>simp[e z (by simp)]
  rw[this]
 case call c=>rw[hc c e]
 case defer c=>rw[hc c e]
 case unOp u t x=>cases u<;>dsimp only<;>simp only[e]
 all_goals first
  |rfl
  |(simp only[e];done)
  |(simp only[e.1,e.2];done)
theorem wM{r:M AV}{h h':AH}{n:AN}(he:kO r h=.ok (n,h')):h'=h:=by
 unfold kO at he;split at he
 ·cases he;rfl
 ·cases he
theorem Ea{P:Program}{O:dH}{ext:Ext}{h h':AH}{f:Operand->AV}{o:Oper}{n:AN}(hq:jP o=true)(he:op? P O ext h f o=.ok (n,h')):h'=h:=by
 unfold jP at hq;unfold op? at he;generalize o.op=op at hq he;cases op<;>simp at hq<;>dsimp only at he
 case unOp u t x=>cases u<;>dsimp only at he<;>(repeat' split at he)<;>first|(cases he;rfl)|cases he
 all_goals first
  |exact wM he
  |(cases he;rfl)
  |((repeat' split at he)<;>first|exact wM he|(cases he;rfl)|cases he)
def Alike(ops:Array Oper)(o:Oper)(t t':TT):Prop:=∀d∈o.looksAt ops,t'.get d=t.get d
theorem Alike.eval{ops:Array Oper}{o:Oper}{t t':TT}(h:Alike ops o t t'):∀x∈o.op.operands.toList,kP t' x=kP t x:=by
 intro x hx;cases x with
 |tmp d=>exact h d (List.mem_append_left _ (List.mem_filterMap.2 ⟨.tmp d,hx,rfl⟩))
 |_=>rfl
theorem Alike.wanted{O:dH}{ops:Array Oper}{o:Oper}{t t':TT}(h:Alike ops o t t'):gz O ops t' o=gz O ops t o:=by
 unfold gz;cases hg:o.guard with
 |none=>rfl
 |some gw=>
  obtain⟨j,want⟩:=gw;dsimp only;have:oW O ops t' j=oW O ops t j:=by
   unfold oW;cases hd:(ops[j]?).bind (·.dst)with
   |none=>rfl
   |some d=>dsimp only;rw[h d (List.mem_append_right _ (by rw[hg];simp[hd]))]
  rw[this]
theorem sJ{P:Program}{O:dH}{ext:Ext}{call:FuncId->List AV->AH->M (AE×AH)}{nt:Nat}{ops:Array Oper}{i:Nat}{o:Oper}{t t' t1:TT}{h h1:AH}(ho:ops[i]?=some o)(ha:Alike ops o t t')
 (he:jB P O ext call nt ops i t h=.ok (.on t1 h1)):∃v,t1=jl nt t o.dst v∧jB P O ext call nt ops i t' h=.ok (.on (jl nt t' o.dst v) h1):=by
 unfold jB at he⊢;rw[ho]at he⊢;dsimp only at he⊢;rw[ha.wanted,tS ha.eval];split at he
 ·cases he
 ·rename_i hw;cases he;exact⟨_,rfl,rfl⟩
 ·rename_i hw;split at he
  ·cases he
  ·rename_i v h' hop;cases he;exact⟨v,rfl,rfl⟩
  ·rename_i h' hop;cases he;exact⟨cJ,rfl,rfl⟩
  ·rename_i f args h' hop;split at he
   ·rename_i v h'' hc;cases he;exact⟨v,rfl,rfl⟩
   ·cases he
   ·cases he
  ·cases he
  ·cases he
theorem sK{P:Program}{O:dH}{ext:Ext}{call:FuncId->List AV->AH->M (AE×AH)}{nt:Nat}{ops:Array Oper}{i:Nat}{o:Oper}{t:TT}{h:AH}(ho:ops[i]?=some o)(hq:jP o=true){v:AV}
 (he:gz O ops t o=.ok false∧v=cJ∨gz O ops t o=.ok true∧∃h',op? P O ext h (kP t) o=.ok (.value v,h')):jB P O ext call nt ops i t h=.ok (.on (jl nt t o.dst v) h):=by
 unfold jB;rw[ho];dsimp only;rcases he with⟨hw,rfl⟩|⟨hw,h',hop⟩
 ·rw[hw]
 ·rw[hw];dsimp only;have:=Ea hq hop;subst this;rw[hop]
theorem mh{nt:Nat}(hnt:nt≤60000)(t:TT)(dst:Option Tmp)(v:AV)(n:Nat):(jl nt t dst v).get n=if dst=some n∧n<nt then v else t.get n:=by
 unfold jl;cases dst with
 |none=>simp
 |some d=>
  dsimp only;cases hb:Nat.ble (d+1) nt with
  |true=>
   have hd:Nat.succ d≤nt:=Nat.le_of_ble_eq_true hb;have HU:Nat.succ d<2 ^ 16:=Nat.lt_of_le_of_lt (aA hd hnt) (by decide);dsimp only;rw[TT.r5 v 16 t d n HU];by_cases e:n=d
   ·subst e;rw[if_pos rfl,if_pos ⟨rfl,hd⟩]
   ·rw[if_neg e,if_neg fun x=>e (au x.1).symm]
  |false=>dsimp only;rw[if_neg];rintro⟨e,hn⟩;obtain rfl:=au e;have h2:Nat.ble (d+1) nt=true:=Nat.ble_eq_true_of_le (Nat.succ_le_of_lt hn);rw[h2]at hb;cases hb
def NX(ops:Array Oper)(s r:List Nat)(n:Nat):Prop:=∃i o,i∈s∧i∉r∧ops[i]?=some o∧o.dst=some n
def Down(ops:Array Oper)(r:List Nat):Prop:=∀i∈r,∀o,ops[i]?=some o->∀e∈o.after.toList,Region.binds .any e=true->e.on∈r
theorem Down.cons{ops:Array Oper}{r:List Nat}(d:Down ops r){i:Nat}(h:i∈cI ops r):Down ops (i::r):=by
 obtain⟨_,o,ho,hp⟩:=fW.1 h;intro j hj oj VC e he hb;rcases aj.1 hj with rfl|hj
 ·rw[ho]at VC;cases VC;exact aa _ (hp e he hb)
 ·exact aa _ (d j hj oj VC e he hb)
structure kT(ops:Array Oper)(nt:Nat)(s r:List Nat)(t tr:TT):Prop where
 sub:∀i∈r,i∈s
 quiet:∀i∈s,i∉r->∃o,ops[i]?=some o∧jP o=true
 same:∀n,n<nt->¬NX ops s r n->tr.get n=t.get n
 out:∀n,nt≤n->tr.get n=t.get n
 down:Down ops r
theorem NY(a b j:Nat):oP (Nat.lor a b) j=(oP a j||oP b j):=by rw[dZ,dZ,dZ];exact Nat.testBit_or a b j
theorem wN{m i:Nat}:∀{l:List Info},oP (rY m l) i=true->∃x∈l,x.2.2.2=false∧oP m x.1=true∧oP x.2.2.1 i=true
 |[],h=>by simp[rY,wL]at h
 |x::l,h=>by
  simp only[rY]at h;split at h
  ·rename_i hb;simp only[an,Bool.not_eq_true']at hb;rw[NY,Bool.or_eq_true]at h;rcases h with h|h
   ·exact⟨x,ai ..,hb.1,hb.2,h⟩
   ·obtain⟨y,hy,z⟩:=wN h;exact⟨y,aa _ hy,z⟩
  ·obtain⟨y,hy,z⟩:=wN h;exact⟨y,aa _ hy,z⟩
theorem NZ{infos:List Info}{m i:Nat}(h1:oP m i=true)(h2:oP (rY m infos) i=false):oP (Hu infos m) i=true:=by unfold Hu;rw[dZ]at h1 h2⊢;show(m&&& (m ^^^ rY m infos)).testBit i=true;rw[Nat.testBit_and,Nat.testBit_xor,h1,h2];rfl
theorem kT.rem{ops:Array Oper}{nt:Nat}{s r:List Nat}{t tr:TT}(N:kT ops nt s r t tr){m:Nat}(hc:Cons s m){i:Nat}(hi:i∈s)(hr:i∉r):oP (Hu (cW ops) m) i=true:=by
 refine NZ ((hc i).2 hi) ?_;cases hd:oP (rY m (cW ops)) i with
 |false=>rfl
 |true=>
  obtain⟨x,hx,h1,h2,h3⟩:=wN hd;obtain⟨j,o,ho,rfl⟩:=fo.1 hx;dsimp only at h1 h2 h3;have hj:j∈s:=(hc j).1 h2;by_cases PO:j∈r
  ·obtain⟨e,he,hb,rfl⟩:=nS.1 h3;exact absurd (N.down j PO o ho e he hb) hr
  ·obtain⟨o',ho',hq⟩:=N.quiet j hj PO;rw[ho]at ho';cases ho';rw[hq]at h1;cases h1
def nT(ops:Array Oper):List Nat->Prop
 |[]=>True
 |i::s=>i∈cI ops s∧nT ops s
theorem nT.ready{ops:Array Oper}{r:List Nat}:∀{s:List Nat},nT ops s->(∃i∈s,i∉r)->∃i∈s,i∈cI ops r
 |[],_,⟨i,h,_⟩=>by cases h
 |a::s,⟨h1,h2⟩,hx=>by
  by_cases hs:∃i∈s,i∉r
  ·obtain⟨i,hi,hr⟩:=nT.ready h2 hs;exact⟨i,aa _ hi,hr⟩
  ·have hall:∀i∈s,i∈r:=fun i hi=>Classical.byContradiction fun hn=>hs ⟨i,hi,hn⟩;obtain⟨i,hi,hn⟩:=hx;rcases aj.1 hi with rfl|hi
   ·obtain⟨_,o,ho,hp⟩:=fW.1 h1;exact⟨i,ai ..,fW.2 ⟨hn,o,ho,fun e he hb=>hall _ (hp e he hb)⟩⟩
   ·exact absurd (hall i hi) hn
theorem nT.lt{ops:Array Oper}:∀{s:List Nat},nT ops s->∀i∈s,i<ops.size
 |[],_,i,h=>by cases h
 |a::s,⟨h1,h2⟩,i,h=>by
  rcases aj.1 h with rfl|h
  ·exact(dg h1).1
  ·exact nT.lt h2 i h
theorem yy{ops:Array Oper}(h:jQ ops (cW ops)=true){i j d:Nat}{oi oj:Oper}(hi:ops[i]?=some oi)(hj:ops[j]?=some oj)(hq:jP oi=true)(hd:oi.dst=some d)(hl:d∈oj.looksAt ops):
  ∃e∈oj.after.toList,Region.binds .any e=true∧e.on=i:=by
 unfold jQ at h;rw[aD]at h;have h1:=h _ (fo.2 ⟨i,oi,hi,rfl⟩);dsimp only at h1;rw[hq,hd]at h1;dsimp only at h1;rw[aD]at h1;have h2:=h1 _ (fo.2 ⟨j,oj,hj,rfl⟩);dsimp only at h2;have hc:(oj.looksAt ops).contains d=true:=by simpa using hl
 rw[hc]at h2;simp only[Bool.not_true,Bool.false_or]at h2;exact nS.1 h2
theorem kT.alike{ops:Array Oper}{nt:Nat}{s r:List Nat}{t tr:TT}(N:kT ops nt s r t tr)(hok:jQ ops (cW ops)=true){j:Nat}{oj:Oper}(hj:ops[j]?=some oj)(hr:j∈cI ops r):Alike ops oj t tr:=by
 intro d hd;rcases Nat.lt_or_ge d nt with hlt|hge
 rotate_left
 ·exact N.out d hge
 refine N.same d hlt fun⟨i,oi,h1,h2,h3,h4⟩=>?_;obtain⟨o,ho,hq⟩:=N.quiet i h1 h2;rw[h3]at ho;cases ho;obtain⟨e,he,hb,rfl⟩:=yy hok h3 hj hq h4 hd;obtain⟨_,o',ho',hp⟩:=fW.1 hr;rw[hj]at ho';cases ho';exact h2 (hp e he hb)
theorem kT.drawn{ops:Array Oper}{nt:Nat}(hnt:nt≤60000){s r:List Nat}{t tr:TT}(N:kT ops nt s r t tr){i:Nat}{o:Oper}(ho:ops[i]?=some o)(hi:i∈s)(Di:i∈cI ops r){v:AV}(hv:∀d,o.dst=some d->d<nt->t.get d=v):
  kT ops nt s (i::r) t (jl nt tr o.dst v):=by
 refine⟨fun j hj=>?_,fun j hj hn=>N.quiet j hj fun x=>hn (aa _ x),fun n hlt hn=>?_,fun n hge=>?_,?_⟩
 ·rcases aj.1 hj with rfl|hj
  ·exact hi
  ·exact N.sub j hj
 ·rw[mh hnt];split
  ·rename_i hd;exact(hv n hd.1 hd.2).symm
  ·rename_i hd;refine N.same n hlt fun⟨a,oa,h1,h2,h3,h4⟩=>?_;by_cases e:a=i
   ·subst e;rw[ho]at h3;cases h3;exact hd ⟨h4,hlt⟩
   ·exact hn ⟨a,oa,h1,(fun x=>(aj.1 x).elim e h2),h3,h4⟩
 ·rw[mh hnt,if_neg fun x=>absurd x.2 (Nat.not_lt.2 hge)];exact N.out n hge
 ·exact N.down.cons Di
structure Aj(ops:Array Oper)(nt:Nat)(s:List Nat)(t:TT)(s2:List Nat)(m2:Nat)(t2:TT):Prop where
 sub:∀i∈s,i∈s2
 quiet:∀i∈s2,i∉s->∃o,ops[i]?=some o∧jP o=true
 same:∀n,(¬∃i o,i∈s2∧i∉s∧ops[i]?=some o∧o.dst=some n∧n<nt)->t2.get n=t.get n
 cons:Cons s2 m2
 KF:nT ops s2
theorem mj{P:Program}{O:dH}{ext:Ext}{nt:Nat}(hnt:nt≤60000){ops:Array Oper}{h:AH}:∀{l:List Info},(∀x∈l,x∈cW ops)->∀{s:List Nat} {m:Nat} {t:TT} {s2:List Nat} {m2:Nat} {t2:TT},Cons s m->nT ops s->
  oG P O ext nt ops h l s m t=.ok (s2,m2,t2)->Aj ops nt s t s2 m2 t2
 |[],_,s,m,t,s2,m2,t2,c,tp,he=>by simp only[oG]at he;cases he;exact⟨fun i x=>x,fun i x y=>absurd x y,fun n _=>rfl,c,tp⟩
 |x::l,hl,s,m,t,s2,m2,t2,c,tp,he=>by
  have hl':∀y∈l,y∈cW ops:=fun y hy=>hl y (aa _ hy);simp only[oG]at he;split at he
  ·exact mj hnt hl' c tp he
  ·rename_i hb;rw[an]at hb;obtain⟨i,o,ho,rfl⟩:=fo.1 (hl x (ai ..));dsimp only at hb he;have hr:=(ov c ho).1 hb.2;have step:∀{v:AV} {s2:List Nat} {m2:Nat} {t2:TT},oG P O ext nt ops h l (i::s) (ye m i) (jl nt t o.dst v)=.ok (s2,m2,t2)->Aj ops nt s t s2 m2 t2:=by
    intro v s2 m2 t2 he;have S:=mj hnt hl' (c.add (i:=i)) (show nT ops (i::s)from⟨hr,tp⟩) he;refine⟨fun j hj=>S.sub j (aa _ hj),fun j hj hn=>?_,fun n hn=>?_,S.cons,S.KF⟩
    ·by_cases e:j=i
     ·subst e;exact⟨o,ho,hb.1⟩
     ·exact S.quiet j hj fun x=>(aj.1 x).elim e hn
    ·rw[S.same n fun⟨j,oj,h1,h2,h3,h4,h5⟩=>hn ⟨j,oj,h1,fun x=>h2 (aa _ x),h3,h4,h5⟩,mh hnt];refine if_neg fun⟨h4,h5⟩=>hn ⟨i,o,S.sub i (ai ..),(dg hr).2,ho,h4,h5⟩
   split at he
   ·cases he
   ·exact step he
   ·split at he
    ·exact step he
    ·cases he
    ·cases he
theorem kT.next{ops:Array Oper}{nt:Nat}(hnt:nt≤60000){s r:List Nat}{t tr:TT}(N:kT ops nt s r t tr){j:Nat}{o:Oper}(ho:ops[j]?=some o)(hj:j∉s)(PO:j∈cI ops r){v:AV}{s2:List Nat}{m2:Nat}{t2:TT}
 (S:Aj ops nt (j::s) (jl nt t o.dst v) s2 m2 t2):kT ops nt s2 (j::r) t2 (jl nt tr o.dst v):=by
 have hsub:∀i∈j::r,i∈j::s:=fun i hi=>by
  rcases aj.1 hi with rfl|hi
  ·exact ai ..
  ·exact aa _ (N.sub i hi)
 have PR:∀n,(¬∃i o,i∈s2∧i∉j::r∧ops[i]?=some o∧o.dst=some n∧n<nt)->t2.get n=(jl nt t o.dst v).get n:=fun n hn=>S.same n fun⟨i,oi,h1,h2,h3,h4,h5⟩=>hn ⟨i,oi,h1,fun x=>h2 (hsub i x),h3,h4,h5⟩
 refine⟨fun i hi=>S.sub i (hsub i hi),fun i hi hn=>?_,fun n hlt hn=>?_,fun n hge=>?_,N.down.cons PO⟩
 ·by_cases e:i∈j::s
  ·rcases aj.1 e with rfl|e
   ·exact absurd (ai ..) hn
   ·exact N.quiet i e fun x=>hn (aa _ x)
  ·exact S.quiet i hi e
 ·rw[PR n fun⟨i,oi,h1,h2,h3,h4,h5⟩=>hn ⟨i,oi,h1,h2,h3,h4⟩,mh hnt,mh hnt];split
  ·rfl
  ·refine N.same n hlt fun⟨a,oa,h1,h2,h3,h4⟩=>hn ⟨a,oa,S.sub a (aa _ h1),(fun x=>?_),h3,h4⟩;rcases aj.1 x with rfl|x
   ·exact hj h1
   ·exact h2 x
 ·rw[PR n fun⟨i,oi,h1,h2,h3,h4,h5⟩=>absurd h5 (Nat.not_lt.2 hge),mh hnt,mh hnt,if_neg fun x=>absurd x.2 (Nat.not_lt.2 hge),if_neg fun x=>absurd x.2 (Nat.not_lt.2 hge)];exact N.out n hge
theorem kT.begin{ops:Array Oper}{nt:Nat}{t:TT}{s2:List Nat}{m2:Nat}{t2:TT}(S:Aj ops nt [] t s2 m2 t2):kT ops nt s2 [] t2 t:=
 ⟨(fun i hi=>by cases hi),fun i hi hn=>S.quiet i hi hn,fun n hlt hn=>(S.same n fun⟨i,oi,h1,h2,h3,h4,h5⟩=>hn ⟨i,oi,h1,h2,h3,h4⟩).symm,fun n hge=>(S.same n fun⟨i,oi,h1,h2,h3,h4,h5⟩=>absurd h5 (Nat.not_lt.2 hge)).symm,fun i hi=>by cases hi⟩
theorem kT.over{ops:Array Oper}{nt:Nat}{s r:List Nat}{t tr:TT}(N:kT ops nt s r t tr)(tp:nT ops s)(hr:cI ops r=[]):(∀i∈s,i∈r)∧cI ops s=[]∧∀n,tr.get n=t.get n:=by
 have hall:∀i∈s,i∈r:=fun i hi=>Classical.byContradiction fun hn=>by obtain⟨j,_,hj⟩:=tp.ready ⟨i,hi,hn⟩;rw[hr]at hj;cases hj
 refine⟨hall,?_,fun n=>?_⟩
 ·rw[nv (b:=r) fun i=>⟨hall i,N.sub i⟩];exact hr
 ·rcases Nat.lt_or_ge n nt with hlt|hge
  ·exact N.same n hlt fun⟨i,o,h1,h2,_⟩=>h2 (hall i h1)
  ·exact N.out n hge
theorem tT{P:Program}{O:dH}{ext:Ext}{nt:Nat}{ops:Array Oper}{m:Nat}{t:TT}{h:AH}:∀{l:List Info},oZ P O ext nt ops m t h l=true->∀x∈l,x.2.2.2=true->oP m x.1=true->
  ∃v,(gz O ops t x.2.1=.ok false∧v=cJ∨gz O ops t x.2.1=.ok true∧∃h',op? P O ext h (kP t) x.2.1=.ok (.value v,h'))∧∀d,x.2.1.dst=some d->d<nt->t.get d=v
 |[],_,x,hx,_,_=>by cases hx
 |y::l,he,x,hx,hq,hm=>by
  simp only[oZ,an]at he;have put:∀{v:AV},Fs nt t x.2.1.dst v=true->∀d,x.2.1.dst=some d->d<nt->t.get d=v:=by intro v hd d Kn hlt;unfold Fs at hd;rw[Kn]at hd;dsimp only at hd;have h2:Nat.ble (d+1) nt=true:=Nat.ble_eq_true_of_le (Nat.succ_le_of_lt hlt);rw[h2]at hd;exact AV.cK _ _ hd
  rcases aj.1 hx with rfl|hx
  ·have h1:=he.1;rw[hq,hm]at h1;simp only[Bool.and_self]at h1;split at h1
   ·cases h1
   ·rename_i hw;exact⟨_,.inl ⟨hw,rfl⟩,put h1⟩
   ·rename_i hw;split at h1
    ·rename_i v h' hop;exact⟨v,.inr ⟨hw,h',hop⟩,put h1⟩
    ·cases h1
  ·exact tT he.2 x hx hq hm
section
variable {K:Ctx}{main:Bool}{nt:Nat}{ops:Array Oper}
theorem Next.before{U:Nat->Prop}{ρ ρ':Env}{cs:List Frame}{w w' w'':World}{h0:AH}{c:dU}{BD:Goroutine}(A:cv U ρ ρ')(k:bS K.own w w')(n:Next K U ρ' cs w' h0 c BD w''):Next K U ρ cs w h0 c BD w'':=by obtain⟨yf,a1,a2,a3,a4,a5⟩:=n;exact⟨yf,A.trans a1 (fun _ x=>x),k.trans a2,a3,a4,a5⟩
theorem Next.grow{U:Nat->Prop}{ρ ρ':Env}{cs:List Frame}{w w' w'':World}{h0 h1:AH}{c:dU}{BD:Goroutine}(A:cv U ρ ρ')(k:bS K.own w w')(gr:c7 K U h0 h1)
 (n:Next K (plus U h0.nb h1.nb) ρ' cs w' h1 c BD w''):Next K U ρ cs w h0 c BD w'':=by
 obtain⟨yf,a1,a2,a3,a4,a5⟩:=n;exact⟨yf,A.trans a1 b_,k.trans a2,gr.trans a3,a4.congr fun n=>lM gr.nb a3.nb n,a5⟩
theorem fu.before{U:Nat->Prop}{ρ ρ':Env}{cs:List Frame}{w w' w'':World}{h0:AH}{fn:FuncId}{todo:List Item}{defers:List AD}{kind:CallKind}{callers:List bR}{r:AR}{BD:Goroutine}(A:cv U ρ ρ')(k:bS K.own w w')
 (n:fu K U ρ' cs w' h0 fn nt todo defers kind callers r BD w''):fu K U ρ cs w h0 fn nt todo defers kind callers r BD w'':=by
 cases r with
 |on t h=>exact Next.before A k n
 |panic t c h=>exact fun td=>Next.before A k (n td)
theorem fu.grow{U:Nat->Prop}{ρ ρ':Env}{cs:List Frame}{w w' w'':World}{h0 h1:AH}{fn:FuncId}{todo:List Item}{defers:List AD}{kind:CallKind}{callers:List bR}{r:AR}{BD:Goroutine}(A:cv U ρ ρ')(k:bS K.own w w')(gr:c7 K U h0 h1)
 (n:fu K (plus U h0.nb h1.nb) ρ' cs w' h1 fn nt todo defers kind callers r BD w''):fu K U ρ cs w h0 fn nt todo defers kind callers r BD w'':=by
 cases r with
 |on t h=>exact Next.grow A k gr n
 |panic t c h=>exact fun td=>Next.grow A k gr (n td)
def PS(K:Ctx)(U0:Nat->Prop)(s:List Nat)(cur:bR)(callers:List bR)(h:AH):Option AH->Prop
 |none=>gp K U0 ⟨cur,callers,h⟩
 |some h0=>f_ K U0 h0∧gp K (Us U0 h0 s) ⟨cur,callers,bare h⟩
theorem Ec(Gd:K.Good)(F:K.iK){ext:Ext}(X:iL K ext){call:FuncId->List AV->AH->M (AE×AH)}(C:jU K main call)(hops:ops.size≤65536):
  ∀{n:Nat} {fork:Option AH} {L:Fq} {r:AR},mQ K.P K.O ext call nt ops n fork L=.ok r->
   ∃N,∀s t h,(s,t,h)∈L->∀{fn defers kind callers U0 ρ cs g w l k},(∀j∈s,j<ops.size)->je ops s l->
    PS K U0 s ⟨fn,nt,t,.inRegion ops l::k,defers,.run,kind⟩ callers h fork->qd K ρ ⟨⟨fn,nt,t,.inRegion ops l::k,defers,.run,kind⟩,callers,h⟩ cs g w->
    Walk K.P main (DK K) (fu K U0 ρ cs w (fork.getD h) fn nt k defers kind callers r) N g w:=by
 intro n
 induction n with
 |zero=>intro fork L r he;simp only[mQ]at he;cases he
 |succ n ih=>
  intro fork L r he;simp only[mQ]at he;split at he
  ·rename_i s t h h0;obtain⟨N,hN⟩:=ih he;refine⟨N,fun s' t' h' hm {fn defers kind callers U0 ρ cs g w l k} hb hs I Γ=>?_⟩;cases ah.1 hm;obtain⟨I0,I⟩:=I;have hst:ops.size*iB h0≤h0.fJ-h0.nb:=aA (bf _ hops) (Nat.mul_div_le _ _);have hI:gp K (plus U0 h0.nb (jI h0 ops.size h).nb) ⟨⟨fn,nt,t,.inRegion ops l::k,defers,.run,kind⟩,callers,jI h0 ops.size h⟩:=by
    refine I.lax rfl (fun m x=>?_) fun m x1 x2 x3=>?_
    ·rcases x with x|⟨j,j1,j2,j3⟩
     ·exact .inl x
     ·refine .inr ⟨by omega,Nat.lt_of_lt_of_le j3 (Nat.add_le_add_left (bf _ (hb j j1)) _)⟩
    ·have hx1:h0.nb+ops.size*iB h0≤m:=x1;rcases x3 with x|x
     ·exact I0.fresh m (by omega) x2 x
     ·have:=x.2;exact absurd this (Nat.not_lt.2 x1)
   have gr:c7 K U0 h0 (jI h0 ops.size h):=⟨Nat.le_add_right _ _,rfl,hI.ids⟩;have:=hN s t _ (ah.2 rfl) hb hs hI (Γ.hp rfl);exact this.weaken fun g' w' x=>fu.grow (cv.refl _ _) (bS.refl _ _) gr x
  ·rename_i s t h;split at he
   ·rename_i hr;cases he;refine⟨1,fun s' t' h' hm {fn defers kind callers U0 ρ cs g w l k} hb hs I Γ=>?_⟩;cases ah.1 hm;cases l with
    |cons i l=>have:=hs.1;rw[hr]at this;cases this
    |nil=>exact eP (fun ρ tm w cs R T b ds=>me) U0 ρ cs g w I Γ
   ·rename_i i hr;have front:∀{l},je ops s l->∃l',l=i::l'∧je ops (i::s) l':=fun{l} hs=>by
     cases l with
     |nil=>have:cI ops s=[]:=hs;rw[hr]at this;cases this
     |cons j l=>have:=hs.1;rw[hr]at this;obtain rfl:=ah.1 this;exact⟨l,rfl,hs.2⟩
    have hi:i<ops.size:=(dg (s:=s) (by rw[hr];exact ah.2 rfl)).1;split at he
    ·cases he
    ·rename_i t' c h' hop;cases he;obtain⟨N,hN⟩:=iY Gd F X C hop;refine⟨N,fun s' t' h' hm {fn defers kind callers U0 ρ cs g w l k} hb hs I Γ=>?_⟩;cases ah.1 hm;obtain⟨l',rfl,hs'⟩:=front hs;exact hN I Γ
    ·rename_i t' h' hop;obtain⟨N,hN⟩:=iY Gd F X C hop;obtain⟨M,hM⟩:=ih he;refine⟨N+M,fun s' t2 h2 hm {fn defers kind callers U0 ρ cs g w l k} hb hs I Γ=>?_⟩;cases ah.1 hm;obtain⟨l',rfl,hs'⟩:=front hs;refine Walk.trans (fun g' w' nx=>?_) (hN I Γ);obtain⟨ρ',a1,a2,a3,a4,a5⟩:=nx;refine(hM (i::s) t' h' (ah.2 rfl) ?_ hs' a4 a5).weaken fun g2 w2 x=>fu.grow a1 a2 a3 x;intro j hj;rcases aj.1 hj with rfl|hj
     ·exact hi
     ·exact hb j hj
   ·rename_i J7 hn2;split at he
    ·rename_i L' hst;obtain⟨_,N,hN⟩:=rq Gd F X C hops hst;obtain⟨M,hM⟩:=ih he;refine⟨N+M,fun s' t2 h2 hm {fn defers kind callers U0 ρ cs g w l k} hb hs I Γ=>?_⟩;cases ah.1 hm;cases l with
     |nil=>exact absurd hs J7
     |cons i l=>
      obtain⟨hi1,hi2⟩:=dg hs.1;have I':gp K U0 ⟨⟨fn,nt,t,.inRegion ops (i::l)::k,defers,.run,kind⟩,callers,h⟩:=I;refine Walk.trans (fun g' w' fk=>?_) (hN i hs.1 hi1 hi2 I'.ids (I'.lax rfl (fun n x=>.inl x) fun n x1 x2=>by simp[bare]at x2) Γ);obtain⟨s',t',h',b1,b2,ρ',b3,b4,b5,b6⟩:=fk;refine(hM s' t' h' b1 (fun j hj=>?_) (hs.2.congr b2) ⟨I'.ids,b5⟩ b6).weaken fun g2 w2 x=>fu.before b3 b4 x;rcases aj.1 ((b2 j).2 hj)with rfl|hj
      ·exact hi1
      ·exact hb j hj
    ·cases he
  ·rename_i h0 hn;split at he
   ·rename_i L' hst;obtain⟨_,N,hN⟩:=wK Gd F X C hops hst;obtain⟨M,hM⟩:=ih he;refine⟨N+M,fun s' t2 h2 hm {fn defers kind callers U0 ρ cs g w l k} hb hs I Γ=>?_⟩;obtain⟨c1,c2⟩:=hN s' t2 h2 hm;cases l with
    |nil=>exact absurd hs c1
    |cons i l=>
     obtain⟨hi1,hi2⟩:=dg hs.1;obtain⟨I0,I⟩:=I;refine Walk.trans (fun g' w' fk=>?_) (c2 i hs.1 I0 I Γ);obtain⟨s',t',h',b1,b2,ρ',b3,b4,b5,b6⟩:=fk;refine(hM s' t' h' b1 (fun j hj=>?_) (hs.2.congr b2) ⟨I0,b5⟩ b6).weaken fun g2 w2 x=>fu.before b3 b4 x;rcases aj.1 ((b2 j).2 hj)with rfl|hj
     ·exact hi1
     ·exact hb j hj
   ·cases he
  ·cases he
theorem tU(F:K.iK){tmps:TT}{h:AH}{id:Nat}{fn:FuncId}{defers:List AD}{kind:CallKind}{callers:List bR}{ρ:Env}{cs:List Frame}{g:Goroutine}{w:World}{k:List Item}
 (Γ:qd K ρ ⟨⟨fn,nt,tmps,.code (.region id ops true)::k,defers,.run,kind⟩,callers,h⟩ cs g w):
  Walk K.P main (DK K) (fun g' w'=>∃t,bS K.own w w'∧qd K ρ ⟨⟨fn,nt,tmps,.inRegion ops (Region.schedule true ops t)::k,defers,.run,kind⟩,callers,h⟩ cs g' w') 1 g w:=by
 refine Walk.one Γ.running fun d=>?_;obtain⟨R,tm,fV,h1,h2,h3,hc,rfl⟩:=kI.1 (Γ.drawn d);obtain⟨d',t,e⟩:=H9 (main:=main) (ops:=ops) (b:=bB ρ fn kind) (a:=aB ρ kind tm defers) (k:=k) (cs:=fV++cs) (w:=cx w d) (id:=id) F.mixed;rw[e];exact⟨⟨⟨fun _ _=>rfl,ax _,rfl,rfl,rfl⟩,fun e he=>(by simp at he),fun _ _ _ _ x=>x⟩,t,⟨fun _ _=>rfl,ax _,rfl,rfl,rfl⟩,kI.2 ⟨R.at rfl,tm,fV,h1,h2,h3,hc,rfl⟩⟩
theorem uz(Gd:K.Good)(F:K.iK){ext:Ext}(X:iL K ext){call:FuncId->List AV->AH->M (AE×AH)}(C:jU K main call){tmps:TT}{h:AH}{r:AR}{id:Nat}(he:rZ K.P K.O ext call nt ops tmps h=.ok r):
  ∃N,∀{fn defers kind callers U ρ cs g w k},gp K U ⟨⟨fn,nt,tmps,.code (.region id ops true)::k,defers,.run,kind⟩,callers,h⟩->qd K ρ ⟨⟨fn,nt,tmps,.code (.region id ops true)::k,defers,.run,kind⟩,callers,h⟩ cs g w->
   Walk K.P main (DK K) (fu K U ρ cs w h fn nt k defers kind callers r) N g w:=by
 unfold rZ at he;split at he
 ·rename_i hops;obtain⟨N,hN⟩:=Ec Gd F X C hops he;refine⟨1+N,fun{fn defers kind callers U ρ cs g w k} I Γ=>?_⟩;have hs:=tU (main:=main) F Γ;refine Walk.trans (fun g' w' ⟨t,kp,Rf⟩=>?_) hs;refine(hN [] tmps h (ah.2 rfl) (fun j hj=>by cases hj) (jV ops t) (U0:=U) ⟨⟨I.cur.tmps,I.cur.defers,trivial⟩,I.callers,I.ids⟩ Rf).weaken fun g2 w2 x=>fu.before (cv.refl _ _) kp x
 ·cases he
end
section
variable {K:Ctx}{main:Bool}{nt:Nat}{ops:Array Oper}
theorem KG{ρ:Env}{fn:FuncId}{t t':TT}{todo:List Item}{defers:List AD}{mode:gK}{kind:CallKind}{callers:List bR}{h:AH}{cs:List Frame}{g:Goroutine}{w:World}(e:∀n,t'.get n=t.get n)
 (Γ:qd K ρ ⟨⟨fn,nt,t',todo,defers,mode,kind⟩,callers,h⟩ cs g w):qd K ρ ⟨⟨fn,nt,t,todo,defers,mode,kind⟩,callers,h⟩ cs g w:=by
 obtain⟨R,fr,fV,⟨tm,td,is,rfl⟩,hc,rfl⟩:=Γ;exact⟨R,_,fV,⟨tm,td,⟨⟨is.tmps.size,is.tmps.le,fun n hn=>by rw[is.tmps.get n hn,e],fun n hn=>by rw[<-e];exact is.tmps.out n hn⟩,is.kind,is.todo,is.fn⟩,rfl⟩,hc,rfl⟩
theorem FQ{U:Nat->Prop}{fn:FuncId}{t t':TT}{todo:List Item}{defers:List AD}{mode:gK}{kind:CallKind}{callers:List bR}{h:AH}(e:∀n,t'.get n=t.get n)
 (I:gp K U ⟨⟨fn,nt,t',todo,defers,mode,kind⟩,callers,h⟩):gp K U ⟨⟨fn,nt,t,todo,defers,mode,kind⟩,callers,h⟩:=
 ⟨⟨fun n=>by have:=I.cur.tmps n;rw[e]at this;exact this,I.cur.defers,I.cur.mode⟩,I.callers,I.ids⟩
theorem wO{ρ:Env}{fn:FuncId}{t:TT}{todo:List Item}{defers:List AD}{mode:gK}{kind:CallKind}{callers:List bR}{h:AH}{cs:List Frame}{g:Goroutine}{w:World}(Γ:qd K ρ ⟨⟨fn,nt,t,todo,defers,mode,kind⟩,callers,h⟩ cs g w):nt≤60000:=by obtain⟨R,fr,fV,⟨tm,td,is,rfl⟩,hc,rfl⟩:=Γ;exact is.tmps.le
def KH(K:Ctx)(nt:Nat)(ops:Array Oper)(U:Nat->Prop)(s:List Nat)(t:TT)(h:AH)(ρ:Env)(cs:List Frame)(w:World)(fn:FuncId)(k:List Item)(defers:List AD)(kind:CallKind)(callers:List bR)(g':Goroutine)(w':World):Prop:=
 ∃r' BJ l' ρ',kT ops nt s r' t BJ∧je ops r' l'∧cv U ρ ρ'∧bS K.own w w'∧gp K U ⟨⟨fn,nt,BJ,.inRegion ops l'::k,defers,.run,kind⟩,callers,bare h⟩∧qd K ρ' ⟨⟨fn,nt,BJ,.inRegion ops l'::k,defers,.run,kind⟩,callers,h⟩ cs g' w'∧
  (l'=[]∨∃i l'',l'=i::l''∧i∉s)
theorem Rh(Gd:K.Good)(F:K.iK){ext:Ext}(X:iL K ext){call:FuncId->List AV->AH->M (AE×AH)}(C:jU K main call)(hok:jQ ops (cW ops)=true){s:List Nat}{m:Nat}{t:TT}{h:AH}(hc:Cons s m)
 (hq:oZ K.P K.O ext nt ops (Hu (cW ops) m) t (bare h) (cW ops)=true){U:Nat->Prop}{cs:List Frame}{fn:FuncId}{k:List Item}{defers:List AD}{kind:CallKind}{callers:List bR}:
  ∀{l r:List Nat} {tr:TT} {ρ:Env} {g:Goroutine} {w:World},kT ops nt s r t tr->je ops r l->gp K U ⟨⟨fn,nt,tr,.inRegion ops l::k,defers,.run,kind⟩,callers,bare h⟩->
   qd K ρ ⟨⟨fn,nt,tr,.inRegion ops l::k,defers,.run,kind⟩,callers,h⟩ cs g w->Walk K.P main (DK K) (KH K nt ops U s t h ρ cs w fn k defers kind callers) 0 g w
 |[],r,tr,ρ,g,w,N,sc,I,Γ=>Walk.stop ⟨r,tr,[],ρ,N,sc,cv.refl _ _,bS.refl _ _,I,Γ,.inl rfl⟩
 |i::l,r,tr,ρ,g,w,N,sc,I,Γ=>by
  by_cases hi:i∈s
  ·obtain⟨Di,hsc⟩:=sc;obtain⟨_,o,ho,_⟩:=fW.1 Di;obtain⟨o',ho',Wi⟩:=N.quiet i hi (dg Di).2;rw[ho]at ho';cases ho';obtain⟨v,hv,hd⟩:=tT hq _ (fo.2 ⟨i,o,ho,rfl⟩) Wi (N.rem hc hi (dg Di).2);have al:=N.alike hok ho Di;have hop:jB K.P K.O ext call nt ops i tr (bare h)=.ok (.on (jl nt tr o.dst v) (bare h)):=sK ho Wi (by
    rcases hv with⟨a,b⟩|⟨a,h',b⟩
    ·exact .inl ⟨by rw[al.wanted];exact a,b⟩
    ·exact .inr ⟨by rw[al.wanted];exact a,h',by rw[tS al.eval];exact b⟩)
   obtain⟨M,hM⟩:=iY Gd F X C hop;refine(Walk.trans (m:=0) (fun g' w' nx=>?_) (hM I (Γ.hp rfl))).any;obtain⟨ρ',a1,a2,a3,a4,a5⟩:=nx;have I':=a4.congr (U':=U) fun n=>(ku U _ n).symm;refine(Rh Gd F X C hok hc hq (N.drawn (wO Γ) ho hi Di hd) hsc I' (a5.hp rfl)).weaken fun g2 w2 p=>?_;obtain⟨r',BJ,l',NV,b1,b2,b3,b4,b5⟩:=p;exact⟨r',BJ,l',NV,b1,b2,a1.trans b3 (fun _ x=>x),a2.trans b4,b5⟩
  ·exact Walk.stop ⟨r,tr,i::l,ρ,N,sc,cv.refl _ _,bS.refl _ _,I,Γ,.inr ⟨i,l,rfl,hi⟩⟩
def pI(ops:Array Oper)(L:qo):Prop:=∀e∈L,Cons e.1 e.2.1∧nT ops e.1
theorem wP{s:List Nat}{m:Nat}{t:TT}{h:AH}:∀{L L':qo},rX s m t h L=.ok L'->(∀e∈L,e∈L')∧(pI ops L->Cons s m->nT ops s->pI ops L')∧∃s' h',(s',m,t,h')∈L'∧h'.hp=h.hp
 |[],L',he=>by simp only[rX]at he;cases he;refine⟨(fun e x=>by cases x),fun _ a b e he=>?_,s,h,ah.2 rfl,rfl⟩;cases ah.1 he;exact⟨a,b⟩
 |(s',m',t',h')::L,L',he=>by
  simp only[rX]at he;split at he
  ·rename_i hs;obtain rfl:=aH hs;split at he
   ·rename_i hq;cases he;simp only[an]at hq;obtain rfl:=TT.cK hq.1;exact⟨fun e x=>x,fun a _ _=>a,s',h',ai ..,(A5 hq.2).symm⟩
   ·cases he
  ·split at he
   ·rename_i l hl;cases he;obtain⟨a,ag,s2,h2,b,c⟩:=wP (L:=L) hl;refine⟨fun e x=>?_,fun g1 g2 g3 e x=>?_,s2,h2,aa _ b,c⟩
    ·rcases aj.1 x with rfl|x
     ·exact ai ..
     ·exact aa _ (a e x)
    ·rcases aj.1 x with rfl|x
     ·exact g1 _ (ai ..)
     ·exact ag (fun e he=>g1 e (aa _ he)) g2 g3 e x
   ·cases he
theorem FR{P:Program}{O:dH}{ext:Ext}{call:FuncId->List AV->AH->M (AE×AH)}{infos:List Info}{s:List Nat}{m:Nat}{t:TT}{h:AH}{i:Nat}{s2:List Nat}{m2:Nat}{t2:TT}{h1:AH}
 (he:NB P O ext call nt ops infos s m t h i=.ok (s2,m2,t2,h1)):∃t1,jB P O ext call nt ops i t h=.ok (.on t1 h1)∧oG P O ext nt ops (bare h1) infos (i::s) (ye m i) t1=.ok (s2,m2,t2):=by
 unfold NB at he;split at he
 ·cases he
 ·cases he
 ·rename_i t1 AW hop;split at he
  ·cases he
  ·rename_i hs;cases he;exact⟨t1,hop,hs⟩
def KI(P:Program)(O:dH)(ext:Ext)(call:FuncId->List AV->AH->M (AE×AH))(nt:Nat)(ops:Array Oper)(h0:AH)(s:List Nat)(m:Nat)(t:TT)(h:AH)(i:Nat)(L':qo):Prop:=
 ∃t1 h1 s2 m2 t2 s' h',jB P O ext call nt ops i t (lW h0 i h)=.ok (.on t1 h1)∧h1.nb≤h1.fJ∧oG P O ext nt ops (bare h1) (cW ops) (i::s) (ye m i) t1=.ok (s2,m2,t2)∧(s',m2,t2,h')∈L'∧h'.hp=h1.hp
theorem pJ{P:Program}{O:dH}{ext:Ext}{call:FuncId->List AV->AH->M (AE×AH)}(hnt:nt≤60000){h0:AH}{s:List Nat}{m:Nat}{t:TT}{h:AH}(hc:Cons s m)(tp:nT ops s):
  ∀{js:List Info},(∀x∈js,x∈cW ops∧u_ m x=true)->∀{L L':qo},nH P O ext call nt ops (cW ops) h0 s m t h js L=.ok L'->(∀e∈L,e∈L')∧(pI ops L->pI ops L')∧∀x∈js,KI P O ext call nt ops h0 s m t h x.1 L'
 |[],_,L,L',he=>by simp only[nH]at he;cases he;exact⟨fun e x=>x,fun g=>g,fun x hx=>by cases hx⟩
 |x::js,hj,L,L',he=>by
  simp only[nH]at he;split at he
  ·cases he
  ·rename_i s2 m2 t2 h1 hone;split at he
   ·rename_i Wh;split at he
    ·rename_i L1 hput;obtain⟨t1,hop,N0⟩:=FR hone;obtain⟨hx,hcan⟩:=hj x (ai ..);obtain⟨i,o,ho,rfl⟩:=fo.1 hx;have hr:=(ov hc ho).1 hcan;have S:=mj hnt (fun _ x=>x) (hc.add (i:=i)) (show nT ops (i::s)from⟨hr,tp⟩) N0;obtain⟨a1,a2,s',h',a3,a4⟩:=wP (ops:=ops) hput;obtain⟨b1,b2,b3⟩:=pJ hnt hc tp (fun y hy=>hj y (aa _ hy)) he;refine⟨fun e x=>b1 e (a1 e x),fun g=>b2 (a2 g S.cons S.KF),fun y hy=>?_⟩;rcases aj.1 hy with rfl|hy
     ·exact⟨t1,h1,s2,m2,t2,s',h',hop,Wh,N0,b1 _ a3,a4⟩
     ·exact b3 y hy
    ·cases he
   ·cases he
theorem uB{P:Program}{O:dH}{ext:Ext}{call:FuncId->List AV->AH->M (AE×AH)}(hnt:nt≤60000){h0:AH}:
  ∀{A:qo},pI ops A->∀{L L':qo},o6 P O ext call nt ops (cW ops) h0 A L=.ok L'->(∀e∈L,e∈L')∧(pI ops L->pI ops L')∧
   ∀s m t h,(s,m,t,h)∈A->(cW ops).filter (u_ m)≠[]∧∀x∈(cW ops).filter (u_ m),KI P O ext call nt ops h0 s m t h x.1 L'
 |[],_,L,L',he=>by simp only[o6]at he;cases he;exact⟨fun e x=>x,fun g=>g,fun _ _ _ _ x=>by cases x⟩
 |(s,m,t,h)::A,gA,L,L',he=>by
  simp only[o6]at he;split at he
  ·cases he
  ·rename_i hne;split at he
   ·rename_i L1 h1;obtain⟨hc,tp⟩:=gA _ (ai ..);obtain⟨a1,a2,a3⟩:=pJ hnt hc tp (fun x hx=>by
     obtain⟨p,q⟩:=aW.1 hx;exact⟨p,q⟩) h1
    obtain⟨b1,b2,b3⟩:=uB hnt (fun e he=>gA e (aa _ he)) he;refine⟨fun e x=>b1 e (a1 e x),fun g=>b2 (a2 g),fun s' m' t' h' hm=>?_⟩;rcases aj.1 hm with hq|hm
    ·cases hq;refine⟨hne,fun x hx=>?_⟩;obtain⟨t1,h1,s2,m2,t2,s',h',c1,c2,c3,c4,c5⟩:=a3 x hx;exact⟨t1,h1,s2,m2,t2,s',h',c1,c2,c3,b1 _ c4,c5⟩
    ·exact b3 s' m' t' h' hm
   ·cases he
theorem kT.head{s r:List Nat}{m:Nat}{t tr:TT}(N:kT ops nt s r t tr)(hc:Cons s m){i:Nat}(hi:i∈cI ops r)(hn:i∉s):∃o,ops[i]?=some o∧i∈cI ops s∧(i,o,ir o.after.toList,jP o)∈(cW ops).filter (u_ m):=by obtain⟨_,o,ho,hp⟩:=fW.1 hi;have hr:i∈cI ops s:=fW.2 ⟨hn,o,ho,fun e he hb=>N.sub _ (hp e he hb)⟩;exact⟨o,ho,hr,aW.2 ⟨fo.2 ⟨i,o,ho,rfl⟩,(ov hc ho).2 hr⟩⟩
theorem y8(Gd:K.Good)(F:K.iK){ext:Ext}(X:iL K ext){call:FuncId->List AV->AH->M (AE×AH)}(C:jU K main call)(hops:ops.size≤65536)(hok:jQ ops (cW ops)=true){h0:AH}{s r:List Nat}{m:Nat}{t tr:TT}{h:AH}{i:Nat}{L':qo}
 (hc:Cons s m)(tp:nT ops s)(gL:pI ops L')(Md:KI K.P K.O ext call nt ops h0 s m t h i L')(N:kT ops nt s r t tr)(hi:i∈cI ops r)(hn:i∉s){U0:Nat->Prop}{ρ:Env}{cs:List Frame}{g:Goroutine}{w:World}{fn:FuncId}{l:List Nat}{k:List Item}{defers:List AD}{kind:CallKind}{callers:List bR}
 (I0:f_ K U0 h0)(I:gp K (Us U0 h0 s) ⟨⟨fn,nt,tr,.inRegion ops (i::l)::k,defers,.run,kind⟩,callers,bare h⟩)(Γ:qd K ρ ⟨⟨fn,nt,tr,.inRegion ops (i::l)::k,defers,.run,kind⟩,callers,h⟩ cs g w):
  Walk K.P main (DK K) (fun g' w'=>∃s' m' t' h' BJ ρ',(s',m',t',h')∈L'∧kT ops nt s' (i::r) t' BJ∧cv U0 ρ ρ'∧bS K.own w w'∧gp K (Us U0 h0 s') ⟨⟨fn,nt,BJ,.inRegion ops l::k,defers,.run,kind⟩,callers,bare h'⟩∧
   qd K ρ' ⟨⟨fn,nt,BJ,.inRegion ops l::k,defers,.run,kind⟩,callers,h'⟩ cs g' w') 0 g w:=by
 obtain⟨t1,h1,s2,m2,t2,s',h',c1,c2,c3,c4,c5⟩:=Md;obtain⟨o,ho,hr,_⟩:=N.head hc hi hn;have hnt:=wO Γ;obtain⟨v,rfl,hop⟩:=sJ ho (N.alike hok ho hi) c1;have S:=mj hnt (fun _ x=>x) (hc.add (i:=i)) (show nT ops (i::s)from⟨hr,tp⟩) c3;have hi1:=(dg hr).1;obtain⟨M,hM⟩:=iY Gd F X C hop;have I':gp K (Us U0 h0 s) ⟨⟨fn,nt,tr,.inRegion ops (i::l)::k,defers,.run,kind⟩,callers,lW h0 i h⟩:=
  I.lax rfl (fun n x=>x) fun n x1 x2=>BG I0 (by omega) hn x1 x2
 have mem:∀j,j∈s2↔j∈s':=fun j=>((S.cons j).symm).trans ((gL _ c4).1 j);refine((hM I' (Γ.hp rfl)).weaken fun g' w' nx=>?_).any;obtain⟨ρ',a1,a2,a3,a4,a5⟩:=nx;have NN:=N.next hnt ho hn hi S;have NN':kT ops nt s' (i::r) t2 (jl nt tr o.dst v):=⟨fun j hj=>(mem j).1 (NN.sub j hj),fun j hj hx=>NN.quiet j ((mem j).2 hj) hx,fun n hlt hx=>NN.same n hlt fun⟨j,oj,x1,x2⟩=>hx ⟨j,oj,(mem j).1 x1,x2⟩,NN.out,NN.down⟩;refine⟨s',m2,t2,h',_,ρ',c4,NN',a1.mono (fun n x=>.inl x),a2,?_,a5.hp c5⟩;refine a4.lax c5 (fun n x=>?_) fun n x1 x2=>by simp[bare]at x2
 rcases x with(x|⟨q,q1,q2⟩)|x
 ·exact .inl x
 ·exact .inr ⟨q,(mem q).1 (S.sub q (aa _ q1)),q2⟩
 ·have hl:h1.fJ=(lW h0 i h).fJ:=a3.fJ;refine .inr ⟨i,(mem i).1 (S.sub i (ai ..)),x.1,?_⟩;have VB:h1.fJ=h0.nb+(i+1)*iB h0:=hl;have hx:=x.2;dsimp only at hx;omega
theorem BK(Gd:K.Good)(F:K.iK){ext:Ext}(X:iL K ext){call:FuncId->List AV->AH->M (AE×AH)}(C:jU K main call)(hops:ops.size≤65536)(hok:jQ ops (cW ops)=true)(hnt:nt≤60000):
  ∀{n:Nat} {fork:Option AH} {L:qo} {R:AR},kQ K.P K.O ext call nt ops (cW ops) n fork L=.ok R->pI ops L->
   ∀s m t h,(s,m,t,h)∈L->∀{fn defers kind callers U0 ρ cs g w l k r tr},kT ops nt s r t tr->je ops r l->
    PS K U0 s ⟨fn,nt,tr,.inRegion ops l::k,defers,.run,kind⟩ callers h fork->qd K ρ ⟨⟨fn,nt,tr,.inRegion ops l::k,defers,.run,kind⟩,callers,h⟩ cs g w->
    Walk K.P main (DK K) (fu K U0 ρ cs w (fork.getD h) fn nt k defers kind callers R) 0 g w:=by
 intro n
 induction n with
 |zero=>intro fork L R he;simp only[kQ]at he;cases he
 |succ n ih=>
  intro fork L R he gL;simp only[kQ]at he;split at he
  ·cases he
  rename_i Hx;rw[aD]at Hx;have hold:∀s m t h,(s,m,t,h)∈L->oZ K.P K.O ext nt ops (Hu (cW ops) m) t (bare h) (cW ops)=true:=fun s m t h hm=>by have:=Hx _ hm;unfold settled at this;rw[an]at this;exact this.2
  split at he
  ·rename_i s m t h h0;intro s' m' t' h' hm fn defers kind callers U0 ρ cs g w l k r tr N sc I Γ;cases ah.1 hm;obtain⟨I0,I⟩:=I;obtain⟨hc,tp⟩:=gL _ (ah.2 rfl);have hst:ops.size*iB h0≤h0.fJ-h0.nb:=aA (bf _ hops) (Nat.mul_div_le _ _);have hI:gp K (plus U0 h0.nb (jI h0 ops.size h).nb) ⟨⟨fn,nt,tr,.inRegion ops l::k,defers,.run,kind⟩,callers,jI h0 ops.size h⟩:=by
    refine I.lax rfl (fun m x=>?_) fun m x1 x2 x3=>?_
    ·rcases x with x|⟨j,j1,j2,j3⟩
     ·exact .inl x
     ·refine .inr ⟨by omega,Nat.lt_of_lt_of_le j3 (Nat.add_le_add_left (bf _ (tp.lt j j1)) _)⟩
    ·have hx1:h0.nb+ops.size*iB h0≤m:=x1;rcases x3 with x|x
     ·exact I0.fresh m (by omega) x2 x
     ·have:=x.2;exact absurd this (Nat.not_lt.2 x1)
   have gr:c7 K U0 h0 (jI h0 ops.size h):=⟨Nat.le_add_right _ _,rfl,hI.ids⟩;have:=ih he (fun e he=>by cases ah.1 he;exact⟨hc,tp⟩) s m t _ (ah.2 rfl) N sc hI (Γ.hp rfl);exact this.weaken fun g' w' x=>fu.grow (cv.refl _ _) (bS.refl _ _) gr x
  ·rename_i s m t h;intro s' m' t' h' hm fn defers kind callers U0 ρ cs g w l k r tr N sc I Γ;cases ah.1 hm;obtain⟨hc,tp⟩:=gL _ (ah.2 rfl);have I1:gp K U0 ⟨⟨fn,nt,tr,.inRegion ops l::k,defers,.run,kind⟩,callers,h⟩:=I;have Wp:=Rh Gd F X C hok hc (hold _ _ _ _ (ah.2 rfl)) N sc (I1.lax (h':=bare h) rfl (fun n x=>x) fun n x1 x2=>by simp[bare]at x2) Γ;refine(Walk.trans (m:=0) (fun g1 w1 p=>?_) Wp).any;obtain⟨r1,tr1,l1,ρ1,N1,Dj,A1,Ri,Ib,Wj,Nx⟩:=p;have J1:gp K U0 ⟨⟨fn,nt,tr1,.inRegion ops l1::k,defers,.run,kind⟩,callers,h⟩:=⟨Ib.cur,Ib.callers,I1.ids⟩;split at he
   ·rename_i hr;cases he;rcases Nx with rfl|⟨i,l2,rfl,hi⟩
    ·obtain⟨_,_,e⟩:=N1.over tp Dj;have L1:=eP (K:=K) (main:=main) (fn:=fn) (nt:=nt) (tmps:=t) (todo:=.inRegion ops []::k) (todo':=k) (defers:=defers) (kind:=kind) (callers:=callers) (h:=h) (fun ρ tm w cs R T b ds=>me);exact((L1 U0 ρ1 cs g1 w1 (FQ e J1) (KG e Wj)).weaken fun g2 w2 x=>fu.before A1 Ri (r:=.on t h) x).any
    ·obtain⟨o,_,_,hx⟩:=N1.head hc Dj.1 hi;rw[hr]at hx;cases hx
   ·rename_i x hr;split at he
    ·cases he
    ·rename_i e hone;obtain⟨s2,m2,t2,h2⟩:=e;obtain⟨t1,hop,N0⟩:=FR hone;rcases Nx with rfl|⟨i,l2,rfl,hi⟩
     ·obtain⟨_,e,_⟩:=N1.over tp Dj;have hx:x∈(cW ops).filter (u_ m):=by rw[hr];exact ah.2 rfl
      obtain⟨p,q⟩:=aW.1 hx;obtain⟨i,o,ho,rfl⟩:=fo.1 p;have:=(ov hc ho).1 q;rw[e]at this;cases this
     ·obtain⟨o,ho,hrs,hx⟩:=N1.head hc Dj.1 hi;rw[hr]at hx;obtain rfl:=ah.1 hx;dsimp only at hop N0;obtain⟨v,rfl,abP⟩:=sJ ho (N1.alike hok ho Dj.1) hop;have S:=mj hnt (fun _ x=>x) (hc.add (i:=i)) (show nT ops (i::s)from⟨hrs,tp⟩) N0;obtain⟨M,hM⟩:=iY Gd F X C abP;refine(Walk.trans (m:=0) (fun g2 w2 nx=>?_) (hM J1 Wj)).any;obtain⟨NV,a1,a2,a3,a4,a5⟩:=nx;refine(ih he (fun e he=>by cases ah.1 he;exact⟨S.cons,S.KF⟩) s2 m2 t2 h2 (ah.2 rfl) (N1.next hnt ho hi Dj.1 S) Dj.2 a4 a5).weaken fun g3 w3 y=>?_;exact fu.before A1 Ri (fu.grow a1 a2 a3 y)
   ·rename_i J7 hn2;split at he
    ·rename_i L' hst;obtain⟨_,g2,BL⟩:=pJ hnt hc tp (fun x hx=>by
      obtain⟨p,q⟩:=aW.1 hx;exact⟨p,q⟩) hst
     have Wk:pI ops L':=g2 fun e he=>by cases he
     rcases Nx with rfl|⟨i,l2,rfl,hi⟩
     ·obtain⟨_,e,_⟩:=N1.over tp Dj;refine absurd (List.eq_nil_iff_forall_not_mem.2 fun x hx=>?_) J7;obtain⟨p,q⟩:=aW.1 hx;obtain⟨i,o,ho,rfl⟩:=fo.1 p;have:=(ov hc ho).1 q;rw[e]at this;cases this
     ·obtain⟨o,ho,hrs,hx⟩:=N1.head hc Dj.1 hi;have Md:=BL _ hx;refine(Walk.trans (m:=0) (fun g2 w2 nx=>?_) (y8 Gd F X C hops hok hc tp Wk Md N1 Dj.1 hi J1.ids (Ib.lax rfl (fun n x=>.inl x) fun n x1 x2=>by simp[bare]at x2) Wj)).any;obtain⟨s3,m3,t3,h3,tr3,ρ3,b1,b2,b3,b4,b5,b6⟩:=nx;refine(ih he Wk s3 m3 t3 h3 b1 b2 Dj.2 ⟨J1.ids,b5⟩ b6).weaken fun g3 w3 y=>?_;exact fu.before A1 Ri (fu.before b3 b4 y)
    ·cases he
  ·rename_i h0 hn;split at he
   ·rename_i L' hst;obtain⟨_,g2,BL⟩:=uB hnt gL hst;have Wk:pI ops L':=g2 fun e he=>by cases he
    intro s m t h hm fn defers kind callers U0 ρ cs g w l k r tr N sc I Γ;obtain⟨hc,tp⟩:=gL _ hm;obtain⟨hne,BL⟩:=BL s m t h hm;obtain⟨I0,I⟩:=I;have Wp:=Rh Gd F X C hok hc (hold _ _ _ _ hm) N sc I Γ;refine(Walk.trans (m:=0) (fun g1 w1 p=>?_) Wp).any;obtain⟨r1,tr1,l1,ρ1,N1,Dj,A1,Ri,Ib,Wj,Nx⟩:=p;rcases Nx with rfl|⟨i,l2,rfl,hi⟩
    ·obtain⟨_,e,_⟩:=N1.over tp Dj;refine absurd (List.eq_nil_iff_forall_not_mem.2 fun x hx=>?_) hne;obtain⟨p,q⟩:=aW.1 hx;obtain⟨i,o,ho,rfl⟩:=fo.1 p;have:=(ov hc ho).1 q;rw[e]at this;cases this
    ·obtain⟨o,ho,hrs,hx⟩:=N1.head hc Dj.1 hi;have Md:=BL _ hx;refine(Walk.trans (m:=0) (fun g2 w2 nx=>?_) (y8 Gd F X C hops hok hc tp Wk Md N1 Dj.1 hi I0 Ib Wj)).any;obtain⟨s3,m3,t3,h3,tr3,ρ3,b1,b2,b3,b4,b5,b6⟩:=nx;refine(ih he Wk s3 m3 t3 h3 b1 b2 Dj.2 ⟨I0,b5⟩ b6).weaken fun g3 w3 y=>?_;exact fu.before (A1.mono fun n x=>.inl x) Ri (fu.before b3 b4 y)
   ·cases he
  ·cases he
theorem BM(Gd:K.Good)(F:K.iK){ext:Ext}(X:iL K ext){call:FuncId->List AV->AH->M (AE×AH)}(C:jU K main call){tmps:TT}{h:AH}{r:AR}{id:Nat}(he:drawn K.P K.O ext call nt ops tmps h=.ok r):
  ∃N,∀{fn defers kind callers U ρ cs g w k},gp K U ⟨⟨fn,nt,tmps,.code (.region id ops true)::k,defers,.run,kind⟩,callers,h⟩->qd K ρ ⟨⟨fn,nt,tmps,.code (.region id ops true)::k,defers,.run,kind⟩,callers,h⟩ cs g w->
   Walk K.P main (DK K) (fu K U ρ cs w h fn nt k defers kind callers r) N g w:=by
 unfold drawn at he;split at he
 ·exact uz Gd F X C he
 ·rename_i hb;rw[an]at hb;have hops:ops.size≤65536:=Nat.le_of_ble_eq_true hb.1;split at he
  ·rename_i r' hm;cases he;refine⟨0,fun{fn defers kind callers U ρ cs g w k} I Γ=>?_⟩;unfold JP at hm;split at hm
   ·cases hm
   ·rename_i s m t N0;have hnt:=wO Γ;have S:=mj hnt (fun _ x=>x) BI (show nT ops []from trivial) N0;refine(Walk.trans (m:=0) (fun g' w' ⟨q,kp,Rf⟩=>?_) (tU (main:=main) F Γ)).any;refine(BK Gd F X C hops hb.2 hnt hm (fun e he=>by cases ah.1 he;exact⟨S.cons,S.KF⟩) s m t h (ah.2 rfl) (kT.begin S) (jV ops q) (U0:=U) ⟨⟨I.cur.tmps,I.cur.defers,trivial⟩,I.callers,I.ids⟩ Rf).weaken fun g2 w2 x=>fu.before (cv.refl _ _) kp x
  ·exact uz Gd F X C he
end
section
variable {K:Ctx}{main:Bool}{nt:Nat}{ops:Array Oper}
theorem wQ{r:List Nat}(d:Down ops r):∀{l:List Info},(∀x∈l,x∈cW ops)->∀{m:Nat},(∀i,oP m i=true->i∈r)->∀i,oP (nq l m) i=true->i∈r
 |[],_,m,hm,i,hi=>hm i hi
 |x::l,hl,m,hm,i,hi=>by
  have ih:=wQ d (l:=l) (fun y hy=>hl y (aa _ hy)) hm;simp only[nq]at hi;split at hi
  ·rename_i hx;have h1:oP (nq l m) i=true∨oP x.2.2.1 i=true:=by
    rw[dZ]at hi⊢;rw[dZ];have e:Nat.lor (nq l m) x.2.2.1=nq l m ||| x.2.2.1:=rfl
    rw[e,Nat.testBit_or,Bool.or_eq_true]at hi;exact hi
   rcases h1 with h1|h1
   ·exact ih i h1
   ·obtain⟨j,o,ho,rfl⟩:=fo.1 (hl x (ai ..));obtain⟨e,he,hb,rfl⟩:=nS.1 h1;exact d j (ih j hx) o ho e he hb
  ·exact ih i hi
theorem PT(Gd:K.Good)(F:K.iK){ext:Ext}(X:iL K ext){call:FuncId->List AV->AH->M (AE×AH)}(C:jU K main call)(hok:jQ ops (cW ops)=true){s:List Nat}{m:Nat}{t:TT}{h:AH}(hc:Cons s m)
 (hq:oZ K.P K.O ext nt ops m t (bare h) (cW ops)=true){U:Nat->Prop}{cs:List Frame}{fn:FuncId}{k:List Item}{defers:List AD}{kind:CallKind}{callers:List bR}:
  ∀{l r:List Nat} {tr:TT} {ρ:Env} {g:Goroutine} {w:World},kT ops nt s r t tr->je ops r l->Down ops r->gp K U ⟨⟨fn,nt,tr,.inRegion ops l::k,defers,.run,kind⟩,callers,bare h⟩->
   qd K ρ ⟨⟨fn,nt,tr,.inRegion ops l::k,defers,.run,kind⟩,callers,h⟩ cs g w->Walk K.P main (DK K) (fun g' w'=>∃r' BJ l' ρ',Down ops r'∧kT ops nt s r' t BJ∧je ops r' l'∧cv U ρ ρ'∧bS K.own w w'∧gp K U ⟨⟨fn,nt,BJ,.inRegion ops l'::k,defers,.run,kind⟩,callers,bare h⟩∧qd K ρ' ⟨⟨fn,nt,BJ,.inRegion ops l'::k,defers,.run,kind⟩,callers,h⟩ cs g' w'∧
  (l'=[]∨∃i l'',l'=i::l''∧i∉s)) 0 g w
 |[],r,tr,ρ,g,w,N,sc,dn,I,Γ=>Walk.stop ⟨r,tr,[],ρ,dn,N,sc,cv.refl _ _,bS.refl _ _,I,Γ,.inl rfl⟩
 |i::l,r,tr,ρ,g,w,N,sc,dn,I,Γ=>by
  by_cases hi:i∈s
  ·obtain⟨Di,hsc⟩:=sc;obtain⟨_,o,ho,_⟩:=fW.1 Di;obtain⟨o',ho',Wi⟩:=N.quiet i hi (dg Di).2;rw[ho]at ho';cases ho';obtain⟨v,hv,hd⟩:=tT hq _ (fo.2 ⟨i,o,ho,rfl⟩) Wi ((hc i).2 hi);have al:=N.alike hok ho Di;have hop:jB K.P K.O ext call nt ops i tr (bare h)=.ok (.on (jl nt tr o.dst v) (bare h)):=sK ho Wi (by
    rcases hv with⟨a,b⟩|⟨a,h',b⟩
    ·exact .inl ⟨by rw[al.wanted];exact a,b⟩
    ·exact .inr ⟨by rw[al.wanted];exact a,h',by rw[tS al.eval];exact b⟩)
   obtain⟨M,hM⟩:=iY Gd F X C hop;refine(Walk.trans (m:=0) (fun g' w' nx=>?_) (hM I (Γ.hp rfl))).any;obtain⟨ρ',a1,a2,a3,a4,a5⟩:=nx;have I':=a4.congr (U':=U) fun n=>(ku U _ n).symm;refine(PT Gd F X C hok hc hq (N.drawn (wO Γ) ho hi Di hd) hsc (dn.cons Di) I' (a5.hp rfl)).weaken fun g2 w2 p=>?_;obtain⟨r',BJ,l',NV,b0,b1,b2,b3,b4,b5⟩:=p;exact⟨r',BJ,l',NV,b0,b1,b2,a1.trans b3 (fun _ x=>x),a2.trans b4,b5⟩
  ·exact Walk.stop ⟨r,tr,i::l,ρ,dn,N,sc,cv.refl _ _,bS.refl _ _,I,Γ,.inr ⟨i,l,rfl,hi⟩⟩
theorem Ie(Gd:K.Good)(F:K.iK){ext:Ext}(X:iL K ext){call:FuncId->List AV->AH->M (AE×AH)}(C:jU K main call){tmps t:TT}{h:AH}{j id:Nat}(he:Du K.P K.O ext nt ops (cW ops) tmps h=some (j,t)){fn:FuncId}{defers:List AD}{kind:CallKind}{callers:List bR}{k:List Item}:
  kS K main ⟨⟨fn,nt,tmps,.code (.region id ops true)::k,defers,.run,kind⟩,callers,h⟩ ⟨⟨fn,nt,t,.inRegion ops [j]::k,defers,.run,kind⟩,callers,h⟩ 0:=by
 intro U ρ cs g w I Γ;unfold Du at he;split at he
 ·rename_i x hx;split at he
  ·cases he
  ·rename_i hb;simp only[an]at hb;obtain⟨_,yb,oQ⟩:=hb;split at he
   ·cases he
   ·rename_i s m t' N0;split at he
    ·rename_i hz;simp only[an]at hz;obtain⟨⟨z1,z2⟩,z3⟩:=hz;cases he;have hnt:=wO Γ;have S:=mj hnt (fun _ x=>x) BI (show nT ops []from trivial) N0;have hxm:x∈cW ops:=(aW.1 (show x∈(cW ops).filter fun x=>!x.2.2.2 by rw[hx];exact ah.2 rfl)).1;obtain⟨j,oj,VC,rfl⟩:=fo.1 hxm;dsimp only at z1 z2⊢;have PO:j∈cI ops s:=(ov S.cons VC).1 z1;have BN:j∉s:=(dg PO).2;rw[aD]at z2;have cover:∀i,i<ops.size->i≠j->i∈s∧oP (nq (cW ops) (ir oj.after.toList)) i=true:=by
      intro i hi hne;have:=z2 _ (fo.2 ⟨i,ops[i],aO hi,rfl⟩);simp only[Bool.or_eq_true,an]at this;rcases this with h1|⟨h1,h2⟩
      ·exact absurd (aH h1) hne
      ·exact⟨(S.cons i).1 h1,h2⟩
     refine(Walk.trans (m:=0) (fun g' w' ⟨q,kp,Rf⟩=>?_) (tU (main:=main) F Γ)).any;have I0:gp K U ⟨⟨fn,nt,tmps,.inRegion ops (Region.schedule true ops q)::k,defers,.run,kind⟩,callers,bare h⟩:=
      ⟨⟨I.cur.tmps,I.cur.defers,trivial⟩,I.callers,⟨I.ids.hp,I.ids.keys,I.ids.nodup,fun n h1 h2=>(by simp[bare]at h2),I.ids.A8⟩⟩
     refine(PT Gd F X C oQ S.cons z3 (kT.begin S) (jV ops q) (fun i hi=>by cases hi) I0 Rf).weaken fun g2 w2 p=>?_;obtain⟨r',BJ,l',NV,dn,N,sc,A2,KA,I2,Γ2,hl⟩:=p;rcases hl with rfl|⟨i,l2,rfl,hi⟩
     ·have:=(N.over S.KF sc).2.1;rw[this]at PO;cases PO
     ·have Di:=sc.1;have hij:i=j:=Classical.byContradiction fun hne=>hi (cover i (dg Di).1 hne).1;subst hij;have hpr:∀a,oP (ir oj.after.toList) a=true->a∈r':=by
       intro a ha;obtain⟨e,he,KJ,rfl⟩:=nS.1 ha;obtain⟨_,o',ho',hp⟩:=fW.1 Di;rw[VC]at ho';cases ho';exact hp e he KJ
      have hall:∀a,a<ops.size->a≠i->a∈r':=fun a ha hne=>wQ dn (fun _ x=>x) hpr a (cover a ha hne).2;have VB:l2=[]:=by
       cases l2 with
       |nil=>rfl
       |cons b l3=>
        have hb:=dg sc.2.1;refine absurd (show b∈i::r' from ?_) hb.2;by_cases e:b=i
        ·subst e;exact ai ..
        ·exact aa _ (hall b hb.1 e)
      subst VB;have same:∀n,BJ.get n=t.get n:=fun n=>by
       rcases Nat.lt_or_ge n nt with hlt|hge
       ·refine N.same n hlt fun⟨a,o,h1,h2,h3,h4⟩=>h2 (hall a (Array.getElem?_eq_some_iff.1 h3).1 fun e=>BN (e▸h1))
       ·exact N.out n hge
      have I3:=FQ same I2;exact⟨NV,A2,kp.trans KA,c7.refl I.ids,gp.congr (U:=U) ⟨I3.cur,I3.callers,I.ids⟩ (ku U _),KG same Γ2⟩
    ·cases he
 ·cases he
end
section
variable {K:Ctx}{main:Bool}{U:Nat->Prop}{ρ:Env}{cs:List Frame}
variable {fn:FuncId}{nt:Nat}{tmps:TT}{todo todo':List Item}{defers:List AD}{kind:CallKind}{callers:List bR}{h:AH}
variable {k:List Item}
theorem N2(Gd:K.Good)(F:K.iK){ext:Ext}(X:iL K ext){call:FuncId->List AV->AH->M (AE×AH)}(C:jU K main call){c':dU}(he:exec? K.P K.O ext call fn nt tmps todo defers kind callers h=.ok c'):
  ∃N,kS K main ⟨⟨fn,nt,tmps,todo,defers,.run,kind⟩,callers,h⟩ c' N:=by
 unfold exec? at he;split at he
 ·split at he
  ·cases he
  ·rename_i ht;cases he;exact⟨1,y5 ht fun _ _ _ _ hb=>NS hb⟩
 ·rename_i ops is k;split at he
  ·cases he;exact⟨1,eP fun _ _ _ _ _ _ _ _=>me⟩
  ·rename_i i rest;split at he
   ·cases he
   ·rename_i o ho;split at he
    ·cases he
    ·rename_i hw;cases he;exact⟨1,pF ho hw⟩
    ·rename_i hw;split at he
     ·cases he
     ·rename_i n h' hop;split at he
      ·cases he
      rename_i wz;split at he
      ·exact⟨1,fun U ρ cs g w I Γ=>(qe Gd F X ho hw hop wz I Γ).weaken fun g' w' post=>qf he ho I post⟩
      ·split at he
       ·rename_i t h'' hf;cases he;obtain⟨N,hN⟩:=iY Gd F X C hf;exact⟨N,fun U ρ cs g w I Γ=>hN I Γ⟩
       ·rename_i t ch h'' hf;cases he;obtain⟨N,hN⟩:=iY Gd F X C hf;exact⟨N,fun U ρ cs g w I Γ=>(hN I Γ).weaken fun g' w' x=>x _⟩
       ·cases he
 ·cases he;exact⟨1,eP fun _ _ _ _ _ _ _ _=>By⟩
 ·cases he;exact⟨1,eP fun _ _ _ _ _ _ _ _=>Bz⟩
 ·cases he;exact⟨1,eP fun _ _ _ _ _ _ _ _=>D6⟩
 ·rename_i c k;split at he
  ·split at he
   ·cases he
   ·rename_i ht;cases he;exact⟨1,y5 ht fun _ _ _ _ hb=>NT hb⟩
  ·cases he;exact⟨1,eP fun _ _ _ _ _ _ _ _=>Kq⟩
  ·cases he;exact⟨1,eP fun _ _ _ _ _ _ _ _=>HV⟩
  ·cases he;exact⟨1,eP fun _ _ _ _ _ _ _ _=>NR⟩
  ·rename_i x thn els;split at he
   ·rename_i b hx;split at he
    ·rename_i hb;cases he;refine⟨1,eP fun ρ tm w cs R T b ds=>?_⟩;have:Act.eval ⟨tm,ds⟩ x=.bool true:=by rw[sH T,hx];simp only[AV.ev,jS R hb]
     exact BA this
    ·rename_i hb;cases he;refine⟨1,eP fun ρ tm w cs R T b ds=>?_⟩;have:Act.eval ⟨tm,ds⟩ x=.bool false:=by rw[sH T,hx];simp only[AV.ev,jS R hb]
     exact BA this
    ·cases he
   ·cases he
  ·cases he;exact⟨1,eP fun _ _ _ _ _ _ _ _=>HW⟩
  ·cases he;exact⟨1,eP fun _ _ _ _ _ _ _ _=>Kr⟩
  ·cases he;exact⟨1,eP fun _ _ _ _ _ _ _ _=>HX⟩
  ·split at he
   ·rename_i hx;cases he;exact⟨1,eP fun _ _ _ _ _ _ _ _=>Ks hx⟩
   ·cases he
  ·split at he
   ·rename_i hx;cases he;exact⟨1,eP fun _ _ _ _ _ _ _ _=>Kt hx⟩
   ·cases he
  ·rename_i id ops draw;split at he
   ·cases he;exact⟨1,eP fun _ _ _ _ _ _ _ _=>D7⟩
   ·split at he
    ·rename_i j t hd;cases he;exact⟨0,Ie Gd F X C hd⟩
    ·split at he
     ·rename_i t h' hd;cases he;obtain⟨N,hN⟩:=BM Gd F X C (id:=id) hd;exact⟨N,fun U ρ cs g w I Γ=>hN I Γ⟩
     ·rename_i t ch h' hd;cases he;obtain⟨N,hN⟩:=BM Gd F X C (id:=id) hd;exact⟨N,fun U ρ cs g w I Γ=>(hN I Γ).weaken fun g' w' x=>x k⟩
     ·cases he
  ·cases he
 ·cases he
theorem sL(Gd:K.Good){w:World}{tm:Array Value}(R:Rel K ρ h w)(T:oR ρ nt tmps tm){E:Value->World->Prop}:∀{l:List ResultVar} {vs:List AV},iT K.P K.O h tmps l=.ok vs->
  ∀{Q:List Value->World->Prop},Q (AV.evs ρ vs) w->wq K.P K.Ev E (l.mapM fun|.tmp t=>(pure (tm.getD t undef):Sem Value)|.cell a t=>do loadVar t (<-asAddr (tm.getD a undef))) Q w
 |[],vs,he,Q,hq=>by simp only[iT]at he;cases he;simpa only[List.mapM_nil,bG,AV.evs] using hq
 |r::l,vs,he,Q,hq=>by
  simp only[iT]at he;split at he
  ·rename_i v hv;split at he
   ·rename_i vs' hvs;cases he;simp only[List.mapM_cons,bF];have tail:wq K.P K.Ev E (l.mapM fun|.tmp t=>(pure (tm.getD t undef):Sem Value)|.cell a t=>do loadVar t (<-asAddr (tm.getD a undef))) (fun xs w=>wq K.P K.Ev E (pure (v.ev ρ::xs)) Q w) w:=
     sL Gd R T hvs (by rw[bG];exact hq)
    cases r with
    |tmp t=>simp only[oY]at hv;cases hv;simp only[bG];rw[T.getD t];exact tail
    |cell a t=>
     simp only[oY]at hv;split at hv
     ·rename_i x hx;simp only[bF];rw[T.getD a,hx];simp only[AV.ev,av,asAddr,bG];exact ko R Gd hv tail
     ·cases hv
   ·cases he
  ·cases he
theorem ow(I:f_ K U h)(ht:tmps.In U):∀{l:List ResultVar} {vs:List AV},iT K.P K.O h tmps l=.ok vs->AV.iw U vs
 |[],vs,he=>by simp only[iT]at he;cases he;trivial
 |r::l,vs,he=>by
  simp only[iT]at he;split at he
  ·rename_i v hv;split at he
   ·rename_i vs' hvs;cases he;refine⟨?_,ow I ht hvs⟩;cases r with
    |tmp t=>simp only[oY]at hv;cases hv;exact ht t
    |cell a t=>
     simp only[oY]at hv;split at hv
     ·exact mT I hv
     ·cases hv
   ·cases he
  ·cases he
theorem uC(Gd:K.Good){v:AV}(he:results? K.P K.O h fn tmps=.ok v):∃f,K.P.funcs[fn]?=some f∧(∀{U},f_ K U h->tmps.In U->v.In U)∧
  ∀{ρ:Env} {nt:Nat} {w:World} {tm:Array Value} {E:Value->World->Prop},Rel K ρ h w->oR ρ nt tmps tm->∀{Q:Value->World->Prop},Q (v.ev ρ) w->wq K.P K.Ev E (results f tm) Q w:=by
 unfold results? at he;split at he
 ·rename_i f hf;have run:∀{ρ:Env} {nt:Nat} {w:World} {tm:Array Value} {E:Value->World->Prop} {vs:List AV},iT K.P K.O h tmps f.results.toList=.ok vs->Rel K ρ h w->oR ρ nt tmps tm->∀{Q:Value->World->Prop},
    Q (if hs:(AV.evs ρ vs).toArray.size=1 then(AV.evs ρ vs).toArray[0]else .tuple (AV.evs ρ vs).toArray) w->wq K.P K.Ev E (results f tm) Q w:=by
   intro ρ nt w tm E vs hvs R T Q hq;unfold results;rw[Array.mapM_eq_mapM_toList];simp only[bF,JU,bG];exact sL Gd R T hvs hq
  split at he
  ·rename_i v' hv;cases he;refine⟨f,hf,fun I ht=>(ow I ht hv).1,fun{ρ nt w tm E} R T {Q} hq=>run hv R T ?_⟩;simpa[AV.evs] using hq
  ·rename_i vs hne hv;cases he;refine⟨f,hf,fun I ht=>ow I ht hv,fun{ρ nt w tm E} R T {Q} hq=>run hv R T ?_⟩;have:¬(AV.evs ρ vs).toArray.size=1:=by
    simp only[List.size_toArray,cM];intro h1;obtain⟨x,rfl⟩:=List.length_eq_one_iff.1 h1;exact hne x rfl
   rw[dif_neg this];exact hq
  ·cases he
 ·cases he
end
section
variable {P:Program}{main:Bool}{fr:Frame}{cs:List Frame}{w w':World}{D:Deferred}{Ds:List Deferred}
theorem wR(hm:fr.mode≠.run)(hd:fr.defers=D::Ds)(ht:(∃f c,D.target=.fn f c)∨∃b a t c,D.target=.builtin b a t c):
  stepG P main (G fr cs) w=callDeferred P {fr with defers:=Ds} cs none D w:=by
 obtain⟨fn,tmps,todo,defers,mode,kind,ro⟩:=fr;obtain⟨target,args⟩:=D;dsimp only at hm hd ht;subst hd;have h1:stepG P main (G ⟨fn,tmps,todo,⟨target,args⟩::Ds,mode,kind,ro⟩ cs) w=unwind P main ⟨fn,tmps,todo,⟨target,args⟩::Ds,mode,kind,ro⟩ cs none w:=by
  cases mode with
  |run=>exact absurd rfl hm
  |returning=>rfl
  |panicking c=>rfl
 rw[h1];rcases ht with⟨f,c,rfl⟩|⟨b,a,t,c,rfl⟩<;>rfl
theorem ru{f:FuncId}{args:Array Value}(hn:(∃f c,D.target=.fn f c)∨∃b a t c,D.target=.builtin b a t c)(hr:(invoke D.target D.args).run P w=.ok (.enter f args) w'):
  callDeferred P fr cs none D w=.go (G (Frame.enter P f args .deferred) (fr::cs)) w' (seen P fr.fn ((invoke D.target D.args).events P w #[])):=by
 rcases hn with⟨f,c,hn⟩|⟨b,a,t,c,hn⟩<;>(rw[hn]at hr;simp[callDeferred,hn,hr,GStep.after,G])
theorem rz{v:Value}(hn:(∃f c,D.target=.fn f c)∨∃b a t c,D.target=.builtin b a t c)(hr:(invoke D.target D.args).run P w=.ok (.value v) w'):
  callDeferred P fr cs none D w=.go (G fr cs) w' (seen P fr.fn ((invoke D.target D.args).events P w #[])):=by
 rcases hn with⟨f,c,hn⟩|⟨b,a,t,c,hn⟩<;>(rw[hn]at hr;simp[callDeferred,hn,hr,GStep.after,G])
end
section
variable {K:Ctx}{main:Bool}{U:Nat->Prop}{ρ:Env}{cs:List Frame}
variable {fn:FuncId}{nt:Nat}{tmps:TT}{todo:List Item}{mode:gK}{kind:CallKind}{callers:List bR}{h:AH}
theorem AD.tV(ρ:Env)(d:AD):(∃f c,(d.ev ρ).target=.fn f c)∨∃b a t c,(d.ev ρ).target=.builtin b a t c:=by
 obtain⟨t,a⟩:=d;cases t with
 |fn f c=>exact .inl ⟨_,_,rfl⟩
 |builtin b a t c=>exact .inr ⟨_,_,_,_,rfl⟩
theorem Ed(ρ:Env)(hm:mode≠.run):mode.ev ρ≠.run:=by
 cases mode with
 |run=>exact absurd rfl hm
 |returning=>exact fun x=>by cases x
 |panicking c=>exact fun x=>by cases x
theorem BO(Gd:K.Good)(F:K.iK){ext:Ext}(X:iL K ext){d:AD}{ds:List AD}{c':dU}(hm:mode≠.run)(he:defer? K.P K.O ext fn nt tmps todo d ds mode kind callers h=.ok c'):
  kS K main ⟨⟨fn,nt,tmps,todo,d::ds,mode,kind⟩,callers,h⟩ c' 1:=fun U ρ cs g w I Γ=>Walk.one Γ.running fun dr=>by
 obtain⟨R,fr,fV,⟨tm,td,is,rfl⟩,hc,rfl⟩:=Γ.drawn dr;have Wl:d.In U:=I.cur.defers d (ai ..);have step:=wR (P:=K.P) (main:=main) (fr:=dR ρ ⟨fn,nt,tmps,todo,d::ds,mode,kind⟩ tm td) (cs:=fV++cs) (w:=cx w dr) (D:=d.ev ρ) (Ds:=dB ρ kind (ds.map (AD.ev ρ))) (Ed ρ hm) (by show dB ρ kind (d.ev ρ::ds.map (AD.ev ρ))=_;rw[FN]) (AD.tV ρ d);rw[step];have hfr:({dR ρ ⟨fn,nt,tmps,todo,d::ds,mode,kind⟩ tm td with defers:=dB ρ kind (ds.map (AD.ev ρ))}:Frame)=dR ρ ⟨fn,nt,tmps,todo,ds,mode,kind⟩ tm td:=rfl;rw[hfr];have hds:∀x∈ds,x.In U:=fun x hx=>I.cur.defers x (aa _ hx);have hin:(⟨fn,nt,tmps,todo,ds,mode,kind⟩:bR).In U:=⟨I.cur.tmps,hds,I.cur.mode⟩;have base:∀{ρ':Env},cv U ρ ρ'->j5 K.P ρ' ⟨fn,nt,tmps,todo,ds,mode,kind⟩ (dR ρ ⟨fn,nt,tmps,todo,ds,mode,kind⟩ tm td):=fun A=>j5.mS A ⟨tm,td,⟨is.tmps,is.kind,(fun x=>absurd x hm),is.fn⟩,rfl⟩ hin
 unfold defer? at he;split at he
 ·rename_i f args h' hi;split at he
  ·rename_i fr' Rg;cases he;have N:=rj Gd F X R I.ids Wl hi;obtain⟨run,hes⟩:=lZ (Af Gd.NF _ (N.run (E:=fun _ _=>False) (Q:=fun nx w'=>After K U ρ (cx w dr) h' (fun ρ'=>AN.is ρ' (.enter f args) nx) w') (fun nx w' x=>x) (fun v hn _=>by cases hn)));generalize hr:(invoke (d.target.ev ρ) (AV.evs ρ d.args).toArray).run K.P (cx w dr)=r at run;cases r with
   |halt x w'=>cases x<;>exact run.elim
   |ok nx w'=>
    obtain⟨⟨ρ',A,R',kp,Ic⟩,hst⟩:=run;have is2:nx=.enter f (AV.evs ρ' args).toArray:=Ic;subst is2;rw[ru (AD.tV ρ d) hr];obtain⟨e1,e2,e3,e4,e5⟩:=gS Rg (.inr rfl) N.mem (ρ:=ρ');refine⟨⟨kp,fun e he=>hes e (mem_seen he),hst⟩,ρ',A,(gZ _ _ _).trans kp,N.qz,⟨e2,?_,N.qz.ids⟩,R',_,dR ρ ⟨fn,nt,tmps,todo,ds,mode,kind⟩ tm td::fV,e1,⟨base A,iy A hc I.callers⟩,rfl⟩;intro fr hf;rcases aj.1 hf with rfl|hf
    ·exact hin.mono b_
    ·exact(I.callers fr hf).mono b_
  ·cases he
 ·rename_i v h' hi;cases he;have N:=rj Gd F X R I.ids Wl hi;obtain⟨run,hes⟩:=lZ (Af Gd.NF _ (N.run (E:=fun _ _=>False) (Q:=fun nx w'=>After K U ρ (cx w dr) h' (fun ρ'=>AN.is ρ' (.value v) nx) w') (fun nx w' x=>x) (fun v hn _=>by cases hn)));generalize hr:(invoke (d.target.ev ρ) (AV.evs ρ d.args).toArray).run K.P (cx w dr)=r at run;cases r with
  |halt x w'=>cases x<;>exact run.elim
  |ok nx w'=>obtain⟨⟨ρ',A,R',kp,Ic⟩,hst⟩:=run;have is2:nx=.value (v.ev ρ'):=Ic;subst is2;rw[rz (AD.tV ρ d) hr];exact⟨⟨kp,fun e he=>hes e (mem_seen he),hst⟩,ρ',A,(gZ _ _ _).trans kp,N.qz,⟨hin.mono b_,fun fr hf=>(I.callers fr hf).mono b_,N.qz.ids⟩,R',_,fV,base A,iy A hc I.callers,rfl⟩
 ·cases he
 ·cases he
theorem Ee{P:Program}{fr caller:Frame}{f:Func}{v:Value}{w:World}(hm:fr.mode=.returning)(hd:fr.defers=[])(hk:fr.kind=.deferred)(hf:P.funcs[fr.fn]?=some f)(hr:(results f fr.tmps).run P w=.ok v w):
  stepG P main (G fr (caller::cs)) w=.go (G (match caller.mode with
   |.panicking ({recovered:=true,..}::older)=>
    match older.dropWhile (!·.goexit)with
    |[]=>{caller with mode:=.returning}
    |rest=>{caller with mode:=.panicking rest}
   |_=>caller) cs) w (seen P fr.fn ((results f fr.tmps).events P w #[])):=by
 simp[G,stepG,unwind,doReturn,hm,hd,hf,hr,hk,GStep.after];rfl
theorem wS(ρ:Env):∀(l:List (AV×Bool)),(l.map fun x=>({v:=x.1.ev ρ,recovered:=x.2}:PanicEntry)).dropWhile (!·.goexit)=[]
 |[]=>rfl
 |y::l=>by simp only[aK,List.dropWhile_cons,Bool.not_false,if_true];exact wS ρ l
theorem N3{P:Program}{c:bR}{f:Frame}(hc:j5 P ρ c f):j5 P ρ (vG c) (match f.mode with
    |.panicking ({recovered:=true,..}::older)=>
     match older.dropWhile (!·.goexit)with
     |[]=>{f with mode:=.returning}
     |rest=>{f with mode:=.panicking rest}
    |_=>f):=by
 obtain⟨tm,td,is,rfl⟩:=hc;obtain⟨fn,nt,tmps,todo,defers,mode,kind⟩:=c;have hm:(dR ρ ⟨fn,nt,tmps,todo,defers,mode,kind⟩ tm td).mode=mode.ev ρ:=rfl;rw[hm];cases mode with
 |run=>exact⟨tm,td,is,rfl⟩
 |returning=>exact⟨tm,td,is,rfl⟩
 |panicking chain=>
  cases chain with
  |nil=>exact⟨tm,td,is,rfl⟩
  |cons x older=>
   obtain⟨v,b⟩:=x;cases b with
   |false=>exact⟨tm,td,is,rfl⟩
   |true=>simp only[gK.ev,aK,wS];exact⟨tm,td,⟨is.tmps,is.kind,(fun x=>by cases x),is.fn⟩,rfl⟩
theorem Ig{c:bR}(hc:c.In U):(vG c).In U:=by
 obtain⟨fn,nt,tmps,todo,defers,mode,kind⟩:=c;cases mode with
 |run=>exact hc
 |returning=>exact hc
 |panicking chain=>
  cases chain with
  |nil=>exact hc
  |cons x older=>
   obtain⟨v,b⟩:=x;cases b with
   |false=>exact hc
   |true=>exact⟨hc.tmps,hc.defers,trivial⟩
theorem KL{P:Program}{c:bR}{f:Frame}{chain:List (AV×Bool)}(hc:j5 P ρ c f):j5 P ρ (oX c chain) (f.raise (chain.map fun x=>{v:=x.1.ev ρ,recovered:=x.2})):=by
 obtain⟨tm,td,is,rfl⟩:=hc;obtain⟨fn,nt,tmps,todo,defers,mode,kind⟩:=c;cases mode with
 |run=>exact⟨tm,td,⟨is.tmps,is.kind,(fun x=>by cases x),is.fn⟩,rfl⟩
 |returning=>exact⟨tm,td,⟨is.tmps,is.kind,(fun x=>by cases x),is.fn⟩,rfl⟩
 |panicking older=>exact⟨tm,td,⟨is.tmps,is.kind,(fun x=>by cases x),is.fn⟩,by simp[oX,Frame.raise,dR,gK.ev]⟩
theorem Ih{c:bR}{chain:List (AV×Bool)}(hc:c.In U)(hx:∀x∈chain,x.1.In U):(oX c chain).In U:=by
 obtain⟨fn,nt,tmps,todo,defers,mode,kind⟩:=c;cases mode with
 |run=>exact⟨hc.tmps,hc.defers,hx⟩
 |returning=>exact⟨hc.tmps,hc.defers,hx⟩
 |panicking older=>
  refine⟨hc.tmps,hc.defers,fun x hm=>?_⟩;rcases aR.1 hm with hm|hm
  ·exact hx x hm
  ·exact hc.mode x hm
theorem wT(own:Nat->Prop){w w':World}(h:∃d,w'=cx w d):bS own w w':=by obtain⟨d,rfl⟩:=h;exact gZ _ _ _
theorem BP{w w':World}(R:Rel K ρ h w)(e:∃d,w'=cx w d):Rel K ρ h w':=by obtain⟨d,rfl⟩:=e;exact R.drawn _
def KM(K:Ctx)(main:Bool)(c:dU):dU⊕(AE×AH)->Prop
 |.inl c'=>∃N,kS K main c c' N
 |.inr e=>∃N,Ends K main c e N
theorem vi(Gd:K.Good)(F:K.iK){ext:Ext}(X:iL K ext){call:FuncId->List AV->AH->M (AE×AH)}(C:jU K main call){c:dU}{r:dU⊕(AE×AH)}(he:step? K.P K.O ext call c=.ok r):KM K main c r:=by
 obtain⟨⟨fn,nt,tmps,todo,defers,mode,kind⟩,callers,h⟩:=c;unfold step? at he;dsimp only at he;split at he
 ·split at he
  ·rename_i c' hx;cases he;exact N2 Gd F X C hx
  ·cases he
 ·split at he
  ·cases he
  rename_i ht;split at he
  ·rename_i d ds;split at he
   ·rename_i c' hx;cases he;exact⟨1,BO Gd F X (by simp) hx⟩
   ·cases he
  ·split at he
   ·cases he
   ·rename_i v hv;obtain⟨f,hf,hin,hrun⟩:=uC Gd hv;have ends:∀{ρ:Env} {cs:List Frame} {w:World} {fV:List Frame} {tm:Array Value} {td:List Item},kind=.normal->Rel K ρ h w->Re K.P ρ ⟨fn,nt,tmps,todo,[],.returning,kind⟩ tm td->
      wu K fn ρ (.returned v) cs (G (dR ρ ⟨fn,nt,tmps,todo,[],.returning,kind⟩ tm td) cs) w:=fun{ρ cs w fV tm td} hk R is=>by
     have hp:=pD is.kind ht;have e1:(dR ρ ⟨fn,nt,tmps,todo,[],.returning,kind⟩ tm td).fn=fn:=PL ρ fn kind;exact⟨_,f,rfl,e1,wm hp ρ [],by rw[e1];exact hf,rfl,by show(bB ρ fn kind).kind=.normal;rw[pE hp];exact hk,fun d {Q} hq=>hrun (R.drawn d) is.tmps hq⟩
    split at he
    ·split at he
     ·cases he;refine⟨0,fun U ρ cs g w I Γ=>?_⟩;obtain⟨R,fr,fV,⟨tm,td,is,rfl⟩,hc,rfl⟩:=Γ;cases fV with
      |cons a b=>exact absurd hc (by simp[ic])
      |nil=>exact Walk.stop ⟨ρ,cv.refl _ _,bS.refl _ _,c7.refl I.ids,AV.In.mono b_ _ (hin I.ids I.cur.tmps),R,ends (fV:=[]) rfl R is⟩
     ·cases he
    ·rename_i caller rest;split at he
     ·split at he
      ·rename_i caller' Kv;cases he;obtain⟨fn',nt',tmps',ops,i,Wm,k,defers',kind',rfl,rfl⟩:=wH Kv;refine⟨1,fun U ρ cs g w I Γ=>?_⟩;obtain⟨R,fr,fV,⟨tm,td,is,rfl⟩,hc,rfl⟩:=Γ;cases fV with
       |nil=>exact absurd hc (by simp[ic])
       |cons c1 fV=>
        obtain⟨⟨tm1,td1,is1,rfl⟩,hc⟩:=hc;have htd:td1=.inRegion ops (i::Wm)::k:=is1.todo rfl;subst htd;have hcin:=I.callers _ (ai ..);refine(wI (ends (fV:=[]) rfl R is)).weaken fun g' w' ⟨hw,hg⟩=>?_;subst hg;have:=mg (U:=U) (ρ:=ρ) (h:=h) (cs:=cs) (fn:=fn') (kind:=kind') (ops:=ops) (rest:=Wm) (k:=k) (dst:=(ops[i]?).bind (·.dst)) (ds:=defers') (cv.refl U ρ) (wT K.own hw) (BP R hw) (c7.refl I.ids)
         (AV.In.mono b_ _ (hin I.ids I.cur.tmps)) hcin.tmps (fun x hx=>(hcin.defers x hx).mono b_) (fun fr hf=>(I.callers fr (aa _ hf)).mono b_) is1.tmps is1.kind is1.fn hc
        have hb:dR ρ ⟨fn',nt',tmps',.inRegion ops (i::Wm)::k,defers',.run,kind'⟩ tm1 (.inRegion ops (i::Wm)::k)=(bB ρ fn' kind').atR (aB ρ kind' tm1 defers') (.inRegion ops (i::Wm)::k):=rfl;rw[hb,Frame.finish_atR];exact this
      ·cases he
     ·cases he;refine⟨1,fun U ρ cs g w I Γ=>Walk.one Γ.running fun d=>?_⟩;obtain⟨R,fr,fV,⟨tm,td,is,rfl⟩,hc,rfl⟩:=Γ.drawn d;cases fV with
      |nil=>exact absurd hc (by simp[ic])
      |cons c1 fV=>
       obtain⟨VD,hc⟩:=hc;obtain⟨run,hes⟩:=lZ (hrun (E:=fun _ _=>False) R is.tmps (Q:=fun x w'=>x=v.ev ρ∧w'=cx w d) ⟨rfl,rfl⟩);generalize hr:(results f tm).run K.P (cx w d)=r at run;cases r with
       |halt x w'=>cases x<;>exact run.elim
       |ok x w'=>obtain⟨rfl,rfl⟩:=run;rw[List.cons_append,Ee (fr:=dR ρ ⟨fn,nt,tmps,todo,[],.returning,.deferred⟩ tm td) rfl rfl rfl hf hr];refine⟨⟨bS.refl _ _,fun e he=>hes e (mem_seen he),fun _ _ _ _ x=>x⟩,ρ,cv.refl _ _,gZ _ _ _,c7.refl I.ids,?_,R,_,fV,N3 VD,hc,rfl⟩;exact gp.congr (U:=U) ⟨Ig (I.callers _ (ai ..)),fun fr hf=>I.callers fr (aa _ hf),I.ids⟩ (ku U _)
     ·cases he
 ·rename_i chain;split at he
  ·cases he
  rename_i ht;split at he
  ·rename_i d ds;split at he
   ·rename_i c' hx;cases he;exact⟨1,BO Gd F X (by simp) hx⟩
   ·cases he
  ·have ends:∀{ρ:Env} {cs:List Frame} {w:World} {tm:Array Value} {td:List Item},Re K.P ρ ⟨fn,nt,tmps,todo,[],.panicking chain,kind⟩ tm td->
      wu K fn ρ (.panicked chain) cs (G (dR ρ ⟨fn,nt,tmps,todo,[],.panicking chain,kind⟩ tm td) cs) w:=fun{ρ cs w tm td} is=>by
    obtain⟨f,hf⟩:=is.fn;have e1:(dR ρ ⟨fn,nt,tmps,todo,[],.panicking chain,kind⟩ tm td).fn=fn:=PL ρ fn kind;exact⟨_,f,rfl,e1,wm (pD is.kind ht) ρ [],by rw[e1];exact hf,rfl⟩
   split at he
   ·cases he;refine⟨0,fun U ρ cs g w I Γ=>?_⟩;obtain⟨R,fr,fV,⟨tm,td,is,rfl⟩,hc,rfl⟩:=Γ;cases fV with
    |cons a b=>exact absurd hc (by simp[ic])
    |nil=>exact Walk.stop ⟨ρ,cv.refl _ _,bS.refl _ _,c7.refl I.ids,fun x hx=>AV.In.mono b_ _ (I.cur.mode x hx),R,ends is⟩
   ·rename_i caller rest;cases he;refine⟨1,fun U ρ cs g w I Γ=>?_⟩;obtain⟨R,fr,fV,⟨tm,td,is,rfl⟩,hc,rfl⟩:=Γ;cases fV with
    |nil=>exact absurd hc (by simp[ic])
    |cons c1 fV=>obtain⟨VD,hc⟩:=hc;refine(wJ (ends is)).weaken fun g' w' ⟨hw,hg⟩=>?_;subst hg;refine⟨ρ,cv.refl _ _,wT _ hw,c7.refl I.ids,?_,BP R hw,_,fV,KL VD,hc,rfl⟩;exact gp.congr (U:=U) ⟨Ih (I.callers _ (ai ..)) I.cur.mode,fun fr hf=>I.callers fr (aa _ hf),I.ids⟩ (ku U _)
theorem kz{fr fr':bR}{v:AV}(h:hJ fr v=.ok fr'):fr'.fn=fr.fn:=by obtain⟨fn,nt,tmps,ops,i,rest,k,defers,kind,rfl,rfl⟩:=wH h;rfl
theorem y9{fr:bR}{vs:List (AV×Bool)}:(oX fr vs).fn=fr.fn:=by obtain⟨fn,nt,tmps,todo,defers,mode,kind⟩:=fr;cases mode<;>rfl
theorem KN{P:Program}{fr:bR}{callers:List bR}{n:AN}{h:AH}{c':dU}(he:upon P fr callers n h=.ok c'):bot c'.cur.fn c'.callers=bot fr.fn callers:=by
 obtain⟨fn,nt,tmps,todo,defers,mode,kind⟩:=fr;unfold upon at he;split at he
 ·split at he
  ·rename_i hx;cases he;show bot _ callers=_;rw[kz hx]
  ·cases he
 ·split at he
  ·rename_i hx;cases he;show bot _ callers=_;rw[kz hx]
  ·cases he
 ·split at he
  ·cases he;rfl
  ·cases he
 ·dsimp only at he;split at he
  ·rename_i hx;cases he;show bot _ callers=_;rw[kz hx]
  ·cases he
 ·split at he
  ·cases he
  ·rename_i v callers' hr;split at he
   ·rename_i hx;cases he;show bot _ callers'=_;rw[kz hx];unfold vD at hr;split at hr
    ·cases hr
    ·split at hr
     ·cases hr
     ·split at hr
      ·cases hr;rfl
      ·cases hr
    ·cases hr
   ·cases he
  ·split at he
   ·rename_i hx;cases he;show bot _ callers=_;rw[kz hx]
   ·cases he
 ·cases he;show bot (oX _ _).fn callers=_;rw[y9]
theorem KO{P:Program}{O:dH}{ext:Ext}{call:FuncId->List AV->AH->M (AE×AH)}{defers:List AD}{c':dU}(he:exec? P O ext call fn nt tmps todo defers kind callers h=.ok c'):bot c'.cur.fn c'.callers=bot fn callers:=by
 unfold exec? at he;split at he
 ·split at he
  ·cases he
  ·cases he;rfl
 ·split at he
  ·cases he;rfl
  ·split at he
   ·cases he
   ·split at he
    ·cases he
    ·cases he;rfl
    ·split at he
     ·cases he
     ·split at he
      ·cases he
      split at he
      ·exact KN he
      ·split at he
       ·cases he;rfl
       ·cases he;rfl
       ·cases he
 ·cases he;rfl
 ·cases he;rfl
 ·cases he;rfl
 ·split at he
  ·split at he
   ·cases he
   ·cases he;rfl
  ·cases he;rfl
  ·cases he;rfl
  ·cases he;rfl
  ·split at he
   ·split at he
    ·cases he;rfl
    ·cases he;rfl
    ·cases he
   ·cases he
  ·cases he;rfl
  ·cases he;rfl
  ·cases he;rfl
  ·split at he
   ·cases he;rfl
   ·cases he
  ·split at he
   ·cases he;rfl
   ·cases he
  ·split at he
   ·cases he;rfl
   ·split at he
    ·cases he;rfl
    ·split at he
     ·cases he;rfl
     ·cases he;rfl
     ·cases he
  ·cases he
 ·cases he
theorem y_{P:Program}{O:dH}{ext:Ext}{d:AD}{ds:List AD}{c':dU}(he:defer? P O ext fn nt tmps todo d ds mode kind callers h=.ok c'):bot c'.cur.fn c'.callers=bot fn callers:=by
 unfold defer? at he;split at he
 ·split at he
  ·cases he;rfl
  ·cases he
 ·cases he;rfl
 ·cases he
 ·cases he
theorem BQ{P:Program}{O:dH}{ext:Ext}{call:FuncId->List AV->AH->M (AE×AH)}{c c':dU}(he:step? P O ext call c=.ok (.inl c')):bot c'.cur.fn c'.callers=bot c.cur.fn c.callers:=by
 obtain⟨⟨fn,nt,tmps,todo,defers,mode,kind⟩,callers,h⟩:=c;unfold step? at he;dsimp only at he;split at he
 ·split at he
  ·rename_i hx;cases he;exact KO hx
  ·cases he
 ·split at he
  ·cases he
  split at he
  ·split at he
   ·rename_i hx;cases he;exact y_ hx
   ·cases he
  ·split at he
   ·cases he
   ·split at he
    ·split at he<;>cases he
    ·split at he
     ·split at he
      ·rename_i hx;cases he;simp only[bot,kz hx]
      ·cases he
     ·cases he;show bot (vG _).fn _=bot _ _;unfold vG;split<;>rfl
     ·cases he
 ·split at he
  ·cases he
  split at he
  ·split at he
   ·rename_i hx;cases he;exact y_ hx
   ·cases he
  ·split at he
   ·cases he
   ·cases he;simp only[bot,y9]
def za(K:Ctx)(main:Bool)(sum:qp):Prop:=
 ∀f args h r,sum f args h=some (.ok r)->∃fr N,bP K.P f args .normal=.ok fr∧Ends K main ⟨fr,[],h⟩ r N
theorem Ii:za K main JQ:=fun _ _ _ _ h=>by cases h
theorem zb{sum:qp}(Z:za K main sum){k:dU->M (AE×AH)}(ih:∀{c r},k c=.ok r->∃N,Ends K main c r N):
  jU K main (fun f args h=>match sum f args h with
   |some r=>r
   |none=>match bP K.P f args .normal with
    |.ok fr=>k ⟨fr,[],h⟩
    |.error e=>.error e):=by
 intro f args h r hr;dsimp only at hr;split at hr
 ·rename_i r' hs;subst hr;exact Z _ _ _ _ hs
 ·split at hr
  ·rename_i fr Rg;obtain⟨N,E⟩:=ih hr;exact⟨fr,N,Rg,E⟩
  ·cases hr
theorem Rj(Gd:K.Good)(F:K.iK){ext:Ext}(X:iL K ext){sum:qp}(Z:za K main sum):∀{n:Nat} {c:dU} {r:AE×AH},run? K.P K.O ext sum n c=.ok r->∃N,Ends K main c r N:=by
 intro n
 induction n with
 |zero=>intro c r he;cases he
 |succ n ih=>
  intro c r he;have he':(match step? K.P K.O ext (fun f args h=>match sum f args h with
   |some r=>r
   |none=>match bP K.P f args .normal with
    |.ok fr=>run? K.P K.O ext sum n ⟨fr,[],h⟩
    |.error e=>.error e) c with
   |.ok (.inl c)=>run? K.P K.O ext sum n c
   |.ok (.inr r)=>.ok r
   |.error e=>.error e)=.ok r:=he
  have C:=zb (K:=K) (main:=main) Z (k:=run? K.P K.O ext sum n) ih;split at he'
  ·rename_i c' hs;obtain⟨N,L⟩:=vi Gd F X C hs;obtain⟨M,E⟩:=ih he';exact⟨N+M,L.ends (BQ hs) E⟩
  ·rename_i r' hs;cases he';exact vi Gd F X C hs
  ·cases he'
end
def qE(g:Goroutine)(w:World):Machine:={world:=w,gs:=#[g],rest:={timers:=#[],alone:=none,slice:=none}}
theorem Ef{P:Program}{g:Goroutine}{w:World}(h:g.status=.running):move P (qE g w)=.goroutine (qE g w) 0:=by simp[move,ask,askOn,qE,runnable_eq,due,ahead,Goroutine.canRun,h,List.range_succ,choose,pure,Sem.run,Question.forced]
theorem rA{P:Program}{g g':Goroutine}{w w':World}{es:Array Event}(h:g.status=.running)(hs:stepG P true g w=.go g' w' es):step P (qE g w)=.next (qE g' w'):=by rw[step,stepT,Ef h];simp[runT,qE,Array.swapAt!,hs]
theorem Eg{P:Program}{D:World->World->Array Event->Prop}{S:Goroutine->World->Prop}{n:Nat}{g:Goroutine}{w:World}(h:Walk P true D S n g w):∃g' w',Steps P (qE g w) (qE g' w')∧S g' w':=by
 change fO P true D S 0 g w at h;generalize(0:Nat)=k at h
 induction h with
 |stop g w hs=>exact⟨g,w,.refl _ _,hs⟩
 |step n g w g' w' es hr hs hd hw ih=>obtain⟨g2,w2,h1,h2⟩:=ih w.drawn;exact⟨g2,w2,.head (rA hr (hs w.drawn)) h1,h2⟩
 |off n g w g' hr hs hw ih=>obtain⟨g2,w2,h1,h2⟩:=ih w.drawn;exact⟨g2,w2,.head (rA hr (hs w.drawn)) h1,h2⟩
 |on n g w g' hr hs hw ih=>obtain⟨g2,w2,h1,h2⟩:=ih w.drawn;exact⟨g2,w2,.head (rA hr (hs w.drawn)) h1,h2⟩
end Go.Proofs.YtmobbajggkjpgaaGreat.SX
namespace Go.Proofs.YtmobbajggkjpgaaGreat.SX
open _root_.Bool renaming and_eq_true->an,false_eq_true->aF
open _root_.Nat renaming le_refl->ax
def XE.sem:XE->(Array Value->Sem Value)->Prop
 |.ld k,e=>e=Extern.Atomic.loadT (.int k)
 |.st,e=>e=Extern.Atomic.storeT
 |.sw k,e=>e=Extern.Atomic.swapT (.int k)
 |.cas k,e=>e=Extern.Atomic.casT (.int k)
 |.add k,e=>e=Extern.Atomic.update (Op.intArith .add) k true
 |.acquire,e=>e=Extern.Race.marked .acquire
 |.release,e=>e=Extern.Race.marked .release
 |.releaseMerge,e=>e=Extern.Race.marked .releaseMerge
 |.quiet,e=>∃m,e=fun _=>do mark m;pure Extern.Race.none_
 |.typeOf,e=>e=Extern.ReflectliteType.typeOf
 |.valueOf,e=>e=fun args=>Extern.ReflectliteValue.unpack (args.getD 0 (.tuple #[]))
 |.vType,e=>∃z,e=Extern.ReflectliteValue.methodAny z fun t _ _ _=>Extern.ReflectliteType.toType t
 |.JR,e=>∃z,e=Extern.ReflectliteValue.method z Extern.ReflectliteValue.isNil
 |.PI,e=>∃z,e=Extern.ReflectliteValue.method z Extern.ReflectliteValue.elem
 |.VV,e=>e=Extern.ReflectliteValue.set
section
variable {K:Ctx}{ρ:Env}{h:AH}{w:World}{U:Nat->Prop}
theorem pK(R:Rel K ρ h w)(G:K.Good){a:AA}{k:IntKind}{e:IE}(hl:qv K.O h a k=.ok e):w.cell? (a.ev ρ)=some (.int k (e.ev ρ))∧(∀s,K.Ev ⟨.cell (a.ev ρ),false,s⟩)∧∀{U},f_ K U h->e.In U:=by
 unfold qv at hl;rw[bH]at hl;obtain⟨v,hv,hl⟩:=hl;obtain⟨h1,h2⟩:=o9 R G hv;split at hl
 ·split at hl
  ·rename_i hk;cases hl;subst hk;exact⟨h1,h2,fun I=>vN I hv⟩
  ·cases hl
 ·cases hl
theorem vj{E:Value->World->Prop}{a:Addr}{k:IntKind}{n:Int}(hc:w.cell? a=some (.int k n))(he:∀s,K.Ev ⟨.cell a,false,s⟩){Q:Value->World->Prop}(hq:Q (.int k n) w):wq K.P K.Ev E (Extern.Atomic.read (.int k) a) Q w:=by unfold Extern.Atomic.read;simp only[bF,vf];refine⟨_,hc,he _,?_⟩;simp only[if_true,bG];exact hq
theorem qg{E:Value->World->Prop}{a:AA}{v:AV}{h':AH}(R:Rel K ρ h w)(G:K.Good)(hs:gJ h a v=.ok h'){Q:Unit->World->Prop}(hq:Q () (w.setCell (a.ev ρ) (v.ev ρ))):wq K.P K.Ev E (store (a.ev ρ) (v.ev ρ) .atomic) Q w:=by obtain⟨s1,s2,s3,s4,_⟩:=ia R G hs;rw[o7];exact⟨s1,s2,s3,s4 _,hq⟩
theorem lE(I:f_ K U h){a:AA}{v:AV}{h':AH}(hs:gJ h a v=.ok h')(ha:a.In U)(hv:v.In U)(hn:h'.nb=h.nb)(hl:h'.fJ=h.fJ):c7 K U h h':=
 ⟨by rw[hn];exact ax _,hl,by rw[hn];exact(vO I hs ha hv).congr (fun n=>⟨.inl,qa n⟩)⟩
theorem m6(R:Rel K ρ h w)(G:K.Good){a:AA}{v:AV}{h':AH}(hs:gJ h a v=.ok h'){Q:Env->Prop}(hq:Q ρ):After K U ρ w h' Q (w.setCell (a.ev ρ) (v.ev ρ)):=by obtain⟨_,_,_,_,s5,s6,_⟩:=ia R G hs;exact⟨ρ,cv.refl _ _,s5,s6,hq⟩
theorem Wn(G:K.Good)(R:Rel K ρ h w)(I:f_ K U h){a:AA}{k:IntKind}{e:IE}(hl:qv K.O h a k=.ok e):nC K U ρ h w (Extern.Atomic.loadT (.int k) (AV.evs ρ [.ptr (some a)]).toArray) (.int k e) h:=by obtain⟨h1,h2,h3⟩:=pK R G hl;refine nC.pure R I (h3 I) fun{E Q} hq=>?_;show wq K.P K.Ev E (do Extern.Atomic.read (.int k) (<-asAddr (.pointer (some (a.ev ρ))))) Q w;simp only[bF,asAddr,bG];exact vj h1 h2 hq
theorem Wo(G:K.Good)(R:Rel K ρ h w)(I:f_ K U h){a:AA}{v:AV}{h':AH}(ha:a.In U)(hv:v.In U)(hs:gJ h a v=.ok h'):nC K U ρ h w (Extern.Atomic.storeT (AV.evs ρ [.ptr (some a),v]).toArray) cJ h':=by obtain⟨_,_,_,_,_,_,hn,hl⟩:=ia R G hs;refine⟨by simp[cJ,AV.In,AV.iw],lE I hs ha hv hn hl,fun{E Q} hq=>?_⟩;show wq K.P K.Ev E (do store (<-asAddr (.pointer (some (a.ev ρ)))) (v.ev ρ) .atomic;pure Extern.Atomic.none_) Q w;simp only[bF,asAddr,bG];exact qg R G hs (hq _ _ (m6 R G hs rfl))
theorem Wr(G:K.Good)(R:Rel K ρ h w)(I:f_ K U h){a:AA}{v:AV}{k:IntKind}{e:IE}{h':AH}(ha:a.In U)(hv:v.In U)(hl:qv K.O h a k=.ok e)(hs:gJ h a v=.ok h'):
  nC K U ρ h w (Extern.Atomic.swapT (.int k) (AV.evs ρ [.ptr (some a),v]).toArray) (.int k e) h':=by
 obtain⟨h1,h2,h3⟩:=pK R G hl;obtain⟨_,_,_,_,_,_,hn,hl'⟩:=ia R G hs;refine⟨IE.In.mono b_ (h3 I),lE I hs ha hv hn hl',fun{E Q} hq=>?_⟩;show wq K.P K.Ev E (do let a<-asAddr (.pointer (some (a.ev ρ)));let old<-Extern.Atomic.read (.int k) a;store a (v.ev ρ) .atomic;pure old) Q w;simp only[bF,asAddr,bG];refine vj h1 h2 ?_;exact qg R G hs (hq _ _ (m6 R G hs rfl))
theorem Rk(G:K.Good)(R:Rel K ρ h w)(I:f_ K U h){a:AA}{k k':IntKind}{e d:IE}{h':AH}(ha:a.In U)(hd:d.In U)(hl:qv K.O h a k=.ok e)(hs:gJ h a (.int k (K.O.int (.op .add k e d)))=.ok h')
 (hin:(K.O.int (.op .add k e d)).In U):
  nC K U ρ h w (Extern.Atomic.update (Op.intArith .add) k true (AV.evs ρ [.ptr (some a),.int k' d]).toArray) (.int k (K.O.int (.op .add k e d))) h':=by
 obtain⟨h1,h2,h3⟩:=pK R G hl;obtain⟨_,_,_,_,_,_,hn,hl'⟩:=ia R G hs;refine⟨IE.In.mono b_ hin,lE I hs ha hin hn hl',fun{E Q} hq=>?_⟩;show wq K.P K.Ev E (do
  let a<-asAddr (.pointer (some (a.ev ρ)));let old<-Extern.Atomic.read (.int k) a;let new<-Op.intArith .add k (<-asInt old) (<-asInt (.int k' (d.ev ρ)))
  store a new .atomic
  pure (if true then new else old)) Q w
 simp only[bF,asAddr,bG];refine vj h1 h2 ?_;simp only[asInt,asIntOf,bG,bF];have hx:Op.intArith .add k (e.ev ρ) (d.ev ρ)=(pure ((AV.int k (K.O.int (.op .add k e d))).ev ρ):Sem Value):=by simp only[AV.ev,l8 R,IE.ev,iF];rfl
 rw[hx];simp only[bG,if_true];exact qg R G hs (hq _ _ (m6 R G hs rfl))
theorem Ij{a:AA}{v:AV}{h':AH}(hs:og h a v=.ok h'):∃i off b,a=⟨.dyn i,off⟩∧cE i h.hp=some b∧b.nF=true:=by
 obtain⟨blk,off⟩:=a;unfold og at hs;dsimp only at hs;split at hs
 ·rename_i i n;split at hs
  ·rename_i b hb;split at hs
   ·rename_i hc;simp only[an,decide_eq_true_eq]at hc;exact⟨i,_,b,rfl,hb,r9 hc.1.1⟩
   ·cases hs
  ·cases hs
 ·cases hs
theorem Ik{a:AA}{v:AV}{h':AH}(hs:gJ h a v=.ok h'):∃i off b,a=⟨.dyn i,off⟩∧cE i h.hp=some b∧b.nF=true:=by
 unfold gJ at hs;split at hs
 ·rename_i h1 hh;exact Ij hh
 ·split at hs
  ·rename_i h1 hh;obtain⟨blk,off⟩:=a;unfold preSet? at hh;dsimp only at hh;split at hh
   ·rename_i i _;split at hh
    ·rename_i b hb;split at hh
     ·rename_i b' hb';exact⟨i,off,b,rfl,hb,by cases b<;>first|rfl|cases hb'⟩
     ·cases hh
    ·cases hh
   ·cases hh
  ·cases hs
theorem Rl(G:K.Good)(R:Rel K ρ h w)(I:f_ K U h){a:AA}{v:AV}{k k':IntKind}{e old:IE}{h':AH}{b:Bool}(ha:a.In U)(hv:v.In U)(hl:qv K.O h a k=.ok e)(hb:K.O.dec (.cmp .eql e old)=.ok b)(hs:gJ h a v=.ok h'):
  nC K U ρ h w (Extern.Atomic.casT (.int k) (AV.evs ρ [.ptr (some a),.int k' old,v]).toArray) (.bool (.lit b)) (if b then h' else h):=by
 obtain⟨h1,h2,h3⟩:=pK R G hl;obtain⟨_,_,hfz,_,_,_,hn,hl'⟩:=ia R G hs;obtain⟨i,off,blk,rfl,HN,hmem⟩:=Ik hs;obtain⟨arr,Ab,_⟩:=R.arr HN hmem;have hd:=kZ R hb;refine⟨trivial,?_,fun{E Q} hq=>?_⟩
 ·cases b
  ·exact c7.refl I
  ·exact lE I hs ha hv hn hl'
 ·have hsh:(w.shape? (AA.ev ρ ⟨.dyn i,off⟩).block)=some (blk.elem,arr.size):=by
   show w.shape? (ρ.b i)=_;simp[World.shape?,Ab]
  have hcmp:(e.ev ρ==old.ev ρ)=b:=by simpa[BE.ev,A0] using hd
  show wq K.P K.Ev E (asAddr (.pointer (some (AA.ev ρ ⟨.dyn i,off⟩)))>>= _) Q w;refine(bF _ _).2 ?_;show wq K.P K.Ev E (Extern.Atomic.touchesFrozen (AA.ev ρ ⟨.dyn i,off⟩)>>= _) Q w;refine(bF _ _).2 ?_;simp only[bF,bG,Extern.Atomic.touchesFrozen,viewAt,r7,hsh,Option.isSome_some,if_true,nM,hfz];show wq K.P K.Ev E (Extern.Atomic.read (.int k) (AA.ev ρ ⟨.dyn i,off⟩)>>= _) Q w;refine(bF _ _).2 (vj h1 h2 ?_);show wq K.P K.Ev E (pure (IE.ev ρ e==IE.ev ρ old)>>= _) Q w;refine(bF _ _).2 ?_;rw[bG,hcmp];cases b with
  |true=>simp only[if_true,bF,bG];exact qg R G hs (hq _ _ (m6 R G hs rfl))
  |false=>simp only[aF,if_false,bG,bF];exact hq _ _ (After.same R rfl)
theorem Ak(G:K.Good)(R:Rel K ρ h w)(I:f_ K U h)(m:Addr->Mark)(m1:∀a,JV (m a)=true){a:AA}:nC K U ρ h w (Extern.Race.marked m (AV.evs ρ [.ptr (some a)]).toArray) cJ h:=by refine nC.pure R I (by simp[cJ,AV.In,AV.iw]) fun{E Q} hq=>?_;show wq K.P K.Ev E (do mark (m (<-(pure (a.ev ρ):Sem Addr)));pure Extern.Race.none_) Q w;simp only[bF,bG,oh];exact⟨G.ext _ (m1 _),hq⟩
theorem KP(G:K.Good)(L:K.lock)(R:Rel K ρ h w)(I:f_ K U h)(m:Mark):nC K U ρ h w (do mark m;pure Extern.Race.none_) cJ h:=by refine nC.pure R I (by simp[cJ,AV.In,AV.iw]) fun{E Q} hq=>?_;simp only[bF,bG,oh];exact⟨G.lock L _,hq⟩
end
end Go.Proofs.YtmobbajggkjpgaaGreat.SX
