/-
  A symbolic run of the model, proved sound, and the walk of the code: a text of its parts. Conditions: none.
-/
import Derived.Test.YtmobbajggkjpgaaHB
import Derived.Calls
import Derived.Test.YtmobbajggkjpgaaRows
import Derived.ChangeSame
import Derived.ChangeVars
import Derived.JoinedOf
import Derived.RowKit
import Derived.RowKitTokens
import Derived.LaidLaws
import Derived.LaidHandle
import Derived.Stop.Joined
import Derived.Conc.Token
import Derived.Conc.TokenWalk
import Derived.Conc.Beside
set_option linter.unusedSectionVars false
set_option maxRecDepth 100000
set_option linter.unusedVariables false
set_option linter.unusedSimpArgs false
namespace Go.Proofs.Ytmobbajggkjpgaa.SX
open Go.Conc
theorem inM_testBit(m i:Nat):inM m i=m.testBit i:=by
 unfold inM bitOf
 have h:Nat.land m (Nat.pow 2 i)=m&&& 2 ^ i:=rfl
 rw[h]
 cases hb:m.testBit i with
 |true=>
  have:m&&& 2 ^ i≠0:=fun e=>by
   have:=congrArg (fun x=>Nat.testBit x i) e
   simp[Nat.testBit_and,hb,Nat.testBit_two_pow_self]at this
  cases hq:Nat.beq (m&&& 2 ^ i) 0 with
  |true=>exact absurd (Nat.eq_of_beq_eq_true hq) this
  |false=>rfl
 |false=>
  have:m&&& 2 ^ i=0:=by
   apply Nat.eq_of_testBit_eq
   intro j
   rw[Nat.testBit_and,Nat.zero_testBit]
   by_cases e:i=j
   ·subst e;simp[hb]
   ·simp[Nat.testBit_two_pow,e]
  rw[this];rfl
theorem inM_add(m i j:Nat):inM (addM m i) j=(inM m j||decide (i=j)):=by
 rw[inM_testBit,inM_testBit]
 have:addM m i=m ||| 2 ^ i:=rfl
 rw[this,Nat.testBit_or,Nat.testBit_two_pow]
theorem inM_zero(i:Nat):inM 0 i=false:=by rw[inM_testBit];simp
theorem land_sub{a m:Nat}(h:Nat.beq (Nat.land a m) a=true){j:Nat}(hj:inM a j=true):inM m j=true:=by
 have e:a&&& m=a:=Nat.eq_of_beq_eq_true h
 rw[inM_testBit]at hj⊢
 have:=congrArg (fun x=>Nat.testBit x j) e
 simp only[Nat.testBit_and,hj,Bool.true_and]at this
 exact this
theorem sub_land{a m:Nat}(h:∀j,inM a j=true->inM m j=true):Nat.beq (Nat.land a m) a=true:=by
 have:a&&& m=a:=by
  apply Nat.eq_of_testBit_eq
  intro j
  rw[Nat.testBit_and]
  have:=h j
  rw[inM_testBit,inM_testBit]at this
  cases ha:a.testBit j with
  |false=>rfl
  |true=>rw[this ha];rfl
 have h2:Nat.land a m=a:=this
 rw[h2]
 exact Nat.beq_refl a
theorem inM_pred{l:List Edge}{j:Nat}:inM (predMask l) j=true↔∃e∈l,Region.binds .any e=true∧e.on=j:=by
 induction l with
 |nil=>simp[predMask,inM_zero]
 |cons e l ih=>
  unfold predMask
  cases hb:Region.binds .any e with
  |true=>
   simp only[inM_add,Bool.or_eq_true,ih,decide_eq_true_eq,List.mem_cons]
   constructor
   ·rintro(⟨x,hx,a,b⟩|h)
    ·exact⟨x,.inr hx,a,b⟩
    ·exact⟨e,.inl rfl,hb,h⟩
   ·rintro⟨x,rfl|hx,a,b⟩
    ·exact .inr b
    ·exact .inl ⟨x,hx,a,b⟩
  |false=>
   simp only[ih,List.mem_cons]
   constructor
   ·rintro⟨x,hx,a,b⟩;exact⟨x,.inr hx,a,b⟩
   ·rintro⟨x,rfl|hx,a,b⟩
    ·rw[hb]at a;cases a
    ·exact⟨x,hx,a,b⟩
theorem mem_infosFrom{l:List Oper}:∀{n:Nat} {x:Info},x∈infosFrom n l↔∃i o,l[i]?=some o∧x=(n+i,o,predMask o.after.toList,quietOp o):=by
 induction l with
 |nil=>intro n x;simp[infosFrom]
 |cons o l ih=>
  intro n x
  simp only[infosFrom,List.mem_cons,ih]
  constructor
  ·rintro(rfl|⟨i,o',h,rfl⟩)
   ·exact⟨0,o,rfl,rfl⟩
   ·exact⟨i+1,o',by simpa using h,by rw[show n+1+i=n+(i+1) by omega]⟩
  ·rintro⟨i,o',h,rfl⟩
   cases i with
   |zero=>simp at h;subst h;exact .inl rfl
   |succ i=>exact .inr ⟨i,o',by simpa using h,by rw[show n+1+i=n+(i+1) by omega]⟩
theorem mem_infos{ops:Array Oper}{x:Info}:x∈infosOf ops↔∃i o,ops[i]?=some o∧x=(i,o,predMask o.after.toList,quietOp o):=by
 unfold infosOf
 rw[mem_infosFrom]
 simp
def Cons(s:List Nat)(m:Nat):Prop:=∀i,inM m i=true↔i∈s
theorem Cons.add{s:List Nat}{m i:Nat}(h:Cons s m):Cons (i::s) (addM m i):=fun j=>by
 rw[inM_add,Bool.or_eq_true,h j,decide_eq_true_eq,List.mem_cons]
 constructor
 ·rintro(x|x)
  ·exact .inr x
  ·exact .inl x.symm
 ·rintro(x|x)
  ·exact .inr x.symm
  ·exact .inl x
theorem cons_nil:Cons [] 0:=fun i=>by simp[inM_zero]
theorem ready_iff{ops:Array Oper}{s:List Nat}{i:Nat}:i∈readyIn ops s↔i∉s∧∃o,ops[i]?=some o∧∀e∈o.after.toList,Region.binds .any e=true->e.on∈s:=by
 unfold readyIn
 rw[List.mem_filter]
 constructor
 ·rintro⟨h1,h2⟩
  simp only[Bool.and_eq_true,Bool.not_eq_true',List.contains_eq_mem,decide_eq_false_iff_not]at h2
  refine⟨h2.1,?_⟩
  have h3:=h2.2
  split at h3
  ·rename_i o ho
   refine⟨o,ho,fun e he hb=>?_⟩
   unfold boundIn at h3
   rw[<-Array.all_toList,List.all_eq_true]at h3
   have:=h3 e he
   simpa[hb] using this
  ·cases h3
 ·rintro⟨h1,o,ho,h2⟩
  refine⟨List.mem_range.2 (Array.getElem?_eq_some_iff.1 ho).1,?_⟩
  simp only[Bool.and_eq_true,Bool.not_eq_true',List.contains_eq_mem,decide_eq_false_iff_not]
  refine⟨h1,?_⟩
  rw[ho]
  show boundIn s o=true
  unfold boundIn
  rw[<-Array.all_toList,List.all_eq_true]
  intro e he
  cases hb:Region.binds .any e with
  |false=>rfl
  |true=>simpa using h2 e he hb
theorem can_iff{ops:Array Oper}{s:List Nat}{m:Nat}(c:Cons s m){i:Nat}{o:Oper}(ho:ops[i]?=some o):canM m (i,o,predMask o.after.toList,quietOp o)=true↔i∈readyIn ops s:=by
 rw[ready_iff]
 unfold canM
 simp only[Bool.and_eq_true,Bool.not_eq_true']
 constructor
 ·rintro⟨h1,h2⟩
  refine⟨fun hi=>?_,o,ho,fun e he hb=>(c _).1 (land_sub h2 (inM_pred.2 ⟨e,he,hb,rfl⟩))⟩
  rw[(c i).2 hi]at h1;cases h1
 ·rintro⟨h1,o',ho',h2⟩
  rw[ho]at ho';cases ho'
  refine⟨?_,sub_land fun j hj=>?_⟩
  ·cases hq:inM m i with
   |false=>rfl
   |true=>exact absurd ((c i).1 hq) h1
  ·obtain⟨e,he,hb,rfl⟩:=inM_pred.1 hj
   exact(c _).2 (h2 e he hb)
theorem op?_congr{P:Program}{O:Orc}{ext:Ext}{h:AH}{f g:Operand->AV}{o:Oper}(e:∀x∈o.op.operands.toList,f x=g x):op? P O ext h f o=op? P O ext h g o:=by
 have hc:∀(c:Call),(∀x∈c.operands.toList,f x=g x)->∀ty,resolve? f c ty=resolve? g c ty:=by
  intro c hc ty
  have hargs:c.args.toList.map f=c.args.toList.map g:=List.map_congr_left fun x hx=>hc x (by
   unfold Call.operands
   simp only[Array.toList_append,List.mem_append]
   exact .inr hx)
  unfold resolve?
  rw[hargs]
  split
  ·rfl
  ·rename_i recv name hcal
   have:f recv=g recv:=hc recv (by unfold Call.operands;rw[hcal];simp)
   rw[this]
  ·rename_i fx hcal
   have:f fx=g fx:=hc fx (by unfold Call.operands;rw[hcal];simp)
   rw[this]
 have hparts:∀(ps:Array (Nat×Operand)),(∀x∈(ps.toList.map (·.2)),f x=g x)->ps.toList.map (fun(i,x)=>(i,f x))=ps.toList.map (fun(i,x)=>(i,g x)):=fun ps hp=>
  List.map_congr_left fun x hx=>by
   have:f x.2=g x.2:=hp x.2 (List.mem_map.2 ⟨x,hx,rfl⟩)
   show(x.1,f x.2)=(x.1,g x.2)
   rw[this]
 unfold op?
 generalize hop:o.op=op at e
 cases op<;>simp only[Op.operands,List.mem_cons,List.not_mem_nil,or_false,forall_eq_or_imp,forall_eq,List.toList_toArray,Array.toList_append,List.mem_append]at e<;>dsimp only
 case pick c a b=>rw[e.1,e.2.1,e.2.2]
 case build t ps=>rw[hparts ps e]
 case buildSlice t n ps=>rw[hparts ps e]
 case makeFunc fn fs cs=>
  rw[List.map_congr_left (f:=f) (g:=g) fun x hx=>e x (.inl hx),List.map_congr_left (f:=f) (g:=g) fun x hx=>e x (.inr hx)]
 case slice t x l hh mx=>
  have hx:f x=g x:=e x (by simp)
  have ho:∀(y:Option Operand),(∀z,y=some z->f z=g z)->(y.map fun x=>normI O (f x))=y.map fun x=>normI O (g x):=fun y hy=>by
   cases y with
   |none=>rfl
   |some z=>simp[hy z rfl]
  rw[hx,ho l fun z hz=>e z (by subst hz;simp),ho hh fun z hz=>e z (by subst hz;simp),ho mx fun z hz=>e z (by subst hz;simp)]
 case makeMap t r=>
  have:r.map f=r.map g:=by
   cases r with
   |none=>rfl
   |some z=>simp[e z (by simp)]
  rw[this]
 case call c=>rw[hc c e]
 case defer c=>rw[hc c e]
 case unOp u t x=>cases u<;>dsimp only<;>simp only[e]
 all_goals first
  |rfl
  |(simp only[e];done)
  |(simp only[e.1,e.2];done)
theorem valOp_same{r:M AV}{h h':AH}{n:AN}(he:valOp r h=.ok (n,h')):h'=h:=by
 unfold valOp at he
 split at he
 ·cases he;rfl
 ·cases he
theorem quiet_same{P:Program}{O:Orc}{ext:Ext}{h h':AH}{f:Operand->AV}{o:Oper}{n:AN}(hq:quietOp o=true)(he:op? P O ext h f o=.ok (n,h')):h'=h:=by
 unfold quietOp at hq
 unfold op? at he
 generalize o.op=op at hq he
 cases op<;>simp at hq<;>dsimp only at he
 case unOp u t x=>
  cases u<;>dsimp only at he<;>(repeat' split at he)<;>first|(cases he;rfl)|cases he
 all_goals first
  |exact valOp_same he
  |(cases he;rfl)
  |((repeat' split at he)<;>first|exact valOp_same he|(cases he;rfl)|cases he)
def Alike(ops:Array Oper)(o:Oper)(t t':TT):Prop:=∀d∈o.looksAt ops,t'.get d=t.get d
theorem Alike.eval{ops:Array Oper}{o:Oper}{t t':TT}(h:Alike ops o t t'):∀x∈o.op.operands.toList,evalA t' x=evalA t x:=by
 intro x hx
 cases x with
 |tmp d=>exact h d (List.mem_append_left _ (List.mem_filterMap.2 ⟨.tmp d,hx,rfl⟩))
 |_=>rfl
theorem Alike.wanted{O:Orc}{ops:Array Oper}{o:Oper}{t t':TT}(h:Alike ops o t t'):wantedA O ops t' o=wantedA O ops t o:=by
 unfold wantedA
 cases hg:o.guard with
 |none=>rfl
 |some gw=>
  obtain⟨j,want⟩:=gw
  dsimp only
  have:yieldedA O ops t' j=yieldedA O ops t j:=by
   unfold yieldedA
   cases hd:(ops[j]?).bind (·.dst)with
   |none=>rfl
   |some d=>
    dsimp only
    rw[h d (List.mem_append_right _ (by rw[hg];simp[hd]))]
  rw[this]
theorem opFull_alike{P:Program}{O:Orc}{ext:Ext}{call:FuncId->List AV->AH->M (AE×AH)}{nt:Nat}{ops:Array Oper}{i:Nat}{o:Oper}{t t' t1:TT}{h h1:AH}(ho:ops[i]?=some o)(ha:Alike ops o t t')
 (he:opFull P O ext call nt ops i t h=.ok (.on t1 h1)):∃v,t1=putA nt t o.dst v∧opFull P O ext call nt ops i t' h=.ok (.on (putA nt t' o.dst v) h1):=by
 unfold opFull at he⊢
 rw[ho]at he⊢
 dsimp only at he⊢
 rw[ha.wanted,op?_congr ha.eval]
 split at he
 ·cases he
 ·rename_i hw;cases he;exact⟨_,rfl,rfl⟩
 ·rename_i hw
  split at he
  ·cases he
  ·rename_i v h' hop;cases he;exact⟨v,rfl,rfl⟩
  ·rename_i h' hop;cases he;exact⟨undefA,rfl,rfl⟩
  ·rename_i f args h' hop
   split at he
   ·rename_i v h'' hc;cases he;exact⟨v,rfl,rfl⟩
   ·cases he
   ·cases he
  ·cases he
  ·cases he
theorem opFull_quiet{P:Program}{O:Orc}{ext:Ext}{call:FuncId->List AV->AH->M (AE×AH)}{nt:Nat}{ops:Array Oper}{i:Nat}{o:Oper}{t:TT}{h:AH}(ho:ops[i]?=some o)(hq:quietOp o=true){v:AV}
 (he:wantedA O ops t o=.ok false∧v=undefA∨wantedA O ops t o=.ok true∧∃h',op? P O ext h (evalA t) o=.ok (.value v,h')):opFull P O ext call nt ops i t h=.ok (.on (putA nt t o.dst v) h):=by
 unfold opFull
 rw[ho]
 dsimp only
 rcases he with⟨hw,rfl⟩|⟨hw,h',hop⟩
 ·rw[hw]
 ·rw[hw]
  dsimp only
  have:=quiet_same hq hop
  subst this
  rw[hop]
theorem putA_get{nt:Nat}(hnt:nt≤60000)(t:TT)(dst:Option Tmp)(v:AV)(n:Nat):(putA nt t dst v).get n=if dst=some n∧n<nt then v else t.get n:=by
 unfold putA
 cases dst with
 |none=>simp
 |some d=>
  dsimp only
  cases hb:Nat.ble (d+1) nt with
  |true=>
   have hd:Nat.succ d≤nt:=Nat.le_of_ble_eq_true hb
   have hb16:Nat.succ d<2 ^ 16:=Nat.lt_of_le_of_lt (Nat.le_trans hd hnt) (by decide)
   dsimp only
   rw[TT.get_set v 16 t d n hb16]
   by_cases e:n=d
   ·subst e;rw[if_pos rfl,if_pos ⟨rfl,hd⟩]
   ·rw[if_neg e,if_neg fun x=>e (Option.some.inj x.1).symm]
  |false=>
   dsimp only
   rw[if_neg]
   rintro⟨e,hn⟩
   obtain rfl:=Option.some.inj e
   have h2:Nat.ble (d+1) nt=true:=Nat.ble_eq_true_of_le (Nat.succ_le_of_lt hn)
   rw[h2]at hb;cases hb
def Pending(ops:Array Oper)(s r:List Nat)(n:Nat):Prop:=∃i o,i∈s∧i∉r∧ops[i]?=some o∧o.dst=some n
def Down(ops:Array Oper)(r:List Nat):Prop:=∀i∈r,∀o,ops[i]?=some o->∀e∈o.after.toList,Region.binds .any e=true->e.on∈r
theorem Down.cons{ops:Array Oper}{r:List Nat}(d:Down ops r){i:Nat}(h:i∈readyIn ops r):Down ops (i::r):=by
 obtain⟨_,o,ho,hp⟩:=ready_iff.1 h
 intro j hj oj hoj e he hb
 rcases List.mem_cons.1 hj with rfl|hj
 ·rw[ho]at hoj;cases hoj
  exact List.mem_cons_of_mem _ (hp e he hb)
 ·exact List.mem_cons_of_mem _ (d j hj oj hoj e he hb)
structure Near(ops:Array Oper)(nt:Nat)(s r:List Nat)(t tr:TT):Prop where
 sub:∀i∈r,i∈s
 quiet:∀i∈s,i∉r->∃o,ops[i]?=some o∧quietOp o=true
 same:∀n,n<nt->¬Pending ops s r n->tr.get n=t.get n
 out:∀n,nt≤n->tr.get n=t.get n
 down:Down ops r
theorem inM_lor(a b j:Nat):inM (Nat.lor a b) j=(inM a j||inM b j):=by
 rw[inM_testBit,inM_testBit,inM_testBit]
 exact Nat.testBit_or a b j
theorem doneM_ok{m i:Nat}:∀{l:List Info},inM (doneM m l) i=true->∃x∈l,x.2.2.2=false∧inM m x.1=true∧inM x.2.2.1 i=true
 |[],h=>by simp[doneM,inM_zero]at h
 |x::l,h=>by
  simp only[doneM]at h
  split at h
  ·rename_i hb
   simp only[Bool.and_eq_true,Bool.not_eq_true']at hb
   rw[inM_lor,Bool.or_eq_true]at h
   rcases h with h|h
   ·exact⟨x,List.mem_cons_self ..,hb.1,hb.2,h⟩
   ·obtain⟨y,hy,z⟩:=doneM_ok h
    exact⟨y,List.mem_cons_of_mem _ hy,z⟩
  ·obtain⟨y,hy,z⟩:=doneM_ok h
   exact⟨y,List.mem_cons_of_mem _ hy,z⟩
theorem inM_rem{infos:List Info}{m i:Nat}(h1:inM m i=true)(h2:inM (doneM m infos) i=false):inM (remM infos m) i=true:=by
 unfold remM
 rw[inM_testBit]at h1 h2⊢
 show(m&&& (m ^^^ doneM m infos)).testBit i=true
 rw[Nat.testBit_and,Nat.testBit_xor,h1,h2]
 rfl
theorem Near.rem{ops:Array Oper}{nt:Nat}{s r:List Nat}{t tr:TT}(N:Near ops nt s r t tr){m:Nat}(hc:Cons s m){i:Nat}(hi:i∈s)(hr:i∉r):inM (remM (infosOf ops) m) i=true:=by
 refine inM_rem ((hc i).2 hi) ?_
 cases hd:inM (doneM m (infosOf ops)) i with
 |false=>rfl
 |true=>
  obtain⟨x,hx,h1,h2,h3⟩:=doneM_ok hd
  obtain⟨j,o,ho,rfl⟩:=mem_infos.1 hx
  dsimp only at h1 h2 h3
  have hj:j∈s:=(hc j).1 h2
  by_cases hjr:j∈r
  ·obtain⟨e,he,hb,rfl⟩:=inM_pred.1 h3
   exact absurd (N.down j hjr o ho e he hb) hr
  ·obtain⟨o',ho',hq⟩:=N.quiet j hj hjr
   rw[ho]at ho';cases ho'
   rw[hq]at h1;cases h1
def Topo(ops:Array Oper):List Nat->Prop
 |[]=>True
 |i::s=>i∈readyIn ops s∧Topo ops s
theorem Topo.ready{ops:Array Oper}{r:List Nat}:∀{s:List Nat},Topo ops s->(∃i∈s,i∉r)->∃i∈s,i∈readyIn ops r
 |[],_,⟨i,h,_⟩=>by cases h
 |a::s,⟨h1,h2⟩,hx=>by
  by_cases hs:∃i∈s,i∉r
  ·obtain⟨i,hi,hr⟩:=Topo.ready h2 hs
   exact⟨i,List.mem_cons_of_mem _ hi,hr⟩
  ·have hall:∀i∈s,i∈r:=fun i hi=>Classical.byContradiction fun hn=>hs ⟨i,hi,hn⟩
   obtain⟨i,hi,hn⟩:=hx
   rcases List.mem_cons.1 hi with rfl|hi
   ·obtain⟨_,o,ho,hp⟩:=ready_iff.1 h1
    exact⟨i,List.mem_cons_self ..,ready_iff.2 ⟨hn,o,ho,fun e he hb=>hall _ (hp e he hb)⟩⟩
   ·exact absurd (hall i hi) hn
theorem Topo.lt{ops:Array Oper}:∀{s:List Nat},Topo ops s->∀i∈s,i<ops.size
 |[],_,i,h=>by cases h
 |a::s,⟨h1,h2⟩,i,h=>by
  rcases List.mem_cons.1 h with rfl|h
  ·exact(readyIn_mem h1).1
  ·exact Topo.lt h2 i h
theorem regionOk_spec{ops:Array Oper}(h:regionOk ops (infosOf ops)=true){i j d:Nat}{oi oj:Oper}(hi:ops[i]?=some oi)(hj:ops[j]?=some oj)(hq:quietOp oi=true)(hd:oi.dst=some d)(hl:d∈oj.looksAt ops):
  ∃e∈oj.after.toList,Region.binds .any e=true∧e.on=i:=by
 unfold regionOk at h
 rw[List.all_eq_true]at h
 have h1:=h _ (mem_infos.2 ⟨i,oi,hi,rfl⟩)
 dsimp only at h1
 rw[hq,hd]at h1
 dsimp only at h1
 rw[List.all_eq_true]at h1
 have h2:=h1 _ (mem_infos.2 ⟨j,oj,hj,rfl⟩)
 dsimp only at h2
 have hc:(oj.looksAt ops).contains d=true:=by simpa using hl
 rw[hc]at h2
 simp only[Bool.not_true,Bool.false_or]at h2
 exact inM_pred.1 h2
theorem Near.alike{ops:Array Oper}{nt:Nat}{s r:List Nat}{t tr:TT}(N:Near ops nt s r t tr)(hok:regionOk ops (infosOf ops)=true){j:Nat}{oj:Oper}(hj:ops[j]?=some oj)(hr:j∈readyIn ops r):Alike ops oj t tr:=by
 intro d hd
 rcases Nat.lt_or_ge d nt with hlt|hge
 rotate_left
 ·exact N.out d hge
 refine N.same d hlt fun⟨i,oi,h1,h2,h3,h4⟩=>?_
 obtain⟨o,ho,hq⟩:=N.quiet i h1 h2
 rw[h3]at ho;cases ho
 obtain⟨e,he,hb,rfl⟩:=regionOk_spec hok h3 hj hq h4 hd
 obtain⟨_,o',ho',hp⟩:=ready_iff.1 hr
 rw[hj]at ho';cases ho'
 exact h2 (hp e he hb)
theorem Near.drawn{ops:Array Oper}{nt:Nat}(hnt:nt≤60000){s r:List Nat}{t tr:TT}(N:Near ops nt s r t tr){i:Nat}{o:Oper}(ho:ops[i]?=some o)(hi:i∈s)(hir:i∈readyIn ops r){v:AV}(hv:∀d,o.dst=some d->d<nt->t.get d=v):
  Near ops nt s (i::r) t (putA nt tr o.dst v):=by
 refine⟨fun j hj=>?_,fun j hj hn=>N.quiet j hj fun x=>hn (List.mem_cons_of_mem _ x),fun n hlt hn=>?_,fun n hge=>?_,?_⟩
 ·rcases List.mem_cons.1 hj with rfl|hj
  ·exact hi
  ·exact N.sub j hj
 ·rw[putA_get hnt]
  split
  ·rename_i hd;exact(hv n hd.1 hd.2).symm
  ·rename_i hd
   refine N.same n hlt fun⟨a,oa,h1,h2,h3,h4⟩=>?_
   by_cases e:a=i
   ·subst e
    rw[ho]at h3;cases h3
    exact hd ⟨h4,hlt⟩
   ·exact hn ⟨a,oa,h1,(fun x=>(List.mem_cons.1 x).elim e h2),h3,h4⟩
 ·rw[putA_get hnt,if_neg fun x=>absurd x.2 (Nat.not_lt.2 hge)]
  exact N.out n hge
 ·exact N.down.cons hir
structure Soaked(ops:Array Oper)(nt:Nat)(s:List Nat)(t:TT)(s2:List Nat)(m2:Nat)(t2:TT):Prop where
 sub:∀i∈s,i∈s2
 quiet:∀i∈s2,i∉s->∃o,ops[i]?=some o∧quietOp o=true
 same:∀n,(¬∃i o,i∈s2∧i∉s∧ops[i]?=some o∧o.dst=some n∧n<nt)->t2.get n=t.get n
 cons:Cons s2 m2
 topo:Topo ops s2
theorem soakM_ok{P:Program}{O:Orc}{ext:Ext}{nt:Nat}(hnt:nt≤60000){ops:Array Oper}{h:AH}:∀{l:List Info},(∀x∈l,x∈infosOf ops)->∀{s:List Nat} {m:Nat} {t:TT} {s2:List Nat} {m2:Nat} {t2:TT},Cons s m->Topo ops s->
  soakM P O ext nt ops h l s m t=.ok (s2,m2,t2)->Soaked ops nt s t s2 m2 t2
 |[],_,s,m,t,s2,m2,t2,c,tp,he=>by
  simp only[soakM]at he
  cases he
  exact⟨fun i x=>x,fun i x y=>absurd x y,fun n _=>rfl,c,tp⟩
 |x::l,hl,s,m,t,s2,m2,t2,c,tp,he=>by
  have hl':∀y∈l,y∈infosOf ops:=fun y hy=>hl y (List.mem_cons_of_mem _ hy)
  simp only[soakM]at he
  split at he
  ·exact soakM_ok hnt hl' c tp he
  ·rename_i hb
   rw[Bool.and_eq_true]at hb
   obtain⟨i,o,ho,rfl⟩:=mem_infos.1 (hl x (List.mem_cons_self ..))
   dsimp only at hb he
   have hr:=(can_iff c ho).1 hb.2
   have step:∀{v:AV} {s2:List Nat} {m2:Nat} {t2:TT},soakM P O ext nt ops h l (i::s) (addM m i) (putA nt t o.dst v)=.ok (s2,m2,t2)->Soaked ops nt s t s2 m2 t2:=by
    intro v s2 m2 t2 he
    have S:=soakM_ok hnt hl' (c.add (i:=i)) (show Topo ops (i::s)from⟨hr,tp⟩) he
    refine⟨fun j hj=>S.sub j (List.mem_cons_of_mem _ hj),fun j hj hn=>?_,fun n hn=>?_,S.cons,S.topo⟩
    ·by_cases e:j=i
     ·subst e;exact⟨o,ho,hb.1⟩
     ·exact S.quiet j hj fun x=>(List.mem_cons.1 x).elim e hn
    ·rw[S.same n fun⟨j,oj,h1,h2,h3,h4,h5⟩=>hn ⟨j,oj,h1,fun x=>h2 (List.mem_cons_of_mem _ x),h3,h4,h5⟩,putA_get hnt]
     refine if_neg fun⟨h4,h5⟩=>hn ⟨i,o,S.sub i (List.mem_cons_self ..),(readyIn_mem hr).2,ho,h4,h5⟩
   split at he
   ·cases he
   ·exact step he
   ·split at he
    ·exact step he
    ·cases he
    ·cases he
theorem Near.next{ops:Array Oper}{nt:Nat}(hnt:nt≤60000){s r:List Nat}{t tr:TT}(N:Near ops nt s r t tr){j:Nat}{o:Oper}(ho:ops[j]?=some o)(hj:j∉s)(hjr:j∈readyIn ops r){v:AV}{s2:List Nat}{m2:Nat}{t2:TT}
 (S:Soaked ops nt (j::s) (putA nt t o.dst v) s2 m2 t2):Near ops nt s2 (j::r) t2 (putA nt tr o.dst v):=by
 have hsub:∀i∈j::r,i∈j::s:=fun i hi=>by
  rcases List.mem_cons.1 hi with rfl|hi
  ·exact List.mem_cons_self ..
  ·exact List.mem_cons_of_mem _ (N.sub i hi)
 have same2:∀n,(¬∃i o,i∈s2∧i∉j::r∧ops[i]?=some o∧o.dst=some n∧n<nt)->t2.get n=(putA nt t o.dst v).get n:=fun n hn=>
  S.same n fun⟨i,oi,h1,h2,h3,h4,h5⟩=>hn ⟨i,oi,h1,fun x=>h2 (hsub i x),h3,h4,h5⟩
 refine⟨fun i hi=>S.sub i (hsub i hi),fun i hi hn=>?_,fun n hlt hn=>?_,fun n hge=>?_,N.down.cons hjr⟩
 ·by_cases e:i∈j::s
  ·rcases List.mem_cons.1 e with rfl|e
   ·exact absurd (List.mem_cons_self ..) hn
   ·exact N.quiet i e fun x=>hn (List.mem_cons_of_mem _ x)
  ·exact S.quiet i hi e
 ·rw[same2 n fun⟨i,oi,h1,h2,h3,h4,h5⟩=>hn ⟨i,oi,h1,h2,h3,h4⟩,putA_get hnt,putA_get hnt]
  split
  ·rfl
  ·refine N.same n hlt fun⟨a,oa,h1,h2,h3,h4⟩=>hn ⟨a,oa,S.sub a (List.mem_cons_of_mem _ h1),(fun x=>?_),h3,h4⟩
   rcases List.mem_cons.1 x with rfl|x
   ·exact hj h1
   ·exact h2 x
 ·rw[same2 n fun⟨i,oi,h1,h2,h3,h4,h5⟩=>absurd h5 (Nat.not_lt.2 hge),putA_get hnt,putA_get hnt,if_neg fun x=>absurd x.2 (Nat.not_lt.2 hge),if_neg fun x=>absurd x.2 (Nat.not_lt.2 hge)]
  exact N.out n hge
theorem Near.begin{ops:Array Oper}{nt:Nat}{t:TT}{s2:List Nat}{m2:Nat}{t2:TT}(S:Soaked ops nt [] t s2 m2 t2):Near ops nt s2 [] t2 t:=
 ⟨(fun i hi=>by cases hi),fun i hi hn=>S.quiet i hi hn,fun n hlt hn=>(S.same n fun⟨i,oi,h1,h2,h3,h4,h5⟩=>hn ⟨i,oi,h1,h2,h3,h4⟩).symm,fun n hge=>(S.same n fun⟨i,oi,h1,h2,h3,h4,h5⟩=>absurd h5 (Nat.not_lt.2 hge)).symm,fun i hi=>by cases hi⟩
theorem Near.over{ops:Array Oper}{nt:Nat}{s r:List Nat}{t tr:TT}(N:Near ops nt s r t tr)(tp:Topo ops s)(hr:readyIn ops r=[]):(∀i∈s,i∈r)∧readyIn ops s=[]∧∀n,tr.get n=t.get n:=by
 have hall:∀i∈s,i∈r:=fun i hi=>Classical.byContradiction fun hn=>by
  obtain⟨j,_,hj⟩:=tp.ready ⟨i,hi,hn⟩
  rw[hr]at hj;cases hj
 refine⟨hall,?_,fun n=>?_⟩
 ·rw[readyIn_congr (b:=r) fun i=>⟨hall i,N.sub i⟩];exact hr
 ·rcases Nat.lt_or_ge n nt with hlt|hge
  ·exact N.same n hlt fun⟨i,o,h1,h2,_⟩=>h2 (hall i h1)
  ·exact N.out n hge
theorem holdsQ_ok{P:Program}{O:Orc}{ext:Ext}{nt:Nat}{ops:Array Oper}{m:Nat}{t:TT}{h:AH}:∀{l:List Info},holdsQ P O ext nt ops m t h l=true->∀x∈l,x.2.2.2=true->inM m x.1=true->
  ∃v,(wantedA O ops t x.2.1=.ok false∧v=undefA∨wantedA O ops t x.2.1=.ok true∧∃h',op? P O ext h (evalA t) x.2.1=.ok (.value v,h'))∧∀d,x.2.1.dst=some d->d<nt->t.get d=v
 |[],_,x,hx,_,_=>by cases hx
 |y::l,he,x,hx,hq,hm=>by
  simp only[holdsQ,Bool.and_eq_true]at he
  have put:∀{v:AV},dstIs nt t x.2.1.dst v=true->∀d,x.2.1.dst=some d->d<nt->t.get d=v:=by
   intro v hd d hdd hlt
   unfold dstIs at hd
   rw[hdd]at hd
   dsimp only at hd
   have h2:Nat.ble (d+1) nt=true:=Nat.ble_eq_true_of_le (Nat.succ_le_of_lt hlt)
   rw[h2]at hd
   exact AV.eqb_eq _ _ hd
  rcases List.mem_cons.1 hx with rfl|hx
  ·have h1:=he.1
   rw[hq,hm]at h1
   simp only[Bool.and_self]at h1
   split at h1
   ·cases h1
   ·rename_i hw;exact⟨_,.inl ⟨hw,rfl⟩,put h1⟩
   ·rename_i hw
    split at h1
    ·rename_i v h' hop;exact⟨v,.inr ⟨hw,h',hop⟩,put h1⟩
    ·cases h1
  ·exact holdsQ_ok he.2 x hx hq hm
section
variable {K:Ctx}{main:Bool}{nt:Nat}{ops:Array Oper}
theorem Next.before{U:Nat->Prop}{ρ ρ':Env}{cs:List Frame}{w w' w'':World}{h0:AH}{c:ACfg}{g'':Goroutine}(A:Agree U ρ ρ')(k:Keeps K.own w w')(n:Next K U ρ' cs w' h0 c g'' w''):Next K U ρ cs w h0 c g'' w'':=by
 obtain⟨ρ'',a1,a2,a3,a4,a5⟩:=n
 exact⟨ρ'',A.trans a1 (fun _ x=>x),k.trans a2,a3,a4,a5⟩
theorem Next.grow{U:Nat->Prop}{ρ ρ':Env}{cs:List Frame}{w w' w'':World}{h0 h1:AH}{c:ACfg}{g'':Goroutine}(A:Agree U ρ ρ')(k:Keeps K.own w w')(gr:Grows K U h0 h1)
 (n:Next K (plus U h0.nb h1.nb) ρ' cs w' h1 c g'' w''):Next K U ρ cs w h0 c g'' w'':=by
 obtain⟨ρ'',a1,a2,a3,a4,a5⟩:=n
 exact⟨ρ'',A.trans a1 plus_sub,k.trans a2,gr.trans a3,a4.congr fun n=>plus_plus gr.nb a3.nb n,a5⟩
theorem ARNext.before{U:Nat->Prop}{ρ ρ':Env}{cs:List Frame}{w w' w'':World}{h0:AH}{fn:FuncId}{todo:List Item}{defers:List AD}{kind:CallKind}{callers:List AFrame}{r:AR}{g'':Goroutine}(A:Agree U ρ ρ')(k:Keeps K.own w w')
 (n:ARNext K U ρ' cs w' h0 fn nt todo defers kind callers r g'' w''):ARNext K U ρ cs w h0 fn nt todo defers kind callers r g'' w'':=by
 cases r with
 |on t h=>exact Next.before A k n
 |panic t c h=>exact fun td=>Next.before A k (n td)
theorem ARNext.grow{U:Nat->Prop}{ρ ρ':Env}{cs:List Frame}{w w' w'':World}{h0 h1:AH}{fn:FuncId}{todo:List Item}{defers:List AD}{kind:CallKind}{callers:List AFrame}{r:AR}{g'':Goroutine}(A:Agree U ρ ρ')(k:Keeps K.own w w')(gr:Grows K U h0 h1)
 (n:ARNext K (plus U h0.nb h1.nb) ρ' cs w' h1 fn nt todo defers kind callers r g'' w''):ARNext K U ρ cs w h0 fn nt todo defers kind callers r g'' w'':=by
 cases r with
 |on t h=>exact Next.grow A k gr n
 |panic t c h=>exact fun td=>Next.grow A k gr (n td)
def LvIds(K:Ctx)(U0:Nat->Prop)(s:List Nat)(cur:AFrame)(callers:List AFrame)(h:AH):Option AH->Prop
 |none=>CIds K U0 ⟨cur,callers,h⟩
 |some h0=>Ids K U0 h0∧CIds K (Us U0 h0 s) ⟨cur,callers,bare h⟩
theorem runLvls_ok(Gd:K.Good)(F:K.Facts){ext:Ext}(X:ExtOk K ext){call:FuncId->List AV->AH->M (AE×AH)}(C:CallOk K main call)(hops:ops.size≤65536):
  ∀{n:Nat} {fork:Option AH} {L:Lvl} {r:AR},runLvls K.P K.O ext call nt ops n fork L=.ok r->
   ∃N,∀s t h,(s,t,h)∈L->∀{fn defers kind callers U0 ρ cs g w l k},(∀j∈s,j<ops.size)->Sched ops s l->
    LvIds K U0 s ⟨fn,nt,t,.inRegion ops l::k,defers,.run,kind⟩ callers h fork->Gam K ρ ⟨⟨fn,nt,t,.inRegion ops l::k,defers,.run,kind⟩,callers,h⟩ cs g w->
    Walk K.P main (DK K) (ARNext K U0 ρ cs w (fork.getD h) fn nt k defers kind callers r) N g w:=by
 intro n
 induction n with
 |zero=>intro fork L r he;simp only[runLvls]at he;cases he
 |succ n ih=>
  intro fork L r he
  simp only[runLvls]at he
  split at he
  ·rename_i s t h h0
   obtain⟨N,hN⟩:=ih he
   refine⟨N,fun s' t' h' hm {fn defers kind callers U0 ρ cs g w l k} hb hs I Γ=>?_⟩
   cases List.mem_singleton.1 hm
   obtain⟨I0,I⟩:=I
   have hst:ops.size*stride h0≤h0.lim-h0.nb:=Nat.le_trans (Nat.mul_le_mul_right _ hops) (Nat.mul_div_le _ _)
   have hI:CIds K (plus U0 h0.nb (rangeBack h0 ops.size h).nb) ⟨⟨fn,nt,t,.inRegion ops l::k,defers,.run,kind⟩,callers,rangeBack h0 ops.size h⟩:=by
    refine I.lax rfl (fun m x=>?_) fun m x1 x2 x3=>?_
    ·rcases x with x|⟨j,j1,j2,j3⟩
     ·exact .inl x
     ·refine .inr ⟨by omega,Nat.lt_of_lt_of_le j3 (Nat.add_le_add_left (Nat.mul_le_mul_right _ (hb j j1)) _)⟩
    ·have hx1:h0.nb+ops.size*stride h0≤m:=x1
     rcases x3 with x|x
     ·exact I0.fresh m (by omega) x2 x
     ·have:=x.2;exact absurd this (Nat.not_lt.2 x1)
   have gr:Grows K U0 h0 (rangeBack h0 ops.size h):=⟨Nat.le_add_right _ _,rfl,hI.ids⟩
   have:=hN s t _ (List.mem_singleton.2 rfl) hb hs hI (Γ.hp rfl)
   exact this.weaken fun g' w' x=>ARNext.grow (Agree.refl _ _) (Keeps.refl _ _) gr x
  ·rename_i s t h
   split at he
   ·rename_i hr
    cases he
    refine⟨1,fun s' t' h' hm {fn defers kind callers U0 ρ cs g w l k} hb hs I Γ=>?_⟩
    cases List.mem_singleton.1 hm
    cases l with
    |cons i l=>have:=hs.1;rw[hr]at this;cases this
    |nil=>exact leads_to (fun ρ tm w cs R T b ds=>stR_region_end) U0 ρ cs g w I Γ
   ·rename_i i hr
    have front:∀{l},Sched ops s l->∃l',l=i::l'∧Sched ops (i::s) l':=fun{l} hs=>by
     cases l with
     |nil=>have:readyIn ops s=[]:=hs;rw[hr]at this;cases this
     |cons j l=>
      have:=hs.1
      rw[hr]at this
      obtain rfl:=List.mem_singleton.1 this
      exact⟨l,rfl,hs.2⟩
    have hi:i<ops.size:=(readyIn_mem (s:=s) (by rw[hr];exact List.mem_singleton.2 rfl)).1
    split at he
    ·cases he
    ·rename_i t' c h' hop
     cases he
     obtain⟨N,hN⟩:=opFull_ok Gd F X C hop
     refine⟨N,fun s' t' h' hm {fn defers kind callers U0 ρ cs g w l k} hb hs I Γ=>?_⟩
     cases List.mem_singleton.1 hm
     obtain⟨l',rfl,hs'⟩:=front hs
     exact hN I Γ
    ·rename_i t' h' hop
     obtain⟨N,hN⟩:=opFull_ok Gd F X C hop
     obtain⟨M,hM⟩:=ih he
     refine⟨N+M,fun s' t2 h2 hm {fn defers kind callers U0 ρ cs g w l k} hb hs I Γ=>?_⟩
     cases List.mem_singleton.1 hm
     obtain⟨l',rfl,hs'⟩:=front hs
     refine Walk.trans (fun g' w' nx=>?_) (hN I Γ)
     obtain⟨ρ',a1,a2,a3,a4,a5⟩:=nx
     refine(hM (i::s) t' h' (List.mem_singleton.2 rfl) ?_ hs' a4 a5).weaken fun g2 w2 x=>ARNext.grow a1 a2 a3 x
     intro j hj
     rcases List.mem_cons.1 hj with rfl|hj
     ·exact hi
     ·exact hb j hj
   ·rename_i hn1 hn2
    split at he
    ·rename_i L' hst
     obtain⟨_,N,hN⟩:=stepOne_ok Gd F X C hops hst
     obtain⟨M,hM⟩:=ih he
     refine⟨N+M,fun s' t2 h2 hm {fn defers kind callers U0 ρ cs g w l k} hb hs I Γ=>?_⟩
     cases List.mem_singleton.1 hm
     cases l with
     |nil=>exact absurd hs hn1
     |cons i l=>
      obtain⟨hi1,hi2⟩:=readyIn_mem hs.1
      have I':CIds K U0 ⟨⟨fn,nt,t,.inRegion ops (i::l)::k,defers,.run,kind⟩,callers,h⟩:=I
      refine Walk.trans (fun g' w' fk=>?_) (hN i hs.1 hi1 hi2 I'.ids (I'.lax rfl (fun n x=>.inl x) fun n x1 x2=>by simp[bare]at x2) Γ)
      obtain⟨s',t',h',b1,b2,ρ',b3,b4,b5,b6⟩:=fk
      refine(hM s' t' h' b1 (fun j hj=>?_) (hs.2.congr b2) ⟨I'.ids,b5⟩ b6).weaken fun g2 w2 x=>ARNext.before b3 b4 x
      rcases List.mem_cons.1 ((b2 j).2 hj)with rfl|hj
      ·exact hi1
      ·exact hb j hj
    ·cases he
  ·rename_i h0 hn
   split at he
   ·rename_i L' hst
    obtain⟨_,N,hN⟩:=stepLvl_ok Gd F X C hops hst
    obtain⟨M,hM⟩:=ih he
    refine⟨N+M,fun s' t2 h2 hm {fn defers kind callers U0 ρ cs g w l k} hb hs I Γ=>?_⟩
    obtain⟨c1,c2⟩:=hN s' t2 h2 hm
    cases l with
    |nil=>exact absurd hs c1
    |cons i l=>
     obtain⟨hi1,hi2⟩:=readyIn_mem hs.1
     obtain⟨I0,I⟩:=I
     refine Walk.trans (fun g' w' fk=>?_) (c2 i hs.1 I0 I Γ)
     obtain⟨s',t',h',b1,b2,ρ',b3,b4,b5,b6⟩:=fk
     refine(hM s' t' h' b1 (fun j hj=>?_) (hs.2.congr b2) ⟨I0,b5⟩ b6).weaken fun g2 w2 x=>ARNext.before b3 b4 x
     rcases List.mem_cons.1 ((b2 j).2 hj)with rfl|hj
     ·exact hi1
     ·exact hb j hj
   ·cases he
  ·cases he
theorem draw_step(F:K.Facts){tmps:TT}{h:AH}{id:Nat}{fn:FuncId}{defers:List AD}{kind:CallKind}{callers:List AFrame}{ρ:Env}{cs:List Frame}{g:Goroutine}{w:World}{k:List Item}
 (Γ:Gam K ρ ⟨⟨fn,nt,tmps,.code (.region id ops true)::k,defers,.run,kind⟩,callers,h⟩ cs g w):
  Walk K.P main (DK K) (fun g' w'=>∃t,Keeps K.own w w'∧Gam K ρ ⟨⟨fn,nt,tmps,.inRegion ops (Region.schedule true ops t)::k,defers,.run,kind⟩,callers,h⟩ cs g' w') 1 g w:=by
 refine Walk.one Γ.running fun d=>?_
 obtain⟨R,tm,frs,h1,h2,h3,hc,rfl⟩:=gam_run.1 (Γ.drawn d)
 obtain⟨d',t,e⟩:=stR_drawn (main:=main) (ops:=ops) (b:=bB ρ fn kind) (a:=aB ρ kind tm defers) (k:=k) (cs:=frs++cs) (w:=drawnAt w d) (id:=id) F.mixed
 rw[e]
 exact⟨⟨⟨fun _ _=>rfl,Nat.le_refl _,rfl,rfl,rfl⟩,fun e he=>(by simp at he),fun _ _ _ _ x=>x⟩,t,⟨fun _ _=>rfl,Nat.le_refl _,rfl,rfl,rfl⟩,gam_run.2 ⟨R.at rfl,tm,frs,h1,h2,h3,hc,rfl⟩⟩
theorem drawnOld_ok(Gd:K.Good)(F:K.Facts){ext:Ext}(X:ExtOk K ext){call:FuncId->List AV->AH->M (AE×AH)}(C:CallOk K main call){tmps:TT}{h:AH}{r:AR}{id:Nat}(he:drawnOld K.P K.O ext call nt ops tmps h=.ok r):
  ∃N,∀{fn defers kind callers U ρ cs g w k},CIds K U ⟨⟨fn,nt,tmps,.code (.region id ops true)::k,defers,.run,kind⟩,callers,h⟩->Gam K ρ ⟨⟨fn,nt,tmps,.code (.region id ops true)::k,defers,.run,kind⟩,callers,h⟩ cs g w->
   Walk K.P main (DK K) (ARNext K U ρ cs w h fn nt k defers kind callers r) N g w:=by
 unfold drawnOld at he
 split at he
 ·rename_i hops
  obtain⟨N,hN⟩:=runLvls_ok Gd F X C hops he
  refine⟨1+N,fun{fn defers kind callers U ρ cs g w k} I Γ=>?_⟩
  have hs:=draw_step (main:=main) F Γ
  refine Walk.trans (fun g' w' ⟨t,kp,Γ'⟩=>?_) hs
  refine(hN [] tmps h (List.mem_singleton.2 rfl) (fun j hj=>by cases hj) (schedule_sched ops t) (U0:=U) ⟨⟨I.cur.tmps,I.cur.defers,trivial⟩,I.callers,I.ids⟩ Γ').weaken fun g2 w2 x=>ARNext.before (Agree.refl _ _) kp x
 ·cases he
end
section
variable {K:Ctx}{main:Bool}{nt:Nat}{ops:Array Oper}
theorem gam_tt{ρ:Env}{fn:FuncId}{t t':TT}{todo:List Item}{defers:List AD}{mode:AMode}{kind:CallKind}{callers:List AFrame}{h:AH}{cs:List Frame}{g:Goroutine}{w:World}(e:∀n,t'.get n=t.get n)
 (Γ:Gam K ρ ⟨⟨fn,nt,t',todo,defers,mode,kind⟩,callers,h⟩ cs g w):Gam K ρ ⟨⟨fn,nt,t,todo,defers,mode,kind⟩,callers,h⟩ cs g w:=by
 obtain⟨R,fr,frs,⟨tm,td,is,rfl⟩,hc,rfl⟩:=Γ
 exact⟨R,_,frs,⟨tm,td,⟨⟨is.tmps.size,is.tmps.le,fun n hn=>by rw[is.tmps.get n hn,e],fun n hn=>by rw[<-e];exact is.tmps.out n hn⟩,is.kind,is.todo,is.fn⟩,rfl⟩,hc,rfl⟩
theorem cids_tt{U:Nat->Prop}{fn:FuncId}{t t':TT}{todo:List Item}{defers:List AD}{mode:AMode}{kind:CallKind}{callers:List AFrame}{h:AH}(e:∀n,t'.get n=t.get n)
 (I:CIds K U ⟨⟨fn,nt,t',todo,defers,mode,kind⟩,callers,h⟩):CIds K U ⟨⟨fn,nt,t,todo,defers,mode,kind⟩,callers,h⟩:=
 ⟨⟨fun n=>by have:=I.cur.tmps n;rw[e]at this;exact this,I.cur.defers,I.cur.mode⟩,I.callers,I.ids⟩
theorem gam_nt{ρ:Env}{fn:FuncId}{t:TT}{todo:List Item}{defers:List AD}{mode:AMode}{kind:CallKind}{callers:List AFrame}{h:AH}{cs:List Frame}{g:Goroutine}{w:World}(Γ:Gam K ρ ⟨⟨fn,nt,t,todo,defers,mode,kind⟩,callers,h⟩ cs g w):nt≤60000:=by
 obtain⟨R,fr,frs,⟨tm,td,is,rfl⟩,hc,rfl⟩:=Γ
 exact is.tmps.le
def PendPost(K:Ctx)(nt:Nat)(ops:Array Oper)(U:Nat->Prop)(s:List Nat)(t:TT)(h:AH)(ρ:Env)(cs:List Frame)(w:World)(fn:FuncId)(k:List Item)(defers:List AD)(kind:CallKind)(callers:List AFrame)(g':Goroutine)(w':World):Prop:=
 ∃r' tr' l' ρ',Near ops nt s r' t tr'∧Sched ops r' l'∧Agree U ρ ρ'∧Keeps K.own w w'∧CIds K U ⟨⟨fn,nt,tr',.inRegion ops l'::k,defers,.run,kind⟩,callers,bare h⟩∧Gam K ρ' ⟨⟨fn,nt,tr',.inRegion ops l'::k,defers,.run,kind⟩,callers,h⟩ cs g' w'∧
  (l'=[]∨∃i l'',l'=i::l''∧i∉s)
theorem pend(Gd:K.Good)(F:K.Facts){ext:Ext}(X:ExtOk K ext){call:FuncId->List AV->AH->M (AE×AH)}(C:CallOk K main call)(hok:regionOk ops (infosOf ops)=true){s:List Nat}{m:Nat}{t:TT}{h:AH}(hc:Cons s m)
 (hq:holdsQ K.P K.O ext nt ops (remM (infosOf ops) m) t (bare h) (infosOf ops)=true){U:Nat->Prop}{cs:List Frame}{fn:FuncId}{k:List Item}{defers:List AD}{kind:CallKind}{callers:List AFrame}:
  ∀{l r:List Nat} {tr:TT} {ρ:Env} {g:Goroutine} {w:World},Near ops nt s r t tr->Sched ops r l->CIds K U ⟨⟨fn,nt,tr,.inRegion ops l::k,defers,.run,kind⟩,callers,bare h⟩->
   Gam K ρ ⟨⟨fn,nt,tr,.inRegion ops l::k,defers,.run,kind⟩,callers,h⟩ cs g w->Walk K.P main (DK K) (PendPost K nt ops U s t h ρ cs w fn k defers kind callers) 0 g w
 |[],r,tr,ρ,g,w,N,sc,I,Γ=>Walk.stop ⟨r,tr,[],ρ,N,sc,Agree.refl _ _,Keeps.refl _ _,I,Γ,.inl rfl⟩
 |i::l,r,tr,ρ,g,w,N,sc,I,Γ=>by
  by_cases hi:i∈s
  ·obtain⟨hir,hsc⟩:=sc
   obtain⟨_,o,ho,_⟩:=ready_iff.1 hir
   obtain⟨o',ho',hqo⟩:=N.quiet i hi (readyIn_mem hir).2
   rw[ho]at ho';cases ho'
   obtain⟨v,hv,hd⟩:=holdsQ_ok hq _ (mem_infos.2 ⟨i,o,ho,rfl⟩) hqo (N.rem hc hi (readyIn_mem hir).2)
   have al:=N.alike hok ho hir
   have hop:opFull K.P K.O ext call nt ops i tr (bare h)=.ok (.on (putA nt tr o.dst v) (bare h)):=opFull_quiet ho hqo (by
    rcases hv with⟨a,b⟩|⟨a,h',b⟩
    ·exact .inl ⟨by rw[al.wanted];exact a,b⟩
    ·exact .inr ⟨by rw[al.wanted];exact a,h',by rw[op?_congr al.eval];exact b⟩)
   obtain⟨M,hM⟩:=opFull_ok Gd F X C hop
   refine(Walk.trans (m:=0) (fun g' w' nx=>?_) (hM I (Γ.hp rfl))).any
   obtain⟨ρ',a1,a2,a3,a4,a5⟩:=nx
   have I':=a4.congr (U':=U) fun n=>(plus_same U _ n).symm
   refine(pend Gd F X C hok hc hq (N.drawn (gam_nt Γ) ho hi hir hd) hsc I' (a5.hp rfl)).weaken fun g2 w2 p=>?_
   obtain⟨r',tr',l',ρ2,b1,b2,b3,b4,b5⟩:=p
   exact⟨r',tr',l',ρ2,b1,b2,a1.trans b3 (fun _ x=>x),a2.trans b4,b5⟩
  ·exact Walk.stop ⟨r,tr,i::l,ρ,N,sc,Agree.refl _ _,Keeps.refl _ _,I,Γ,.inr ⟨i,l,rfl,hi⟩⟩
def GoodM(ops:Array Oper)(L:LvlM):Prop:=∀e∈L,Cons e.1 e.2.1∧Topo ops e.1
theorem putLvlM_ok{s:List Nat}{m:Nat}{t:TT}{h:AH}:∀{L L':LvlM},putLvlM s m t h L=.ok L'->(∀e∈L,e∈L')∧(GoodM ops L->Cons s m->Topo ops s->GoodM ops L')∧∃s' h',(s',m,t,h')∈L'∧h'.hp=h.hp
 |[],L',he=>by
  simp only[putLvlM]at he
  cases he
  refine⟨(fun e x=>by cases x),fun _ a b e he=>?_,s,h,List.mem_singleton.2 rfl,rfl⟩
  cases List.mem_singleton.1 he
  exact⟨a,b⟩
 |(s',m',t',h')::L,L',he=>by
  simp only[putLvlM]at he
  split at he
  ·rename_i hs
   obtain rfl:=Nat.eq_of_beq_eq_true hs
   split at he
   ·rename_i hq
    cases he
    simp only[Bool.and_eq_true]at hq
    obtain rfl:=TT.eqb_eq hq.1
    exact⟨fun e x=>x,fun a _ _=>a,s',h',List.mem_cons_self ..,(hpEqb_eq hq.2).symm⟩
   ·cases he
  ·split at he
   ·rename_i l hl
    cases he
    obtain⟨a,ag,s2,h2,b,c⟩:=putLvlM_ok (L:=L) hl
    refine⟨fun e x=>?_,fun g1 g2 g3 e x=>?_,s2,h2,List.mem_cons_of_mem _ b,c⟩
    ·rcases List.mem_cons.1 x with rfl|x
     ·exact List.mem_cons_self ..
     ·exact List.mem_cons_of_mem _ (a e x)
    ·rcases List.mem_cons.1 x with rfl|x
     ·exact g1 _ (List.mem_cons_self ..)
     ·exact ag (fun e he=>g1 e (List.mem_cons_of_mem _ he)) g2 g3 e x
   ·cases he
theorem oneM_ok{P:Program}{O:Orc}{ext:Ext}{call:FuncId->List AV->AH->M (AE×AH)}{infos:List Info}{s:List Nat}{m:Nat}{t:TT}{h:AH}{i:Nat}{s2:List Nat}{m2:Nat}{t2:TT}{h1:AH}
 (he:oneM P O ext call nt ops infos s m t h i=.ok (s2,m2,t2,h1)):∃t1,opFull P O ext call nt ops i t h=.ok (.on t1 h1)∧soakM P O ext nt ops (bare h1) infos (i::s) (addM m i) t1=.ok (s2,m2,t2):=by
 unfold oneM at he
 split at he
 ·cases he
 ·cases he
 ·rename_i t1 h1' hop
  split at he
  ·cases he
  ·rename_i hs
   cases he
   exact⟨t1,hop,hs⟩
def MadeM(P:Program)(O:Orc)(ext:Ext)(call:FuncId->List AV->AH->M (AE×AH))(nt:Nat)(ops:Array Oper)(h0:AH)(s:List Nat)(m:Nat)(t:TT)(h:AH)(i:Nat)(L':LvlM):Prop:=
 ∃t1 h1 s2 m2 t2 s' h',opFull P O ext call nt ops i t (rangeFor h0 i h)=.ok (.on t1 h1)∧h1.nb≤h1.lim∧soakM P O ext nt ops (bare h1) (infosOf ops) (i::s) (addM m i) t1=.ok (s2,m2,t2)∧(s',m2,t2,h')∈L'∧h'.hp=h1.hp
theorem stepOneM_ok{P:Program}{O:Orc}{ext:Ext}{call:FuncId->List AV->AH->M (AE×AH)}(hnt:nt≤60000){h0:AH}{s:List Nat}{m:Nat}{t:TT}{h:AH}(hc:Cons s m)(tp:Topo ops s):
  ∀{js:List Info},(∀x∈js,x∈infosOf ops∧canM m x=true)->∀{L L':LvlM},stepOneM P O ext call nt ops (infosOf ops) h0 s m t h js L=.ok L'->(∀e∈L,e∈L')∧(GoodM ops L->GoodM ops L')∧∀x∈js,MadeM P O ext call nt ops h0 s m t h x.1 L'
 |[],_,L,L',he=>by
  simp only[stepOneM]at he
  cases he
  exact⟨fun e x=>x,fun g=>g,fun x hx=>by cases hx⟩
 |x::js,hj,L,L',he=>by
  simp only[stepOneM]at he
  split at he
  ·cases he
  ·rename_i s2 m2 t2 h1 hone
   split at he
   ·rename_i hlim
    split at he
    ·rename_i L1 hput
     obtain⟨t1,hop,hso⟩:=oneM_ok hone
     obtain⟨hx,hcan⟩:=hj x (List.mem_cons_self ..)
     obtain⟨i,o,ho,rfl⟩:=mem_infos.1 hx
     have hr:=(can_iff hc ho).1 hcan
     have S:=soakM_ok hnt (fun _ x=>x) (hc.add (i:=i)) (show Topo ops (i::s)from⟨hr,tp⟩) hso
     obtain⟨a1,a2,s',h',a3,a4⟩:=putLvlM_ok (ops:=ops) hput
     obtain⟨b1,b2,b3⟩:=stepOneM_ok hnt hc tp (fun y hy=>hj y (List.mem_cons_of_mem _ hy)) he
     refine⟨fun e x=>b1 e (a1 e x),fun g=>b2 (a2 g S.cons S.topo),fun y hy=>?_⟩
     rcases List.mem_cons.1 hy with rfl|hy
     ·exact⟨t1,h1,s2,m2,t2,s',h',hop,hlim,hso,b1 _ a3,a4⟩
     ·exact b3 y hy
    ·cases he
   ·cases he
theorem stepLvlM_ok{P:Program}{O:Orc}{ext:Ext}{call:FuncId->List AV->AH->M (AE×AH)}(hnt:nt≤60000){h0:AH}:
  ∀{A:LvlM},GoodM ops A->∀{L L':LvlM},stepLvlM P O ext call nt ops (infosOf ops) h0 A L=.ok L'->(∀e∈L,e∈L')∧(GoodM ops L->GoodM ops L')∧
   ∀s m t h,(s,m,t,h)∈A->(infosOf ops).filter (canM m)≠[]∧∀x∈(infosOf ops).filter (canM m),MadeM P O ext call nt ops h0 s m t h x.1 L'
 |[],_,L,L',he=>by
  simp only[stepLvlM]at he
  cases he
  exact⟨fun e x=>x,fun g=>g,fun _ _ _ _ x=>by cases x⟩
 |(s,m,t,h)::A,gA,L,L',he=>by
  simp only[stepLvlM]at he
  split at he
  ·cases he
  ·rename_i hne
   split at he
   ·rename_i L1 h1
    obtain⟨hc,tp⟩:=gA _ (List.mem_cons_self ..)
    obtain⟨a1,a2,a3⟩:=stepOneM_ok hnt hc tp (fun x hx=>by
     obtain⟨p,q⟩:=List.mem_filter.1 hx
     exact⟨p,q⟩) h1
    obtain⟨b1,b2,b3⟩:=stepLvlM_ok hnt (fun e he=>gA e (List.mem_cons_of_mem _ he)) he
    refine⟨fun e x=>b1 e (a1 e x),fun g=>b2 (a2 g),fun s' m' t' h' hm=>?_⟩
    rcases List.mem_cons.1 hm with hq|hm
    ·cases hq
     refine⟨hne,fun x hx=>?_⟩
     obtain⟨t1,h1,s2,m2,t2,s',h',c1,c2,c3,c4,c5⟩:=a3 x hx
     exact⟨t1,h1,s2,m2,t2,s',h',c1,c2,c3,b1 _ c4,c5⟩
    ·exact b3 s' m' t' h' hm
   ·cases he
theorem Near.head{s r:List Nat}{m:Nat}{t tr:TT}(N:Near ops nt s r t tr)(hc:Cons s m){i:Nat}(hi:i∈readyIn ops r)(hn:i∉s):∃o,ops[i]?=some o∧i∈readyIn ops s∧(i,o,predMask o.after.toList,quietOp o)∈(infosOf ops).filter (canM m):=by
 obtain⟨_,o,ho,hp⟩:=ready_iff.1 hi
 have hr:i∈readyIn ops s:=ready_iff.2 ⟨hn,o,ho,fun e he hb=>N.sub _ (hp e he hb)⟩
 exact⟨o,ho,hr,List.mem_filter.2 ⟨mem_infos.2 ⟨i,o,ho,rfl⟩,(can_iff hc ho).2 hr⟩⟩
theorem fork_step(Gd:K.Good)(F:K.Facts){ext:Ext}(X:ExtOk K ext){call:FuncId->List AV->AH->M (AE×AH)}(C:CallOk K main call)(hops:ops.size≤65536)(hok:regionOk ops (infosOf ops)=true){h0:AH}{s r:List Nat}{m:Nat}{t tr:TT}{h:AH}{i:Nat}{L':LvlM}
 (hc:Cons s m)(tp:Topo ops s)(gL:GoodM ops L')(Md:MadeM K.P K.O ext call nt ops h0 s m t h i L')(N:Near ops nt s r t tr)(hi:i∈readyIn ops r)(hn:i∉s){U0:Nat->Prop}{ρ:Env}{cs:List Frame}{g:Goroutine}{w:World}{fn:FuncId}{l:List Nat}{k:List Item}{defers:List AD}{kind:CallKind}{callers:List AFrame}
 (I0:Ids K U0 h0)(I:CIds K (Us U0 h0 s) ⟨⟨fn,nt,tr,.inRegion ops (i::l)::k,defers,.run,kind⟩,callers,bare h⟩)(Γ:Gam K ρ ⟨⟨fn,nt,tr,.inRegion ops (i::l)::k,defers,.run,kind⟩,callers,h⟩ cs g w):
  Walk K.P main (DK K) (fun g' w'=>∃s' m' t' h' tr' ρ',(s',m',t',h')∈L'∧Near ops nt s' (i::r) t' tr'∧Agree U0 ρ ρ'∧Keeps K.own w w'∧CIds K (Us U0 h0 s') ⟨⟨fn,nt,tr',.inRegion ops l::k,defers,.run,kind⟩,callers,bare h'⟩∧
   Gam K ρ' ⟨⟨fn,nt,tr',.inRegion ops l::k,defers,.run,kind⟩,callers,h'⟩ cs g' w') 0 g w:=by
 obtain⟨t1,h1,s2,m2,t2,s',h',c1,c2,c3,c4,c5⟩:=Md
 obtain⟨o,ho,hr,_⟩:=N.head hc hi hn
 have hnt:=gam_nt Γ
 obtain⟨v,rfl,hop⟩:=opFull_alike ho (N.alike hok ho hi) c1
 have S:=soakM_ok hnt (fun _ x=>x) (hc.add (i:=i)) (show Topo ops (i::s)from⟨hr,tp⟩) c3
 have hi1:=(readyIn_mem hr).1
 obtain⟨M,hM⟩:=opFull_ok Gd F X C hop
 have I':CIds K (Us U0 h0 s) ⟨⟨fn,nt,tr,.inRegion ops (i::l)::k,defers,.run,kind⟩,callers,rangeFor h0 i h⟩:=
  I.lax rfl (fun n x=>x) fun n x1 x2=>Us_fresh I0 (by omega) hn x1 x2
 have mem:∀j,j∈s2↔j∈s':=fun j=>((S.cons j).symm).trans ((gL _ c4).1 j)
 refine((hM I' (Γ.hp rfl)).weaken fun g' w' nx=>?_).any
 obtain⟨ρ',a1,a2,a3,a4,a5⟩:=nx
 have NN:=N.next hnt ho hn hi S
 have NN':Near ops nt s' (i::r) t2 (putA nt tr o.dst v):=⟨fun j hj=>(mem j).1 (NN.sub j hj),fun j hj hx=>NN.quiet j ((mem j).2 hj) hx,fun n hlt hx=>NN.same n hlt fun⟨j,oj,x1,x2⟩=>hx ⟨j,oj,(mem j).1 x1,x2⟩,NN.out,NN.down⟩
 refine⟨s',m2,t2,h',_,ρ',c4,NN',a1.mono (fun n x=>.inl x),a2,?_,a5.hp c5⟩
 refine a4.lax c5 (fun n x=>?_) fun n x1 x2=>by simp[bare]at x2
 rcases x with(x|⟨q,q1,q2⟩)|x
 ·exact .inl x
 ·exact .inr ⟨q,(mem q).1 (S.sub q (List.mem_cons_of_mem _ q1)),q2⟩
 ·have hl:h1.lim=(rangeFor h0 i h).lim:=a3.lim
  refine .inr ⟨i,(mem i).1 (S.sub i (List.mem_cons_self ..)),x.1,?_⟩
  have hl2:h1.lim=h0.nb+(i+1)*stride h0:=hl
  have hx:=x.2
  dsimp only at hx
  omega
theorem runLvlsM_ok(Gd:K.Good)(F:K.Facts){ext:Ext}(X:ExtOk K ext){call:FuncId->List AV->AH->M (AE×AH)}(C:CallOk K main call)(hops:ops.size≤65536)(hok:regionOk ops (infosOf ops)=true)(hnt:nt≤60000):
  ∀{n:Nat} {fork:Option AH} {L:LvlM} {R:AR},runLvlsM K.P K.O ext call nt ops (infosOf ops) n fork L=.ok R->GoodM ops L->
   ∀s m t h,(s,m,t,h)∈L->∀{fn defers kind callers U0 ρ cs g w l k r tr},Near ops nt s r t tr->Sched ops r l->
    LvIds K U0 s ⟨fn,nt,tr,.inRegion ops l::k,defers,.run,kind⟩ callers h fork->Gam K ρ ⟨⟨fn,nt,tr,.inRegion ops l::k,defers,.run,kind⟩,callers,h⟩ cs g w->
    Walk K.P main (DK K) (ARNext K U0 ρ cs w (fork.getD h) fn nt k defers kind callers R) 0 g w:=by
 intro n
 induction n with
 |zero=>intro fork L R he;simp only[runLvlsM]at he;cases he
 |succ n ih=>
  intro fork L R he gL
  simp only[runLvlsM]at he
  split at he
  ·cases he
  rename_i hset
  rw[List.all_eq_true]at hset
  have hold:∀s m t h,(s,m,t,h)∈L->holdsQ K.P K.O ext nt ops (remM (infosOf ops) m) t (bare h) (infosOf ops)=true:=fun s m t h hm=>by
   have:=hset _ hm
   unfold settled at this
   rw[Bool.and_eq_true]at this
   exact this.2
  split at he
  ·rename_i s m t h h0
   intro s' m' t' h' hm fn defers kind callers U0 ρ cs g w l k r tr N sc I Γ
   cases List.mem_singleton.1 hm
   obtain⟨I0,I⟩:=I
   obtain⟨hc,tp⟩:=gL _ (List.mem_singleton.2 rfl)
   have hst:ops.size*stride h0≤h0.lim-h0.nb:=Nat.le_trans (Nat.mul_le_mul_right _ hops) (Nat.mul_div_le _ _)
   have hI:CIds K (plus U0 h0.nb (rangeBack h0 ops.size h).nb) ⟨⟨fn,nt,tr,.inRegion ops l::k,defers,.run,kind⟩,callers,rangeBack h0 ops.size h⟩:=by
    refine I.lax rfl (fun m x=>?_) fun m x1 x2 x3=>?_
    ·rcases x with x|⟨j,j1,j2,j3⟩
     ·exact .inl x
     ·refine .inr ⟨by omega,Nat.lt_of_lt_of_le j3 (Nat.add_le_add_left (Nat.mul_le_mul_right _ (tp.lt j j1)) _)⟩
    ·have hx1:h0.nb+ops.size*stride h0≤m:=x1
     rcases x3 with x|x
     ·exact I0.fresh m (by omega) x2 x
     ·have:=x.2;exact absurd this (Nat.not_lt.2 x1)
   have gr:Grows K U0 h0 (rangeBack h0 ops.size h):=⟨Nat.le_add_right _ _,rfl,hI.ids⟩
   have:=ih he (fun e he=>by cases List.mem_singleton.1 he;exact⟨hc,tp⟩) s m t _ (List.mem_singleton.2 rfl) N sc hI (Γ.hp rfl)
   exact this.weaken fun g' w' x=>ARNext.grow (Agree.refl _ _) (Keeps.refl _ _) gr x
  ·rename_i s m t h
   intro s' m' t' h' hm fn defers kind callers U0 ρ cs g w l k r tr N sc I Γ
   cases List.mem_singleton.1 hm
   obtain⟨hc,tp⟩:=gL _ (List.mem_singleton.2 rfl)
   have I1:CIds K U0 ⟨⟨fn,nt,tr,.inRegion ops l::k,defers,.run,kind⟩,callers,h⟩:=I
   have Wp:=pend Gd F X C hok hc (hold _ _ _ _ (List.mem_singleton.2 rfl)) N sc (I1.lax (h':=bare h) rfl (fun n x=>x) fun n x1 x2=>by simp[bare]at x2) Γ
   refine(Walk.trans (m:=0) (fun g1 w1 p=>?_) Wp).any
   obtain⟨r1,tr1,l1,ρ1,N1,sc1,A1,kp1,Ib,Γ1,hl1⟩:=p
   have J1:CIds K U0 ⟨⟨fn,nt,tr1,.inRegion ops l1::k,defers,.run,kind⟩,callers,h⟩:=⟨Ib.cur,Ib.callers,I1.ids⟩
   split at he
   ·rename_i hr
    cases he
    rcases hl1 with rfl|⟨i,l2,rfl,hi⟩
    ·obtain⟨_,_,e⟩:=N1.over tp sc1
     have L1:=leads_to (K:=K) (main:=main) (fn:=fn) (nt:=nt) (tmps:=t) (todo:=.inRegion ops []::k) (todo':=k) (defers:=defers) (kind:=kind) (callers:=callers) (h:=h) (fun ρ tm w cs R T b ds=>stR_region_end)
     exact((L1 U0 ρ1 cs g1 w1 (cids_tt e J1) (gam_tt e Γ1)).weaken fun g2 w2 x=>ARNext.before A1 kp1 (r:=.on t h) x).any
    ·obtain⟨o,_,_,hx⟩:=N1.head hc sc1.1 hi
     rw[hr]at hx;cases hx
   ·rename_i x hr
    split at he
    ·cases he
    ·rename_i e hone
     obtain⟨s2,m2,t2,h2⟩:=e
     obtain⟨t1,hop,hso⟩:=oneM_ok hone
     rcases hl1 with rfl|⟨i,l2,rfl,hi⟩
     ·obtain⟨_,e,_⟩:=N1.over tp sc1
      have hx:x∈(infosOf ops).filter (canM m):=by rw[hr];exact List.mem_singleton.2 rfl
      obtain⟨p,q⟩:=List.mem_filter.1 hx
      obtain⟨i,o,ho,rfl⟩:=mem_infos.1 p
      have:=(can_iff hc ho).1 q
      rw[e]at this;cases this
     ·obtain⟨o,ho,hrs,hx⟩:=N1.head hc sc1.1 hi
      rw[hr]at hx
      obtain rfl:=List.mem_singleton.1 hx
      dsimp only at hop hso
      obtain⟨v,rfl,hop'⟩:=opFull_alike ho (N1.alike hok ho sc1.1) hop
      have S:=soakM_ok hnt (fun _ x=>x) (hc.add (i:=i)) (show Topo ops (i::s)from⟨hrs,tp⟩) hso
      obtain⟨M,hM⟩:=opFull_ok Gd F X C hop'
      refine(Walk.trans (m:=0) (fun g2 w2 nx=>?_) (hM J1 Γ1)).any
      obtain⟨ρ2,a1,a2,a3,a4,a5⟩:=nx
      refine(ih he (fun e he=>by cases List.mem_singleton.1 he;exact⟨S.cons,S.topo⟩) s2 m2 t2 h2 (List.mem_singleton.2 rfl) (N1.next hnt ho hi sc1.1 S) sc1.2 a4 a5).weaken fun g3 w3 y=>?_
      exact ARNext.before A1 kp1 (ARNext.grow a1 a2 a3 y)
   ·rename_i hn1 hn2
    split at he
    ·rename_i L' hst
     obtain⟨_,g2,hmade⟩:=stepOneM_ok hnt hc tp (fun x hx=>by
      obtain⟨p,q⟩:=List.mem_filter.1 hx
      exact⟨p,q⟩) hst
     have gL':GoodM ops L':=g2 fun e he=>by cases he
     rcases hl1 with rfl|⟨i,l2,rfl,hi⟩
     ·obtain⟨_,e,_⟩:=N1.over tp sc1
      refine absurd (List.eq_nil_iff_forall_not_mem.2 fun x hx=>?_) hn1
      obtain⟨p,q⟩:=List.mem_filter.1 hx
      obtain⟨i,o,ho,rfl⟩:=mem_infos.1 p
      have:=(can_iff hc ho).1 q
      rw[e]at this;cases this
     ·obtain⟨o,ho,hrs,hx⟩:=N1.head hc sc1.1 hi
      have Md:=hmade _ hx
      refine(Walk.trans (m:=0) (fun g2 w2 nx=>?_) (fork_step Gd F X C hops hok hc tp gL' Md N1 sc1.1 hi J1.ids (Ib.lax rfl (fun n x=>.inl x) fun n x1 x2=>by simp[bare]at x2) Γ1)).any
      obtain⟨s3,m3,t3,h3,tr3,ρ3,b1,b2,b3,b4,b5,b6⟩:=nx
      refine(ih he gL' s3 m3 t3 h3 b1 b2 sc1.2 ⟨J1.ids,b5⟩ b6).weaken fun g3 w3 y=>?_
      exact ARNext.before A1 kp1 (ARNext.before b3 b4 y)
    ·cases he
  ·rename_i h0 hn
   split at he
   ·rename_i L' hst
    obtain⟨_,g2,hmade⟩:=stepLvlM_ok hnt gL hst
    have gL':GoodM ops L':=g2 fun e he=>by cases he
    intro s m t h hm fn defers kind callers U0 ρ cs g w l k r tr N sc I Γ
    obtain⟨hc,tp⟩:=gL _ hm
    obtain⟨hne,hmade⟩:=hmade s m t h hm
    obtain⟨I0,I⟩:=I
    have Wp:=pend Gd F X C hok hc (hold _ _ _ _ hm) N sc I Γ
    refine(Walk.trans (m:=0) (fun g1 w1 p=>?_) Wp).any
    obtain⟨r1,tr1,l1,ρ1,N1,sc1,A1,kp1,Ib,Γ1,hl1⟩:=p
    rcases hl1 with rfl|⟨i,l2,rfl,hi⟩
    ·obtain⟨_,e,_⟩:=N1.over tp sc1
     refine absurd (List.eq_nil_iff_forall_not_mem.2 fun x hx=>?_) hne
     obtain⟨p,q⟩:=List.mem_filter.1 hx
     obtain⟨i,o,ho,rfl⟩:=mem_infos.1 p
     have:=(can_iff hc ho).1 q
     rw[e]at this;cases this
    ·obtain⟨o,ho,hrs,hx⟩:=N1.head hc sc1.1 hi
     have Md:=hmade _ hx
     refine(Walk.trans (m:=0) (fun g2 w2 nx=>?_) (fork_step Gd F X C hops hok hc tp gL' Md N1 sc1.1 hi I0 Ib Γ1)).any
     obtain⟨s3,m3,t3,h3,tr3,ρ3,b1,b2,b3,b4,b5,b6⟩:=nx
     refine(ih he gL' s3 m3 t3 h3 b1 b2 sc1.2 ⟨I0,b5⟩ b6).weaken fun g3 w3 y=>?_
     exact ARNext.before (A1.mono fun n x=>.inl x) kp1 (ARNext.before b3 b4 y)
   ·cases he
  ·cases he
theorem drawn_ok(Gd:K.Good)(F:K.Facts){ext:Ext}(X:ExtOk K ext){call:FuncId->List AV->AH->M (AE×AH)}(C:CallOk K main call){tmps:TT}{h:AH}{r:AR}{id:Nat}(he:drawn K.P K.O ext call nt ops tmps h=.ok r):
  ∃N,∀{fn defers kind callers U ρ cs g w k},CIds K U ⟨⟨fn,nt,tmps,.code (.region id ops true)::k,defers,.run,kind⟩,callers,h⟩->Gam K ρ ⟨⟨fn,nt,tmps,.code (.region id ops true)::k,defers,.run,kind⟩,callers,h⟩ cs g w->
   Walk K.P main (DK K) (ARNext K U ρ cs w h fn nt k defers kind callers r) N g w:=by
 unfold drawn at he
 split at he
 ·exact drawnOld_ok Gd F X C he
 ·rename_i hb
  rw[Bool.and_eq_true]at hb
  have hops:ops.size≤65536:=Nat.le_of_ble_eq_true hb.1
  split at he
  ·rename_i r' hm
   cases he
   refine⟨0,fun{fn defers kind callers U ρ cs g w k} I Γ=>?_⟩
   unfold drawnM at hm
   split at hm
   ·cases hm
   ·rename_i s m t hso
    have hnt:=gam_nt Γ
    have S:=soakM_ok hnt (fun _ x=>x) cons_nil (show Topo ops []from trivial) hso
    refine(Walk.trans (m:=0) (fun g' w' ⟨q,kp,Γ'⟩=>?_) (draw_step (main:=main) F Γ)).any
    refine(runLvlsM_ok Gd F X C hops hb.2 hnt hm (fun e he=>by cases List.mem_singleton.1 he;exact⟨S.cons,S.topo⟩) s m t h (List.mem_singleton.2 rfl) (Near.begin S) (schedule_sched ops q) (U0:=U) ⟨⟨I.cur.tmps,I.cur.defers,trivial⟩,I.callers,I.ids⟩ Γ').weaken fun g2 w2 x=>ARNext.before (Agree.refl _ _) kp x
  ·exact drawnOld_ok Gd F X C he
end
section
variable {K:Ctx}{main:Bool}{nt:Nat}{ops:Array Oper}
theorem belowM_sub{r:List Nat}(d:Down ops r):∀{l:List Info},(∀x∈l,x∈infosOf ops)->∀{m:Nat},(∀i,inM m i=true->i∈r)->∀i,inM (belowM l m) i=true->i∈r
 |[],_,m,hm,i,hi=>hm i hi
 |x::l,hl,m,hm,i,hi=>by
  have ih:=belowM_sub d (l:=l) (fun y hy=>hl y (List.mem_cons_of_mem _ hy)) hm
  simp only[belowM]at hi
  split at hi
  ·rename_i hx
   have h1:inM (belowM l m) i=true∨inM x.2.2.1 i=true:=by
    rw[inM_testBit]at hi⊢
    rw[inM_testBit]
    have e:Nat.lor (belowM l m) x.2.2.1=belowM l m ||| x.2.2.1:=rfl
    rw[e,Nat.testBit_or,Bool.or_eq_true]at hi
    exact hi
   rcases h1 with h1|h1
   ·exact ih i h1
   ·obtain⟨j,o,ho,rfl⟩:=mem_infos.1 (hl x (List.mem_cons_self ..))
    obtain⟨e,he,hb,rfl⟩:=inM_pred.1 h1
    exact d j (ih j hx) o ho e he hb
  ·exact ih i hi
theorem pend2(Gd:K.Good)(F:K.Facts){ext:Ext}(X:ExtOk K ext){call:FuncId->List AV->AH->M (AE×AH)}(C:CallOk K main call)(hok:regionOk ops (infosOf ops)=true){s:List Nat}{m:Nat}{t:TT}{h:AH}(hc:Cons s m)
 (hq:holdsQ K.P K.O ext nt ops m t (bare h) (infosOf ops)=true){U:Nat->Prop}{cs:List Frame}{fn:FuncId}{k:List Item}{defers:List AD}{kind:CallKind}{callers:List AFrame}:
  ∀{l r:List Nat} {tr:TT} {ρ:Env} {g:Goroutine} {w:World},Near ops nt s r t tr->Sched ops r l->Down ops r->CIds K U ⟨⟨fn,nt,tr,.inRegion ops l::k,defers,.run,kind⟩,callers,bare h⟩->
   Gam K ρ ⟨⟨fn,nt,tr,.inRegion ops l::k,defers,.run,kind⟩,callers,h⟩ cs g w->Walk K.P main (DK K) (fun g' w'=>∃r' tr' l' ρ',Down ops r'∧Near ops nt s r' t tr'∧Sched ops r' l'∧Agree U ρ ρ'∧Keeps K.own w w'∧CIds K U ⟨⟨fn,nt,tr',.inRegion ops l'::k,defers,.run,kind⟩,callers,bare h⟩∧Gam K ρ' ⟨⟨fn,nt,tr',.inRegion ops l'::k,defers,.run,kind⟩,callers,h⟩ cs g' w'∧
  (l'=[]∨∃i l'',l'=i::l''∧i∉s)) 0 g w
 |[],r,tr,ρ,g,w,N,sc,dn,I,Γ=>Walk.stop ⟨r,tr,[],ρ,dn,N,sc,Agree.refl _ _,Keeps.refl _ _,I,Γ,.inl rfl⟩
 |i::l,r,tr,ρ,g,w,N,sc,dn,I,Γ=>by
  by_cases hi:i∈s
  ·obtain⟨hir,hsc⟩:=sc
   obtain⟨_,o,ho,_⟩:=ready_iff.1 hir
   obtain⟨o',ho',hqo⟩:=N.quiet i hi (readyIn_mem hir).2
   rw[ho]at ho';cases ho'
   obtain⟨v,hv,hd⟩:=holdsQ_ok hq _ (mem_infos.2 ⟨i,o,ho,rfl⟩) hqo ((hc i).2 hi)
   have al:=N.alike hok ho hir
   have hop:opFull K.P K.O ext call nt ops i tr (bare h)=.ok (.on (putA nt tr o.dst v) (bare h)):=opFull_quiet ho hqo (by
    rcases hv with⟨a,b⟩|⟨a,h',b⟩
    ·exact .inl ⟨by rw[al.wanted];exact a,b⟩
    ·exact .inr ⟨by rw[al.wanted];exact a,h',by rw[op?_congr al.eval];exact b⟩)
   obtain⟨M,hM⟩:=opFull_ok Gd F X C hop
   refine(Walk.trans (m:=0) (fun g' w' nx=>?_) (hM I (Γ.hp rfl))).any
   obtain⟨ρ',a1,a2,a3,a4,a5⟩:=nx
   have I':=a4.congr (U':=U) fun n=>(plus_same U _ n).symm
   refine(pend2 Gd F X C hok hc hq (N.drawn (gam_nt Γ) ho hi hir hd) hsc (dn.cons hir) I' (a5.hp rfl)).weaken fun g2 w2 p=>?_
   obtain⟨r',tr',l',ρ2,b0,b1,b2,b3,b4,b5⟩:=p
   exact⟨r',tr',l',ρ2,b0,b1,b2,a1.trans b3 (fun _ x=>x),a2.trans b4,b5⟩
  ·exact Walk.stop ⟨r,tr,i::l,ρ,dn,N,sc,Agree.refl _ _,Keeps.refl _ _,I,Γ,.inr ⟨i,l,rfl,hi⟩⟩
theorem tailOp_ok(Gd:K.Good)(F:K.Facts){ext:Ext}(X:ExtOk K ext){call:FuncId->List AV->AH->M (AE×AH)}(C:CallOk K main call){tmps t:TT}{h:AH}{j id:Nat}(he:tailOp K.P K.O ext nt ops (infosOf ops) tmps h=some (j,t)){fn:FuncId}{defers:List AD}{kind:CallKind}{callers:List AFrame}{k:List Item}:
  Leads K main ⟨⟨fn,nt,tmps,.code (.region id ops true)::k,defers,.run,kind⟩,callers,h⟩ ⟨⟨fn,nt,t,.inRegion ops [j]::k,defers,.run,kind⟩,callers,h⟩ 0:=by
 intro U ρ cs g w I Γ
 unfold tailOp at he
 split at he
 ·rename_i x hx
  split at he
  ·cases he
  ·rename_i hb
   simp only[Bool.and_eq_true]at hb
   obtain⟨_,hb1,hb2⟩:=hb
   split at he
   ·cases he
   ·rename_i s m t' hso
    split at he
    ·rename_i hz
     simp only[Bool.and_eq_true]at hz
     obtain⟨⟨z1,z2⟩,z3⟩:=hz
     cases he
     have hnt:=gam_nt Γ
     have S:=soakM_ok hnt (fun _ x=>x) cons_nil (show Topo ops []from trivial) hso
     have hxm:x∈infosOf ops:=(List.mem_filter.1 (show x∈(infosOf ops).filter fun x=>!x.2.2.2 by rw[hx];exact List.mem_singleton.2 rfl)).1
     obtain⟨j,oj,hoj,rfl⟩:=mem_infos.1 hxm
     dsimp only at z1 z2⊢
     have hjr:j∈readyIn ops s:=(can_iff S.cons hoj).1 z1
     have hjs:j∉s:=(readyIn_mem hjr).2
     rw[List.all_eq_true]at z2
     have cover:∀i,i<ops.size->i≠j->i∈s∧inM (belowM (infosOf ops) (predMask oj.after.toList)) i=true:=by
      intro i hi hne
      have:=z2 _ (mem_infos.2 ⟨i,ops[i],Array.getElem?_eq_getElem hi,rfl⟩)
      simp only[Bool.or_eq_true,Bool.and_eq_true]at this
      rcases this with h1|⟨h1,h2⟩
      ·exact absurd (Nat.eq_of_beq_eq_true h1) hne
      ·exact⟨(S.cons i).1 h1,h2⟩
     refine(Walk.trans (m:=0) (fun g' w' ⟨q,kp,Γ'⟩=>?_) (draw_step (main:=main) F Γ)).any
     have I0:CIds K U ⟨⟨fn,nt,tmps,.inRegion ops (Region.schedule true ops q)::k,defers,.run,kind⟩,callers,bare h⟩:=
      ⟨⟨I.cur.tmps,I.cur.defers,trivial⟩,I.callers,⟨I.ids.hp,I.ids.keys,I.ids.nodup,fun n h1 h2=>(by simp[bare]at h2),I.ids.orc⟩⟩
     refine(pend2 Gd F X C hb2 S.cons z3 (Near.begin S) (schedule_sched ops q) (fun i hi=>by cases hi) I0 Γ').weaken fun g2 w2 p=>?_
     obtain⟨r',tr',l',ρ2,dn,N,sc,A2,kp2,I2,Γ2,hl⟩:=p
     rcases hl with rfl|⟨i,l2,rfl,hi⟩
     ·have:=(N.over S.topo sc).2.1
      rw[this]at hjr;cases hjr
     ·have hir:=sc.1
      have hij:i=j:=Classical.byContradiction fun hne=>hi (cover i (readyIn_mem hir).1 hne).1
      subst hij
      have hpr:∀a,inM (predMask oj.after.toList) a=true->a∈r':=by
       intro a ha
       obtain⟨e,he,hbb,rfl⟩:=inM_pred.1 ha
       obtain⟨_,o',ho',hp⟩:=ready_iff.1 hir
       rw[hoj]at ho';cases ho'
       exact hp e he hbb
      have hall:∀a,a<ops.size->a≠i->a∈r':=fun a ha hne=>belowM_sub dn (fun _ x=>x) hpr a (cover a ha hne).2
      have hl2:l2=[]:=by
       cases l2 with
       |nil=>rfl
       |cons b l3=>
        have hb:=readyIn_mem sc.2.1
        refine absurd (show b∈i::r' from ?_) hb.2
        by_cases e:b=i
        ·subst e;exact List.mem_cons_self ..
        ·exact List.mem_cons_of_mem _ (hall b hb.1 e)
      subst hl2
      have same:∀n,tr'.get n=t.get n:=fun n=>by
       rcases Nat.lt_or_ge n nt with hlt|hge
       ·refine N.same n hlt fun⟨a,o,h1,h2,h3,h4⟩=>h2 (hall a (Array.getElem?_eq_some_iff.1 h3).1 fun e=>hjs (e▸h1))
       ·exact N.out n hge
      have I3:=cids_tt same I2
      exact⟨ρ2,A2,kp.trans kp2,Grows.refl I.ids,CIds.congr (U:=U) ⟨I3.cur,I3.callers,I.ids⟩ (plus_same U _),gam_tt same Γ2⟩
    ·cases he
 ·cases he
end
section
variable {K:Ctx}{main:Bool}{U:Nat->Prop}{ρ:Env}{cs:List Frame}
variable {fn:FuncId}{nt:Nat}{tmps:TT}{todo todo':List Item}{defers:List AD}{kind:CallKind}{callers:List AFrame}{h:AH}
variable {k:List Item}
theorem exec_ok(Gd:K.Good)(F:K.Facts){ext:Ext}(X:ExtOk K ext){call:FuncId->List AV->AH->M (AE×AH)}(C:CallOk K main call){c':ACfg}(he:exec? K.P K.O ext call fn nt tmps todo defers kind callers h=.ok c'):
  ∃N,Leads K main ⟨⟨fn,nt,tmps,todo,defers,.run,kind⟩,callers,h⟩ c' N:=by
 unfold exec? at he
 split at he
 ·split at he
  ·cases he
  ·rename_i ht
   cases he;exact⟨1,leads_ret ht fun _ _ _ _ hb=>stR_end hb⟩
 ·rename_i ops is k
  split at he
  ·cases he;exact⟨1,leads_to fun _ _ _ _ _ _ _ _=>stR_region_end⟩
  ·rename_i i rest
   split at he
   ·cases he
   ·rename_i o ho
    split at he
    ·cases he
    ·rename_i hw
     cases he
     exact⟨1,leads_unwanted ho hw⟩
    ·rename_i hw
     split at he
     ·cases he
     ·rename_i n h' hop
      split at he
      ·cases he
      rename_i htag
      split at he
      ·exact⟨1,fun U ρ cs g w I Γ=>(op_step Gd F X ho hw hop htag I Γ).weaken fun g' w' post=>upon_next he ho I post⟩
      ·split at he
       ·rename_i t h'' hf
        cases he
        obtain⟨N,hN⟩:=opFull_ok Gd F X C hf
        exact⟨N,fun U ρ cs g w I Γ=>hN I Γ⟩
       ·rename_i t ch h'' hf
        cases he
        obtain⟨N,hN⟩:=opFull_ok Gd F X C hf
        exact⟨N,fun U ρ cs g w I Γ=>(hN I Γ).weaken fun g' w' x=>x _⟩
       ·cases he
 ·cases he;exact⟨1,leads_to fun _ _ _ _ _ _ _ _=>stR_inBlock⟩
 ·cases he;exact⟨1,leads_to fun _ _ _ _ _ _ _ _=>stR_inScope⟩
 ·cases he;exact⟨1,leads_to fun _ _ _ _ _ _ _ _=>stR_inLoop⟩
 ·rename_i c k
  split at he
  ·split at he
   ·cases he
   ·rename_i ht
    cases he;exact⟨1,leads_ret ht fun _ _ _ _ hb=>stR_ret hb⟩
  ·cases he;exact⟨1,leads_to fun _ _ _ _ _ _ _ _=>stR_skip⟩
  ·cases he;exact⟨1,leads_to fun _ _ _ _ _ _ _ _=>stR_label⟩
  ·cases he;exact⟨1,leads_to fun _ _ _ _ _ _ _ _=>stR_seq⟩
  ·rename_i x thn els
   split at he
   ·rename_i b hx
    split at he
    ·rename_i hb
     cases he
     refine⟨1,leads_to fun ρ tm w cs R T b ds=>?_⟩
     have:Act.eval ⟨tm,ds⟩ x=.bool true:=by rw[evalA_ev T,hx];simp only[AV.ev,bool_lit R hb]
     exact stR_cond this
    ·rename_i hb
     cases he
     refine⟨1,leads_to fun ρ tm w cs R T b ds=>?_⟩
     have:Act.eval ⟨tm,ds⟩ x=.bool false:=by rw[evalA_ev T,hx];simp only[AV.ev,bool_lit R hb]
     exact stR_cond this
    ·cases he
   ·cases he
  ·cases he;exact⟨1,leads_to fun _ _ _ _ _ _ _ _=>stR_block⟩
  ·cases he;exact⟨1,leads_to fun _ _ _ _ _ _ _ _=>stR_loop⟩
  ·cases he;exact⟨1,leads_to fun _ _ _ _ _ _ _ _=>stR_scope⟩
  ·split at he
   ·rename_i hx
    cases he
    exact⟨1,leads_to fun _ _ _ _ _ _ _ _=>stR_exit hx⟩
   ·cases he
  ·split at he
   ·rename_i hx
    cases he
    exact⟨1,leads_to fun _ _ _ _ _ _ _ _=>stR_goto hx⟩
   ·cases he
  ·rename_i id ops draw
   split at he
   ·cases he;exact⟨1,leads_to fun _ _ _ _ _ _ _ _=>stR_region⟩
   ·split at he
    ·rename_i j t hd
     cases he
     exact⟨0,tailOp_ok Gd F X C hd⟩
    ·split at he
     ·rename_i t h' hd
      cases he
      obtain⟨N,hN⟩:=drawn_ok Gd F X C (id:=id) hd
      exact⟨N,fun U ρ cs g w I Γ=>hN I Γ⟩
     ·rename_i t ch h' hd
      cases he
      obtain⟨N,hN⟩:=drawn_ok Gd F X C (id:=id) hd
      exact⟨N,fun U ρ cs g w I Γ=>(hN I Γ).weaken fun g' w' x=>x k⟩
     ·cases he
  ·cases he
 ·cases he
theorem resultsOf_ok(Gd:K.Good){w:World}{tm:Array Value}(R:Rel K ρ h w)(T:TmpR ρ nt tmps tm){E:Value->World->Prop}:∀{l:List ResultVar} {vs:List AV},resultsOf K.P K.O h tmps l=.ok vs->
  ∀{Q:List Value->World->Prop},Q (AV.evs ρ vs) w->wq K.P K.Ev E (l.mapM fun|.tmp t=>(pure (tm.getD t undef):Sem Value)|.cell a t=>do loadVar t (<-asAddr (tm.getD a undef))) Q w
 |[],vs,he,Q,hq=>by
  simp only[resultsOf]at he
  cases he
  simpa only[List.mapM_nil,wq_pure,AV.evs] using hq
 |r::l,vs,he,Q,hq=>by
  simp only[resultsOf]at he
  split at he
  ·rename_i v hv
   split at he
   ·rename_i vs' hvs
    cases he
    simp only[List.mapM_cons,wq_bind]
    have tail:wq K.P K.Ev E (l.mapM fun|.tmp t=>(pure (tm.getD t undef):Sem Value)|.cell a t=>do loadVar t (<-asAddr (tm.getD a undef))) (fun xs w=>wq K.P K.Ev E (pure (v.ev ρ::xs)) Q w) w:=
     resultsOf_ok Gd R T hvs (by rw[wq_pure];exact hq)
    cases r with
    |tmp t=>
     simp only[resultOf]at hv
     cases hv
     simp only[wq_pure]
     rw[T.getD t]
     exact tail
    |cell a t=>
     simp only[resultOf]at hv
     split at hv
     ·rename_i x hx
      simp only[wq_bind]
      rw[T.getD a,hx]
      simp only[AV.ev,Option.map_some,asAddr,wq_pure]
      exact wq_loadVar R Gd hv tail
     ·cases hv
   ·cases he
  ·cases he
theorem resultsOf_in(I:Ids K U h)(ht:tmps.In U):∀{l:List ResultVar} {vs:List AV},resultsOf K.P K.O h tmps l=.ok vs->AV.Ins U vs
 |[],vs,he=>by simp only[resultsOf]at he;cases he;trivial
 |r::l,vs,he=>by
  simp only[resultsOf]at he
  split at he
  ·rename_i v hv
   split at he
   ·rename_i vs' hvs
    cases he
    refine⟨?_,resultsOf_in I ht hvs⟩
    cases r with
    |tmp t=>simp only[resultOf]at hv;cases hv;exact ht t
    |cell a t=>
     simp only[resultOf]at hv
     split at hv
     ·exact loadVar?_in I hv
     ·cases hv
   ·cases he
  ·cases he
theorem results?_ok(Gd:K.Good){v:AV}(he:results? K.P K.O h fn tmps=.ok v):∃f,K.P.funcs[fn]?=some f∧(∀{U},Ids K U h->tmps.In U->v.In U)∧
  ∀{ρ:Env} {nt:Nat} {w:World} {tm:Array Value} {E:Value->World->Prop},Rel K ρ h w->TmpR ρ nt tmps tm->∀{Q:Value->World->Prop},Q (v.ev ρ) w->wq K.P K.Ev E (results f tm) Q w:=by
 unfold results? at he
 split at he
 ·rename_i f hf
  have run:∀{ρ:Env} {nt:Nat} {w:World} {tm:Array Value} {E:Value->World->Prop} {vs:List AV},resultsOf K.P K.O h tmps f.results.toList=.ok vs->Rel K ρ h w->TmpR ρ nt tmps tm->∀{Q:Value->World->Prop},
    Q (if hs:(AV.evs ρ vs).toArray.size=1 then(AV.evs ρ vs).toArray[0]else .tuple (AV.evs ρ vs).toArray) w->wq K.P K.Ev E (results f tm) Q w:=by
   intro ρ nt w tm E vs hvs R T Q hq
   unfold results
   rw[Array.mapM_eq_mapM_toList]
   simp only[wq_bind,wq_map,wq_pure]
   exact resultsOf_ok Gd R T hvs hq
  split at he
  ·rename_i v' hv
   cases he
   refine⟨f,hf,fun I ht=>(resultsOf_in I ht hv).1,fun{ρ nt w tm E} R T {Q} hq=>run hv R T ?_⟩
   simpa[AV.evs] using hq
  ·rename_i vs hne hv
   cases he
   refine⟨f,hf,fun I ht=>resultsOf_in I ht hv,fun{ρ nt w tm E} R T {Q} hq=>run hv R T ?_⟩
   have:¬(AV.evs ρ vs).toArray.size=1:=by
    simp only[List.size_toArray,evs_length]
    intro h1
    obtain⟨x,rfl⟩:=List.length_eq_one_iff.1 h1
    exact hne x rfl
   rw[dif_neg this]
   exact hq
  ·cases he
 ·cases he
end
section
variable {P:Program}{main:Bool}{fr:Frame}{cs:List Frame}{w w':World}{D:Deferred}{Ds:List Deferred}
theorem stepG_deferred(hm:fr.mode≠.run)(hd:fr.defers=D::Ds)(ht:(∃f c,D.target=.fn f c)∨∃b a t c,D.target=.builtin b a t c):
  stepG P main (G fr cs) w=callDeferred P {fr with defers:=Ds} cs none D w:=by
 obtain⟨fn,tmps,todo,defers,mode,kind,ro⟩:=fr
 obtain⟨target,args⟩:=D
 dsimp only at hm hd ht
 subst hd
 have h1:stepG P main (G ⟨fn,tmps,todo,⟨target,args⟩::Ds,mode,kind,ro⟩ cs) w=unwind P main ⟨fn,tmps,todo,⟨target,args⟩::Ds,mode,kind,ro⟩ cs none w:=by
  cases mode with
  |run=>exact absurd rfl hm
  |returning=>rfl
  |panicking c=>rfl
 rw[h1]
 rcases ht with⟨f,c,rfl⟩|⟨b,a,t,c,rfl⟩<;>rfl
theorem callDeferred_enter{f:FuncId}{args:Array Value}(hn:(∃f c,D.target=.fn f c)∨∃b a t c,D.target=.builtin b a t c)(hr:(invoke D.target D.args).run P w=.ok (.enter f args) w'):
  callDeferred P fr cs none D w=.go (G (Frame.enter P f args .deferred) (fr::cs)) w' (seen P fr.fn ((invoke D.target D.args).events P w #[])):=by
 rcases hn with⟨f,c,hn⟩|⟨b,a,t,c,hn⟩<;>(rw[hn]at hr;simp[callDeferred,hn,hr,GStep.after,G])
theorem callDeferred_value{v:Value}(hn:(∃f c,D.target=.fn f c)∨∃b a t c,D.target=.builtin b a t c)(hr:(invoke D.target D.args).run P w=.ok (.value v) w'):
  callDeferred P fr cs none D w=.go (G fr cs) w' (seen P fr.fn ((invoke D.target D.args).events P w #[])):=by
 rcases hn with⟨f,c,hn⟩|⟨b,a,t,c,hn⟩<;>(rw[hn]at hr;simp[callDeferred,hn,hr,GStep.after,G])
end
section
variable {K:Ctx}{main:Bool}{U:Nat->Prop}{ρ:Env}{cs:List Frame}
variable {fn:FuncId}{nt:Nat}{tmps:TT}{todo:List Item}{mode:AMode}{kind:CallKind}{callers:List AFrame}{h:AH}
theorem AD.target_ev(ρ:Env)(d:AD):(∃f c,(d.ev ρ).target=.fn f c)∨∃b a t c,(d.ev ρ).target=.builtin b a t c:=by
 obtain⟨t,a⟩:=d
 cases t with
 |fn f c=>exact .inl ⟨_,_,rfl⟩
 |builtin b a t c=>exact .inr ⟨_,_,_,_,rfl⟩
theorem mode_ev_ne(ρ:Env)(hm:mode≠.run):mode.ev ρ≠.run:=by
 cases mode with
 |run=>exact absurd rfl hm
 |returning=>exact fun x=>by cases x
 |panicking c=>exact fun x=>by cases x
theorem defer_ok(Gd:K.Good)(F:K.Facts){ext:Ext}(X:ExtOk K ext){d:AD}{ds:List AD}{c':ACfg}(hm:mode≠.run)(he:defer? K.P K.O ext fn nt tmps todo d ds mode kind callers h=.ok c'):
  Leads K main ⟨⟨fn,nt,tmps,todo,d::ds,mode,kind⟩,callers,h⟩ c' 1:=fun U ρ cs g w I Γ=>Walk.one Γ.running fun dr=>by
 obtain⟨R,fr,frs,⟨tm,td,is,rfl⟩,hc,rfl⟩:=Γ.drawn dr
 have hdin:d.In U:=I.cur.defers d (List.mem_cons_self ..)
 have step:=stepG_deferred (P:=K.P) (main:=main) (fr:=frameOf ρ ⟨fn,nt,tmps,todo,d::ds,mode,kind⟩ tm td) (cs:=frs++cs) (w:=drawnAt w dr) (D:=d.ev ρ) (Ds:=dB ρ kind (ds.map (AD.ev ρ))) (mode_ev_ne ρ hm) (by show dB ρ kind (d.ev ρ::ds.map (AD.ev ρ))=_;rw[dB_cons]) (AD.target_ev ρ d)
 rw[step]
 have hfr:({frameOf ρ ⟨fn,nt,tmps,todo,d::ds,mode,kind⟩ tm td with defers:=dB ρ kind (ds.map (AD.ev ρ))}:Frame)=frameOf ρ ⟨fn,nt,tmps,todo,ds,mode,kind⟩ tm td:=rfl
 rw[hfr]
 have hds:∀x∈ds,x.In U:=fun x hx=>I.cur.defers x (List.mem_cons_of_mem _ hx)
 have hin:(⟨fn,nt,tmps,todo,ds,mode,kind⟩:AFrame).In U:=⟨I.cur.tmps,hds,I.cur.mode⟩
 have base:∀{ρ':Env},Agree U ρ ρ'->FrRel K.P ρ' ⟨fn,nt,tmps,todo,ds,mode,kind⟩ (frameOf ρ ⟨fn,nt,tmps,todo,ds,mode,kind⟩ tm td):=fun A=>
  FrRel.agree A ⟨tm,td,⟨is.tmps,is.kind,(fun x=>absurd x hm),is.fn⟩,rfl⟩ hin
 unfold defer? at he
 split at he
 ·rename_i f args h' hi
  split at he
  ·rename_i fr' hen
   cases he
   have N:=invoke?_ok Gd F X R I.ids hdin hi
   obtain⟨run,hes⟩:=wq_run (wq_keep Gd.noWr _ (N.run (E:=fun _ _=>False) (Q:=fun nx w'=>After K U ρ (drawnAt w dr) h' (fun ρ'=>AN.is ρ' (.enter f args) nx) w') (fun nx w' x=>x) (fun v hn _=>by cases hn)))
   generalize hr:(invoke (d.target.ev ρ) (AV.evs ρ d.args).toArray).run K.P (drawnAt w dr)=r at run
   cases r with
   |halt x w'=>cases x<;>exact run.elim
   |ok nx w'=>
    obtain⟨⟨ρ',A,R',kp,is'⟩,hst⟩:=run
    have is2:nx=.enter f (AV.evs ρ' args).toArray:=is'
    subst is2
    rw[callDeferred_enter (AD.target_ev ρ d) hr]
    obtain⟨e1,e2,e3,e4,e5⟩:=enterA_ok hen (.inr rfl) N.mem (ρ:=ρ')
    refine⟨⟨kp,fun e he=>hes e (mem_seen he),hst⟩,ρ',A,(keeps_drawn _ _ _).trans kp,N.grows,⟨e2,?_,N.grows.ids⟩,R',_,frameOf ρ ⟨fn,nt,tmps,todo,ds,mode,kind⟩ tm td::frs,e1,⟨base A,callers_agree A hc I.callers⟩,rfl⟩
    intro fr hf
    rcases List.mem_cons.1 hf with rfl|hf
    ·exact hin.mono plus_sub
    ·exact(I.callers fr hf).mono plus_sub
  ·cases he
 ·rename_i v h' hi
  cases he
  have N:=invoke?_ok Gd F X R I.ids hdin hi
  obtain⟨run,hes⟩:=wq_run (wq_keep Gd.noWr _ (N.run (E:=fun _ _=>False) (Q:=fun nx w'=>After K U ρ (drawnAt w dr) h' (fun ρ'=>AN.is ρ' (.value v) nx) w') (fun nx w' x=>x) (fun v hn _=>by cases hn)))
  generalize hr:(invoke (d.target.ev ρ) (AV.evs ρ d.args).toArray).run K.P (drawnAt w dr)=r at run
  cases r with
  |halt x w'=>cases x<;>exact run.elim
  |ok nx w'=>
   obtain⟨⟨ρ',A,R',kp,is'⟩,hst⟩:=run
   have is2:nx=.value (v.ev ρ'):=is'
   subst is2
   rw[callDeferred_value (AD.target_ev ρ d) hr]
   exact⟨⟨kp,fun e he=>hes e (mem_seen he),hst⟩,ρ',A,(keeps_drawn _ _ _).trans kp,N.grows,⟨hin.mono plus_sub,fun fr hf=>(I.callers fr hf).mono plus_sub,N.grows.ids⟩,R',_,frs,base A,callers_agree A hc I.callers,rfl⟩
 ·cases he
 ·cases he
theorem stepG_back{P:Program}{fr caller:Frame}{f:Func}{v:Value}{w:World}(hm:fr.mode=.returning)(hd:fr.defers=[])(hk:fr.kind=.deferred)(hf:P.funcs[fr.fn]?=some f)(hr:(results f fr.tmps).run P w=.ok v w):
  stepG P main (G fr (caller::cs)) w=.go (G (match caller.mode with
   |.panicking ({recovered:=true,..}::older)=>
    match older.dropWhile (!·.goexit)with
    |[]=>{caller with mode:=.returning}
    |rest=>{caller with mode:=.panicking rest}
   |_=>caller) cs) w (seen P fr.fn ((results f fr.tmps).events P w #[])):=by
 simp[G,stepG,unwind,doReturn,hm,hd,hf,hr,hk,GStep.after]
 rfl
theorem drop_plain(ρ:Env):∀(l:List (AV×Bool)),(l.map fun x=>({v:=x.1.ev ρ,recovered:=x.2}:PanicEntry)).dropWhile (!·.goexit)=[]
 |[]=>rfl
 |y::l=>by simp only[List.map_cons,List.dropWhile_cons,Bool.not_false,if_true];exact drop_plain ρ l
theorem back_ok{P:Program}{c:AFrame}{f:Frame}(hc:FrRel P ρ c f):FrRel P ρ (backTo c) (match f.mode with
    |.panicking ({recovered:=true,..}::older)=>
     match older.dropWhile (!·.goexit)with
     |[]=>{f with mode:=.returning}
     |rest=>{f with mode:=.panicking rest}
    |_=>f):=by
 obtain⟨tm,td,is,rfl⟩:=hc
 obtain⟨fn,nt,tmps,todo,defers,mode,kind⟩:=c
 have hm:(frameOf ρ ⟨fn,nt,tmps,todo,defers,mode,kind⟩ tm td).mode=mode.ev ρ:=rfl
 rw[hm]
 cases mode with
 |run=>exact⟨tm,td,is,rfl⟩
 |returning=>exact⟨tm,td,is,rfl⟩
 |panicking chain=>
  cases chain with
  |nil=>exact⟨tm,td,is,rfl⟩
  |cons x older=>
   obtain⟨v,b⟩:=x
   cases b with
   |false=>exact⟨tm,td,is,rfl⟩
   |true=>
    simp only[AMode.ev,List.map_cons,drop_plain]
    exact⟨tm,td,⟨is.tmps,is.kind,(fun x=>by cases x),is.fn⟩,rfl⟩
theorem backTo_in{c:AFrame}(hc:c.In U):(backTo c).In U:=by
 obtain⟨fn,nt,tmps,todo,defers,mode,kind⟩:=c
 cases mode with
 |run=>exact hc
 |returning=>exact hc
 |panicking chain=>
  cases chain with
  |nil=>exact hc
  |cons x older=>
   obtain⟨v,b⟩:=x
   cases b with
   |false=>exact hc
   |true=>exact⟨hc.tmps,hc.defers,trivial⟩
theorem raise_ok{P:Program}{c:AFrame}{f:Frame}{chain:List (AV×Bool)}(hc:FrRel P ρ c f):FrRel P ρ (raiseA c chain) (f.raise (chain.map fun x=>{v:=x.1.ev ρ,recovered:=x.2})):=by
 obtain⟨tm,td,is,rfl⟩:=hc
 obtain⟨fn,nt,tmps,todo,defers,mode,kind⟩:=c
 cases mode with
 |run=>exact⟨tm,td,⟨is.tmps,is.kind,(fun x=>by cases x),is.fn⟩,rfl⟩
 |returning=>exact⟨tm,td,⟨is.tmps,is.kind,(fun x=>by cases x),is.fn⟩,rfl⟩
 |panicking older=>exact⟨tm,td,⟨is.tmps,is.kind,(fun x=>by cases x),is.fn⟩,by simp[raiseA,Frame.raise,frameOf,AMode.ev]⟩
theorem raiseA_in{c:AFrame}{chain:List (AV×Bool)}(hc:c.In U)(hx:∀x∈chain,x.1.In U):(raiseA c chain).In U:=by
 obtain⟨fn,nt,tmps,todo,defers,mode,kind⟩:=c
 cases mode with
 |run=>exact⟨hc.tmps,hc.defers,hx⟩
 |returning=>exact⟨hc.tmps,hc.defers,hx⟩
 |panicking older=>
  refine⟨hc.tmps,hc.defers,fun x hm=>?_⟩
  rcases List.mem_append.1 hm with hm|hm
  ·exact hx x hm
  ·exact hc.mode x hm
theorem keeps_same(own:Nat->Prop){w w':World}(h:∃d,w'=drawnAt w d):Keeps own w w':=by
 obtain⟨d,rfl⟩:=h;exact keeps_drawn _ _ _
theorem rel_same{w w':World}(R:Rel K ρ h w)(e:∃d,w'=drawnAt w d):Rel K ρ h w':=by
 obtain⟨d,rfl⟩:=e;exact R.drawn _
def StepPost(K:Ctx)(main:Bool)(c:ACfg):ACfg⊕(AE×AH)->Prop
 |.inl c'=>∃N,Leads K main c c' N
 |.inr e=>∃N,Ends K main c e N
theorem step_ok(Gd:K.Good)(F:K.Facts){ext:Ext}(X:ExtOk K ext){call:FuncId->List AV->AH->M (AE×AH)}(C:CallOk K main call){c:ACfg}{r:ACfg⊕(AE×AH)}(he:step? K.P K.O ext call c=.ok r):StepPost K main c r:=by
 obtain⟨⟨fn,nt,tmps,todo,defers,mode,kind⟩,callers,h⟩:=c
 unfold step? at he
 dsimp only at he
 split at he
 ·split at he
  ·rename_i c' hx
   cases he
   exact exec_ok Gd F X C hx
  ·cases he
 ·split at he
  ·cases he
  rename_i ht
  split at he
  ·rename_i d ds
   split at he
   ·rename_i c' hx
    cases he
    exact⟨1,defer_ok Gd F X (by simp) hx⟩
   ·cases he
  ·split at he
   ·cases he
   ·rename_i v hv
    obtain⟨f,hf,hin,hrun⟩:=results?_ok Gd hv
    have ends:∀{ρ:Env} {cs:List Frame} {w:World} {frs:List Frame} {tm:Array Value} {td:List Item},kind=.normal->Rel K ρ h w->FrIs K.P ρ ⟨fn,nt,tmps,todo,[],.returning,kind⟩ tm td->
      EndsAs K fn ρ (.returned v) cs (G (frameOf ρ ⟨fn,nt,tmps,todo,[],.returning,kind⟩ tm td) cs) w:=fun{ρ cs w frs tm td} hk R is=>by
     have hp:=plain_of is.kind ht
     have e1:(frameOf ρ ⟨fn,nt,tmps,todo,[],.returning,kind⟩ tm td).fn=fn:=bB_fn ρ fn kind
     exact⟨_,f,rfl,e1,plain_dB hp ρ [],by rw[e1];exact hf,rfl,by
      show(bB ρ fn kind).kind=.normal
      rw[plain_bB hp];exact hk,fun d {Q} hq=>hrun (R.drawn d) is.tmps hq⟩
    split at he
    ·split at he
     ·cases he
      refine⟨0,fun U ρ cs g w I Γ=>?_⟩
      obtain⟨R,fr,frs,⟨tm,td,is,rfl⟩,hc,rfl⟩:=Γ
      cases frs with
      |cons a b=>exact absurd hc (by simp[FrRels])
      |nil=>
       exact Walk.stop ⟨ρ,Agree.refl _ _,Keeps.refl _ _,Grows.refl I.ids,AV.In.mono plus_sub _ (hin I.ids I.cur.tmps),R,ends (frs:=[]) rfl R is⟩
     ·cases he
    ·rename_i caller rest
     split at he
     ·split at he
      ·rename_i caller' hfin
       cases he
       obtain⟨fn',nt',tmps',ops,i,rst,k,defers',kind',rfl,rfl⟩:=finishA_ok hfin
       refine⟨1,fun U ρ cs g w I Γ=>?_⟩
       obtain⟨R,fr,frs,⟨tm,td,is,rfl⟩,hc,rfl⟩:=Γ
       cases frs with
       |nil=>exact absurd hc (by simp[FrRels])
       |cons c1 frs=>
        obtain⟨⟨tm1,td1,is1,rfl⟩,hc⟩:=hc
        have htd:td1=.inRegion ops (i::rst)::k:=is1.todo rfl
        subst htd
        have hcin:=I.callers _ (List.mem_cons_self ..)
        refine(leave_step (ends (frs:=[]) rfl R is)).weaken fun g' w' ⟨hw,hg⟩=>?_
        subst hg
        have:=next_put (U:=U) (ρ:=ρ) (h:=h) (cs:=cs) (fn:=fn') (kind:=kind') (ops:=ops) (rest:=rst) (k:=k) (dst:=(ops[i]?).bind (·.dst)) (ds:=defers') (Agree.refl U ρ) (keeps_same K.own hw) (rel_same R hw) (Grows.refl I.ids)
         (AV.In.mono plus_sub _ (hin I.ids I.cur.tmps)) hcin.tmps (fun x hx=>(hcin.defers x hx).mono plus_sub) (fun fr hf=>(I.callers fr (List.mem_cons_of_mem _ hf)).mono plus_sub) is1.tmps is1.kind is1.fn hc
        have hb:frameOf ρ ⟨fn',nt',tmps',.inRegion ops (i::rst)::k,defers',.run,kind'⟩ tm1 (.inRegion ops (i::rst)::k)=(bB ρ fn' kind').atR (aB ρ kind' tm1 defers') (.inRegion ops (i::rst)::k):=rfl
        rw[hb,Frame.finish_atR]
        exact this
      ·cases he
     ·cases he
      refine⟨1,fun U ρ cs g w I Γ=>Walk.one Γ.running fun d=>?_⟩
      obtain⟨R,fr,frs,⟨tm,td,is,rfl⟩,hc,rfl⟩:=Γ.drawn d
      cases frs with
      |nil=>exact absurd hc (by simp[FrRels])
      |cons c1 frs=>
       obtain⟨hc1,hc⟩:=hc
       obtain⟨run,hes⟩:=wq_run (hrun (E:=fun _ _=>False) R is.tmps (Q:=fun x w'=>x=v.ev ρ∧w'=drawnAt w d) ⟨rfl,rfl⟩)
       generalize hr:(results f tm).run K.P (drawnAt w d)=r at run
       cases r with
       |halt x w'=>cases x<;>exact run.elim
       |ok x w'=>
        obtain⟨rfl,rfl⟩:=run
        rw[List.cons_append,stepG_back (fr:=frameOf ρ ⟨fn,nt,tmps,todo,[],.returning,.deferred⟩ tm td) rfl rfl rfl hf hr]
        refine⟨⟨Keeps.refl _ _,fun e he=>hes e (mem_seen he),fun _ _ _ _ x=>x⟩,ρ,Agree.refl _ _,keeps_drawn _ _ _,Grows.refl I.ids,?_,R,_,frs,back_ok hc1,hc,rfl⟩
        exact CIds.congr (U:=U) ⟨backTo_in (I.callers _ (List.mem_cons_self ..)),fun fr hf=>I.callers fr (List.mem_cons_of_mem _ hf),I.ids⟩ (plus_same U _)
     ·cases he
 ·rename_i chain
  split at he
  ·cases he
  rename_i ht
  split at he
  ·rename_i d ds
   split at he
   ·rename_i c' hx
    cases he
    exact⟨1,defer_ok Gd F X (by simp) hx⟩
   ·cases he
  ·have ends:∀{ρ:Env} {cs:List Frame} {w:World} {tm:Array Value} {td:List Item},FrIs K.P ρ ⟨fn,nt,tmps,todo,[],.panicking chain,kind⟩ tm td->
      EndsAs K fn ρ (.panicked chain) cs (G (frameOf ρ ⟨fn,nt,tmps,todo,[],.panicking chain,kind⟩ tm td) cs) w:=fun{ρ cs w tm td} is=>by
    obtain⟨f,hf⟩:=is.fn
    have e1:(frameOf ρ ⟨fn,nt,tmps,todo,[],.panicking chain,kind⟩ tm td).fn=fn:=bB_fn ρ fn kind
    exact⟨_,f,rfl,e1,plain_dB (plain_of is.kind ht) ρ [],by rw[e1];exact hf,rfl⟩
   split at he
   ·cases he
    refine⟨0,fun U ρ cs g w I Γ=>?_⟩
    obtain⟨R,fr,frs,⟨tm,td,is,rfl⟩,hc,rfl⟩:=Γ
    cases frs with
    |cons a b=>exact absurd hc (by simp[FrRels])
    |nil=>exact Walk.stop ⟨ρ,Agree.refl _ _,Keeps.refl _ _,Grows.refl I.ids,fun x hx=>AV.In.mono plus_sub _ (I.cur.mode x hx),R,ends is⟩
   ·rename_i caller rest
    cases he
    refine⟨1,fun U ρ cs g w I Γ=>?_⟩
    obtain⟨R,fr,frs,⟨tm,td,is,rfl⟩,hc,rfl⟩:=Γ
    cases frs with
    |nil=>exact absurd hc (by simp[FrRels])
    |cons c1 frs=>
     obtain⟨hc1,hc⟩:=hc
     refine(raise_step (ends is)).weaken fun g' w' ⟨hw,hg⟩=>?_
     subst hg
     refine⟨ρ,Agree.refl _ _,keeps_same _ hw,Grows.refl I.ids,?_,rel_same R hw,_,frs,raise_ok hc1,hc,rfl⟩
     exact CIds.congr (U:=U) ⟨raiseA_in (I.callers _ (List.mem_cons_self ..)) I.cur.mode,fun fr hf=>I.callers fr (List.mem_cons_of_mem _ hf),I.ids⟩ (plus_same U _)
theorem finishA_fn{fr fr':AFrame}{v:AV}(h:finishA fr v=.ok fr'):fr'.fn=fr.fn:=by
 obtain⟨fn,nt,tmps,ops,i,rest,k,defers,kind,rfl,rfl⟩:=finishA_ok h;rfl
theorem raiseA_fn{fr:AFrame}{vs:List (AV×Bool)}:(raiseA fr vs).fn=fr.fn:=by
 obtain⟨fn,nt,tmps,todo,defers,mode,kind⟩:=fr
 cases mode<;>rfl
theorem upon_bot{P:Program}{fr:AFrame}{callers:List AFrame}{n:AN}{h:AH}{c':ACfg}(he:upon P fr callers n h=.ok c'):bot c'.cur.fn c'.callers=bot fr.fn callers:=by
 obtain⟨fn,nt,tmps,todo,defers,mode,kind⟩:=fr
 unfold upon at he
 split at he
 ·split at he
  ·rename_i hx;cases he;show bot _ callers=_;rw[finishA_fn hx]
  ·cases he
 ·split at he
  ·rename_i hx;cases he;show bot _ callers=_;rw[finishA_fn hx]
  ·cases he
 ·split at he
  ·cases he;rfl
  ·cases he
 ·dsimp only at he
  split at he
  ·rename_i hx;cases he;show bot _ callers=_;rw[finishA_fn hx]
  ·cases he
 ·split at he
  ·cases he
  ·rename_i v callers' hr
   split at he
   ·rename_i hx
    cases he
    show bot _ callers'=_
    rw[finishA_fn hx]
    unfold recoverA at hr
    split at hr
    ·cases hr
    ·split at hr
     ·cases hr
     ·split at hr
      ·cases hr;rfl
      ·cases hr
    ·cases hr
   ·cases he
  ·split at he
   ·rename_i hx;cases he;show bot _ callers=_;rw[finishA_fn hx]
   ·cases he
 ·cases he
  show bot (raiseA _ _).fn callers=_
  rw[raiseA_fn]
theorem exec_bot{P:Program}{O:Orc}{ext:Ext}{call:FuncId->List AV->AH->M (AE×AH)}{defers:List AD}{c':ACfg}(he:exec? P O ext call fn nt tmps todo defers kind callers h=.ok c'):bot c'.cur.fn c'.callers=bot fn callers:=by
 unfold exec? at he
 split at he
 ·split at he
  ·cases he
  ·cases he;rfl
 ·split at he
  ·cases he;rfl
  ·split at he
   ·cases he
   ·split at he
    ·cases he
    ·cases he;rfl
    ·split at he
     ·cases he
     ·split at he
      ·cases he
      split at he
      ·exact upon_bot he
      ·split at he
       ·cases he;rfl
       ·cases he;rfl
       ·cases he
 ·cases he;rfl
 ·cases he;rfl
 ·cases he;rfl
 ·split at he
  ·split at he
   ·cases he
   ·cases he;rfl
  ·cases he;rfl
  ·cases he;rfl
  ·cases he;rfl
  ·split at he
   ·split at he
    ·cases he;rfl
    ·cases he;rfl
    ·cases he
   ·cases he
  ·cases he;rfl
  ·cases he;rfl
  ·cases he;rfl
  ·split at he
   ·cases he;rfl
   ·cases he
  ·split at he
   ·cases he;rfl
   ·cases he
  ·split at he
   ·cases he;rfl
   ·split at he
    ·cases he;rfl
    ·split at he
     ·cases he;rfl
     ·cases he;rfl
     ·cases he
  ·cases he
 ·cases he
theorem defer_bot{P:Program}{O:Orc}{ext:Ext}{d:AD}{ds:List AD}{c':ACfg}(he:defer? P O ext fn nt tmps todo d ds mode kind callers h=.ok c'):bot c'.cur.fn c'.callers=bot fn callers:=by
 unfold defer? at he
 split at he
 ·split at he
  ·cases he;rfl
  ·cases he
 ·cases he;rfl
 ·cases he
 ·cases he
theorem step_bot{P:Program}{O:Orc}{ext:Ext}{call:FuncId->List AV->AH->M (AE×AH)}{c c':ACfg}(he:step? P O ext call c=.ok (.inl c')):bot c'.cur.fn c'.callers=bot c.cur.fn c.callers:=by
 obtain⟨⟨fn,nt,tmps,todo,defers,mode,kind⟩,callers,h⟩:=c
 unfold step? at he
 dsimp only at he
 split at he
 ·split at he
  ·rename_i hx;cases he;exact exec_bot hx
  ·cases he
 ·split at he
  ·cases he
  split at he
  ·split at he
   ·rename_i hx;cases he;exact defer_bot hx
   ·cases he
  ·split at he
   ·cases he
   ·split at he
    ·split at he<;>cases he
    ·split at he
     ·split at he
      ·rename_i hx;cases he;simp only[bot,finishA_fn hx]
      ·cases he
     ·cases he
      show bot (backTo _).fn _=bot _ _
      unfold backTo
      split<;>rfl
     ·cases he
 ·split at he
  ·cases he
  split at he
  ·split at he
   ·rename_i hx;cases he;exact defer_bot hx
   ·cases he
  ·split at he
   ·cases he
   ·cases he
    simp only[bot,raiseA_fn]
def SumOk(K:Ctx)(main:Bool)(sum:Sums):Prop:=
 ∀f args h r,sum f args h=some (.ok r)->∃fr N,enterA K.P f args .normal=.ok fr∧Ends K main ⟨fr,[],h⟩ r N
theorem noSums_ok:SumOk K main noSums:=fun _ _ _ _ h=>by cases h
theorem callOk_of{sum:Sums}(Z:SumOk K main sum){k:ACfg->M (AE×AH)}(ih:∀{c r},k c=.ok r->∃N,Ends K main c r N):
  CallOk K main (fun f args h=>match sum f args h with
   |some r=>r
   |none=>match enterA K.P f args .normal with
    |.ok fr=>k ⟨fr,[],h⟩
    |.error e=>.error e):=by
 intro f args h r hr
 dsimp only at hr
 split at hr
 ·rename_i r' hs
  subst hr
  exact Z _ _ _ _ hs
 ·split at hr
  ·rename_i fr hen
   obtain⟨N,E⟩:=ih hr
   exact⟨fr,N,hen,E⟩
  ·cases hr
theorem run_ok(Gd:K.Good)(F:K.Facts){ext:Ext}(X:ExtOk K ext){sum:Sums}(Z:SumOk K main sum):∀{n:Nat} {c:ACfg} {r:AE×AH},run? K.P K.O ext sum n c=.ok r->∃N,Ends K main c r N:=by
 intro n
 induction n with
 |zero=>intro c r he;cases he
 |succ n ih=>
  intro c r he
  have he':(match step? K.P K.O ext (fun f args h=>match sum f args h with
   |some r=>r
   |none=>match enterA K.P f args .normal with
    |.ok fr=>run? K.P K.O ext sum n ⟨fr,[],h⟩
    |.error e=>.error e) c with
   |.ok (.inl c)=>run? K.P K.O ext sum n c
   |.ok (.inr r)=>.ok r
   |.error e=>.error e)=.ok r:=he
  have C:=callOk_of (K:=K) (main:=main) Z (k:=run? K.P K.O ext sum n) ih
  split at he'
  ·rename_i c' hs
   obtain⟨N,L⟩:=step_ok Gd F X C hs
   obtain⟨M,E⟩:=ih he'
   exact⟨N+M,L.ends (step_bot hs) E⟩
  ·rename_i r' hs
   cases he'
   exact step_ok Gd F X C hs
  ·cases he'
end
def loneG(g:Goroutine)(w:World):Machine:={world:=w,gs:=#[g],rest:={timers:=#[],alone:=none,slice:=none}}
theorem move_loneG{P:Program}{g:Goroutine}{w:World}(h:g.status=.running):move P (loneG g w)=.goroutine (loneG g w) 0:=by
 simp[move,ask,askOn,loneG,runnable_eq,due,ahead,Goroutine.canRun,h,List.range_succ,choose,pure,Sem.run,Question.forced]
theorem step_loneG{P:Program}{g g':Goroutine}{w w':World}{es:Array Event}(h:g.status=.running)(hs:stepG P true g w=.go g' w' es):step P (loneG g w)=.next (loneG g' w'):=by
 rw[step,stepT,move_loneG h]
 simp[runT,loneG,Array.swapAt!,hs]
theorem walk_steps{P:Program}{D:World->World->Array Event->Prop}{S:Goroutine->World->Prop}{n:Nat}{g:Goroutine}{w:World}(h:Walk P true D S n g w):∃g' w',Steps P (loneG g w) (loneG g' w')∧S g' w':=by
 change WalkI P true D S 0 g w at h
 generalize(0:Nat)=k at h
 induction h with
 |stop g w hs=>exact⟨g,w,.refl _ _,hs⟩
 |step n g w g' w' es hr hs hd hw ih=>
  obtain⟨g2,w2,h1,h2⟩:=ih w.drawn
  exact⟨g2,w2,.head (step_loneG hr (hs w.drawn)) h1,h2⟩
 |off n g w g' hr hs hw ih=>
  obtain⟨g2,w2,h1,h2⟩:=ih w.drawn
  exact⟨g2,w2,.head (step_loneG hr (hs w.drawn)) h1,h2⟩
 |on n g w g' hr hs hw ih=>
  obtain⟨g2,w2,h1,h2⟩:=ih w.drawn
  exact⟨g2,w2,.head (step_loneG hr (hs w.drawn)) h1,h2⟩
end Go.Proofs.Ytmobbajggkjpgaa.SX
namespace Go.Proofs.Ytmobbajggkjpgaa.SX
def XE.sem:XE->(Array Value->Sem Value)->Prop
 |.ld k,e=>e=Extern.Atomic.loadT (.int k)
 |.st,e=>e=Extern.Atomic.storeT
 |.sw k,e=>e=Extern.Atomic.swapT (.int k)
 |.cas k,e=>e=Extern.Atomic.casT (.int k)
 |.add k,e=>e=Extern.Atomic.update (Op.intArith .add) k true
 |.acquire,e=>e=Extern.Race.marked .acquire
 |.release,e=>e=Extern.Race.marked .release
 |.releaseMerge,e=>e=Extern.Race.marked .releaseMerge
 |.quiet,e=>∃m,e=fun _=>do mark m;pure Extern.Race.none_
 |.typeOf,e=>e=Extern.ReflectliteType.typeOf
 |.valueOf,e=>e=fun args=>Extern.ReflectliteValue.unpack (args.getD 0 (.tuple #[]))
 |.vType,e=>∃z,e=Extern.ReflectliteValue.methodAny z fun t _ _ _=>Extern.ReflectliteType.toType t
 |.vIsNil,e=>∃z,e=Extern.ReflectliteValue.method z Extern.ReflectliteValue.isNil
 |.vElem,e=>∃z,e=Extern.ReflectliteValue.method z Extern.ReflectliteValue.elem
 |.vSet,e=>e=Extern.ReflectliteValue.set
section
variable {K:Ctx}{ρ:Env}{h:AH}{w:World}{U:Nat->Prop}
theorem ldInt_ok(R:Rel K ρ h w)(G:K.Good){a:AA}{k:IntKind}{e:IE}(hl:ldInt K.O h a k=.ok e):w.cell? (a.ev ρ)=some (.int k (e.ev ρ))∧(∀s,K.Ev ⟨.cell (a.ev ρ),false,s⟩)∧∀{U},Ids K U h->e.In U:=by
 unfold ldInt at hl
 rw[bind_ok]at hl
 obtain⟨v,hv,hl⟩:=hl
 obtain⟨h1,h2⟩:=load1_sound R G hv
 split at hl
 ·split at hl
  ·rename_i hk
   cases hl
   subst hk
   exact⟨h1,h2,fun I=>load1_in I hv⟩
  ·cases hl
 ·cases hl
theorem wq_read{E:Value->World->Prop}{a:Addr}{k:IntKind}{n:Int}(hc:w.cell? a=some (.int k n))(he:∀s,K.Ev ⟨.cell a,false,s⟩){Q:Value->World->Prop}(hq:Q (.int k n) w):wq K.P K.Ev E (Extern.Atomic.read (.int k) a) Q w:=by
 unfold Extern.Atomic.read
 simp only[wq_bind,wq_load]
 refine⟨_,hc,he _,?_⟩
 simp only[if_true,wq_pure]
 exact hq
theorem wq_swrite{E:Value->World->Prop}{a:AA}{v:AV}{h':AH}(R:Rel K ρ h w)(G:K.Good)(hs:store1 h a v=.ok h'){Q:Unit->World->Prop}(hq:Q () (w.setCell (a.ev ρ) (v.ev ρ))):wq K.P K.Ev E (store (a.ev ρ) (v.ev ρ) .atomic) Q w:=by
 obtain⟨s1,s2,s3,s4,_⟩:=store1_sound R G hs
 rw[wq_store]
 exact⟨s1,s2,s3,s4 _,hq⟩
theorem store1_grows(I:Ids K U h){a:AA}{v:AV}{h':AH}(hs:store1 h a v=.ok h')(ha:a.In U)(hv:v.In U)(hn:h'.nb=h.nb)(hl:h'.lim=h.lim):Grows K U h h':=
 ⟨by rw[hn];exact Nat.le_refl _,hl,by rw[hn];exact(store1_ids I hs ha hv).congr (fun n=>⟨.inl,plus_none n⟩)⟩
theorem after_store(R:Rel K ρ h w)(G:K.Good){a:AA}{v:AV}{h':AH}(hs:store1 h a v=.ok h'){Q:Env->Prop}(hq:Q ρ):After K U ρ w h' Q (w.setCell (a.ev ρ) (v.ev ρ)):=by
 obtain⟨_,_,_,_,s5,s6,_⟩:=store1_sound R G hs
 exact⟨ρ,Agree.refl _ _,s5,s6,hq⟩
theorem ld_ok(G:K.Good)(R:Rel K ρ h w)(I:Ids K U h){a:AA}{k:IntKind}{e:IE}(hl:ldInt K.O h a k=.ok e):HOk K U ρ h w (Extern.Atomic.loadT (.int k) (AV.evs ρ [.ptr (some a)]).toArray) (.int k e) h:=by
 obtain⟨h1,h2,h3⟩:=ldInt_ok R G hl
 refine HOk.pure R I (h3 I) fun{E Q} hq=>?_
 show wq K.P K.Ev E (do Extern.Atomic.read (.int k) (<-asAddr (.pointer (some (a.ev ρ))))) Q w
 simp only[wq_bind,asAddr,wq_pure]
 exact wq_read h1 h2 hq
theorem st_ok(G:K.Good)(R:Rel K ρ h w)(I:Ids K U h){a:AA}{v:AV}{h':AH}(ha:a.In U)(hv:v.In U)(hs:store1 h a v=.ok h'):HOk K U ρ h w (Extern.Atomic.storeT (AV.evs ρ [.ptr (some a),v]).toArray) undefA h':=by
 obtain⟨_,_,_,_,_,_,hn,hl⟩:=store1_sound R G hs
 refine⟨by simp[undefA,AV.In,AV.Ins],store1_grows I hs ha hv hn hl,fun{E Q} hq=>?_⟩
 show wq K.P K.Ev E (do store (<-asAddr (.pointer (some (a.ev ρ)))) (v.ev ρ) .atomic;pure Extern.Atomic.none_) Q w
 simp only[wq_bind,asAddr,wq_pure]
 exact wq_swrite R G hs (hq _ _ (after_store R G hs rfl))
theorem sw_ok(G:K.Good)(R:Rel K ρ h w)(I:Ids K U h){a:AA}{v:AV}{k:IntKind}{e:IE}{h':AH}(ha:a.In U)(hv:v.In U)(hl:ldInt K.O h a k=.ok e)(hs:store1 h a v=.ok h'):
  HOk K U ρ h w (Extern.Atomic.swapT (.int k) (AV.evs ρ [.ptr (some a),v]).toArray) (.int k e) h':=by
 obtain⟨h1,h2,h3⟩:=ldInt_ok R G hl
 obtain⟨_,_,_,_,_,_,hn,hl'⟩:=store1_sound R G hs
 refine⟨IE.In.mono plus_sub (h3 I),store1_grows I hs ha hv hn hl',fun{E Q} hq=>?_⟩
 show wq K.P K.Ev E (do let a<-asAddr (.pointer (some (a.ev ρ)));let old<-Extern.Atomic.read (.int k) a;store a (v.ev ρ) .atomic;pure old) Q w
 simp only[wq_bind,asAddr,wq_pure]
 refine wq_read h1 h2 ?_
 exact wq_swrite R G hs (hq _ _ (after_store R G hs rfl))
theorem add_ok(G:K.Good)(R:Rel K ρ h w)(I:Ids K U h){a:AA}{k k':IntKind}{e d:IE}{h':AH}(ha:a.In U)(hd:d.In U)(hl:ldInt K.O h a k=.ok e)(hs:store1 h a (.int k (K.O.int (.op .add k e d)))=.ok h')
 (hin:(K.O.int (.op .add k e d)).In U):
  HOk K U ρ h w (Extern.Atomic.update (Op.intArith .add) k true (AV.evs ρ [.ptr (some a),.int k' d]).toArray) (.int k (K.O.int (.op .add k e d))) h':=by
 obtain⟨h1,h2,h3⟩:=ldInt_ok R G hl
 obtain⟨_,_,_,_,_,_,hn,hl'⟩:=store1_sound R G hs
 refine⟨IE.In.mono plus_sub hin,store1_grows I hs ha hin hn hl',fun{E Q} hq=>?_⟩
 show wq K.P K.Ev E (do
  let a<-asAddr (.pointer (some (a.ev ρ)))
  let old<-Extern.Atomic.read (.int k) a
  let new<-Op.intArith .add k (<-asInt old) (<-asInt (.int k' (d.ev ρ)))
  store a new .atomic
  pure (if true then new else old)) Q w
 simp only[wq_bind,asAddr,wq_pure]
 refine wq_read h1 h2 ?_
 simp only[asInt,asIntOf,wq_pure,wq_bind]
 have hx:Op.intArith .add k (e.ev ρ) (d.ev ρ)=(pure ((AV.int k (K.O.int (.op .add k e d))).ev ρ):Sem Value):=by
  simp only[AV.ev,int_ev R,IE.ev,iop];rfl
 rw[hx]
 simp only[wq_pure,if_true]
 exact wq_swrite R G hs (hq _ _ (after_store R G hs rfl))
theorem store0_at{a:AA}{v:AV}{h':AH}(hs:store0 h a v=.ok h'):∃i off b,a=⟨.dyn i,off⟩∧findB i h.hp=some b∧b.isMem=true:=by
 obtain⟨blk,off⟩:=a
 unfold store0 at hs
 dsimp only at hs
 split at hs
 ·rename_i i n
  split at hs
  ·rename_i b hb
   split at hs
   ·rename_i hc
    simp only[Bool.and_eq_true,decide_eq_true_eq]at hc
    exact⟨i,_,b,rfl,hb,isMem_lt hc.1.1⟩
   ·cases hs
  ·cases hs
 ·cases hs
theorem store1_at{a:AA}{v:AV}{h':AH}(hs:store1 h a v=.ok h'):∃i off b,a=⟨.dyn i,off⟩∧findB i h.hp=some b∧b.isMem=true:=by
 unfold store1 at hs
 split at hs
 ·rename_i h1 hh
  exact store0_at hh
 ·split at hs
  ·rename_i h1 hh
   obtain⟨blk,off⟩:=a
   unfold preSet? at hh
   dsimp only at hh
   split at hh
   ·rename_i i _
    split at hh
    ·rename_i b hb
     split at hh
     ·rename_i b' hb'
      exact⟨i,off,b,rfl,hb,by cases b<;>first|rfl|cases hb'⟩
     ·cases hh
    ·cases hh
   ·cases hh
  ·cases hs
theorem cas_ok(G:K.Good)(R:Rel K ρ h w)(I:Ids K U h){a:AA}{v:AV}{k k':IntKind}{e old:IE}{h':AH}{b:Bool}(ha:a.In U)(hv:v.In U)(hl:ldInt K.O h a k=.ok e)(hb:K.O.dec (.cmp .eql e old)=.ok b)(hs:store1 h a v=.ok h'):
  HOk K U ρ h w (Extern.Atomic.casT (.int k) (AV.evs ρ [.ptr (some a),.int k' old,v]).toArray) (.bool (.lit b)) (if b then h' else h):=by
 obtain⟨h1,h2,h3⟩:=ldInt_ok R G hl
 obtain⟨_,_,hfz,_,_,_,hn,hl'⟩:=store1_sound R G hs
 obtain⟨i,off,blk,rfl,hblk,hmem⟩:=store1_at hs
 obtain⟨arr,harr,_⟩:=R.arr hblk hmem
 have hd:=dec_ev R hb
 refine⟨trivial,?_,fun{E Q} hq=>?_⟩
 ·cases b
  ·exact Grows.refl I
  ·exact store1_grows I hs ha hv hn hl'
 ·have hsh:(w.shape? (AA.ev ρ ⟨.dyn i,off⟩).block)=some (blk.elem,arr.size):=by
   show w.shape? (ρ.b i)=_
   simp[World.shape?,harr]
  have hcmp:(e.ev ρ==old.ev ρ)=b:=by simpa[BE.ev,icmp] using hd
  show wq K.P K.Ev E (asAddr (.pointer (some (AA.ev ρ ⟨.dyn i,off⟩)))>>= _) Q w
  refine(wq_bind _ _).2 ?_
  show wq K.P K.Ev E (Extern.Atomic.touchesFrozen (AA.ev ρ ⟨.dyn i,off⟩)>>= _) Q w
  refine(wq_bind _ _).2 ?_
  simp only[wq_bind,wq_pure,Extern.Atomic.touchesFrozen,viewAt,wq_shape,hsh,Option.isSome_some,if_true,wq_frozen,hfz]
  show wq K.P K.Ev E (Extern.Atomic.read (.int k) (AA.ev ρ ⟨.dyn i,off⟩)>>= _) Q w
  refine(wq_bind _ _).2 (wq_read h1 h2 ?_)
  show wq K.P K.Ev E (pure (IE.ev ρ e==IE.ev ρ old)>>= _) Q w
  refine(wq_bind _ _).2 ?_
  rw[wq_pure,hcmp]
  cases b with
  |true=>
   simp only[if_true,wq_bind,wq_pure]
   exact wq_swrite R G hs (hq _ _ (after_store R G hs rfl))
  |false=>
   simp only[Bool.false_eq_true,if_false,wq_pure,wq_bind]
   exact hq _ _ (After.same R rfl)
theorem mark_ok(G:K.Good)(R:Rel K ρ h w)(I:Ids K U h)(m:Addr->Mark)(m1:∀a,markOk (m a)=true){a:AA}:HOk K U ρ h w (Extern.Race.marked m (AV.evs ρ [.ptr (some a)]).toArray) undefA h:=by
 refine HOk.pure R I (by simp[undefA,AV.In,AV.Ins]) fun{E Q} hq=>?_
 show wq K.P K.Ev E (do mark (m (<-(pure (a.ev ρ):Sem Addr)));pure Extern.Race.none_) Q w
 simp only[wq_bind,wq_pure,wq_mark]
 exact⟨G.ext _ (m1 _),hq⟩
theorem quiet_ok(G:K.Good)(L:K.lock)(R:Rel K ρ h w)(I:Ids K U h)(m:Mark):HOk K U ρ h w (do mark m;pure Extern.Race.none_) undefA h:=by
 refine HOk.pure R I (by simp[undefA,AV.In,AV.Ins]) fun{E Q} hq=>?_
 simp only[wq_bind,wq_pure,wq_mark]
 exact⟨G.lock L _,hq⟩
end
section
variable {K:Ctx}{ρ:Env}{h:AH}{w:World}{U:Nat->Prop}{E:Value->World->Prop}
theorem kind?_ok{P:Program}{t:TypeId}{n:Nat}(hk:kind? P t=.ok n):pureRun P (Extern.Rtype.kind t)=some n:=by
 unfold kind? at hk
 split at hk
 ·rename_i h;cases hk;exact h
 ·cases hk
theorem wq_handle{t:TypeId}{Q:Value->World->Prop}(hq:Q (.pointer (some ⟨K.P.globals.size,t,none⟩)) w):wq K.P K.Ev E (Extern.Rtype.handle t) Q w:=by
 simp only[Extern.Rtype.handle,wq_bind,wq_program,wq_pure]
 exact hq
theorem wq_mk{t:TypeId}{a:AA}{fl:Nat}{r:AV}(hr:mkV? K.P t a fl=.ok r){Q:Value->World->Prop}(hq:Q (r.ev ρ) w):wq K.P K.Ev E (Extern.ReflectliteValue.mk t (a.ev ρ) fl) Q w:=by
 unfold mkV? at hr
 rw[bind_ok]at hr
 obtain⟨n,hn,hr⟩:=hr
 cases hr
 unfold Extern.ReflectliteValue.mk
 simp only[wq_bind]
 refine wq_handle (wq_pureRun (kind?_ok hn) ?_)
 rw[wq_pure]
 exact hq
theorem mkV?_in{P:Program}{t:TypeId}{a:AA}{fl:Nat}{r:AV}(hr:mkV? P t a fl=.ok r)(ha:a.In U):r.In U:=by
 unfold mkV? at hr
 rw[bind_ok]at hr
 obtain⟨n,hn,hr⟩:=hr
 cases hr
 exact⟨⟨trivial,trivial⟩,ha,trivial,trivial⟩
theorem handle?_ok{P:Program}{x:AV}{t:TypeId}(hx:handle? P x=some t)(ρ:Env):handleType P (x.ev ρ)=some t:=by
 unfold handle? at hx
 split at hx
 ·split at hx
  ·rename_i b o hb
   cases hx
   simp only[AV.ev,Option.map_some,AA.ev,BR.ev,IE.ev,handleType,hb,if_true]
   rfl
  ·cases hx
 ·cases hx
structure PartsIs(P:Program)(x:AV)(t:TypeId)(a:AA)(f:Nat):Prop where
 ex:∃h,x=.agg [h,.ptr (some a),.int .u64 (.lit (.ofNat f))]∧handle? P h=some t
 pos:f≠0
 pack:P.packed t=false
theorem partsV?_ok{P:Program}{x:AV}{t:TypeId}{a:AA}{f:Nat}(hp:partsV? P x=.ok (t,a,f)):PartsIs P x t a f:=by
 unfold partsV? at hp
 split at hp
 ·split at hp
  ·rename_i hh
   split at hp
   ·cases hp
   ·rename_i hc
    cases hp
    simp only[Bool.or_eq_true,decide_eq_true_eq,not_or,Bool.not_eq_true]at hc
    exact⟨⟨_,rfl,hh⟩,hc.1,hc.2⟩
  ·cases hp
 ·cases hp
theorem PartsIs.in{x:AV}{t:TypeId}{a:AA}{f:Nat}(p:PartsIs K.P x t a f)(hx:x.In U):a.In U:=by
 obtain⟨hh,rfl,_⟩:=p.ex
 exact hx.2.1
theorem wq_partsAny{x:AV}{t:TypeId}{a:AA}{f:Nat}(p:PartsIs K.P x t a f){Q:Option (TypeId×Addr×Nat)->World->Prop}(hq:Q (some (t,a.ev ρ,f)) w):wq K.P K.Ev E (Extern.ReflectliteValue.partsAny (x.ev ρ)) Q w:=by
 obtain⟨hh,rfl,ht⟩:=p.ex
 have hne:f≠0:=p.pos
 obtain⟨m,rfl⟩:∃m,f=m+1:=⟨f-1,by omega⟩
 show wq K.P K.Ev E (Extern.Rtype.ofHandle (hh.ev ρ)>>= fun t=>pure (some (t,a.ev ρ,m+1))) Q w
 simp only[wq_bind,Extern.Rtype.ofHandle,wq_program,handle?_ok ht,wq_pure]
 exact hq
theorem wq_noPack{s:String}{t:TypeId}(hp:K.P.packed t=false){Q:Unit->World->Prop}(hq:Q () w):wq K.P K.Ev E (Extern.Rtype.noPack s t) Q w:=by
 unfold Extern.Rtype.noPack
 simp only[wq_bind,wq_program,hp,Bool.false_eq_true,if_false,wq_pure]
 exact hq
theorem wq_parts{x:AV}{t:TypeId}{a:AA}{f:Nat}(p:PartsIs K.P x t a f){Q:Option (TypeId×Addr×Nat)->World->Prop}(hq:Q (some (t,a.ev ρ,f)) w):wq K.P K.Ev E (Extern.ReflectliteValue.parts (x.ev ρ)) Q w:=by
 unfold Extern.ReflectliteValue.parts
 rw[wq_bind]
 refine wq_partsAny p ?_
 simp only[wq_bind]
 refine wq_noPack p.pack ?_
 rw[wq_pure]
 exact hq
theorem wq_rmethod{z:Sem Value}{g:TypeId->Addr->Nat->Nat->Sem Value}{x:AV}{t:TypeId}{a:AA}{f:Nat}(p:PartsIs K.P x t a f){Q:Value->World->Prop}(hq:wq K.P K.Ev E (g t (a.ev ρ) f (f % 32)) Q w):
  wq K.P K.Ev E (Extern.ReflectliteValue.method z g (AV.evs ρ [x]).toArray) Q w:=by
 show wq K.P K.Ev E (Extern.ReflectliteValue.parts (x.ev ρ)>>= _) Q w
 rw[wq_bind]
 exact wq_parts p hq
theorem wq_rmethodAny{z:Sem Value}{g:TypeId->Addr->Nat->Nat->Sem Value}{x:AV}{t:TypeId}{a:AA}{f:Nat}(p:PartsIs K.P x t a f){Q:Value->World->Prop}(hq:wq K.P K.Ev E (g t (a.ev ρ) f (f % 32)) Q w):
  wq K.P K.Ev E (Extern.ReflectliteValue.methodAny z g (AV.evs ρ [x]).toArray) Q w:=by
 show wq K.P K.Ev E (Extern.ReflectliteValue.partsAny (x.ev ρ)>>= _) Q w
 rw[wq_bind]
 exact wq_partsAny p hq
theorem unpack_ok(G:K.Good)(R:Rel K ρ h w)(I:Ids K U h){x r:AV}{h':AH}(hx:x.In U)(hu:unpackV? K.P h x=.ok (r,h')):HOk K U ρ h w (Extern.ReflectliteValue.unpack (x.ev ρ)) r h':=by
 unfold unpackV? at hu
 split at hu
 ·rename_i t v
  rw[bind_ok]at hu
  obtain⟨cs,hc,hu⟩:=hu
  rw[bind_ok]at hu
  obtain⟨⟨y,h1⟩,ha,hu⟩:=hu
  dsimp only at hu
  split at hu
  ·rename_i a
   rw[bind_ok]at hu
   obtain⟨r',hr,hu⟩:=hu
   cases hu
   obtain⟨_,g1,g2,g3⟩:=alloc?_sound R I ha (cells?_in hc hx)
   refine⟨mkV?_in hr g1,g2,fun{E Q} hq=>?_⟩
   show wq K.P K.Ev E (newVar t (v.ev ρ)>>= fun b=>Extern.ReflectliteValue.mk t b 0) Q w
   rw[wq_bind]
   refine wq_newVar_of (cells?_ev hc ρ) ?_
   obtain⟨ρ',a1,a2,a3,a4⟩:=g3 (AV.evs ρ cs).toArray (by simp[ABlk.fits])
   have ha4:a.ev ρ'=⟨w.heap.size,0,none⟩:=by simpa[AV.ev] using a4
   rw[<-ha4]
   exact wq_mk hr (hq _ _ ⟨ρ',a1,a2,a3,rfl⟩)
  ·cases hu
 ·cases hu
  exact HOk.pure R I ⟨trivial,trivial,trivial,trivial⟩ fun{E Q} hq=>hq
 ·cases hu
theorem toType_ok(R:Rel K ρ h w)(I:Ids K U h){t:TypeId}{v:Value}(hv:pureRun K.P (Extern.ReflectliteType.toType t)=some v):HOk K U ρ h w (Extern.ReflectliteType.toType t) (ofValue v) h:=
 HOk.pure R I (ofValue_in v) fun{E Q} hq=>wq_pureRun hv (by rw[ofValue_ev]at hq;exact hq)
theorem wq_isNil{v:AV}{b:Bool}(hb:isNil? v=.ok b){Q:Value->World->Prop}(hq:Q (.bool b) w):
  wq K.P K.Ev E (match v.ev ρ with
   |.chan none|.nilFunc|.nilIface|.map none|.pointer none|.slice none _ _=>(pure (.bool true):Sem Value)
   |_=>pure (.bool false)) Q w:=by
 unfold isNil? at hb
 split at hb<;>cases hb<;>exact hq
theorem xIsNil_ok(G:K.Good)(R:Rel K ρ h w)(I:Ids K U h){z:Sem Value}{x r:AV}{h':AH}(hx:x.In U)(he:xIsNil? K.P K.O h x=.ok (r,h')):HOk K U ρ h w (Extern.ReflectliteValue.method z Extern.ReflectliteValue.isNil (AV.evs ρ [x]).toArray) r h':=by
 unfold xIsNil? at he
 rw[bind_ok]at he
 obtain⟨⟨t,a,fl⟩,hp,he⟩:=he
 dsimp only at he
 split at he
 ·rename_i hk
  rw[bind_ok]at he
  obtain⟨v,hv,he⟩:=he
  rw[bind_ok]at he
  obtain⟨b,hb,he⟩:=he
  cases he
  have p:=partsV?_ok hp
  refine HOk.pure R I trivial fun{E Q} hq=>wq_rmethod p ?_
  unfold Extern.ReflectliteValue.isNil
  simp only[hk,Bool.not_true,Bool.false_eq_true,if_false,wq_bind,wq_pure]
  exact wq_loadVar R G hv (wq_isNil hb hq)
 ·cases he
theorem elemT?_ok{P:Program}{t e:TypeId}(he:elemT? P t=.ok e):pureRun P (Extern.Rtype.elem? t)=some (some e):=by
 unfold elemT? at he
 split at he
 ·rename_i h;cases he;exact h
 ·cases he
theorem xElem_ok(G:K.Good)(R:Rel K ρ h w)(I:Ids K U h){z:Sem Value}{x r:AV}{h':AH}(hx:x.In U)(he:xElem? K.P K.O h x=.ok (r,h')):HOk K U ρ h w (Extern.ReflectliteValue.method z Extern.ReflectliteValue.elem (AV.evs ρ [x]).toArray) r h':=by
 unfold xElem? at he
 rw[bind_ok]at he
 obtain⟨⟨t,a,fl⟩,hp,he⟩:=he
 dsimp only at he
 have p:=partsV?_ok hp
 rw[bind_ok]at he
 obtain⟨v,hv,he⟩:=he
 have hvin:=loadVar?_in I hv
 split at he
 ·rename_i hk
  rw[bind_ok]at he
  obtain⟨e,hel,he⟩:=he
  have hel':=elemT?_ok hel
  have front:∀{E:Value->World->Prop} {Q:Value->World->Prop},wq K.P K.Ev E (match(22:Nat),v.ev ρ,some e with
    |20,i,_=>Extern.ReflectliteValue.unpack i
    |22,.pointer none,_=>pure Extern.ReflectliteValue.zeroV
    |22,.pointer (some p),some e=>Extern.ReflectliteValue.mk e p Extern.ReflectliteValue.flagAddr
    |_,_,_=>Extern.ReflectliteValue.valueError "reflectlite.Value.Elem" 22) Q w->wq K.P K.Ev E (Extern.ReflectliteValue.method z Extern.ReflectliteValue.elem (AV.evs ρ [x]).toArray) Q w:=by
   intro E Q hq
   refine wq_rmethod p ?_
   rw[hk]
   show wq K.P K.Ev E (loadVar t (a.ev ρ)>>= _) Q w
   rw[wq_bind]
   refine wq_loadVar R G hv ?_
   rw[wq_bind]
   exact wq_pureRun hel' hq
  split at he
  ·cases he
   exact HOk.pure R I ⟨trivial,trivial,trivial,trivial⟩ fun{E Q} hq=>front hq
  ·rename_i q
   rw[bind_ok]at he
   obtain⟨r',hr,he⟩:=he
   cases he
   exact HOk.pure R I (mkV?_in hr hvin) fun{E Q} hq=>front (wq_mk hr hq)
  ·cases he
 ·split at he
  ·rename_i hk
   rw[bind_ok]at he
   obtain⟨e,hel,he⟩:=he
   have hel':pureRun K.P (Extern.Rtype.elem? t)=some e:=by
    split at hel
    ·rename_i h;cases hel;exact h
    ·cases hel
   have H:=unpack_ok G R I hvin he
   refine⟨H.mem,H.grows,fun{E Q} hq=>?_⟩
   refine wq_rmethod p ?_
   rw[hk]
   show wq K.P K.Ev E (loadVar t (a.ev ρ)>>= _) Q w
   rw[wq_bind]
   refine wq_loadVar R G hv ?_
   rw[wq_bind]
   refine wq_pureRun hel' ?_
   exact H.run hq
  ·cases he
theorem pureB_ok{P:Program}{s:Sem Bool}{b:Bool}(h:pureB P s=.ok b):pureRun P s=some b:=by
 unfold pureB at h
 split at h
 ·rename_i h';cases h;exact h'
 ·cases h
theorem xSet_ok(G:K.Good)(R:Rel K ρ h w)(I:Ids K U h){v x r:AV}{h':AH}(hv:v.In U)(hx:x.In U)(he:xSet? K.P K.O h v x=.ok (r,h')):HOk K U ρ h w (Extern.ReflectliteValue.set (AV.evs ρ [v,x]).toArray) r h':=by
 unfold xSet? at he
 rw[bind_ok]at he
 obtain⟨⟨dst,a,fl⟩,hp,he⟩:=he
 dsimp only at he
 have p:=partsV?_ok hp
 rw[bind_ok]at he
 obtain⟨⟨src,b,fl2⟩,hp2,he⟩:=he
 dsimp only at he
 have p2:=partsV?_ok hp2
 split at he
 ·cases he
 ·rename_i hfl
  rw[bind_ok]at he
  obtain⟨val,hval,he⟩:=he
  rw[bind_ok]at he
  obtain⟨val2,hval2,he⟩:=he
  rw[bind_ok]at he
  obtain⟨h1,hst,he⟩:=he
  cases he
  have hvin:=loadVar?_in I hval
  unfold setVal? at hval2
  have hv2in:val2.In U:=by
   split at hval2
   ·cases hval2
   ·cases hval2;exact hvin
   ·split at hval2
    ·split at hval2
     ·split at hval2
      ·split at hval2
       ·cases hval2;exact hvin
       ·cases hval2
      ·cases hval2;exact hvin
     ·cases hval2
    ·cases hval2
    ·cases hval2
  have ids':=storeVar?_ids I hst (p.in hv) hv2in
  have fin:∀{E:Value->World->Prop} {Q:Value->World->Prop},(∀x w',After K U ρ w h' (fun ρ'=>x=undefA.ev ρ') w'->Q x w')->wq K.P K.Ev E (storeVar dst (a.ev ρ) (val2.ev ρ)) (fun _ w=>Q (.tuple #[]) w) w:=fun hq=>
   wq_storeVar R G hst fun w' R' kp _ _=>hq _ _ ⟨ρ,Agree.refl _ _,R',kp,rfl⟩
  have nb:h'.nb=h.nb∧h'.lim=h.lim:=by
   have:=(wq_run (P:=K.P) (Ev:=K.Ev) (E:=fun _ _=>False) (Q:=fun _ _=>h'.nb=h.nb∧h'.lim=h.lim) (wq_storeVar (ρ:=ρ) R G hst (Q:=fun _ _=>h'.nb=h.nb∧h'.lim=h.lim) fun w' _ _ a b=>⟨a,b⟩)).1
   generalize(storeVar dst (a.ev ρ) (val2.ev ρ)).run K.P w=r at this
   cases r with
   |ok u w'=>exact this
   |halt y w'=>cases y<;>exact this.elim
  refine⟨by simp[undefA,AV.In,AV.Ins],⟨by rw[nb.1];exact Nat.le_refl _,nb.2,by rw[nb.1];exact ids'.congr (fun n=>⟨.inl,plus_none n⟩)⟩,fun{E Q} hq=>?_⟩
  show wq K.P K.Ev E (Extern.ReflectliteValue.parts (v.ev ρ)>>= _) Q w
  rw[wq_bind]
  refine wq_parts p ?_
  rw[wq_bind]
  refine wq_parts p2 ?_
  have hfl':(fl / Extern.ReflectliteValue.flagAddr % 2==0)=false:=by
   simpa[Extern.ReflectliteValue.flagAddr] using hfl
  simp only[hfl',Bool.false_eq_true,if_false,wq_bind]
  refine wq_loadVar R G hval ?_
  split at hval2
  ·cases hval2
  ·rename_i hda
   cases hval2
   refine wq_pureRun (pureB_ok hda) ?_
   simp only[if_true,wq_bind,wq_pure]
   exact fin hq
  ·rename_i hda
   refine wq_pureRun (pureB_ok hda) ?_
   simp only[Bool.false_eq_true,if_false,wq_bind]
   split at hval2
   ·rename_i him
    rw[implementsA_eq]at him
    refine wq_pureRun (pureB_ok him) ?_
    simp only[if_true,wq_bind]
    split at hval2
    ·rename_i k hk
     refine wq_pureRun (kind?_ok hk) ?_
     split at hval2
     ·rename_i h20
      subst h20
      simp only[beq_self_eq_true,if_true]
      split at hval2
      ·cases hval2
       simp only[AV.ev,wq_bind,wq_pure]
       exact fin hq
      ·cases hval2
     ·rename_i h20
      have:(k==20)=false:=by simpa using h20
      cases hval2
      simp only[this,Bool.false_eq_true,if_false,wq_bind,wq_pure]
      exact fin hq
    ·cases hval2
   ·cases hval2
   ·cases hval2
def TabFacts(P:Program)(tab:List (FuncId×XE)):Prop:=∀p∈tab,∃e,ExtFact P p.1 e∧p.2.sem e
theorem ext_ok(G:K.Good){tab:List (FuncId×XE)}(L:K.lock∨∀p∈tab,p.2≠.quiet)(T:TabFacts K.P tab):ExtOk K (ext? K.P K.O tab):=by
 intro U ρ h w f args v h' R I ha he
 have lift:∀{e:Array Value->Sem Value},ExtFact K.P f e->HOk K U ρ h w (e (AV.evs ρ args).toArray) v h'->NOk K U ρ h w (callFunc f (AV.evs ρ args).toArray) (.value v) h':=fun hf H=>
  ⟨H.mem,H.grows,fun hq _=>wq_extern G hf (H.run fun x w' ⟨ρ',a1,a2,a3,a4⟩=>hq _ _ ⟨ρ',a1,a2,a3,by rw[a4];rfl⟩)⟩
 unfold ext? at he
 split at he
 ·cases he
 ·rename_i x hx
  obtain⟨f',hm,hf'⟩:=look_some hx
  have:f=f':=by simpa using hf'
  subst this
  obtain⟨e,hfact,hsem⟩:=T _ hm
  refine lift hfact ?_
  dsimp only at hsem
  split at he
  ·
   have hs:e=_:=hsem
   subst hs
   rw[bind_ok]at he
   obtain⟨n,hn,he⟩:=he
   cases he
   exact ld_ok G R I hn
  ·have hs:e=_:=hsem
   subst hs
   rw[bind_ok]at he
   obtain⟨n,hn,he⟩:=he
   cases he
   exact st_ok G R I ha.1 ha.2.1 hn
  ·have hs:e=_:=hsem
   subst hs
   rw[bind_ok]at he
   obtain⟨n,hn,he⟩:=he
   rw[bind_ok]at he
   obtain⟨h1,hh,he⟩:=he
   cases he
   exact sw_ok G R I ha.1 ha.2.1 hn hh
  ·have hs:e=_:=hsem
   subst hs
   rw[bind_ok]at he
   obtain⟨n,hn,he⟩:=he
   rw[bind_ok]at he
   obtain⟨b,hb,he⟩:=he
   rw[bind_ok]at he
   obtain⟨h1,hh,he⟩:=he
   cases he
   exact cas_ok G R I ha.1 ha.2.2.1 hn hb hh
  ·have hs:e=_:=hsem
   subst hs
   rw[bind_ok]at he
   obtain⟨n,hn,he⟩:=he
   rw[bind_ok]at he
   obtain⟨h1,hh,he⟩:=he
   cases he
   exact add_ok G R I ha.1 ha.2.1 hn hh (int_in I ⟨(ldInt_ok R G hn).2.2 I,ha.2.1⟩)
  ·have hs:e=_:=hsem
   subst hs
   cases he
   exact mark_ok G R I _ (fun _=>rfl)
  ·have hs:e=_:=hsem
   subst hs
   cases he
   exact mark_ok G R I _ (fun _=>rfl)
  ·have hs:e=_:=hsem
   subst hs
   cases he
   exact mark_ok G R I _ (fun _=>rfl)
  ·obtain⟨m,rfl⟩:=hsem
   cases he
   exact quiet_ok G (L.resolve_right fun x=>x _ hm rfl) R I m
  ·have hs:e=_:=hsem
   subst hs
   split at he
   ·rename_i t _ vv hv
    cases he
    exact toType_ok R I hv
   ·cases he
  ·have hs:e=_:=hsem
   subst hs
   cases he
   exact HOk.pure R I trivial fun{E Q} hq=>hq
  ·have hs:e=_:=hsem
   subst hs
   exact unpack_ok G R I ha.1 he
  ·obtain⟨z,rfl⟩:=hsem
   rw[bind_ok]at he
   obtain⟨⟨t,a,fl⟩,hp,he⟩:=he
   dsimp only at he
   split at he
   ·rename_i vv hv
    cases he
    have H:=toType_ok R I hv (U:=U)
    exact⟨H.mem,H.grows,fun{E Q} hq=>wq_rmethodAny (partsV?_ok hp) (H.run hq)⟩
   ·cases he
  ·obtain⟨z,rfl⟩:=hsem
   exact xIsNil_ok G R I ha.1 he
  ·obtain⟨z,rfl⟩:=hsem
   exact xElem_ok G R I ha.1 he
  ·have hs:e=_:=hsem
   subst hs
   exact xSet_ok G R I ha.1 ha.2.1 he
  ·cases he
end
end Go.Proofs.Ytmobbajggkjpgaa.SX
namespace Go.Proofs.Ytmobbajggkjpgaa
open Go.ChangeShapes Go.WideShapes Go.RowKit Go.Proofs.Ytmobbajggkjpgaa.SX
def fns:List Nat:=[2,3,4,5,6,7,8,9,10,11,12,13,14,15,16,17,18,19,20,21,22,23,24,25,26,27,28,29,30,31,32,33,34,35,36,37,38,39,40,41,42,43,44,45,46,47,48,49,50,51,52,53,54,55,56,57,58,59,60,61,62,63,64,65,66,67,68,69,70,71,72,73,74,91,92]
def ext:List (FuncId×(Array Value->Sem Value)):=[]
def tab:List (FuncId×XE):=[]
theorem ext_facts:∀p∈ext,ExtFact Try.prog p.1 p.2:=by
 intro p hp
 cases hp
theorem tab_facts:TabFacts Try.prog tab:=by
 intro p hp
 cases hp
theorem fns_ok:fns.all (fnOk Try.prog)=true:=by kernel_rfl
theorem Try.own:ownKnob Try.prog.godebug=none:=by kernel_rfl
theorem mixed:Try.prog.follows .mixedOrders=true:=by kernel_rfl
end Go.Proofs.Ytmobbajggkjpgaa
namespace Go.Proofs.Ytmobbajggkjpgaa.SX
noncomputable section
def steps?(P:Program)(O:Orc)(ext:Ext)(sum:Sums)(f n:Nat):ACfg->M (ACfg⊕(AE×AH)):=
 Nat.rec (fun c=>.ok (.inl c)) (fun _ ih c=>
  match step? P O ext (fun g args h=>match sum g args h with
   |some r=>r
   |none=>match enterA P g args .normal with
    |.ok fr=>run? P O ext sum f ⟨fr,[],h⟩
    |.error e=>.error e) c with
  |.ok (.inl c)=>ih c
  |.ok (.inr r)=>.ok (.inr r)
  |.error e=>.error e) n
def truth(f:FuncId):Sums:=fun g args h=>match args with
 |[]=>Bool.rec none (some (.ok (.returned (.bool (.lit true)),h))) (Nat.beq g f)
 |_=>none
namespace Short
def I(n:Nat):AV:=.int .i64 (.lit (.ofNat n))
def A(i n:Nat):AV:=.ptr (some ⟨.dyn i,.lit (.ofNat n)⟩)
def T:AV:=.bool (.lit true)
def F:AV:=.bool (.lit false)
def Z:AV:=undefA
def L:TT:=.leaf
def N(v:AV)(l r:TT):TT:=.node v l r
def N1(v:AV):TT:=.node v .leaf .leaf
end Short
def pc(c:Code)(p:List Nat):Code:=
 match p with
 |[]=>c
 |i::p=>match c with
  |.seq a b=>match i with
   |0=>pc a p
   |_=>pc b p
  |.cond _ a b=>match i with
   |0=>pc a p
   |_=>pc b p
  |.block _ b=>pc b p
  |.loop b=>pc b p
  |.scope b=>pc b p
  |c=>c
def opsOf(c:Code):Array Oper:=
 match c with
 |.region _ ops _=>ops
 |_=>#[]
def bodyOf(f:Func):Code:=
 match f.body with
 |some c=>c
 |none=>.skip
end
noncomputable section
def e0:AH:=⟨[],0,0⟩
end
noncomputable section
structure ASeat where
 id:Nat
 cfg:ACfg
 ch:Nat
 z:Value
 ok:Bool
 stills:List (AA×AV)
structure CSt where
 h:Nat
 c:ACfg
 seats:List ASeat
 next:Nat
 deaf:Nat:=0
def Orc.bare(O:Orc):Orc:={O with bs:=[],is:=[],mem:=[]}
def oneTmp(P:Program)(f:FuncId):Bool:=
 match P.funcs[f]? with
 |some fn=>match fn.results.toList with
  |[.tmp _]=>(P.inits.idxOf? f).isNone
  |_=>false
 |none=>false
end
end Go.Proofs.Ytmobbajggkjpgaa.SX
namespace Go.Proofs.Ytmobbajggkjpgaa.SX.Tok
open Go.Conc
structure Held(St:Nat->Loc->Prop)(Mem:Nat->Prop)(h:Nat)(t:Trace):Prop where
 clean:∀said,¬Race said t
 known:∀i a,touchAt t i=some a->a.loc.isMemory=true->Knows t h i∨(a.write=false∧∃g,t.g? i=some g∧g≠h∧St g a.loc)
 wrote:∀i a,touchAt t i=some a->a.write=true->∀g,St g a.loc->Knows t g i
 hears:∀g,Mem g->Deaf t g=0
section
variable {St:Nat->Loc->Prop}{Mem:Nat->Prop}{h j g:Nat}{t u:Trace}
theorem Held.old(H:Held St Mem h t){i:Nat}{a:Touch}{x:MemOp}(hx:t[i]?=some x)(hxa:x.act.touch?=some a)(hm:a.loc.isMemory=true):
  Knows (t++u) h i∨(a.write=false∧∃g,(t++u).g? i=some g∧g≠h∧St g a.loc):=
 (H.known i a (by rw[touchAt_of hx];exact hxa) hm).imp (Knows.app u) fun⟨p,g,hg,hn,hs⟩=>⟨p,g,by rw[g?_old (lt_size_of_getElem? hx)];exact hg,hn,hs⟩
theorem Held.hears_app(H:Held St Mem h t)(hu:∀op∈u,op.g=g)(hd:Mem g->Deaf (t++u) g=Deaf t g):∀g',Mem g'->Deaf (t++u) g'=0:=fun g' hg'=>by
 by_cases e:g'=g
 ·subst e;exact(hd hg').trans (H.hears g' hg')
 ·exact(Deaf_other t (fun x=>e x.symm) u hu).trans (H.hears g' hg')
theorem Held.mute(H:Held St Mem h t)(hu:∀op∈u,op.g=g)(hn:∀op∈u,op.act.touch?=none)(hd:Mem g->Deaf (t++u) g=Deaf t g):Held St Mem h (t++u):=by
 refine⟨fun said=>noRace_appendMute (H.clean said) hn,fun i a ha hm=>?_,fun i a ha hw g' hg'=>?_,H.hears_app hu hd⟩
 ·obtain⟨x,hx,hxa⟩:=touch_of ha
  rcases getElem?_append_cases hx with⟨_,hx'⟩|⟨_,hxu⟩
  ·exact H.old hx' hxa hm
  ·rw[hn x hxu]at hxa;cases hxa
 ·obtain⟨x,hx,hxa⟩:=touch_of ha
  rcases getElem?_append_cases hx with⟨_,hx'⟩|⟨_,hxu⟩
  ·exact(H.wrote i a (by rw[touchAt_of hx'];exact hxa) hw g' hg').app u
  ·rw[hn x hxu]at hxa;cases hxa
theorem Held.read(H:Held St Mem h t)(hg:g≠h)(hu:∀op∈u,op.g=g)(hr:∀op∈u,∀b,op.act.touch?=some b->b.write=false∧St g b.loc)(hd:Deaf (t++u) g=Deaf t g):Held St Mem h (t++u):=by
 refine⟨fun said=>noRace_append (H.clean said) hu fun i a ha op hop b hb hc=>?_,fun i a ha hm=>?_,fun i a ha hw g' hg'=>?_,H.hears_app hu fun _=>hd⟩
 ·obtain⟨hb0,hbS⟩:=hr op hop b hb
  rcases hc.2.2.1 with x|x
  ·exact H.wrote i a ha x g (hc.1▸hbS)
  ·rw[hb0]at x;cases x
 ·obtain⟨x,hx,hxa⟩:=touch_of ha
  rcases getElem?_append_cases hx with⟨_,hx'⟩|⟨_,hxu⟩
  ·exact H.old hx' hxa hm
  ·exact .inr ⟨(hr x hxu a hxa).1,g,by rw[g?_of hx,hu x hxu],hg,(hr x hxu a hxa).2⟩
 ·obtain⟨x,hx,hxa⟩:=touch_of ha
  rcases getElem?_append_cases hx with⟨_,hx'⟩|⟨_,hxu⟩
  ·exact(H.wrote i a (by rw[touchAt_of hx'];exact hxa) hw g' hg').app u
  ·rw[(hr x hxu a hxa).1]at hw;cases hw
theorem Held.own(H:Held St Mem h t)(hu:∀op∈u,op.g=h)(hs:∀op∈u,∀b,op.act.touch?=some b->∀g,St g b.loc->b.write=false)(hd:Mem h->Deaf (t++u) h=Deaf t h):Held St Mem h (t++u):=by
 refine⟨fun said=>noRace_append (H.clean said) hu fun i a ha op hop b hb hc=>?_,fun i a ha hm=>?_,fun i a ha hw g hg=>?_,H.hears_app hu hd⟩
 ·rcases H.known i a ha hc.2.1 with hk|⟨hw,g,_,_,hS⟩
  ·exact hk
  ·have hb0:=hs op hop b hb g (hc.1▸hS)
   rcases hc.2.2.1 with x|x
   ·rw[hw]at x;cases x
   ·rw[hb0]at x;cases x
 ·obtain⟨x,hx,hxa⟩:=touch_of ha
  rcases getElem?_append_cases hx with⟨_,hx'⟩|⟨_,hxu⟩
  ·exact H.old hx' hxa hm
  ·have:=knows_own hx
   rw[hu x hxu]at this
   exact .inl this
 ·obtain⟨x,hx,hxa⟩:=touch_of ha
  rcases getElem?_append_cases hx with⟨_,hx'⟩|⟨_,hxu⟩
  ·exact(H.wrote i a (by rw[touchAt_of hx'];exact hxa) hw g hg).app u
  ·rw[hs x hxu a hxa g hg]at hw;cases hw
theorem Held.turn{Mem':Nat->Prop}(H:Held St Mem h t)(hu:∀op∈u,op.g=h)(hn:∀op∈u,op.act.touch?=none)(h1:∀g,Mem' g->g≠h->Mem g)(h2:Mem' h->Deaf (t++u) h=0):Held St Mem' h (t++u):=by
 refine⟨fun said=>noRace_appendMute (H.clean said) hn,fun i a ha hm=>?_,fun i a ha hw g' hg'=>?_,fun g hg=>?_⟩
 ·obtain⟨x,hx,hxa⟩:=touch_of ha
  rcases getElem?_append_cases hx with⟨_,hx'⟩|⟨_,hxu⟩
  ·exact H.old hx' hxa hm
  ·rw[hn x hxu]at hxa;cases hxa
 ·obtain⟨x,hx,hxa⟩:=touch_of ha
  rcases getElem?_append_cases hx with⟨_,hx'⟩|⟨_,hxu⟩
  ·exact(H.wrote i a (by rw[touchAt_of hx'];exact hxa) hw g' hg').app u
  ·rw[hn x hxu]at hxa;cases hxa
 ·by_cases e:g=h
  ·subst e;exact h2 hg
  ·exact(Deaf_other t (fun x=>e x.symm) u hu).trans (H.hears g (h1 g hg e))
theorem Held.begin{B:Nat}(H:Past (fun _=>False) B t):Held (fun _ _=>False) (fun g=>g=0) 0 t:=
 ⟨H.clean,fun i a ha hm=>(H.known i a ha hm).imp id fun x=>x.1.elim,fun _ _ _ _ _ hg=>hg.elim,fun _ hg=>hg▸H.hears⟩
theorem Held.over(H:Held St Mem 0 t)(h0:Mem 0)(hS:∀g l,¬St g l){B:Nat}(hB:∀op∈t,op.act.low B):Past (fun _=>False) B t:=by
 have hk:∀i a,touchAt t i=some a->a.loc.isMemory=true->Knows t 0 i:=fun i a ha hm=>(H.known i a ha hm).elim id fun⟨_,g,_,_,hs⟩=>absurd hs (hS g _)
 refine⟨H.clean,fun i a ha hm=>.inl (hk i a ha hm),fun i g hg hne ⟨x,hx,hm,_⟩=>?_,H.hears 0 h0,hB⟩
 obtain⟨q,z,hq,hz,hb⟩:=hk i x hx hm
 rcases hb with rfl|hb
 ·rw[g?_of hq,hz]at hg
  exact absurd (Option.some.inj hg).symm hne
 ·exact⟨q,by rw[g?_of hq,hz],hb⟩
theorem low_some(t:Trace):∃B,∀op∈t,op.act.low B:=by
 have one:∀a:MemAct,∃B,a.low B:=by
  have loc:∀l:Loc,∃B,l.low B:=fun l=>by
   cases l with
   |cell a=>exact⟨a.block+1,Nat.lt_succ_self _⟩
   |obj r=>exact⟨r+1,Nat.lt_succ_self _⟩
   |_=>exact⟨0,trivial⟩
  intro a
  cases a with
  |access e=>exact loc e.loc
  |mark m=>cases m<;>first|exact⟨0,trivial⟩|exact⟨_,Nat.lt_succ_self _⟩
  |go _|start=>exact⟨0,trivial⟩
  |send _ _|sendDone _ _|recv _ _ _|recvDone _ _|close _|recvClosed _=>exact⟨_,Nat.lt_succ_self _⟩
 have:∀l:List MemOp,∃B,∀op∈l,op.act.low B:=by
  intro l
  induction l with
  |nil=>exact⟨0,fun _ h=>by cases h⟩
  |cons x l ih=>
   obtain⟨B,hB⟩:=ih
   obtain⟨C,hC⟩:=one x.act
   refine⟨B+C,fun op hop=>?_⟩
   rcases List.mem_cons.1 hop with rfl|hop
   ·exact MemAct.low_mono (Nat.le_add_left _ _) hC
   ·exact MemAct.low_mono (Nat.le_add_right _ _) (hB op hop)
 obtain⟨B,hB⟩:=this t.toList
 exact⟨B,fun op hop=>hB op (by simpa using hop)⟩
end
end Go.Proofs.Ytmobbajggkjpgaa.SX.Tok
namespace Go.Proofs.Ytmobbajggkjpgaa.SX.Tok
open Go.Conc
open Go.ConcN (sumTo upd sumTo_upd upd_ne upd_same)
structure Seat where
 c:Nat
 z:Value
 ok:Bool
 still:Loc->Prop
 keep:World->Prop
 B:Nat
 home:Goroutine->Prop
def Seat.base(s:Seat):Conc.Seat:=Conc.Seat.one s.c s.z s.ok s.home
structure Seat.Wf(s:Seat):Prop where
 at':∀w d,s.keep w->s.keep (w.at d)
 chan:∀w c cap buf cl a b tm cap' buf' cl' a' b' tm',w.heap[c]?=some (.chan cap buf cl a b tm)->s.keep w->s.keep (w.setChan c cap' buf' cl' a' b' tm')
 mem:∀l,s.still l->l.isMemory=true
def Rest(P:Program)(T:Trace)(i n:Nat)(g:Goroutine):Option Seat->Prop
 |none=>0<i∧QuitsD P n (Deaf T i) g
 |some s=>Sits P (i==0) s.keep s.still s.B s.base n g
def St(Inb:Nat->Option Seat)(g:Nat)(l:Loc):Prop:=∃s,Inb g=some s∧s.still l
def Mem(Inb:Nat->Option Seat)(h dd g:Nat):Prop:=(g=h∧dd=0)∨∃s,Inb g=some s
structure Core(P:Program)(Inb:Nat->Option Seat)(h dd:Nat)(T:Trace)(gs:Array Goroutine)(w:World)(q:Nat->Nat):Prop where
 idle:∀i g,i≠h->gs[i]?=some g->Rest P T i (q i) g (Inb i)
 chans:∀i s,Inb i=some s->∃k,w.heap[s.c]?=some (.chan 0 #[] false k k false)
 wf:∀i s,Inb i=some s->s.Wf
 inj:∀i i' s s',Inb i=some s->Inb i'=some s'->s.c=s'.c->i=i'
 above:∀j,gs.size≤j->Deaf T j=0∧Inb j=none
 free:Inb h=none
 past:Held (St Inb) (Mem Inb h dd) h T
 deaf:Deaf T h=dd
 keep:∀i s,Inb i=some s->s.keep w
section
variable {P:Program}{Inb:Nat->Option Seat}{h dd:Nat}{T:Trace}{gs:Array Goroutine}{w:World}{q:Nat->Nat}
theorem has_base{s:Seat}{c:Nat}:s.base.has c↔c=s.c:=Conc.Seat.one_has
theorem wf_base(s:Seat):s.base.Wf:=Conc.Seat.one_wf _ _ _ _
theorem cases_base(s:Seat):s.base.cases=#[rcase s.c s.z]:=rfl
theorem Core.fixed(C:Core P Inb h dd T gs w q){x:Nat}{y:Goroutine}(hx:x≠h)(hy:gs[x]?=some y):y.again w=y:=by
 have hr:=C.idle x y hx hy
 cases e:Inb x with
 |none=>rw[e]at hr;exact again_of_running hr.2.status w
 |some s=>
  rw[e]at hr
  exact Sits.again (C.keep x s e) hr (wf_base s) fun c hc=>by
   obtain rfl:=has_base.1 hc
   obtain⟨k,hk⟩:=C.chans x s e
   exact⟨_,_,_,_,_,hk⟩
theorem Core.noSend(C:Core P Inb h dd T gs w q){x:Nat}{y:Goroutine}(hx:x≠h)(hy:gs[x]?=some y)(c:Nat):offersAt y c true=[]:=by
 have hr:=C.idle x y hx hy
 cases e:Inb x with
 |none=>
  rw[e]at hr
  exact offersAt_of_not_blocked (fun hb=>by rcases hr.2.status with z|z<;>rw[z]at hb<;>cases hb) c true
 |some s=>
  rw[e]at hr
  rcases hr with⟨k,w₀,hq,hg⟩|⟨_,_,g₂,rfl,_⟩
  ·have:=(Sits.status (C.keep x s e) (.inl ⟨k,w₀,hq,hg⟩)).elim (·.1) (fun z=>by omega)
   exact offersAt_of_not_blocked (fun hb=>by rw[this]at hb;cases hb) c true
  ·exact offersAt_parked_sends (fun cc hcc=>by obtain⟨c',z',rfl⟩:=(wf_base s).recvs cc hcc;rfl) _
theorem Core.at(C:Core P Inb h dd T gs w q)(d:Nat):Core P Inb h dd T gs (w.at d) q:=
 ⟨C.idle,C.chans,C.wf,C.inj,C.above,C.free,C.past,C.deaf,fun i s e=>(C.wf i s e).at' w d (C.keep i s e)⟩
theorem Core.put(C:Core P Inb h dd T gs w q){i n':Nat}{g':Goroutine}{ops:Array MemOp}{gs':Array Goroutine}(hih:i≠h)(hlt:i<gs.size)(hsz:gs'.size=gs.size)(hother:∀x,x≠i->gs'[x]?=gs[x]?)(hself:gs'[i]?=some g')
 (hops:∀op∈ops,op.g=i)(hidle:Rest P (T++ops) i n' g' (Inb i))(hpast:Held (St Inb) (Mem Inb h dd) h (T++ops)):Core P Inb h dd (T++ops) gs' w (upd q i n'):=by
 refine⟨fun x y hx hy=>?_,C.chans,C.wf,C.inj,fun j hj=>⟨?_,(C.above j (by omega)).2⟩,C.free,hpast,(Deaf_other T hih ops hops).trans C.deaf,C.keep⟩
 ·by_cases e:x=i
  ·subst e
   rw[hself]at hy
   obtain rfl:=Option.some.inj hy
   rw[upd_same];exact hidle
  ·rw[hother x e]at hy
   rw[upd_ne q n' e]
   have hr:=C.idle x y hx hy
   cases es:Inb x with
   |none=>rw[es]at hr;exact⟨hr.1,by rw[Deaf_other T (fun z=>e z.symm) ops hops];exact hr.2⟩
   |some s=>rw[es]at hr;exact hr
 ·rw[Deaf_other T (g':=i) (by omega) ops hops]
  exact(C.above j (by omega)).1
theorem evC_ops'{s:Seat}{i:Nat}{fn:FuncId}{pos:String}{es:Array Event}(he:∀e∈es,EvC s.still s.B e):
  (∀op∈MemOp.ofEvents i fn pos es,op.g=i)∧(∀op∈MemOp.ofEvents i fn pos es,∀b,op.act.touch?=some b->b.write=false∧s.still b.loc)∧∀t:Trace,Deaf (t++MemOp.ofEvents i fn pos es) i=Deaf t i:=by
 obtain⟨a,b,_,d⟩:=evC_ops (i:=i) (fn:=fn) (pos:=pos) he
 exact⟨a,b,d⟩
theorem Core.by_step(C:Core P Inb h dd T gs w q){i:Nat}{g:Goroutine}{sl:Option (Nat×Nat)}(hi:gs[i]?=some g)(hih:i≠h)(hrun:g.status=.running)
 (hsA:∀gx,gs[h]?=some gx->gx.again w=gx)(hsO:∀s g₂,Inb i=some s->AtIn P (i==0) s.keep s.still s.B s.base g g₂->∀gx,gs[h]?=some gx->offersAt gx s.c true=[]):
  ∃(gs':Array Goroutine) (ops:Array MemOp) (q':Nat->Nat),runT P (crowd gs w sl) i=(.next (crowd gs' w sl),ops)∧gs'.size=gs.size∧gs'[h]?=gs[h]?∧(∀x,x≠i->q' x=q x)∧(∀s,Inb i=some s->q' i=0->∃g₂,AtIn P (i==0) s.keep s.still s.B s.base g g₂)∧
   Core P Inb h dd (T++ops) gs' w q'∧sumTo gs.size q'<sumTo gs.size q:=by
 have hlt:i<gs.size:=(Array.getElem?_eq_some_iff.1 hi).1
 have hfix:∀(a a':Goroutine) (x:Nat) (y:Goroutine),gs[x]?=some y->woken P a a' w y=y:=fun a a' x y hy=>woken_of_again (by
  by_cases hx:x=h
  ·subst hx;exact hsA y hy
  ·exact C.fixed hx hy)
 have harr:∀(a' g':Goroutine) (x:Nat),x≠i->((gs.map (woken P g a' w)).setIfInBounds i g')[x]?=gs[x]?:=by
  intro a' g' x hx
  rw[Array.getElem?_setIfInBounds_ne (fun e=>hx e.symm),Array.getElem?_map]
  cases e:gs[x]? with
  |none=>rfl
  |some y=>simp[hfix g a' x y e]
 have hself:∀(a' g':Goroutine),((gs.map (woken P g a' w)).setIfInBounds i g')[i]?=some g':=fun a' g'=>Array.getElem?_setIfInBounds_self_of_lt (by simpa using hlt)
 have hsum:∀k,q i=k+1->sumTo gs.size (upd q i k)<sumTo gs.size q:=by
  intro k hqi
  have h2:sumTo gs.size (upd q i k)+(k+1)=sumTo gs.size q+k:=by
   have:=sumTo_upd q k id hlt
   simpa[hqi] using this
  omega
 have hid:=C.idle i g hih hi
 cases e:Inb i with
 |none=>
  rw[e]at hid
  obtain⟨hpos,hq⟩:=hid
  have hi0:(i==0)=false:=by simp;omega
  cases hqi:q i with
  |zero=>rw[hqi]at hq;rw[hq.1]at hrun;cases hrun
  |succ k=>
   rw[hqi]at hq
   rcases hq with⟨hf,_⟩|⟨_,g',es,hm,hstp,hq'⟩
   ·rw[hf]at hrun;cases hrun
   have hops:∀op∈MemOp.ofEvents i g.frame.fn g.frame.place es,op.g=i:=fun op hop=>by obtain⟨e,_,rfl⟩:=Conc.mem_ofEvents hop;rfl
   refine⟨_,_,upd q i k,runT_crowd_go (sl:=sl) hi (by rw[hi0];exact hstp w),by simp,harr _ _ h (Ne.symm hih),fun x hx=>upd_ne q k hx,fun s hs _=>(by cases hs),?_,hsum k hqi⟩
   refine C.put hih hlt (by simp) (harr _ _) (hself _ _) hops (by rw[e];exact⟨hpos,by rw[Deaf_own];exact hq'⟩) ?_
   exact C.past.mute hops (fun op hop=>by obtain⟨e,he,rfl⟩:=Conc.mem_ofEvents hop;exact touch_mute (hm e he)) (fun hM=>by
    rcases hM with z|⟨s,z⟩
    ·exact absurd z.1 hih
    ·rw[e]at z;cases z)
 |some s=>
  rw[e]at hid
  have hkp:=C.keep i s e
  obtain⟨k,w₀,hqi,hg⟩:∃k w₀,q i=k+1∧Goes P (i==0) (RK s.keep) (DS s.still s.B) (fun g _=>∃g₂,AtIn P (i==0) s.keep s.still s.B s.base g g₂) k g w₀:=by
   rcases hid with h|⟨_,_,g₂,rfl,_⟩
   ·exact h
   ·cases hrun
  have hcase:(∃g₂,AtIn P (i==0) s.keep s.still s.B s.base g g₂)∨∃k' g' es,k=k'+1∧stepG P (i==0) g w=.go g' w es∧(∀e∈es,EvC s.still s.B e)∧Goes P (i==0) (RK s.keep) (DS s.still s.B) (fun g _=>∃g₂,AtIn P (i==0) s.keep s.still s.B s.base g g₂) k' g' w:=by
   cases k with
   |zero=>exact .inl (hg w hkp)
   |succ k'=>
    rcases hg with hstop|⟨_,hstep⟩
    ·exact .inl (hstop w hkp)
    ·have hs:=hstep w hkp
     cases hgo:stepG P (i==0) g w with
     |go g' w' es=>
      rw[hgo,goes_go]at hs
      obtain⟨⟨rfl,hes⟩,hG'⟩:=hs
      exact .inr ⟨k',g',es,rfl,rfl,hes,hG'⟩
     |_=>rw[hgo]at hs;exact hs.elim
  rcases hcase with⟨g₂,hat⟩|⟨k',g',es,rfl,hgo,hes,hG'⟩
  ·have hsO':=hsO s g₂ e hat
   obtain⟨_,_,_,_,_,es,hes,hstp⟩:=id hat
   obtain⟨hops,hr,hd⟩:=evC_ops' (s:=s) (i:=i) (fn:=g.frame.fn) (pos:=g.frame.place) hes
   have hw:∀cc∈s.base.cases,NoWays w (gs.setIfInBounds i ph) cc:=by
    intro cc hcc
    rw[cases_base]at hcc
    obtain rfl:cc=rcase s.c s.z:=by simpa using hcc
    obtain⟨kk,hc⟩:=C.chans i s e
    refine ways_recv_none hc (partners_nil fun x y hy=>?_)
    rcases getElem?_stand gs i x y hy with⟨_,rfl⟩|⟨hx,hy'⟩
    ·exact offersAt_ph _ _
    ·by_cases hS:x=h
     ·subst hS;exact hsO' y hy'
     ·exact C.noSend hS hy' _
   refine⟨_,_,upd q i 0,crowd_waits (sl:=sl) hi (hstp w hkp) hw,by simp,Array.getElem?_setIfInBounds_ne hih,fun x hx=>upd_ne q 0 hx,fun s' hs' _=>(by obtain rfl:=Option.some.inj hs';exact⟨g₂,hat⟩),?_,?_⟩
   ·refine C.put hih hlt (by simp) (fun x hx=>Array.getElem?_setIfInBounds_ne (fun z=>hx z.symm)) (Array.getElem?_setIfInBounds_self_of_lt hlt) hops (by rw[e];exact .inr ⟨rfl,g,g₂,rfl,hat⟩) ?_
    exact C.past.read hih hops (fun op hop b hb=>⟨(hr op hop b hb).1,s,e,(hr op hop b hb).2⟩) (hd T)
   ·have h2:sumTo gs.size (upd q i 0)+(k+1)=sumTo gs.size q+0:=by
     have:=sumTo_upd q 0 id hlt
     simpa[hqi] using this
    omega
  ·obtain⟨hops,hr,hd⟩:=evC_ops' (s:=s) (i:=i) (fn:=g.frame.fn) (pos:=g.frame.place) hes
   refine⟨_,_,upd q i (k'+1),runT_crowd_go (sl:=sl) hi hgo,by simp,harr _ _ h (Ne.symm hih),fun x hx=>upd_ne q _ hx,fun s' _ h0=>(by rw[upd_same]at h0;omega),?_,hsum _ hqi⟩
   refine C.put hih hlt (by simp) (harr _ _) (hself _ _) hops (by rw[e];exact .inl ⟨k',w,rfl,hG'⟩) ?_
   exact C.past.read hih hops (fun op hop b hb=>⟨(hr op hop b hb).1,s,e,(hr op hop b hb).2⟩) (hd T)
def EvH(Inb:Nat->Option Seat)(e:Event):Prop:=(∀x,(MemAct.ofEvent e).touch?=some x->∀g,St Inb g x.loc->x.write=false)∧e.loc≠.mark .disable∧e.loc≠.mark .enable
def DHold(Inb:Nat->Option Seat)(w w':World)(es:Array Event):Prop:=
 (∀i s,Inb i=some s->s.keep w->s.keep w')∧(∀i s,Inb i=some s->w'.heap[s.c]?=w.heap[s.c]?)∧∀e∈es,EvH Inb e
theorem evH_ops{i:Nat}{fn:FuncId}{pos:String}{es:Array Event}(he:∀e∈es,EvH Inb e):
  (∀op∈MemOp.ofEvents i fn pos es,op.g=i)∧(∀op∈MemOp.ofEvents i fn pos es,∀b,op.act.touch?=some b->∀g,St Inb g b.loc->b.write=false)∧∀t:Trace,Deaf (t++MemOp.ofEvents i fn pos es) i=Deaf t i:=
 ⟨fun op hop=>by obtain⟨e,_,rfl⟩:=Conc.mem_ofEvents hop;rfl,fun op hop b hb=>by obtain⟨e,h,rfl⟩:=Conc.mem_ofEvents hop;exact(he e h).1 b hb,
  fun t=>by rw[Deaf_own];exact deafBehind_still (fun e h=>⟨(he e h).2.1,(he e h).2.2⟩) _⟩
theorem Core.deafs(C:Core P Inb h dd T gs w q){ops:Array MemOp}(hops:∀op∈ops,op.g=h)(hd:Deaf (T++ops) h=Deaf T h):∀x,Deaf (T++ops) x=Deaf T x:=fun x=>by
 by_cases e:x=h
 ·subst e;exact hd
 ·exact Deaf_other T (fun z=>e z.symm) _ hops
theorem Core.own(C:Core P Inb h dd T gs w q){a a':Goroutine}{w':World}{es:Array Event}(ha:gs[h]?=some a)(hd:DHold Inb w w' es):
  Core P Inb h dd (T++MemOp.ofEvents h a.frame.fn a.frame.place es) ((gs.map (woken P a a' w')).setIfInBounds h a') w' q∧((gs.map (woken P a a' w')).setIfInBounds h a')[h]?=some a':=by
 have hlt:h<gs.size:=(Array.getElem?_eq_some_iff.1 ha).1
 obtain⟨hops,hs,hdf⟩:=evH_ops (i:=h) (fn:=a.frame.fn) (pos:=a.frame.place) hd.2.2
 have hD:=C.deafs hops (hdf T)
 have C':Core P Inb h dd T gs w' q:=⟨C.idle,fun i s e=>by obtain⟨k,hk⟩:=C.chans i s e;exact⟨k,by rw[hd.2.1 i s e];exact hk⟩,C.wf,C.inj,C.above,C.free,C.past,C.deaf,fun i s e=>hd.1 i s e (C.keep i s e)⟩
 refine⟨⟨fun x y hx hy=>?_,C'.chans,C.wf,C.inj,fun j hj=>?_,C.free,C.past.own hops hs (fun _=>hdf T),(hdf T).trans C.deaf,C'.keep⟩,Array.getElem?_setIfInBounds_self_of_lt (by simpa using hlt)⟩
 ·rw[Array.getElem?_setIfInBounds_ne (fun e=>hx e.symm),Array.getElem?_map]at hy
  obtain⟨y₀,hy₀,rfl⟩:=Option.map_eq_some_iff.1 hy
  rw[woken_of_again (C'.fixed hx hy₀)]
  have hi:=C.idle x y₀ hx hy₀
  cases es':Inb x with
  |none=>rw[es']at hi;exact⟨hi.1,by rw[hD];exact hi.2⟩
  |some s=>rw[es']at hi;exact hi
 ·simp only[Array.size_setIfInBounds,Array.size_map]at hj
  rw[hD];exact C.above j hj
theorem Core.awake(C:Core P Inb h dd T gs w q){a:Goroutine}(ha:gs[h]?=some a)(hs:a.status=.running∨a.status=.blocked):∀g∈gs,awake g:=by
 intro g hg
 obtain⟨i,hi,rfl⟩:=Array.mem_iff_getElem.1 hg
 by_cases e:i=h
 ·subst e
  have:gs[i]=a:=by simpa[Array.getElem?_eq_getElem hi] using ha
  rw[this];exact awake_of (hs.elim .inl fun x=>.inr (.inl x))
 ·have hid:=C.idle i _ e (Array.getElem?_eq_getElem hi)
  cases es:Inb i with
  |none=>rw[es]at hid;exact awake_of (hid.2.status.elim .inl fun x=>.inr (.inr x))
  |some s=>rw[es]at hid;exact awake_of ((Sits.status (C.keep i s es) hid).elim (fun x=>.inl x.1) fun x=>.inr (.inl x.1))
theorem picked{a:Goroutine}{sl:Option (Nat×Nat)}(ha:gs[h]?=some a)(hrun:a.status=.running)(C:Core P Inb h dd T gs w q):
  ∃(N:Nat) (gs':Array Goroutine) (d d':Nat) (sl' sl'':Option (Nat×Nat)) (T':Trace) (q':Nat->Nat),runNT P N (crowd gs w sl) T=(.next (crowd gs' (w.at d) sl'),T')∧
   stepT P (crowd gs' (w.at d) sl')=runT P (crowd gs' (w.at d') sl'') h∧gs'.size=gs.size∧gs'[h]?=some a∧Core P Inb h dd T' gs' (w.at d') q':=by
 obtain⟨N,m',T',hr,gs',d,d',sl',sl'',q',rfl,hst,hsz,ha',C'⟩:=runs_until (P:=P)
  (Inv:=fun μ m t=>∃gs₁ d sl₁ q₁,m=crowd gs₁ (w.at d) sl₁∧gs₁.size=gs.size∧gs₁[h]?=some a∧Core P Inb h dd t gs₁ (w.at d) q₁∧μ=sumTo gs₁.size q₁)
  (Done:=fun m t=>∃gs₁ d d' sl₁ sl₂ q₁,m=crowd gs₁ (w.at d) sl₁∧stepT P (crowd gs₁ (w.at d) sl₁)=runT P (crowd gs₁ (w.at d') sl₂) h∧gs₁.size=gs.size∧gs₁[h]?=some a∧Core P Inb h dd t gs₁ (w.at d') q₁)
  (fun μ m t ⟨gs₁,d,sl₁,q₁,hm,hsz,ha₁,C₁,hμ⟩=>by
   subst hm
   obtain⟨i,g,d',sl',hi,hg,hst⟩:=crowd_pick (P:=P) (w:=w.at d) (sl:=sl₁) (C₁.awake ha₁ (.inl hrun)) ⟨h,a,ha₁,hrun⟩
   rw[at_at']at hst
   have Cd:Core P Inb h dd t gs₁ (w.at d') q₁:=C₁.at d'
   by_cases e:i=h
   ·subst e
    exact .inl ⟨gs₁,d,d',sl₁,sl',q₁,rfl,hst,hsz,ha₁,Cd⟩
   ·obtain⟨gs',ops,q',hrt,hsz',hsp,_,_,C',hlt⟩:=Cd.by_step (sl:=sl') hi e hg
     (fun gx hgx=>by rw[ha₁]at hgx;obtain rfl:=Option.some.inj hgx;exact again_of_running (.inl hrun) _)
     (fun s g₂ _ _ gx hgx=>by rw[ha₁]at hgx;obtain rfl:=Option.some.inj hgx;exact offersAt_of_not_blocked (by rw[hrun];simp) _ _)
    exact .inr ⟨_,_,sumTo gs'.size q',by rw[hst];exact hrt,by rw[hsz'];omega,gs',d',sl',q',rfl,hsz'.trans hsz,by rw[hsp];exact ha₁,C',rfl⟩)
  _ _ T ⟨gs,w.drawn,sl,q,rfl,rfl,ha,C,rfl⟩
 exact⟨N,gs',d,d',sl',sl'',T',q',hr,hst,hsz,ha',C'⟩
theorem hold_turn{dd':Nat}{a a':Goroutine}{es:Array Event}{sl:Option (Nat×Nat)}(ha:gs[h]?=some a)(hrun:a.status=.running)(hgo:∀d,stepG P (h==0) a (w.at d)=.go a' (w.at d) es)(hes:∀e∈es,(MemAct.ofEvent e).touch?=none)(hdd:deafBehind dd es=dd')(C:Core P Inb h dd T gs w q):
  ∃(N:Nat) (gs':Array Goroutine) (d:Nat) (sl':Option (Nat×Nat)) (T':Trace) (q':Nat->Nat),runNT P N (crowd gs w sl) T=(.next (crowd gs' (w.at d) sl'),T')∧gs'.size=gs.size∧gs'[h]?=some a'∧Core P Inb h dd' T' gs' (w.at d) q':=by
 obtain⟨N,gs₁,d,d',sl₁,sl₂,T₁,q₁,hrn,hst,hsz,ha₁,C₁⟩:=picked (sl:=sl) ha hrun C
 have hlt:h<gs₁.size:=(Array.getElem?_eq_some_iff.1 ha₁).1
 have hstep:=runT_crowd_go (P:=P) (sl:=sl₂) ha₁ (hgo d')
 have hops:∀op∈MemOp.ofEvents h a.frame.fn a.frame.place es,op.g=h:=fun op hop=>by obtain⟨e,_,rfl⟩:=Conc.mem_ofEvents hop;rfl
 have hn:∀op∈MemOp.ofEvents h a.frame.fn a.frame.place es,op.act.touch?=none:=fun op hop=>by obtain⟨e,he,rfl⟩:=Conc.mem_ofEvents hop;exact hes e he
 have hD:Deaf (T₁++MemOp.ofEvents h a.frame.fn a.frame.place es) h=dd':=by rw[Deaf_own,C₁.deaf];exact hdd
 have hO:∀x,x≠h->Deaf (T₁++MemOp.ofEvents h a.frame.fn a.frame.place es) x=Deaf T₁ x:=fun x hx=>Deaf_other T₁ (fun z=>hx z.symm) _ hops
 refine⟨N+1,_,d',sl₂,_,q₁,runNT_succ_of hrn (hst.trans hstep),by simp[hsz],Array.getElem?_setIfInBounds_self_of_lt (by simpa using hlt),?_⟩
 refine⟨fun x y hx hy=>?_,C₁.chans,C₁.wf,C₁.inj,fun j hj=>?_,C₁.free,C₁.past.turn hops hn (fun g hg hne=>?_) (fun hg=>?_),hD,C₁.keep⟩
 ·rw[Array.getElem?_setIfInBounds_ne (fun e=>hx e.symm),Array.getElem?_map]at hy
  obtain⟨y₀,hy₀,rfl⟩:=Option.map_eq_some_iff.1 hy
  rw[woken_of_again (C₁.fixed hx hy₀)]
  have hi:=C₁.idle x y₀ hx hy₀
  cases es':Inb x with
  |none=>rw[es']at hi;exact⟨hi.1,by rw[hO x hx];exact hi.2⟩
  |some s=>rw[es']at hi;exact hi
 ·simp only[Array.size_setIfInBounds,Array.size_map]at hj
  rw[hO j (by omega)];exact C₁.above j hj
 ·rcases hg with z|z
  ·exact absurd z.1 hne
  ·exact .inr z
 ·rcases hg with z|⟨s,z⟩
  ·rw[hD];exact z.2
  ·rw[C₁.free]at z;cases z
theorem hold_walkN{D:World->World->Array Event->Prop}{S:Goroutine->World->Prop}(hD:∀w w' es,D w w' es->DHold Inb w w' es){n:Nat}{a:Goroutine}(hG:WalkI P (h==0) D S n a w):
  ∀{gs:Array Goroutine} {T:Trace} {q:Nat->Nat} {sl:Option (Nat×Nat)},gs[h]?=some a->Core P Inb h (dd+n) T gs w q->
   ∃(N:Nat) (gs':Array Goroutine) (a':Goroutine) (w':World) (sl':Option (Nat×Nat)) (T':Trace) (q':Nat->Nat),
    runNT P N (crowd gs w sl) T=(.next (crowd gs' w' sl'),T')∧gs'.size=gs.size∧gs'[h]?=some a'∧S a' w'∧Core P Inb h dd T' gs' w' q':=by
 induction hG with
 |stop g w hs=>intro gs T q sl ha C;exact⟨0,gs,g,w,sl,T,q,rfl,rfl,ha,hs,C⟩
 |step n g w g' w' es hr hs hd _ ih=>
  intro gs T q sl ha C
  obtain⟨N,gs₁,d,d',sl₁,sl₂,T₁,q₁,hrn,hst,hsz,ha₁,C₁⟩:=picked (sl:=sl) ha hr C
  have hgo:=hs d'
  have hstep:=runT_crowd_go (P:=P) (sl:=sl₂) ha₁ (show stepG P (h==0) g (w.at d')=.go (g' d') (w' d') (es d')from hgo)
  obtain⟨C₂,ha₂⟩:=C₁.own (a':=g' d') ha₁ (hD _ _ _ (hd d'))
  obtain⟨M,gs₃,a₃,w₃,sl₃,T₃,q₃,hr3,hsz3,ha3,hS3,C3⟩:=ih d' (sl:=sl₂) ha₂ C₂
  exact⟨N+1+M,gs₃,a₃,w₃,sl₃,T₃,q₃,runNT_then (runNT_succ_of hrn (hst.trans hstep)) hr3,by rw[hsz3];simpa using hsz,ha3,hS3,C3⟩
 |off n g w g' hr hs _ ih=>
  intro gs T q sl ha C
  obtain⟨N,gs₁,d,sl₁,T₁,q₁,hrn,hsz,ha₁,C₁⟩:=hold_turn (dd':=dd+(n+1)) (sl:=sl) ha hr (fun d=>hs d) (by
   intro e he
   simp only[List.mem_toArray,List.mem_cons,List.not_mem_nil,or_false]at he
   subst he
   rfl) rfl C
  obtain⟨M,gs₃,a₃,w₃,sl₃,T₃,q₃,hr3,hsz3,ha3,hS3,C3⟩:=ih d (sl:=sl₁) ha₁ C₁
  exact⟨N+M,gs₃,a₃,w₃,sl₃,T₃,q₃,runNT_then hrn hr3,hsz3.trans hsz,ha3,hS3,C3⟩
 |on n g w g' hr hs _ ih=>
  intro gs T q sl ha C
  obtain⟨N,gs₁,d,sl₁,T₁,q₁,hrn,hsz,ha₁,C₁⟩:=hold_turn (dd':=dd+n) (sl:=sl) ha hr (fun d=>hs d) (by
   intro e he
   simp only[List.mem_toArray,List.mem_cons,List.not_mem_nil,or_false]at he
   subst he
   rfl) rfl C
  obtain⟨M,gs₃,a₃,w₃,sl₃,T₃,q₃,hr3,hsz3,ha3,hS3,C3⟩:=ih d (sl:=sl₁) ha₁ C₁
  exact⟨N+M,gs₃,a₃,w₃,sl₃,T₃,q₃,runNT_then hrn hr3,hsz3.trans hsz,ha3,hS3,C3⟩
theorem hold_walk{D:World->World->Array Event->Prop}{S:Goroutine->World->Prop}(hD:∀w w' es,D w w' es->DHold Inb w w' es){a:Goroutine}(hG:WalkI P (h==0) D S 0 a w)
 {gs:Array Goroutine}{T:Trace}{q:Nat->Nat}{sl:Option (Nat×Nat)}(ha:gs[h]?=some a)(C:Core P Inb h dd T gs w q):
  ∃(N:Nat) (gs':Array Goroutine) (a':Goroutine) (w':World) (sl':Option (Nat×Nat)) (T':Trace) (q':Nat->Nat),
   runNT P N (crowd gs w sl) T=(.next (crowd gs' w' sl'),T')∧gs'.size=gs.size∧gs'[h]?=some a'∧S a' w'∧Core P Inb h dd T' gs' w' q':=hold_walkN hD hG ha C
end
structure Fresh(Inb:Nat->Option Seat)(w:World)(s:Seat):Prop where
 wf:s.Wf
 keep:s.keep w
 chan:∃k,w.heap[s.c]?=some (.chan 0 #[] false k k false)
 apart:∀i s',Inb i=some s'->s'.c≠s.c
section
variable {P:Program}{Inb:Nat->Option Seat}{h:Nat}{T:Trace}{gs:Array Goroutine}{w:World}{q:Nat->Nat}
theorem over(C:Core P Inb 0 0 T gs w q)(hI:∀i,Inb i=none):Leavers P T gs q∧∃B,Past (fun _=>False) B T:=by
 obtain⟨B,hB⟩:=low_some T
 refine⟨⟨fun i g hi hg=>by have:=C.idle i g (by omega) hg;rw[hI i]at this;exact this.2,fun j hj=>(C.above j hj).1⟩,B,C.past.over (.inl ⟨rfl,rfl⟩) (fun g l ⟨s,e,_⟩=>by rw[hI g]at e;cases e) hB⟩
end
end Go.Proofs.Ytmobbajggkjpgaa.SX.Tok
namespace Go.Proofs.Ytmobbajggkjpgaa.SX
open Go.Conc
def LGam(P:Program)(ρ:Env)(c:ACfg)(cs:List Frame)(g:Goroutine):Prop:=∃fr frs,FrRel P ρ c.cur fr∧FrRels P ρ c.callers frs∧g=G fr (frs++cs)
structure LIds(U:Nat->Prop)(c:ACfg):Prop where
 cur:c.cur.In U
 callers:∀fr∈c.callers,fr.In U
section
variable {P:Program}{main:Bool}{O:Orc}{ext:Ext}{U:Nat->Prop}{ρ:Env}{cs:List Frame}
def baseF(P:Program):Frame:={(default:Frame)with fn:=P.funcs.size,defers:=[],mode:=.panicking [goexitEntry]}
end
theorem find_cons(i:Nat)(p:Nat×ABlk)(l:List (Nat×ABlk)):findB i (p::l)=Bool.rec (findB i l) (some p.2) (Nat.beq i p.1):=rfl
theorem find_mem{i:Nat}{b:ABlk}:∀{l:List (Nat×ABlk)},findB i l=some b->(i,b)∈l
 |[],h=>by cases h
 |p::l,h=>by
  rw[find_cons]at h
  cases e:Nat.beq i p.1 with
  |true=>
   rw[e]at h
   have h':some p.2=some b:=h
   have e2:=Nat.eq_of_beq_eq_true e
   cases h'
   rw[e2]
   exact List.mem_cons_self ..
  |false=>
   rw[e]at h
   exact List.mem_cons_of_mem _ (find_mem (l:=l) h)
theorem mem_find{i:Nat}{b:ABlk}:∀{l:List (Nat×ABlk)},(keys l).Nodup->(i,b)∈l->findB i l=some b
 |[],_,h=>by cases h
 |p::l,hn,h=>by
  rw[find_cons]
  have hn':(p.1::keys l).Nodup:=hn
  rcases List.mem_cons.1 h with rfl|h
  ·simp
  ·cases e:Nat.beq i p.1 with
   |true=>
    have e2:=Nat.eq_of_beq_eq_true e
    have:i∈keys l:=List.mem_map.2 ⟨(i,b),h,rfl⟩
    rw[e2]at this
    exact absurd this (List.nodup_cons.1 hn').1
   |false=>exact mem_find (List.nodup_cons.1 hn').2 h
section
variable {K:Ctx}{main:Bool}{U:Nat->Prop}{ρ:Env}{cs:List Frame}
theorem steps_ok(Gd:K.Good)(F:K.Facts){ext:Ext}(X:ExtOk K ext){sum:Sums}(Z:SumOk K main sum){f:Nat}:∀{n:Nat} {c:ACfg} {r:ACfg⊕(AE×AH)},steps? K.P K.O ext sum f n c=.ok r->
  match r with
  |.inl c'=>bot c'.cur.fn c'.callers=bot c.cur.fn c.callers∧∃N,Leads K main c c' N
  |.inr r=>∃N,Ends K main c r N:=by
 intro n
 induction n with
 |zero=>
  intro c r he
  have:(Except.ok (.inl c):M (ACfg⊕(AE×AH)))=.ok r:=he
  cases this
  exact⟨rfl,0,fun U ρ cs g w I Γ=>Walk.stop ⟨ρ,Agree.refl _ _,Keeps.refl _ _,Grows.refl I.ids,I.congr (plus_same U _),Γ⟩⟩
 |succ n ih=>
  intro c r he
  have he':(match step? K.P K.O ext (fun g args h=>match sum g args h with
   |some r=>r
   |none=>match enterA K.P g args .normal with
    |.ok fr=>run? K.P K.O ext sum f ⟨fr,[],h⟩
    |.error e=>.error e) c with
   |.ok (.inl c)=>steps? K.P K.O ext sum f n c
   |.ok (.inr r)=>.ok (.inr r)
   |.error e=>.error e)=.ok r:=he
  have C:=callOk_of (K:=K) (main:=main) Z (k:=run? K.P K.O ext sum f) (run_ok Gd F X Z)
  split at he'
  ·rename_i c' hs
   obtain⟨N,L⟩:=step_ok Gd F X C hs
   have hb:=step_bot hs
   have h2:=ih he'
   cases r with
   |inl c2=>
    obtain⟨b2,M,L2⟩:=h2
    exact⟨b2.trans hb,N+M,L.trans L2⟩
   |inr r2=>
    obtain⟨M,E⟩:=h2
    exact⟨N+M,L.ends hb E⟩
  ·rename_i r' hs
   cases he'
   exact step_ok Gd F X C hs
  ·cases he'
theorem Keeps.mono{o o':Nat->Prop}{w w':World}(h:Keeps o w w')(hs:∀n,o n->o' n):Keeps o' w w':=⟨fun n hn=>h.heap n fun x=>hn (hs n x),h.size,h.tape,h.os,h.output⟩
def beside(K:Ctx)(O:Orc)(w:World):Ctx:={K with O:=O,own:=fun n=>w.heap.size≤n}
end
def seatCh(seats:List ASeat)(ρ:Env)(b:Nat):Prop:=∃s∈seats,b=ρ.b s.ch
def stillC(seats:List ASeat)(ρ:Env)(b n:Nat):Prop:=∃s∈seats,∃p∈s.stills,p.1.ev ρ=⟨b,n,none⟩
def stillS(seats:List ASeat)(ρ:Env)(b n:Nat):Prop:=stillC seats ρ b n∨(n=0∧seatCh seats ρ b)
def keptA(O:Orc)(seats:List ASeat)(ρ:Env)(a:Addr):Prop:=stillS seats ρ a.block a.off∨∃p∈O.mem,p.1.ev ρ=a
def crewEv(N:Addr->Prop)(e:Event):Prop:=(∀a s,e=⟨.cell a,true,s⟩->¬N a)∧∀m,e.loc=.mark m->markOk m=true
def CK(P:Program)(O:Orc)(base:Nat)(seats:List ASeat)(ρ:Env):Ctx:=⟨P,O,fun n=>base≤n∧¬seatCh seats ρ n,crewEv (keptA O seats ρ),False,stillS seats ρ⟩
section
variable {P:Program}{O:Orc}{base:Nat}{seats:List ASeat}{ρ ρ':Env}{U U':Nat->Prop}{cs:List Frame}
structure SeatIs(P:Program)(O:Orc)(base:Nat)(U:Nat->Prop)(ρ:Env)(cs:List Frame)(s:ASeat)(t:Tok.Seat):Prop where
 c:t.c=ρ.b s.ch
 ge:base≤ρ.b s.ch
 z:t.z=s.z
 ok:t.ok=s.ok
 still:∀l,t.still l->∃p∈s.stills++O.mem,l=.cell (p.1.ev ρ)
 keep:∀w,t.keep w↔∀p∈s.stills++O.mem,w.cell? (p.1.ev ρ)=some (p.2.ev ρ)
 home:∀g,t.home g->LIds U s.cfg∧LGam P ρ s.cfg cs g
 uch:U s.ch
 us:∀p∈s.stills,p.1.In U∧p.2.In U
theorem LGam.agree(A:Agree U ρ ρ'){c:ACfg}(I:LIds U c){g:Goroutine}(Γ:LGam P ρ c cs g):LGam P ρ' c cs g:=by
 obtain⟨fr,frs,h1,h2,h3⟩:=Γ
 exact⟨fr,frs,h1.agree A I.cur,callers_agree A h2 I.callers,h3⟩
theorem SeatIs.agree{s:ASeat}{t:Tok.Seat}(h:SeatIs P O base U ρ cs s t)(A:Agree U ρ ρ')(hO:O.In U)(hs:∀n,U n->U' n):SeatIs P O base U' ρ' cs s t:=by
 have hb:ρ'.b s.ch=ρ.b s.ch:=A.b _ h.uch
 have hin:∀p∈s.stills++O.mem,p.1.In U∧p.2.In U:=fun p hp=>(List.mem_append.1 hp).elim (h.us p) (hO.mem p)
 refine⟨by rw[hb];exact h.c,by rw[hb];exact h.ge,h.z,h.ok,fun l hl=>?_,fun w=>?_,fun g hg=>?_,hs _ h.uch,fun p hp=>⟨AA.In.mono hs (h.us p hp).1,AV.In.mono hs _ (h.us p hp).2⟩⟩
 ·obtain⟨p,hp,e⟩:=h.still l hl
  exact⟨p,hp,by rw[AA.ev_agree A (hin p hp).1];exact e⟩
 ·rw[h.keep]
  exact⟨fun x p hp=>by rw[AA.ev_agree A (hin p hp).1,AV.ev_agree A _ (hin p hp).2];exact x p hp,fun x p hp=>by have:=x p hp;rwa[AA.ev_agree A (hin p hp).1,AV.ev_agree A _ (hin p hp).2]at this⟩
 ·obtain⟨I,Γ⟩:=h.home g hg
  exact⟨⟨I.cur.mono hs,fun fr hf=>(I.callers fr hf).mono hs⟩,Γ.agree A I⟩
theorem AA.ev_none(ρ:Env)(a:AA):a.ev ρ=⟨(a.ev ρ).block,(a.ev ρ).off,none⟩:=rfl
theorem DK_hold{Inb:Nat->Option Tok.Seat}(hm:∀p∈O.mem,(p.1.ev ρ).block<base)(all:∀i t,Inb i=some t->∃s∈seats,∃cs,SeatIs P O base U ρ cs s t):
  ∀w w' es,DK (CK P O base seats ρ) w w' es->Tok.DHold Inb w w' es:=by
 rintro w w' es ⟨hk,he,hst⟩
 refine⟨fun i t e hkp=>?_,fun i t e=>?_,fun e hee=>?_⟩
 ·obtain⟨s,hs,cs,S⟩:=all i t e
  rw[S.keep]at hkp⊢
  intro p hp
  rcases List.mem_append.1 hp with hp'|hp'
  ·have:=hkp p hp
   rw[AA.ev_none]at this⊢
   exact hst _ _ _ (.inl ⟨s,hs,p,hp',AA.ev_none ρ p.1⟩) this
  ·have:=hkp p hp
   have hn:¬(CK P O base seats ρ).own (p.1.ev ρ).block:=fun h=>absurd h.1 (Nat.not_le.2 (hm p hp'))
   simp only[World.cell?]at this⊢
   rw[hk.heap _ hn];exact this
 ·obtain⟨s,hs,cs,S⟩:=all i t e
  exact hk.heap _ fun h=>h.2 ⟨s,hs,S.c⟩
 ·have hE:crewEv (keptA O seats ρ) e:=he e hee
  refine⟨fun x hx g hg=>?_,fun e1=>?_,fun e1=>?_⟩
  ·obtain⟨t,ht,hl⟩:=hg
   obtain⟨s,hs,cs,S⟩:=all g t ht
   obtain⟨p,hp,hp2⟩:=S.still _ hl
   have hN:keptA O seats ρ (p.1.ev ρ):=(List.mem_append.1 hp).elim (fun h=>.inl (.inl ⟨s,hs,p,h,AA.ev_none ρ p.1⟩)) fun h=>.inr ⟨p,h,rfl⟩
   obtain⟨loc,wr,sy⟩:=e
   cases loc with
   |cell a=>
    have hx':some (⟨.cell a,wr,if sy then .atomic else .plain⟩:Touch)=some x:=hx
    cases hx'
    have ea:a=p.1.ev ρ:=by simpa using hp2
    cases wr with
    |false=>rfl
    |true=>exact absurd hN (ea▸hE.1 a sy rfl)
   |mark m=>
    have hmk:=hE.2 m rfl
    cases m<;>first|(cases hmk;done)|cases hx
   |obj r=>
    cases wr<;>cases sy<;>(cases hx;try cases hp2)
   |output=>
    have hx':some (⟨.output,wr,if sy then .atomic else .plain⟩:Touch)=some x:=hx
    cases hx';cases hp2
   |goroutines=>
    have hx':some (⟨.goroutines,wr,if sy then .atomic else .plain⟩:Touch)=some x:=hx
    cases hx';cases hp2
  ·have:=hE.2 _ e1;cases this
  ·have:=hE.2 _ e1;cases this
end
def csOf(P:Program)(cs:List Frame)(i:Nat):List Frame:=if i=0 then cs else[baseF P]
structure CFr(P:Program)(O:Orc)(base:Nat)(W0:World)(cs:List Frame)(st:CSt)(gs:Array Goroutine)(w:World)(T:Trace)(q:Nat->Nat)(Inb:Nat->Option Tok.Seat)(U:Nat->Prop)(ρ:Env)(γ:Nat->Nat)(a:Goroutine):Prop where
 core:Tok.Core P Inb (γ st.h) st.deaf T gs w q
 zero:γ 0=0
 inj:∀i j,i<st.next->j<st.next->γ i=γ j->i=j
 lt:∀i,i<st.next->γ i<gs.size
 hlt:st.h<st.next
 here:gs[γ st.h]?=some a
 ids:CIds (CK P O base st.seats ρ) U st.c
 gam:Gam (CK P O base st.seats ρ) ρ st.c (csOf P cs st.h) a w
 seats:∀s∈st.seats,s.id<st.next∧s.id≠st.h∧∃t,Inb (γ s.id)=some t∧SeatIs P O base U ρ (csOf P cs s.id) s t
 all:∀i t,Inb i=some t->∃s∈st.seats,i=γ s.id
 nodup:(st.seats.map ASeat.id).Nodup
 keeps:Keeps (fun n=>base≤n) W0 w
 mem:∀p∈O.mem,(p.1.ev ρ).block<base
section
variable {P:Program}{O:Orc}{ext:Ext}{sum:Sums}{base:Nat}{W0:World}{cs:List Frame}{st:CSt}{gs:Array Goroutine}{w:World}{T:Trace}{q:Nat->Nat}{Inb:Nat->Option Tok.Seat}{U:Nat->Prop}{ρ:Env}{γ:Nat->Nat}{a:Goroutine}{m:Machine}
theorem CFr.all'(F:CFr P O base W0 cs st gs w T q Inb U ρ γ a):∀i t,Inb i=some t->∃s∈st.seats,∃cs,SeatIs P O base U ρ cs s t:=by
 intro i t e
 obtain⟨s,hs,rfl⟩:=F.all i t e
 obtain⟨_,_,t',e',S⟩:=F.seats s hs
 rw[e']at e
 cases e
 exact⟨s,hs,_,S⟩
theorem CFr.orc(F:CFr P O base W0 cs st gs w T q Inb U ρ γ a):O.In U:=F.ids.ids.orc
theorem CFr.go(F:CFr P O base W0 cs st gs w T q Inb U ρ γ a){S:Goroutine->World->Prop}{N:Nat}(W:Walk P (γ st.h==0) (DK (CK P O base st.seats ρ)) S N a w)(sl:Option (Nat×Nat)):
  ∃M gs' a' w' sl' T' q',runNT P M (crowd gs w sl) T=(.next (crowd gs' w' sl'),T')∧gs'.size=gs.size∧gs'[γ st.h]?=some a'∧S a' w'∧Tok.Core P Inb (γ st.h) st.deaf T' gs' w' q':=
 Tok.hold_walk (DK_hold F.mem F.all') W F.here F.core
theorem Keeps.out{seats:List ASeat}{w':World}(h:Keeps (CK P O base seats ρ).own w w'):Keeps (fun n=>base≤n) w w':=h.mono fun n hn=>hn.1
end
section
variable {P:Program}{O:Orc}{ext:Ext}{sum:Sums}{base:Nat}{W0:World}{cs:List Frame}{st:CSt}{gs:Array Goroutine}{w:World}{T:Trace}{q:Nat->Nat}{Inb:Nat->Option Tok.Seat}{U:Nat->Prop}{ρ:Env}{γ:Nat->Nat}{a:Goroutine}{m:Machine}
theorem size_setChan(w:World)(c cap:Nat)(buf:Array Value)(cl:Bool)(s r:Nat)(tm:Bool):(w.setChan c cap buf cl s r tm).heap.size=w.heap.size:=by
 simp[World.setChan]
end
section
variable {P:Program}{O:Orc}{ext:Ext}{sum:Sums}{base:Nat}{W0:World}{cs:List Frame}
theorem results_tmp{fn:Func}{t:Nat}(h:fn.results=#[.tmp t])(tmps:Array Value):results fn tmps=pure (tmps.getD t undef):=by
 unfold results
 rw[h]
 simp
end
end Go.Proofs.Ytmobbajggkjpgaa.SX
namespace Go.Proofs.Ytmobbajggkjpgaa.SX
noncomputable section
structure Sub where
 is:List (Nat×IE):=[]
 bs:List (Nat×Nat):=[]
 vs:List (Nat×AV):=[]
def Sub.i(s:Sub)(n:Nat):IE:=
 match look (fun a b=>Nat.beq a b) n s.is with
 |some e=>e
 |none=>.var n
def Sub.b(s:Sub)(n:Nat):Nat:=
 match look (fun a b=>Nat.beq a b) n s.bs with
 |some m=>m
 |none=>n
def Sub.v(s:Sub)(n:Nat):AV:=
 match look (fun a b=>Nat.beq a b) n s.vs with
 |some a=>a
 |none=>.opq n
def isUndef:AV->Bool
 |.tuple []=>true
 |_=>false
def Sub.full(s:Sub):Bool:=s.vs.all fun p=>!isUndef p.2
end
noncomputable def Env.sub(s:Sub)(ρ:Env):Env:={i:=fun n=>(s.i n).ev ρ,p:=ρ.p,v:=fun n=>(s.v n).ev ρ,b:=fun n=>ρ.b (s.b n),bt:=ρ.bt,s:=ρ.s}
section
variable {s:Sub}{ρ:Env}
theorem inj_of_nodup{α β:Type}{f:α->β}:∀{l:List α},(l.map f).Nodup->∀{a b:α},a∈l->b∈l->f a=f b->a=b
 |x::l,h,a,b,ha,hb,e=>by
  rw[List.map_cons,List.nodup_cons]at h
  rcases List.mem_cons.1 ha with e1|h1
  ·rcases List.mem_cons.1 hb with e2|h2
   ·rw[e1,e2]
   ·exact absurd (List.mem_map.2 ⟨b,h2,by rw[<-e,e1]⟩) h.1
  ·rcases List.mem_cons.1 hb with e2|h2
   ·exact absurd (List.mem_map.2 ⟨a,h1,by rw[e,e2]⟩) h.1
   ·exact inj_of_nodup h.2 h1 h2 e
structure FactsAt(K:Ctx)(O:Orc)(ρ:Env)(w:World):Prop where
 bs:∀p∈O.bs,p.1.ev ρ=p.2
 is:∀p∈O.is,p.1.ev ρ=p.2.ev ρ
 mem:∀p∈O.mem,¬K.own (p.1.ev ρ).block∧w.cell? (p.1.ev ρ)=some (p.2.ev ρ)∧∀s,K.Ev ⟨.cell (p.1.ev ρ),false,s⟩
def Ctx.with(K:Ctx)(O:Orc):Ctx:={K with O:=O}
theorem Rel.change{K:Ctx}{ρ:Env}{h:AH}{w:World}(R:Rel K ρ h w){O:Orc}(F:FactsAt K O ρ w):Rel (K.with O) ρ h w:=
 ⟨R.blk,R.own',R.inj,F.bs,F.is,F.mem,R.room,R.lent,R.low⟩
end
end Go.Proofs.Ytmobbajggkjpgaa.SX
namespace Go.Proofs.Ytmobbajggkjpgaa.SX
open Go.Conc
section
noncomputable section
def IE.low(n:Nat):IE->Bool
 |.lit _=>true
 |.var i=>Nat.ble (i+1) n
 |.op _ _ a b=>a.low n&&b.low n
 |.conv _ a=>a.low n
 |.plus a b=>a.low n&&b.low n
 |.times a b=>a.low n&&b.low n
 |.tn a=>a.low n
 |.slen _=>true
def BE.low(n:Nat):BE->Bool
 |.cmp _ a b=>a.low n&&b.low n
 |_=>true
def BR.low(n:Nat):BR->Bool
 |.glob _=>true
 |.dyn i=>Nat.ble (i+1) n
def AA.low(n:Nat)(a:AA):Bool:=a.blk.low n&&a.off.low n
def optLow{α:Type}(f:α->Bool):Option α->Bool
 |none=>true
 |some a=>f a
mutual
def AV.low(n:Nat):AV->Bool
 |.bool b=>b.low n
 |.int _ e=>e.low n
 |.ptr a=>optLow (AA.low n) a
 |.slice a l c=>optLow (AA.low n) a&&l.low n&&c.low n
 |.map r=>optLow (BR.low n) r
 |.chan r=>optLow (BR.low n) r
 |.func _ x y=>AV.lows n x&&AV.lows n y
 |.iface _ v=>v.low n
 |.agg x=>AV.lows n x
 |.tuple x=>AV.lows n x
 |.str _=>true
 |.nilFunc=>true
 |.nilIface=>true
 |.opq _=>true
 |.raw _=>true
 |.ss _=>true
def AV.lows(n:Nat):List AV->Bool
 |[]=>true
 |a::x=>a.low n&&AV.lows n x
end
def TT.low(n:Nat):TT->Bool
 |.leaf=>true
 |.node v l r=>v.low n&&l.low n&&r.low n
def AD.low(n:Nat)(d:AD):Bool:=
 match d with
 |⟨.fn _ c,args⟩=>AV.lows n c&&AV.lows n args
 |⟨.builtin _ _ _ _,args⟩=>AV.lows n args
def AMode.low(n:Nat):AMode->Bool
 |.panicking chain=>chain.all fun x=>x.1.low n
 |_=>true
def AFrame.low(n:Nat)(fr:AFrame):Bool:=fr.tmps.low n&&fr.defers.all (AD.low n)&&fr.mode.low n
def ABlk.low(n:Nat):ABlk->Bool
 |.cells cs _=>AV.lows n cs
 |.row cs _ c=>AV.lows n cs&&c.low n
 |.lent cs _ _=>AV.lows n cs
 |.map es=>es.all fun p=>p.1.low n&&p.2.low n
 |.chan=>true
 |.vmap _ m fs ws=>m.low n&&fs.all (fun p=>p.1.low n&&optLow (AV.low n) p.2)&&ws.all fun p=>p.1.low n&&p.2.low n
 |.pre _ _ m fs ws cs _ c=>m.low n&&fs.all (fun p=>p.1.low n&&p.2.low n)&&ws.all (fun p=>p.1.low n&&p.2.low n)&&AV.lows n cs&&c.low n
def nodupB:List Nat->Bool
 |[]=>true
 |a::l=>l.all (fun b=>!Nat.beq a b)&&nodupB l
def cfgLow(n:Nat)(c:ACfg):Bool:=
 c.cur.low n&&c.callers.all (AFrame.low n)&&c.h.hp.all (fun p=>Nat.ble (p.1+1) n&&p.2.low n)&&nodupB (c.h.hp.map (·.1))
def Orc.low(n:Nat)(O:Orc):Bool:=
 O.bs.all (fun p=>p.1.low n)&&O.is.all (fun p=>p.1.low n&&p.2.low n)&&O.mem.all (fun p=>p.1.low n&&p.2.low n)
def pickB(hp:List (Nat×ABlk)):List Nat->Option (List (Nat×ABlk))
 |[]=>some []
 |k::ks=>match findB k hp,pickB hp ks with
  |some b,some l=>some ((k,b)::l)
  |_,_=>none
def chunkTo?(P:Program)(O:Orc)(ext:Ext)(sum:Sums)(f n:Nat)(ks:List Nat)(c:ACfg):M ACfg:=
 match steps? P O ext sum f n c with
 |.ok (.inl ⟨cur,callers,⟨hp,nb,lim⟩⟩)=>match nodupB ks,pickB hp ks with
  |true,some hp=>.ok ⟨cur,callers,⟨hp,nb,lim⟩⟩
  |_,_=>.error "chunk blocks"
 |.ok (.inr _)=>.error "chunk it ends"
 |.error e=>.error e
end
section
variable {n:Nat}
abbrev Below(n:Nat):Nat->Prop:=fun m=>m<n
theorem IE.low_in:∀{e:IE},e.low n=true->e.In (Below n):=by
 intro e
 induction e with
 |lit _=>intro _;trivial
 |var i=>intro h;exact Nat.le_of_ble_eq_true h
 |op o k a b iha ihb=>intro h;simp only[IE.low,Bool.and_eq_true]at h;exact⟨iha h.1,ihb h.2⟩
 |conv k a ih=>exact ih
 |plus a b iha ihb=>intro h;simp only[IE.low,Bool.and_eq_true]at h;exact⟨iha h.1,ihb h.2⟩
 |times a b iha ihb=>intro h;simp only[IE.low,Bool.and_eq_true]at h;exact⟨iha h.1,ihb h.2⟩
 |tn a ih=>exact ih
 |slen a=>exact fun _=>trivial
theorem BE.low_in{e:BE}(h:e.low n=true):e.In (Below n):=by
 cases e with
 |cmp o a b=>simp only[BE.low,Bool.and_eq_true]at h;exact⟨IE.low_in h.1,IE.low_in h.2⟩
 |_=>trivial
theorem BR.low_in{e:BR}(h:e.low n=true):e.In (Below n):=by
 cases e with
 |glob g=>trivial
 |dyn i=>exact Nat.le_of_ble_eq_true h
theorem AA.low_in{a:AA}(h:a.low n=true):a.In (Below n):=by
 simp only[AA.low,Bool.and_eq_true]at h;exact⟨BR.low_in h.1,IE.low_in h.2⟩
theorem optLow_in{α:Type}{f:α->Bool}{g:α->Prop}(hf:∀{a},f a=true->g a):∀{o:Option α},optLow f o=true->optIn g o
 |none,_=>trivial
 |some _,h=>hf h
mutual
theorem AV.low_in:∀(a:AV),a.low n=true->a.In (Below n)
 |.bool b,h=>by simp only[AV.low]at h;exact BE.low_in h
 |.int _ e,h=>by simp only[AV.low]at h;exact IE.low_in h
 |.ptr a,h=>by simp only[AV.low]at h;exact optLow_in AA.low_in h
 |.slice a l c,h=>by simp only[AV.low,Bool.and_eq_true]at h;exact⟨optLow_in AA.low_in h.1.1,IE.low_in h.1.2,IE.low_in h.2⟩
 |.map r,h=>by simp only[AV.low]at h;exact optLow_in BR.low_in h
 |.chan r,h=>by simp only[AV.low]at h;exact optLow_in BR.low_in h
 |.func _ x y,h=>by simp only[AV.low,Bool.and_eq_true]at h;exact⟨AV.lows_in x h.1,AV.lows_in y h.2⟩
 |.iface _ v,h=>by simp only[AV.low]at h;exact AV.low_in v h
 |.agg x,h=>by simp only[AV.low]at h;exact AV.lows_in x h
 |.tuple x,h=>by simp only[AV.low]at h;exact AV.lows_in x h
 |.str _,_=>trivial
 |.nilFunc,_=>trivial
 |.nilIface,_=>trivial
 |.opq _,_=>trivial
 |.raw _,_=>trivial
 |.ss _,_=>trivial
theorem AV.lows_in:∀(l:List AV),AV.lows n l=true->AV.Ins (Below n) l
 |[],_=>trivial
 |a::x,h=>by simp only[AV.lows,Bool.and_eq_true]at h;exact⟨AV.low_in a h.1,AV.lows_in x h.2⟩
end
theorem TT.low_in:∀{t:TT},t.low n=true->t.In (Below n):=by
 intro t
 induction t with
 |leaf=>intro _ m;show undefA.In _;simp[undefA,AV.In,AV.Ins]
 |node v l r ihl ihr=>
  intro h m
  simp only[TT.low,Bool.and_eq_true]at h
  cases m with
  |zero=>exact AV.low_in _ h.1.1
  |succ m=>
   rw[TT.get_node_succ]
   split
   ·exact ihr h.2 _
   ·exact ihl h.1.2 _
theorem AD.low_in{d:AD}(h:d.low n=true):d.In (Below n):=by
 obtain⟨t,a⟩:=d
 cases t with
 |fn f c=>simp only[AD.low,Bool.and_eq_true]at h;exact⟨AV.lows_in _ h.1,AV.lows_in _ h.2⟩
 |builtin b x t c=>exact⟨trivial,AV.lows_in _ h⟩
theorem AFrame.low_in{fr:AFrame}(h:fr.low n=true):fr.In (Below n):=by
 simp only[AFrame.low,Bool.and_eq_true]at h
 refine⟨TT.low_in h.1.1,fun d hd=>AD.low_in (List.all_eq_true.1 h.1.2 d hd),?_⟩
 have h2:=h.2
 cases e:fr.mode with
 |panicking chain=>
  rw[e]at h2
  exact fun x hx=>AV.low_in _ (List.all_eq_true.1 h2 x hx)
 |_=>trivial
theorem ABlk.low_in{b:ABlk}(h:b.low n=true):b.In (Below n):=by
 cases b with
 |cells cs e=>exact AV.lows_in _ h
 |row cs e c=>simp only[ABlk.low,Bool.and_eq_true]at h;exact⟨AV.lows_in _ h.1,IE.low_in h.2⟩
 |lent cs e l=>exact AV.lows_in _ h
 |map es=>
  intro p hp
  have:=List.all_eq_true.1 h p hp
  simp only[Bool.and_eq_true]at this
  exact⟨AV.low_in _ this.1,AV.low_in _ this.2⟩
 |chan=>trivial
 |vmap s m fs ws=>
  simp only[ABlk.low,Bool.and_eq_true]at h
  obtain⟨⟨h1,h2⟩,h3⟩:=h
  refine⟨IE.low_in h1,fun p hp=>?_,fun p hp=>?_⟩
  ·have:=List.all_eq_true.1 h2 p hp
   simp only[Bool.and_eq_true]at this
   exact⟨AA.low_in this.1,optLow_in (fun h=>AV.low_in _ h) this.2⟩
  ·have:=List.all_eq_true.1 h3 p hp
   simp only[Bool.and_eq_true]at this
   exact⟨AV.low_in _ this.1,AV.low_in _ this.2⟩
 |pre lk s m fs ws cs e c=>
  simp only[ABlk.low,Bool.and_eq_true]at h
  obtain⟨⟨⟨⟨h1,h2⟩,h3⟩,h4⟩,h5⟩:=h
  have two:∀{l:List (IE×AV)},(l.all fun p=>p.1.low n&&p.2.low n)=true->∀p∈l,p.1.In (Below n)∧p.2.In (Below n):=fun h p hp=>by
   have:=List.all_eq_true.1 h p hp
   simp only[Bool.and_eq_true]at this
   exact⟨IE.low_in this.1,AV.low_in _ this.2⟩
  exact⟨IE.low_in h1,two h2,two h3,AV.lows_in _ h4,IE.low_in h5⟩
theorem nodupB_ok:∀{l:List Nat},nodupB l=true->l.Nodup
 |[],_=>List.nodup_nil
 |a::l,h=>by
  simp only[nodupB,Bool.and_eq_true]at h
  refine List.nodup_cons.2 ⟨fun hm=>?_,nodupB_ok h.2⟩
  have:=List.all_eq_true.1 h.1 a hm
  simp at this
theorem Orc.low_in{O:Orc}(h:O.low n=true):O.In (Below n):=by
 simp only[Orc.low,Bool.and_eq_true]at h
 refine⟨fun p hp=>BE.low_in (List.all_eq_true.1 h.1.1 p hp),fun p hp=>?_,fun p hp=>?_⟩
 ·have:=List.all_eq_true.1 h.1.2 p hp
  simp only[Bool.and_eq_true]at this
  exact⟨IE.low_in this.1,IE.low_in this.2⟩
 ·have:=List.all_eq_true.1 h.2 p hp
  simp only[Bool.and_eq_true]at this
  exact⟨AA.low_in this.1,AV.low_in _ this.2⟩
theorem cfgLow_in{K:Ctx}{c:ACfg}(h:cfgLow n c=true)(hn:c.h.nb=n)(hO:K.O.low n=true):CIds K (Below n) c:=by
 simp only[cfgLow,Bool.and_eq_true]at h
 obtain⟨⟨⟨h1,h2⟩,h3⟩,h4⟩:=h
 have blk:∀p∈c.h.hp,p.1<n∧p.2.In (Below n):=fun p hp=>by
  have:=List.all_eq_true.1 h3 p hp
  simp only[Bool.and_eq_true]at this
  exact⟨Nat.le_of_ble_eq_true this.1,ABlk.low_in this.2⟩
 refine⟨AFrame.low_in h1,fun fr hf=>AFrame.low_in (List.all_eq_true.1 h2 fr hf),fun i b hb=>(blk _ (find_mem hb)).2,fun i hi=>?_,nodupB_ok h4,fun m hm _ hl=>?_,Orc.low_in hO⟩
 ·obtain⟨p,hp,rfl⟩:=List.mem_map.1 hi
  exact(blk p hp).1
 ·have hl':m<n:=hl
  omega
end
section
variable {K:Ctx}{main:Bool}{U:Nat->Prop}{ρ:Env}{cs:List Frame}
theorem pickB_ok{hp:List (Nat×ABlk)}:∀{ks:List Nat} {l:List (Nat×ABlk)},pickB hp ks=some l->keys l=ks∧∀p∈l,findB p.1 hp=some p.2
 |[],l,h=>by cases h;exact⟨rfl,fun p hp=>by cases hp⟩
 |k::ks,l,h=>by
  unfold pickB at h
  split at h
  ·rename_i b l' hb hl
   cases h
   obtain⟨h1,h2⟩:=pickB_ok hl
   refine⟨by show k::keys l'=_;rw[h1],fun p hp=>?_⟩
   rcases List.mem_cons.1 hp with rfl|hp
   ·exact hb
   ·exact h2 p hp
  ·cases h
theorem pick_find{hp l:List (Nat×ABlk)}{ks:List Nat}(h:pickB hp ks=some l){i:Nat}{b:ABlk}(hb:findB i l=some b):findB i hp=some b:=(pickB_ok h).2 _ (find_mem hb)
theorem Rel.sub{hp hp':List (Nat×ABlk)}{nb lim nb' lim':Nat}{w:World}(R:Rel K ρ ⟨hp,nb,lim⟩ w)(hs:∀i b,findB i hp'=some b->findB i hp=some b):Rel K ρ ⟨hp',nb',lim'⟩ w:=
 ⟨fun i b h=>R.blk i b (hs i b h),fun i b h=>R.own' i b (hs i b h),fun i j b c h h' e=>R.inj i j b c (hs i b h) (hs j c h') e,R.bs,R.is,R.mem,R.room,fun i b h=>R.lent i b (hs i b h),R.low⟩
theorem findB_key_iff{l:List (Nat×ABlk)}{i:Nat}(h:i∈keys l)(hn:(keys l).Nodup):∃b,findB i l=some b:=by
 obtain⟨p,hp,rfl⟩:=List.mem_map.1 h
 exact⟨p.2,mem_find hn hp⟩
theorem Next.pick{w w':World}{h0:AH}{cur:AFrame}{callers:List AFrame}{hp l:List (Nat×ABlk)}{nb lim:Nat}{ks:List Nat}{g':Goroutine}(hk:nodupB ks=true)(hl:pickB hp ks=some l)
 (h:Next K U ρ cs w h0 ⟨cur,callers,⟨hp,nb,lim⟩⟩ g' w'):Next K U ρ cs w h0 ⟨cur,callers,⟨l,nb,lim⟩⟩ g' w':=by
 obtain⟨ρ',a1,a2,a3,a4,R,Γ⟩:=h
 have nd:(keys l).Nodup:=by rw[(pickB_ok hl).1];exact nodupB_ok hk
 have ids:∀{V:Nat->Prop},Ids K V ⟨hp,nb,lim⟩->Ids K V ⟨l,nb,lim⟩:=fun I=>
  ⟨fun i b hb=>I.hp i b (pick_find hl hb),fun i hi=>by
   obtain⟨b,hb⟩:=findB_key_iff hi nd
   exact I.keys i (findB_key (pick_find hl hb)),nd,I.fresh,I.orc⟩
 exact⟨ρ',a1,a2,⟨a3.nb,a3.lim,ids a3.ids⟩,⟨a4.cur,a4.callers,ids a4.ids⟩,R.sub fun i b hb=>pick_find hl hb,Γ⟩
theorem chunkTo_ok(Gd:K.Good)(F:K.Facts){ext:Ext}(X:ExtOk K ext){sum:Sums}(Z:SumOk K main sum){f n:Nat}{ks:List Nat}{c c':ACfg}(he:chunkTo? K.P K.O ext sum f n ks c=.ok c'):
  bot c'.cur.fn c'.callers=bot c.cur.fn c.callers∧∃N,Leads K main c c' N:=by
 unfold chunkTo? at he
 split at he
 ·rename_i cur callers hp nb lim hs
  split at he
  ·rename_i l hk hl
   cases he
   obtain⟨b,N,L⟩:=steps_ok (main:=main) Gd F X Z hs
   exact⟨b,N,fun U ρ cs g w I Γ=>(L U ρ cs g w I Γ).weaken fun _ _ h=>h.pick hk hl⟩
  ·cases he
 ·cases he
 ·cases he
theorem Gam.change{c:ACfg}{g:Goroutine}{w:World}(Γ:Gam K ρ c cs g w){O:Orc}(F:FactsAt K O ρ w):Gam (K.with O) ρ c cs g w:=⟨Γ.1.change F,Γ.2⟩
end
end
noncomputable section
def TT.none:TT->Bool
 |.leaf=>true
 |.node v l r=>isUndef v&&(l.none&&r.none)
def swapT(c:ACfg)(t:TT):ACfg:=
 match c with
 |⟨⟨fn,nt,_,todo,defers,mode,kind⟩,callers,h⟩=>⟨⟨fn,nt,t,todo,defers,mode,kind⟩,callers,h⟩
end
noncomputable def lookN{α:Type}(d:α)(n:Nat)(l:List (Nat×α)):α:=(look (fun a b=>Nat.beq a b) n l).getD d
noncomputable def mkE(is:List (Nat×Int))(bs:List (Nat×Nat))(vs:List (Nat×Value)):Env:={i:=fun n=>lookN 0 n is,p:=fun _=>false,v:=fun n=>lookN undef n vs,b:=fun n=>lookN 0 n bs,bt:=(none,[])}
noncomputable def mkS(is:List (Nat×Int))(bs:List (Nat×Nat))(vs:List (Nat×Value))(ss:List (Nat×ByteArray)):Env:={mkE is bs vs with s:=fun n=>lookN ⟨#[]⟩ n ss}
noncomputable def tmpsOf(nt:Nat)(st:Nat->Value)(live:List (Nat×AV)):TT:=TT.fill ((List.range nt).map fun n=>(look (fun a b=>Nat.beq a b) n live).getD (.raw (st n))) 0 .leaf
theorem tmpsOf_get{nt:Nat}(hn:nt≤60000)(st:Nat->Value)(live:List (Nat×AV))(n:Nat):(tmpsOf nt st live).get n=if n<nt then(look (fun a b=>Nat.beq a b) n live).getD (.raw (st n))else undefA:=by
 unfold tmpsOf
 rw[TT.get_fill _ 0 .leaf n (by simpa using hn)]
 simp only[List.length_map,List.length_range,Nat.zero_add,Nat.sub_zero,Nat.zero_le,true_and]
 by_cases h:n<nt
 ·rw[if_pos h,if_pos h]
  simp[List.getD_eq_getElem?_getD,List.getElem?_map,List.getElem?_range h]
 ·rw[if_neg h,if_neg h];rfl
section
variable {P:Program}{ρ ρ':Env}
theorem FrRel.move{fr fr':AFrame}{g:Frame}(h:FrRel P ρ fr g)(e1:fr'.fn=fr.fn)(e2:fr'.nt=fr.nt)(e3:fr'.todo=fr.todo)(e4:fr.mode=.run)(e5:fr'.mode=.run)(e6:fr'.kind=fr.kind)(e7:plainK fr.kind)(e8:fr'.defers.map (AD.ev ρ')=fr.defers.map (AD.ev ρ))
 (ht:∀n,n<fr.nt->(fr'.tmps.get n).ev ρ'=(fr.tmps.get n).ev ρ)(ho:∀n,fr.nt≤n->fr'.tmps.get n=undefA):FrRel P ρ' fr' g:=by
 obtain⟨fn,nt,t,todo,defers,mode,kind⟩:=fr
 obtain⟨fn',nt',t',todo',defers',mode',kind'⟩:=fr'
 dsimp only at*
 subst e1;subst e2;subst e3;subst e4;subst e5;subst e6
 obtain⟨tm,td,i,rfl⟩:=h
 refine⟨tm,td,⟨⟨i.tmps.size,i.tmps.le,fun n hn=>by rw[ht n hn];exact i.tmps.get n hn,fun n hn=>ho n hn⟩,i.kind,fun _=>i.todo rfl,i.fn⟩,?_⟩
 unfold frameOf
 dsimp only
 have e9:aB ρ' kind' tm defers'=aB ρ kind' tm defers:=by rw[plain_aB e7,plain_aB e7,e8]
 rw[e9,plain_bB e7,plain_bB e7]
 rfl
theorem FrRel.tell{fr:AFrame}{g:Frame}(h:FrRel P ρ fr g)(e4:fr.mode=.run)(e7:plainK fr.kind)(e8:fr.defers=[]){live:List (Nat×AV)}(hl:∀n a,look (fun a b=>Nat.beq a b) n live=some a->a.ev ρ'=(fr.tmps.get n).ev ρ):
  FrRel P ρ' ⟨fr.fn,fr.nt,tmpsOf fr.nt (fun n=>(fr.tmps.get n).ev ρ) live,fr.todo,[],.run,fr.kind⟩ g:=by
 have hle:fr.nt≤60000:=by obtain⟨tm,td,i,_⟩:=h;exact i.tmps.le
 refine h.move rfl rfl rfl e4 rfl rfl e7 (by rw[e8];rfl) (fun n hn=>?_) (fun n hn=>?_)
 ·dsimp only
  rw[tmpsOf_get hle,if_pos hn]
  cases e:look (fun a b=>Nat.beq a b) n live with
  |none=>simp[AV.ev]
  |some a=>exact hl n a e
 ·dsimp only
  rw[tmpsOf_get hle,if_neg (by omega)]
structure Seen where
 fn:FuncId
 nt:Nat
 todo:List Item
 defers:List AD
 mode:AMode
 kind:CallKind
 callers:List AFrame
 hp:List (Nat×ABlk)
 vals:List AV
noncomputable def seenOf(c:ACfg)(live:List Nat):Seen:=⟨c.cur.fn,c.cur.nt,c.cur.todo,c.cur.defers,c.cur.mode,c.cur.kind,c.callers,c.h.hp,live.map fun n=>c.cur.tmps.get n⟩
noncomputable def see(r:M ACfg)(live:List Nat):Option Seen:=
 match r with
 |.ok c=>some (seenOf c live)
 |.error _=>none
theorem see_ok{r:M ACfg}{live:List Nat}{s:Seen}(h:see r live=some s):∃c,r=.ok c∧seenOf c live=s:=by
 cases r with
 |ok c=>exact⟨c,rfl,Option.some.inj h⟩
 |error e=>cases h
end
def EvS(still:Nat->Nat->Prop)(e:Event):Prop:=∀b n s,e=⟨.cell ⟨b,n,none⟩,true,s⟩->¬still b n
def Ctx.sub(K:Ctx)(O:Orc)(own:Nat->Prop)(still:Nat->Nat->Prop):Ctx:=⟨K.P,O,own,fun e=>K.Ev e∧EvS still e,K.lock,fun b n=>K.still b n∨still b n⟩
section
variable {K:Ctx}{O:Orc}{own:Nat->Prop}{still:Nat->Nat->Prop}
theorem sub_good(Gd:K.Good)(h:∀n,own n->K.own n):(K.sub O own still).Good:=by
 refine⟨fun a s ho=>⟨Gd.rd a s (h _ ho),fun b n s' e=>by cases e⟩,fun a s ho hn=>⟨Gd.wr a s (h _ ho) fun x=>hn (.inl x),fun b n s' e=>?_⟩,fun b n s hs he=>?_,fun m hm=>⟨Gd.ext m hm,fun b n s e=>by cases e⟩,⟨Gd.noRoom,fun b n s e=>by cases e⟩,fun L m=>⟨Gd.lock L m,fun b n s e=>by cases e⟩,fun r wr s ho=>⟨Gd.obj r wr s (h _ ho),fun b n s' e=>by cases e⟩⟩
 ·cases e
  exact fun x=>hn (.inr x)
 ·rcases hs with hs|hs
  ·exact Gd.noWr b n s hs he.1
  ·exact he.2 b n s rfl hs
theorem sub_dk(h:∀n,own n->K.own n)(w w':World)(es:Array Event)(d:DK (K.sub O own still) w w' es):DK K w w' es:=
 ⟨d.1.mono h,fun e he=>(d.2.1 e he).1,fun b n v hs hc=>d.2.2 b n v (.inl hs) hc⟩
end
theorem Walk.along{P:Program}{main:Bool}{D:World->World->Array Event->Prop}{S:Goroutine->World->Prop}{R:World->World->Prop}(r0:∀w,R w w)(rd:∀w d w',R (drawnAt w d) w'->R w w')(rd':∀w d,R w (drawnAt w d))(rt:∀w w' w'',R w w'->R w' w''->R w w'')(rD:∀w w' es,D w w' es->R w w'){n:Nat}{g:Goroutine}{w:World}(h:Walk P main D S n g w):
  Walk P main D (fun g' w'=>S g' w'∧R w w') n g w:=by
 have key:∀{k:Nat} {g:Goroutine} {w:World},WalkI P main D S k g w->∀w0,R w0 w->WalkI P main D (fun g' w'=>S g' w'∧R w0 w') k g w:=by
  intro k g w h
  induction h with
  |stop g w hs=>exact fun w0 hr=>WalkI.stop g w ⟨hs,hr⟩
  |step n g w g' w' es hr hs hdd _ ih=>exact fun w0 h0=>WalkI.step n g w g' w' es hr hs hdd fun d=>ih d w0 (rt _ _ _ h0 (rd _ d _ (rD _ _ _ (hdd d))))
  |off n g w g' hr hs _ ih=>exact fun w0 h0=>WalkI.off n g w g' hr hs fun d=>ih d w0 (rt _ _ _ h0 (rd' _ d))
  |on n g w g' hr hs _ ih=>exact fun w0 h0=>WalkI.on n g w g' hr hs fun d=>ih d w0 (rt _ _ _ h0 (rd' _ d))
 exact key h w (r0 w)
theorem Stays.refl(S:Nat->Nat->Prop)(w:World):Stays S w w:=fun _ _ _ _ h=>h
theorem Stays.trans{S:Nat->Nat->Prop}{w w' w'':World}(h:Stays S w w')(h':Stays S w' w''):Stays S w w'':=fun b n v hs hc=>h' b n v hs (h b n v hs hc)
structure Came1(K:Ctx)(U:Nat->Prop)(ρ:Env)(own:Nat->Prop)(still:Nat->Nat->Prop)(O:Orc)(cs:List Frame)(live:List Nat)(V:Seen)(w:World)(g':Goroutine)(w':World)(ρ':Env)(c':ACfg)(fr':Frame)(frs':List Frame):Prop where
 agree:Agree U ρ ρ'
 keeps:Keeps own w w'
 stays:Stays still w w'
 seen:seenOf c' live=V
 fr:FrRel K.P ρ' c'.cur fr'
 frs:FrRels K.P ρ' c'.callers frs'
 rel:Rel (K.sub O own still) ρ' c'.h w'
 gor:g'=G fr' (frs'++cs)
theorem piece{K:Ctx}{main:Bool}(Gd:K.Good){own:Nat->Prop}{still:Nat->Nat->Prop}(hown:∀n,own n->K.own n){O:Orc}{ext:Ext}{sum:Sums}(F:(K.sub O own still).Facts)(X:ExtOk (K.sub O own still) ext)(Z:SumOk (K.sub O own still) main sum){f n:Nat}{ks:List Nat}{c:ACfg}{live:List Nat}{V:Seen}
 (hv:see (chunkTo? K.P O ext sum f n ks c) live=some V){nb:Nat}(hl:cfgLow nb c=true)(hnb:c.h.nb=nb)(hO:O.low nb=true){ρ:Env}{fr:Frame}{frs cs:List Frame}{w:World}(hf:FrRel K.P ρ c.cur fr)(hfs:FrRels K.P ρ c.callers frs)(R:Rel (K.sub O own still) ρ c.h w):
  Walk K.P main (DK K) (fun g' w'=>∃ρ' c' fr' frs',Came1 K (Below nb) ρ own still O cs live V w g' w' ρ' c' fr' frs') 0 (G fr (frs++cs)) w:=by
 obtain⟨c',hc,hs⟩:=see_ok hv
 obtain⟨_,N,L⟩:=chunkTo_ok (K:=K.sub O own still) (main:=main) (sub_good Gd hown) F X Z hc
 have W:=L (Below nb) ρ cs (G fr (frs++cs)) w (cfgLow_in (K:=K.sub O own still) hl hnb hO) ⟨R,fr,frs,hf,hfs,rfl⟩
 have W2:=Walk.along (R:=fun w w'=>Stays still w w') (fun w=>Stays.refl _ w) (fun w d w' h=>h) (fun w d=>fun _ _ _ _ h=>h) (fun _ _ _ h h'=>h.trans h') (fun w w' es h=>fun b n v hs hc=>h.2.2 b n v (.inr hs) hc) W
 refine(Walk.weaken (fun g' w' hd=>?_) (W2.lax (sub_dk hown))).any
 obtain⟨⟨ρ',A,kp,gr,hin,R',fr',frs',h1,h2,h3⟩,hst⟩:=hd
 exact⟨ρ',c',fr',frs',A,kp,hst,hs,h1,h2,R',h3⟩
theorem look_map{P:Nat->AV->Prop}:∀{lv:List (Nat×AV)},(∀p∈lv,P p.1 p.2)->∀n a,look (fun a b=>Nat.beq a b) n lv=some a->P n a
 |lv,h,n,a,hk=>by
  obtain⟨x,hx,he⟩:=look_some hk
  obtain rfl:=Nat.eq_of_beq_eq_true he
  exact h _ hx
theorem told_pairs{ρ ρ2:Env}{t:TT}:∀{lv:List (Nat×AV)},AV.evs ρ2 (lv.map (·.2))=AV.evs ρ (lv.map fun p=>t.get p.1)->∀p∈lv,p.2.ev ρ2=(t.get p.1).ev ρ
 |[],_,p,hp=>by cases hp
 |q::lv,h,p,hp=>by
  simp only[List.map_cons,AV.evs,List.cons.injEq]at h
  rcases List.mem_cons.1 hp with rfl|hp
  ·exact h.1
  ·exact told_pairs h.2 p hp
section
variable {K:Ctx}{U:Nat->Prop}{ρ ρ':Env}{own:Nat->Prop}{still:Nat->Nat->Prop}{O:Orc}{cs:List Frame}{w:World}{g':Goroutine}{w':World}{c':ACfg}{fr':Frame}{frs':List Frame}
theorem Came1.told{lv:List (Nat×AV)}{fn:FuncId}{nt:Nat}{todo:List Item}{kind:CallKind}{callers:List AFrame}{hp:List (Nat×ABlk)}{vals:List AV}(C:Came1 K U ρ own still O cs (lv.map (·.1)) ⟨fn,nt,todo,[],.run,kind,callers,hp,vals⟩ w g' w' ρ' c' fr' frs')(hk:plainK kind):
  ∃st,∀ρ2:Env,AV.evs ρ2 (lv.map (·.2))=AV.evs ρ' vals->FrRel K.P ρ2 ⟨fn,nt,tmpsOf nt st lv,todo,[],.run,kind⟩ fr':=by
 obtain⟨⟨fn',nt',t,todo',ds,mode,kind'⟩,callers',hp',nb,lim⟩:=c'
 have s:=C.seen
 simp only[seenOf,Seen.mk.injEq]at s
 obtain⟨rfl,rfl,rfl,rfl,rfl,rfl,rfl,rfl,s4⟩:=s
 refine⟨_,fun ρ2 hv=>C.fr.tell (ρ':=ρ2) rfl hk rfl (live:=lv) ?_⟩
 refine look_map (P:=fun n a=>a.ev ρ2=(t.get n).ev ρ') (told_pairs ?_)
 rw[hv,<-s4,List.map_map]
 rfl
theorem Came1.alone{live:List Nat}{fn:FuncId}{nt:Nat}{todo:List Item}{ds:List AD}{mode:AMode}{kind:CallKind}{hp:List (Nat×ABlk)}{vals:List AV}(C:Came1 K U ρ own still O cs live ⟨fn,nt,todo,ds,mode,kind,[],hp,vals⟩ w g' w' ρ' c' fr' frs'):g'=G fr' cs∧c'.h.hp=hp:=by
 have s:=C.seen
 simp only[seenOf,Seen.mk.injEq]at s
 obtain⟨_,_,_,_,_,_,hc,hh,_⟩:=s
 have hfs:=C.frs
 rw[hc]at hfs
 cases frs' with
 |cons a b=>exact absurd hfs (by simp[FrRels])
 |nil=>exact⟨C.gor,hh⟩
end
section
variable {K:Ctx}{ρ ρ':Env}{w w':World}
theorem Rel.kept{h:AH}(R:Rel K ρ h w){own:Nat->Prop}(kp:Keeps own w w')(hb:∀i b,findB i h.hp=some b->¬own (ρ.b i))(hm:∀p∈K.O.mem,¬own (p.1.ev ρ).block):Rel K ρ h w':=by
 refine⟨fun i b hb'=>?_,R.own',R.inj,R.bs,R.is,fun p hp=>?_,fun n hn=>R.room n (Nat.le_trans kp.size hn),R.lent,fun b n hs=>Nat.lt_of_lt_of_le (R.low b n hs) kp.size⟩
 ·obtain⟨o,h1,h2⟩:=R.blk i b hb'
  exact⟨o,by rw[kp.heap _ (hb i b hb')];exact h1,h2⟩
 ·obtain⟨m1,m2,m3⟩:=R.mem p hp
  refine⟨m1,?_,m3⟩
  simp only[World.cell?]at m2⊢
  rw[kp.heap _ (hm p hp)];exact m2
theorem cellLt{a:Addr}{v:Value}(hc:w.cell? a=some v):a.block<w.heap.size:=by
 rcases Nat.lt_or_ge a.block w.heap.size with h'|h'
 ·exact h'
 ·simp[World.cell?,Array.getElem?_eq_none h']at hc
end
theorem rel_blocks{K:Ctx}{ρ:Env}{w:World}{O:Orc}{own:Nat->Prop}{still:Nat->Nat->Prop}{hp:List (Nat×ABlk)}{nb lim:Nat}(h1:∀p∈hp,∃o,w.heap[ρ.b p.1]?=some o∧p.2.is K.P ρ o)(h2:∀p∈hp,own (ρ.b p.1))(h3:(hp.map fun p=>ρ.b p.1).Nodup)(h4:∀p∈hp,∀n,(K.still (ρ.b p.1) n∨still (ρ.b p.1) n)->p.2.lentAt K.P ρ n)
 (F:FactsAt (K.sub O own still) O ρ w)(hnew:∀n,w.heap.size≤n->own n)(hlow:∀b n,K.still b n∨still b n->b<w.heap.size):Rel (K.sub O own still) ρ ⟨hp,nb,lim⟩ w:=
 ⟨fun i b hb=>h1 (i,b) (find_mem hb),fun i b hb=>.inl (h2 (i,b) (find_mem hb)),fun i j b c hb hc e=>by
   have:=inj_of_nodup (f:=fun p:Nat×ABlk=>ρ.b p.1) h3 (find_mem hb) (find_mem hc) e
   exact congrArg Prod.fst this,F.bs,F.is,F.mem,hnew,fun i b hb n hs=>h4 (i,b) (find_mem hb) n hs,hlow⟩
def ArrAt(w:World)(b off:Nat)(xs:List Value):Prop:=∀k v,xs[k]?=some v->w.cell? ⟨b,off+k,none⟩=some v
theorem ArrAt.keep{w w':World}{b off:Nat}{xs:List Value}(h:ArrAt w b off xs){own:Nat->Prop}(kp:Keeps own w w')(hb:¬own b):ArrAt w' b off xs:=fun k v hk=>by
 have:=h k v hk
 simp only[World.cell?]at this⊢
 rw[kp.heap b hb];exact this
theorem ArrAt.stay{w w':World}{b off:Nat}{xs:List Value}(h:ArrAt w b off xs){still:Nat->Nat->Prop}(st:Stays still w w')(hb:∀k,k<xs.length->still b (off+k)):ArrAt w' b off xs:=fun k v hk=>st _ _ _ (hb k (List.getElem?_eq_some_iff.1 hk).1) (h k v hk)
theorem ArrAt.lt{w:World}{b off:Nat}{xs:List Value}(h:ArrAt w b off xs){k:Nat}{v:Value}(hk:xs[k]?=some v):b<w.heap.size:=cellLt (h k v hk)
section
variable {P:Program}{ρ:Env}
theorem pre_anew{lk:Bool}{s:Nat}{n c:IE}{fs:List (IE×AV)}{e:TypeId}{i:TypeInfo}{arr:Array Value}{xs rest:List Value}(hx:arr.toList=xs++rest)(hi:P.info? e=some i)(hv:ρ.v s=.agg xs.toArray)(hn:xs.length=(n.ev ρ).toNat*i.size)(hf:∀p∈fs,xs[(p.1.ev ρ).toNat]?=some (p.2.ev ρ))(hc:arr.size=(c.ev ρ).toNat*i.size):
  (ABlk.pre lk s n fs [] [] e c).is P ρ (.cells arr e (0,0)):=
 .inl ⟨arr,rfl,xs.toArray,rest,i,⟨hv,hi,by simpa using hn,fun p hp=>by simpa using hf p hp,fun p hp=>by cases hp⟩,by simpa[wrote,AV.evs] using hx,hc⟩
end
structure VecAt(P:Program)(w:World)(e L:Nat)(xs:List Value)(cap:Nat):Prop where
 ex:∃arr rest i,w.heap[L]?=some (.cells arr e (0,0))∧P.info? e=some i∧arr.toList=xs++rest∧arr.size=cap*i.size
theorem VecAt.arr{P:Program}{w:World}{e L:Nat}{xs:List Value}{cap:Nat}(h:VecAt P w e L xs cap):ArrAt w L 0 xs:=fun k v hk=>by
 obtain⟨arr,rest,i,h1,h2,h3,h4⟩:=h.ex
 rw[cell?_of h1,Nat.zero_add,<-Array.getElem?_toList,h3,List.getElem?_append_left (List.getElem?_eq_some_iff.1 hk).1]
 exact hk
theorem VecAt.lt{P:Program}{w:World}{e L:Nat}{xs:List Value}{cap:Nat}(h:VecAt P w e L xs cap):L<w.heap.size:=by
 obtain⟨arr,rest,i,h1,_⟩:=h.ex
 exact heap_lt h1
theorem VecAt.keep{P:Program}{w w':World}{e L:Nat}{xs:List Value}{cap:Nat}(h:VecAt P w e L xs cap){own:Nat->Prop}(kp:Keeps own w w')(hb:¬own L):VecAt P w' e L xs cap:=by
 obtain⟨arr,rest,i,h1,h2⟩:=h.ex
 exact⟨arr,rest,i,by rw[kp.heap L hb];exact h1,h2⟩
theorem VecAt.is{P:Program}{w:World}{e L:Nat}{xs:List Value}{cap:Nat}(h:VecAt P w e L xs cap){ρ:Env}{lk:Bool}{s:Nat}{n c:IE}{fs:List (IE×AV)}(hv:ρ.v s=.agg xs.toArray)(hn:∀i,P.info? e=some i->xs.length=(n.ev ρ).toNat*i.size)(hf:∀p∈fs,xs[(p.1.ev ρ).toNat]?=some (p.2.ev ρ))(hc:(c.ev ρ).toNat=cap):
  ∃o,w.heap[L]?=some o∧(ABlk.pre lk s n fs [] [] e c).is P ρ o:=by
 obtain⟨arr,rest,i,h1,h2,h3,h4⟩:=h.ex
 exact⟨_,h1,pre_anew h3 h2 hv (hn i h2) hf (by rw[hc];exact h4)⟩
end Go.Proofs.Ytmobbajggkjpgaa.SX
namespace Go.Proofs.Ytmobbajggkjpgaa.SX
noncomputable section
mutual
def AV.noq(y:Nat):AV->Bool
 |.opq i=>!(Nat.beq i y)
 |.func _ x z=>AV.noqs y x&&AV.noqs y z
 |.iface _ v=>v.noq y
 |.agg x=>AV.noqs y x
 |.tuple x=>AV.noqs y x
 |.bool _=>true
 |.int _ _=>true
 |.str _=>true
 |.ptr _=>true
 |.slice _ _ _=>true
 |.map _=>true
 |.chan _=>true
 |.nilFunc=>true
 |.nilIface=>true
 |.raw _=>true
 |.ss _=>true
def AV.noqs(y:Nat):List AV->Bool
 |[]=>true
 |a::l=>a.noq y&&AV.noqs y l
end
def TT.noq(y:Nat):TT->Bool
 |.leaf=>true
 |.node v l r=>v.noq y&&l.noq y&&r.noq y
def ABlk.noq(y:Nat):ABlk->Bool
 |.cells cs _=>AV.noqs y cs
 |.row cs _ _=>AV.noqs y cs
 |.lent cs _ _=>AV.noqs y cs
 |.map es=>es.all fun p=>p.1.noq y&&p.2.noq y
 |.chan=>true
 |.vmap _ _ _ _=>false
 |.pre _ s _ fs ws cs _ _=>!(Nat.beq s y)&&fs.all (fun p=>p.2.noq y)&&ws.all (fun p=>p.2.noq y)&&AV.noqs y cs
def hpNoq(y:Nat):List (Nat×ABlk)->Bool
 |[]=>true
 |p::l=>p.2.noq y&&hpNoq y l
def Orc.noq(y:Nat)(O:Orc):Bool:=O.mem.all fun p=>p.2.noq y
end
end Go.Proofs.Ytmobbajggkjpgaa.SX
namespace Go.Proofs.Ytmobbajggkjpgaa.SX
open Go.Conc
section
def Env.set(ρ:Env)(y:Nat)(v:Value)(bt:Option Nat×List Deferred):Env:={ρ with v:=fun n=>if n=y then v else ρ.v n,bt:=bt}
section
variable {ρ:Env}{y:Nat}{v:Value}{bt:Option Nat×List Deferred}
theorem SE.ev_set:∀(e:SE),e.ev (ρ.set y v bt)=e.ev ρ:=by
 intro e
 induction e with
 |lit t=>rfl
 |var i=>rfl
 |cat a b iha ihb=>simp only[SE.ev,iha,ihb]
theorem IE.ev_set:∀(e:IE),e.ev (ρ.set y v bt)=e.ev ρ:=by
 intro e
 induction e with
 |lit n=>rfl
 |var i=>rfl
 |op o k a b iha ihb=>simp only[IE.ev,iha,ihb]
 |conv k a ih=>simp only[IE.ev,ih]
 |plus a b iha ihb=>simp only[IE.ev,iha,ihb]
 |times a b iha ihb=>simp only[IE.ev,iha,ihb]
 |tn a ih=>simp only[IE.ev,ih]
 |slen a=>simp only[IE.ev,SE.ev_set]
theorem BE.ev_set(e:BE):e.ev (ρ.set y v bt)=e.ev ρ:=by
 cases e<;>simp only[BE.ev,IE.ev_set,SE.ev_set]<;>rfl
theorem BR.ev_set(e:BR):e.ev (ρ.set y v bt)=e.ev ρ:=by cases e<;>rfl
theorem AA.ev_set(a:AA):a.ev (ρ.set y v bt)=a.ev ρ:=by simp only[AA.ev,BR.ev_set,IE.ev_set]
theorem opt_set{α β:Type}{g h:α->β}(e:∀a,g a=h a)(o:Option α):o.map g=o.map h:=by cases o<;>simp[e]
mutual
theorem AV.ev_set:∀(a:AV),(v=ρ.v y∨a.noq y=true)->a.ev (ρ.set y v bt)=a.ev ρ
 |.bool b,_=>by simp only[AV.ev,BE.ev_set]
 |.int k e,_=>by simp only[AV.ev,IE.ev_set]
 |.str t,_=>rfl
 |.ptr a,_=>by simp only[AV.ev];rw[opt_set AA.ev_set]
 |.slice a l c,_=>by simp only[AV.ev,IE.ev_set];rw[opt_set AA.ev_set]
 |.map r,_=>by simp only[AV.ev];rw[opt_set BR.ev_set]
 |.chan r,_=>by simp only[AV.ev];rw[opt_set BR.ev_set]
 |.func f x z,h=>by
  have h1:v=ρ.v y∨AV.noqs y x=true:=h.imp id fun h=>by simp only[AV.noq,Bool.and_eq_true]at h;exact h.1
  have h2:v=ρ.v y∨AV.noqs y z=true:=h.imp id fun h=>by simp only[AV.noq,Bool.and_eq_true]at h;exact h.2
  simp only[AV.ev,AV.evs_set x h1,AV.evs_set z h2]
 |.nilFunc,_=>rfl
 |.iface t a,h=>by simp only[AV.ev,AV.ev_set a (h.imp id fun h=>by simp only[AV.noq]at h;exact h)]
 |.nilIface,_=>rfl
 |.agg x,h=>by simp only[AV.ev,AV.evs_set x (h.imp id fun h=>by simp only[AV.noq]at h;exact h)]
 |.tuple x,h=>by simp only[AV.ev,AV.evs_set x (h.imp id fun h=>by simp only[AV.noq]at h;exact h)]
 |.opq i,h=>by
  simp only[AV.ev]
  show(if i=y then v else ρ.v i)=ρ.v i
  split
  ·rename_i e
   rcases h with h|h
   ·rw[h,e]
   ·simp only[AV.noq,Bool.not_eq_true']at h
    rw[e]at h
    simp at h
  ·rfl
 |.raw u,_=>rfl
 |.ss e,_=>by simp only[AV.ev,SE.ev_set]
theorem AV.evs_set:∀(l:List AV),(v=ρ.v y∨AV.noqs y l=true)->AV.evs (ρ.set y v bt) l=AV.evs ρ l
 |[],_=>rfl
 |a::l,h=>by
  have h1:v=ρ.v y∨a.noq y=true:=h.imp id fun h=>by simp only[AV.noqs,Bool.and_eq_true]at h;exact h.1
  have h2:v=ρ.v y∨AV.noqs y l=true:=h.imp id fun h=>by simp only[AV.noqs,Bool.and_eq_true]at h;exact h.2
  simp only[AV.evs,AV.ev_set a h1,AV.evs_set l h2]
end
theorem TT.get_noq:∀{t:TT},t.noq y=true->∀n,(t.get n).noq y=true:=by
 intro t
 induction t with
 |leaf=>intro _ n;rfl
 |node a l r ihl ihr=>
  intro h n
  simp only[TT.noq,Bool.and_eq_true]at h
  cases n with
  |zero=>exact h.1.1
  |succ m=>
   rw[TT.get_node_succ]
   split
   ·exact ihr h.2 _
   ·exact ihl h.1.2 _
theorem TmpR.set{nt:Nat}{t:TT}{tm:Array Value}(h:TmpR ρ nt t tm)(hn:v=ρ.v y∨t.noq y=true):TmpR (ρ.set y v bt) nt t tm:=
 ⟨h.size,h.le,fun n hl=>by rw[h.get n hl,AV.ev_set _ (hn.imp id fun hn=>TT.get_noq hn n)],h.out⟩
theorem is_set{P:Program}{b:ABlk}{o:Obj}(hb:v=ρ.v y∨b.noq y=true)(h:b.is P ρ o):b.is P (ρ.set y v bt) o:=by
 rcases h with⟨arr,e,hf⟩|h
 ·refine .inl ⟨arr,e,?_⟩
  cases b with
  |cells cs e=>simp only[ABlk.fits]at hf⊢;rw[AV.evs_set cs hb];exact hf
  |lent cs e l=>simp only[ABlk.fits]at hf⊢;rw[AV.evs_set cs hb];exact hf
  |row cs e c=>simp only[ABlk.fits]at hf⊢;rw[AV.evs_set cs hb,IE.ev_set];exact hf
  |map es=>exact hf.elim
  |chan=>exact hf.elim
  |vmap s n fs ws=>exact hf.elim
  |pre lk s n fs ws cs e c=>
   obtain⟨pre,rest,i,h1,h2,h3⟩:=hf
   have hb':v=ρ.v y∨(s≠y∧(∀p∈fs,p.2.noq y=true)∧(∀p∈ws,p.2.noq y=true)∧AV.noqs y cs=true):=hb.imp id fun hb=>by
    simp only[ABlk.noq,Bool.and_eq_true]at hb
    obtain⟨⟨⟨b1,b2⟩,b3⟩,b4⟩:=hb
    exact⟨fun e=>by subst e;simp at b1,fun p hp=>List.all_eq_true.1 b2 p hp,fun p hp=>List.all_eq_true.1 b3 p hp,b4⟩
   refine⟨pre,rest,i,⟨?_,h1.info,by rw[IE.ev_set];exact h1.size,fun p hp=>by rw[IE.ev_set,AV.ev_set _ (hb'.imp id fun h=>h.2.1 p hp)];exact h1.fs p hp,fun p hp=>by rw[IE.ev_set];exact h1.ws p hp⟩,?_,by rw[IE.ev_set];exact h3⟩
   ·rw[<-h1.val]
    show(if s=y then v else ρ.v s)=ρ.v s
    split
    ·rename_i e
     subst e
     rcases hb' with h|h
     ·exact h
     ·exact absurd rfl h.1
    ·rfl
   ·rw[AV.evs_set cs (hb'.imp id fun h=>h.2.2.2),h2]
    congr 1
    have:∀{l:List (IE×AV)},(v=ρ.v y∨∀p∈l,p.2.noq y=true)->wrote (ρ.set y v bt) pre.toList l=wrote ρ pre.toList l:=by
     intro l
     induction l with
     |nil=>intro _;rfl
     |cons p l ih=>
      intro hl
      show(wrote _ _ l).set _ _=(wrote _ _ l).set _ _
      rw[ih (hl.imp id fun h q hq=>h q (List.mem_cons_of_mem _ hq)),IE.ev_set,AV.ev_set _ (hl.imp id fun h=>h p (List.mem_cons_self ..))]
    exact(this (hb'.imp id fun h=>h.2.2.1)).symm
 ·refine .inr ?_
  cases b with
  |map es=>
   obtain⟨arr,clk,h1,h2⟩:=h
   refine⟨arr,clk,h1,h2.trans (List.map_congr_left fun p hp=>?_)⟩
   have hx:v=ρ.v y∨(p.1.noq y=true∧p.2.noq y=true):=hb.imp id fun hb=>by
    have:=List.all_eq_true.1 hb p hp
    simpa using this
   rw[AV.ev_set p.1 (hx.imp id And.left),AV.ev_set p.2 (hx.imp id And.right)]
  |chan=>exact h
  |vmap s n fs ws=>
   rcases hb with hv|hb
   rotate_left
   ·cases hb
   have hs:(ρ.set y v bt).v=ρ.v:=by
    funext k
    show(if k=y then v else ρ.v k)=ρ.v k
    split
    ·rename_i e;rw[e];exact hv
    ·rfl
   obtain⟨arr,clk,E,h1,h2,h3,h4,h5⟩:=h
   refine⟨arr,clk,E,h1,by rw[hs];exact h2,by rw[IE.ev_set];exact h3,h4.trans ?_,fun p hp=>?_⟩
   ·congr 1
    refine List.map_congr_left fun p hp=>?_
    rw[AV.ev_set p.1 (.inl hv),AV.ev_set p.2 (.inl hv)]
   ·have hK:=h5 p hp
    obtain⟨a,r⟩:=p
    unfold KeyIs at hK⊢
    have ea:a.ev (ρ.set y v bt)=a.ev ρ:=AA.ev_set a
    cases r with
    |none=>
     rw[ea]
     exact hK
    |some u=>
     dsimp only at hK⊢
     rw[ea,AV.ev_set u (.inl hv)]
     exact hK
  |_=>exact h.elim
theorem hpNoq_find:∀{l:List (Nat×ABlk)},hpNoq y l=true->∀{i:Nat} {b:ABlk},findB i l=some b->b.noq y=true
 |[],_,i,b,h=>by cases h
 |p::l,hn,i,b,h=>by
  simp only[hpNoq,Bool.and_eq_true]at hn
  rw[find_cons]at h
  cases e:Nat.beq i p.1 with
  |true=>rw[e]at h;have h':some p.2=some b:=h;cases h';exact hn.1
  |false=>rw[e]at h;exact hpNoq_find hn.2 h
theorem lentAt_set{P:Program}{b:ABlk}{n:Nat}(h:b.lentAt P ρ n):b.lentAt P (ρ.set y v bt) n:=by
 cases b with
 |pre lk s m fs ws cs e c=>simp only[ABlk.lentAt,IE.ev_set];exact h
 |_=>exact h
theorem Rel.set{K:Ctx}{h:AH}{w:World}(R:Rel K ρ h w)(hn:v=ρ.v y∨(hpNoq y h.hp=true∧K.O.noq y=true)):Rel K (ρ.set y v bt) h w:=
 ⟨fun i b hb=>by
  obtain⟨o,h1,h2⟩:=R.blk i b hb
  exact⟨o,h1,is_set (hn.imp id fun hn=>hpNoq_find hn.1 hb) h2⟩,R.own',R.inj,fun p hp=>by rw[BE.ev_set];exact R.bs p hp,fun p hp=>by rw[IE.ev_set,IE.ev_set];exact R.is p hp,fun p hp=>by
  rw[AA.ev_set,AV.ev_set p.2 (hn.imp id fun hn=>List.all_eq_true.1 hn.2 p hp)];exact R.mem p hp,R.room,fun i b hb n hs=>lentAt_set (R.lent i b hb n hs),R.low⟩
end
def Ctx.less(K:Ctx)(D l:Nat):Ctx:={K with own:=fun n=>K.own n∧n≠D∧n≠l}
section
variable {K:Ctx}{D l:Nat}
theorem less_D{w w':World}(h:Keeps (K.less D l).own w w'):w'.heap[D]?=w.heap[D]?:=h.heap D fun x=>x.2.1 rfl
theorem less_l{w w':World}(h:Keeps (K.less D l).own w w'):w'.heap[l]?=w.heap[l]?:=h.heap l fun x=>x.2.2 rfl
structure Lp(w:World)(D l:Nat)(r:Loop):Prop where
 loop:w.heap[l]?=some (.loop r)
 dfr:w.heap[D]?=some (.deferred (some []))
theorem Lp.kept{w w':World}{r:Loop}(h:Lp w D l r)(k:Keeps (K.less D l).own w w'):Lp w' D l r:=⟨by rw[less_l k];exact h.loop,by rw[less_D k];exact h.dfr⟩
theorem Lp.drawn{w:World}{r:Loop}(h:Lp w D l r)(d:Nat):Lp (drawnAt w d) D l r:=⟨h.1,h.2⟩
end
section
variable {K:Ctx}{main:Bool}{ext:Ext}{call:FuncId->List AV->AH->M (AE×AH)}
variable {D l:Nat}{cs:List Frame}
theorem Ids.less{U:Nat->Prop}{h:AH}(I:Ids K U h):Ids (K.less D l) U h:=⟨I.hp,I.keys,I.nodup,I.fresh,I.orc⟩
theorem Rel.less{ρ:Env}{h:AH}{w w':World}(R:Rel K ρ h w)(R':Rel K ρ h w')(hD:w.heap.size≤D)(hl:w.heap.size≤l)(hD':D<w'.heap.size)(hl':l<w'.heap.size):Rel (K.less D l) ρ h w':=by
 have hne:∀i b,findB i h.hp=some b->ρ.b i≠D∧ρ.b i≠l:=fun i b hb=>by
  obtain⟨o,h1,_⟩:=R.blk i b hb
  have:=heap_lt h1
  omega
 exact⟨R'.blk,fun i b hb=>(R'.own' i b hb).imp (fun x=>⟨x,hne i b hb⟩) id,R'.inj,R'.bs,R'.is,fun p hp=>⟨fun x=>(R'.mem p hp).1 x.1,(R'.mem p hp).2⟩,fun n hn=>⟨R'.room n hn,by omega,by omega⟩,R'.lent,R'.low⟩
end
end
noncomputable def frSeen(fr:AFrame)(live:List Nat):Seen:=⟨fr.fn,fr.nt,fr.todo,fr.defers,fr.mode,fr.kind,[],[],live.map fun n=>fr.tmps.get n⟩
noncomputable def seeF(r:M ACfg)(live:List Nat)(lives:FuncId->List Nat):Option (Seen×List Seen):=
 match r with
 |.ok ⟨cur,callers,h⟩=>some (seenOf ⟨cur,[],h⟩ live,callers.map fun fr=>frSeen fr (lives fr.fn))
 |.error _=>none
noncomputable def Seen.under(V:Seen)(cl:List AFrame):Seen:=⟨V.fn,V.nt,V.todo,V.defers,V.mode,V.kind,cl,V.hp,V.vals⟩
theorem seeF_ok{r:M ACfg}{live:List Nat}{lives:FuncId->List Nat}{V:Seen}{Vs:List Seen}(h:seeF r live lives=some (V,Vs)):∃cl,see r live=some (V.under cl)∧cl.map (fun fr=>frSeen fr (lives fr.fn))=Vs:=by
 cases r with
 |error e=>cases h
 |ok c=>
  obtain⟨cur,cl,hh⟩:=c
  have h':(seenOf ⟨cur,[],hh⟩ live,cl.map fun fr=>frSeen fr (lives fr.fn))=(V,Vs):=Option.some.inj h
  obtain⟨h1,h2⟩:=Prod.mk.inj h'
  subst h1
  exact⟨cl,rfl,h2⟩
end Go.Proofs.Ytmobbajggkjpgaa.SX
namespace Go.Proofs.Ytmobbajggkjpgaa.SX
open Go.Conc
open Go.ConcN (upd upd_ne upd_same)
structure SeatOk(base:Nat)(s:Tok.Seat):Prop where
 ge:base≤s.c
 cell:∀l,s.still l->∃b n,l=.cell ⟨b,n,none⟩
 stable:∀w w':World,(∀b n v,s.still (.cell ⟨b,n,none⟩)->w.cell? ⟨b,n,none⟩=some v->w'.cell? ⟨b,n,none⟩=some v)->s.keep w->s.keep w'
 held:∀w b n,s.keep w->s.still (.cell ⟨b,n,none⟩)->∃v,w.cell? ⟨b,n,none⟩=some v
def chanOf(Inb:Nat->Option Tok.Seat)(b:Nat):Prop:=∃i t,Inb i=some t∧t.c=b
def stillI(Inb:Nat->Option Tok.Seat)(b n:Nat):Prop:=∃i t,Inb i=some t∧t.still (.cell ⟨b,n,none⟩)
def SK(P:Program)(base:Nat)(Inb:Nat->Option Tok.Seat):Ctx:=⟨P,{},fun n=>base≤n∧¬chanOf Inb n,crewEv (fun a=>stillI Inb a.block a.off),False,stillI Inb⟩
def ChanAt(w:World)(b:Nat):Prop:=∃k,w.heap[b]?=some (.chan 0 #[] false k k false)
theorem ChanAt.keep{w w':World}{b:Nat}(h:ChanAt w b){own:Nat->Prop}(kp:Keeps own w w')(hb:¬own b):ChanAt w' b:=by
 obtain⟨k,hk⟩:=h
 exact⟨k,by rw[kp.heap b hb];exact hk⟩
theorem ChanAt.lt{w:World}{b:Nat}(h:ChanAt w b):b<w.heap.size:=by
 obtain⟨k,hk⟩:=h
 exact heap_lt hk
section
variable {P:Program}{base:Nat}{W0:World}{Inb:Nat->Option Tok.Seat}{h N:Nat}{m:Machine}{T:Trace}{a:Goroutine}{w:World}
structure SAt(P:Program)(base:Nat)(W0:World)(Inb:Nat->Option Tok.Seat)(h N:Nat)(m:Machine)(T:Trace)(a:Goroutine)(w:World):Prop where
 ex:∃gs sl q,m=crowd gs w sl∧gs.size=N∧gs[h]?=some a∧Tok.Core P Inb h 0 T gs w q
 ok:∀i t,Inb i=some t->SeatOk base t
 keeps:Keeps (fun n=>base≤n) W0 w
 size:base≤w.heap.size
theorem SAt.new(A:SAt P base W0 Inb h N m T a w)(n:Nat)(hn:w.heap.size≤n):(SK P base Inb).own n:=by
 obtain⟨gs,sl,q,_,_,_,C⟩:=A.ex
 refine⟨Nat.le_trans A.size hn,fun⟨i,t,e,ec⟩=>?_⟩
 obtain⟨k,hk⟩:=C.chans i t e
 have:=heap_lt hk
 omega
theorem SAt.low(A:SAt P base W0 Inb h N m T a w)(b n:Nat)(hs:(SK P base Inb).still b n):b<w.heap.size:=by
 obtain⟨gs,sl,q,_,_,_,C⟩:=A.ex
 obtain⟨i,t,e,hl⟩:=hs
 obtain⟨v,hv⟩:=(A.ok i t e).held w b n (C.keep i t e) hl
 exact cellLt hv
theorem SAt.chan(A:SAt P base W0 Inb h N m T a w){i:Nat}{t:Tok.Seat}(e:Inb i=some t):ChanAt w t.c:=by
 obtain⟨gs,sl,q,_,_,_,C⟩:=A.ex
 exact C.chans i t e
theorem SAt.keep(A:SAt P base W0 Inb h N m T a w){i:Nat}{t:Tok.Seat}(e:Inb i=some t):t.keep w:=by
 obtain⟨gs,sl,q,_,_,_,C⟩:=A.ex
 exact C.keep i t e
theorem SAt.lt(A:SAt P base W0 Inb h N m T a w){i:Nat}{t:Tok.Seat}(e:Inb i=some t):i<N:=by
 obtain⟨gs,sl,q,_,hsz,_,C⟩:=A.ex
 rcases Nat.lt_or_ge i gs.size with hi|hi
 ·omega
 ·rw[(C.above i hi).2]at e;cases e
theorem SAt.hlt(A:SAt P base W0 Inb h N m T a w):h<N:=by
 obtain⟨gs,sl,q,_,hsz,ha,C⟩:=A.ex
 have:=(Array.getElem?_eq_some_iff.1 ha).1
 omega
theorem SAt.free(A:SAt P base W0 Inb h N m T a w):Inb h=none:=by
 obtain⟨gs,sl,q,_,_,_,C⟩:=A.ex
 exact C.free
theorem SAt.inj(A:SAt P base W0 Inb h N m T a w){i i':Nat}{t t':Tok.Seat}(e:Inb i=some t)(e':Inb i'=some t')(ec:t.c=t'.c):i=i':=by
 obtain⟨gs,sl,q,_,_,_,C⟩:=A.ex
 exact C.inj i i' t t' e e' ec
def Gets(P:Program)(m:Machine)(T:Trace)(Φ:Machine->Trace->Prop):Prop:=∃M m' T',runNT P M m T=(.next m',T')∧Φ m' T'
theorem Gets.refl{Φ:Machine->Trace->Prop}(h:Φ m T):Gets P m T Φ:=⟨0,m,T,rfl,h⟩
theorem Gets.trans{Φ Ψ:Machine->Trace->Prop}(h:Gets P m T Φ)(k:∀m' T',Φ m' T'->Gets P m' T' Ψ):Gets P m T Ψ:=by
 obtain⟨M,m1,T1,h1,hp⟩:=h
 obtain⟨M2,m2,T2,h2,hq⟩:=k m1 T1 hp
 exact⟨M+M2,m2,T2,runNT_then h1 h2,hq⟩
theorem Gets.mono{Φ Ψ:Machine->Trace->Prop}(h:Gets P m T Φ)(k:∀m' T',Φ m' T'->Ψ m' T'):Gets P m T Ψ:=by
 obtain⟨M,m1,T1,h1,hp⟩:=h
 exact⟨M,m1,T1,h1,k m1 T1 hp⟩
end
end Go.Proofs.Ytmobbajggkjpgaa.SX
namespace Go.Proofs.Ytmobbajggkjpgaa.SX
open Go.Conc
def ObjAt(w:World)(b:Nat)(cs:List Value)(e:TypeId):Prop:=∃arr,w.heap[b]?=some (.cells arr e (0,0))∧arr.toList=cs
def Ty(w:World)(b:Nat)(e:TypeId):Prop:=∃arr f,w.heap[b]?=some (.cells arr e f)
section
variable {w w':World}{b b':Nat}{cs cs':List Value}{e e':TypeId}{own:Nat->Prop}
theorem ObjAt.keep(h:ObjAt w b cs e)(kp:Keeps own w w')(hb:¬own b):ObjAt w' b cs e:=by
 obtain⟨arr,h1,h2⟩:=h
 exact⟨arr,by rw[kp.heap b hb];exact h1,h2⟩
theorem Ty.keep(h:Ty w b e)(kp:Keeps own w w')(hb:¬own b):Ty w' b e:=by
 obtain⟨arr,f,h1⟩:=h
 exact⟨arr,f,by rw[kp.heap b hb];exact h1⟩
theorem ObjAt.ty(h:ObjAt w b cs e):Ty w b e:=by
 obtain⟨arr,h1,_⟩:=h
 exact⟨arr,_,h1⟩
theorem ObjAt.lt(h:ObjAt w b cs e):b<w.heap.size:=by
 obtain⟨arr,h1,_⟩:=h
 exact heap_lt h1
theorem Ty.lt(h:Ty w b e):b<w.heap.size:=by
 obtain⟨arr,f,h1⟩:=h
 exact heap_lt h1
theorem Ty.ne(h:Ty w b e)(h':Ty w b' e')(hn:e≠e'):b≠b':=by
 rintro rfl
 obtain⟨arr,f,h1⟩:=h
 obtain⟨arr',f',h2⟩:=h'
 rw[h1]at h2
 cases h2
 exact hn rfl
theorem Ty.noChan(h:Ty w b e)(h':ChanAt w b'):b≠b':=by
 rintro rfl
 obtain⟨arr,f,h1⟩:=h
 obtain⟨k,h2⟩:=h'
 rw[h1]at h2
 cases h2
theorem ObjAt.cell(h:ObjAt w b cs e){n:Nat}{v:Value}(hn:cs[n]?=some v):w.cell? ⟨b,n,none⟩=some v:=by
 obtain⟨arr,h1,h2⟩:=h
 rw[cell?_of h1,<-Array.getElem?_toList,h2]
 exact hn
theorem VecAt.ty{P:Program}{xs:List Value}{c:Nat}(h:VecAt P w e b xs c):Ty w b e:=by
 obtain⟨arr,rest,i,h1,_⟩:=h.ex
 exact⟨arr,_,h1⟩
theorem ObjAt.is{P:Program}{ρ:Env}{l:List AV}(h:ObjAt w b (AV.evs ρ l) e):∃o,w.heap[b]?=some o∧(ABlk.cells l e).is P ρ o:=by
 obtain⟨arr,h1,h2⟩:=h
 exact⟨_,h1,.inl ⟨arr,rfl,h2⟩⟩
theorem ObjAt.isLent{P:Program}{ρ:Env}{l:List AV}{ls:List Nat}(h:ObjAt w b (AV.evs ρ l) e):∃o,w.heap[b]?=some o∧(ABlk.lent l e ls).is P ρ o:=by
 obtain⟨arr,h1,h2⟩:=h
 exact⟨_,h1,.inl ⟨arr,rfl,h2⟩⟩
end
section
variable {P:Program}{base:Nat}{W0:World}{N:Nat}{m:Machine}{T:Trace}{a:Goroutine}{w:World}
theorem SAt.finish{Inb:Nat->Option Tok.Seat}(hnone:∀i,Inb i=none)(A:SAt P base W0 Inb 0 N m T a w){f:FuncId}(hE:∃ρ,EndsAs (SK P base Inb) f ρ (.returned (.bool (.lit true))) [] a w)(hone:oneTmp P f=true):
  ∃K last o w3 t3,runNT P (K+1) m T=(.ended o w3,t3)∧runN P K m=.next last∧step P last=.ended o w3∧Conc.Good P (fun v W'=>v=.bool true∧Keeps (fun n=>base≤n) W0 W') last o w3 t3:=by
 obtain⟨gs,sl,q,rfl,hsz,ha,C⟩:=A.ex
 obtain⟨ρ,fr',fn',rfl,hb,hd,hf,hmode,hkind,hq⟩:=hE
 obtain⟨hL,B,hP⟩:=Tok.over C hnone
 have hAll:∀d,stepG P true (G fr' []) (w.at d)=.ended (.done (.bool true)) (w.at d) #[]:=by
  intro d
  have hb':fr'.fn=f:=hb
  unfold oneTmp at hone
  have hf':P.funcs[fr'.fn]?=some fn':=hf
  rw[<-hb']at hone
  rw[hf']at hone
  dsimp only at hone
  split at hone
  ·rename_i tt ht
   have hres:fn'.results=#[.tmp tt]:=by apply Array.toList_inj.1;exact ht
   have hq':=hq d (Q:=fun x w2=>x=.bool true∧w2=drawnAt w d) ⟨rfl,rfl⟩
   rw[results_tmp hres]at hq'
   have hv:fr'.tmps.getD tt undef=.bool true:=((wq_pure _).1 hq').1
   have hi:P.inits.idxOf? fr'.fn=none:=by simpa using hone
   simp[G,stepG,unwind,doReturn,hmode,hd,hf',results_tmp hres,hkind,GStep.after,hv,hi,seen_none]
  ·cases hone
 have hgo:Goes P true AtRel (fun _ _ _=>False) (AtEnd P (fun _=>False) B (fun v W'=>v=.bool true∧Keeps (fun n=>base≤n) W0 W')) 0 (G fr' []) w:=by
  intro w₁ hw
  obtain⟨d,rfl⟩:=hw
  exact⟨rfl,_,_,hAll d,(by simp),rfl,A.keeps.trans ⟨fun _ _=>rfl,Nat.le_refl _,rfl,rfl,rfl⟩⟩
 obtain⟨K,last,o,w3,t3,b1,b2,b3,b4⟩:=beside_ends (D:=fun _ _ _=>False) (fun _ _ _ h=>h.elim) (sl:=sl) ha hL hP hgo
 exact⟨K,last,o,w3,t3,b1,b2,b3,b4⟩
theorem SAt.start(P:Program)(a:Goroutine)(W:World)(C0:Tok.Core P (fun _=>none) 0 0 #[] #[a] W (fun _=>0)):SAt P W.heap.size W (fun _=>none) 0 1 (crowd #[a] W none) #[] a W:=
 ⟨⟨_,none,_,rfl,rfl,rfl,C0⟩,fun i t e=>(by cases e),Keeps.refl _ _,Nat.le_refl _⟩
end
end Go.Proofs.Ytmobbajggkjpgaa.SX
