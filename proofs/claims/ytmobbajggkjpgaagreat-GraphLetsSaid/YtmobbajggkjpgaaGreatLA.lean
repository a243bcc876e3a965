/-
  A symbolic run of the model, proved sound, and the walk of the code: a text of its parts. Conditions: none.
-/
import GoSem.Step
import Derived.Orders
import Derived.Conc.Own5
import Derived.Laws.Sem
import Derived.Conc.Events
set_option linter.unusedSectionVars false
set_option maxRecDepth 100000
set_option linter.unusedVariables false
set_option linter.unusedSimpArgs false
namespace Go.Proofs.YtmobbajggkjpgaaGreat.SX
open _root_.List renaming mem_cons_of_mem->aa,getElem?_eq_getElem->af,mem_cons_self->ai,mem_cons->aj,getElem?_eq_some_iff->aq,mem_of_getElem?->ay,length_cons->aC,map_cons->aK,getElem?_append_left->aV,map_congr_left->a_
open _root_.Bool renaming and_eq_true->an,false_eq_true->aF
open _root_.Nat renaming le_refl->ax,le_trans->aA,eq_of_beq_eq_true->aH
open _root_.Array renaming getElem?_eq_getElem->aO,getElem?_toList->bn
def yN(want:Array (String×TypeId))(got:Array Method):Bool:=want.toList.any fun x=>!got.any fun m=>m.name==x.1&&m.sig==x.2
theorem vw{l:List String}(h:l≠[]):∃s,Instr.least l=some s:=by
 cases l with
 |nil=>exact absurd rfl h
 |cons s r=>exact⟨_,rfl⟩
theorem rQ{want:Array (String×TypeId)}{got:Array Method}(h:yN want got=false):Instr.missingMethod want got=none:=by
 have:want.toList.filter (fun(x:String×TypeId)=>!got.any fun m=>m.name==x.1&&m.sig==x.2)=[]:=by apply List.filter_eq_nil_iff.2;intro x hx;have:=List.any_eq_false.1 h x hx;exact this
 unfold Instr.missingMethod;simp only[this];rfl
theorem Hs{Dq:List String}(p:String->Bool)(f:String->String)(QV:Dq≠[]):∃m,(match Dq.partition p with|(Dr,exported)=>(Instr.least exported <|> Instr.least (Dr.map f)))=some m:=by
 rw[List.partition_eq_filter_filter];dsimp only;by_cases hx:Dq.filter (not ∘ p)=[]
 ·rw[hx];have:Dq.filter p≠[]:=by
   intro hy;obtain⟨s,hs⟩:=List.exists_mem_of_ne_nil _ QV;have a:=List.filter_eq_nil_iff.1 hx s hs;have b:=List.filter_eq_nil_iff.1 hy s hs;simp at a b;simp[b]at a
  obtain⟨m,h2⟩:=vw (l:=(Dq.filter p).map f) (by simpa using this);exact⟨m,by rw[h2];rfl⟩
 ·obtain⟨m,h2⟩:=vw hx;exact⟨m,by rw[h2];rfl⟩
theorem rR{want:Array (String×TypeId)}{got:Array Method}(h:yN want got=true):∃m,Instr.missingMethod want got=some m:=by
 have hne:want.toList.filter (fun(x:String×TypeId)=>!got.any fun m=>m.name==x.1&&m.sig==x.2)≠[]:=by obtain⟨x,hx,hp⟩:=List.any_eq_true.1 h;intro he;have:=List.filter_eq_nil_iff.1 he x hx;exact this hp
 unfold Instr.missingMethod;generalize hm:(want.toList.filter (fun(x:String×TypeId)=>!got.any fun m=>m.name==x.1&&m.sig==x.2)).map (·.1)=Dq;have QV:Dq≠[]:=by rw[<-hm];simpa using hne
 exact Hs _ _ QV
theorem yc(want:Array (String×TypeId))(got:Array Method):(Instr.missingMethod want got).isNone=!yN want got:=by
 cases h:yN want got with
 |false=>rw[rQ h];rfl
 |true=>obtain⟨m,hm⟩:=rR h;rw[hm];rfl
def oV(T V:TypeId):Sem Bool:=do
 Extern.Rtype.noPackMethods "a method set held against an interface's list" V
 Extern.Rtype.noPackMethods "a method set held against an interface's list" T
 match(<-Extern.Rtype.under T).2.desc,(<-Extern.Rtype.under V).2.desc with
 |.interface want,.interface got=>pure (want.all got.contains)
 |.interface want,_=>pure (!yN want (<-typeInfo V).methods)
 |_,_=>pure false
theorem vz:oV=Extern.Rtype.implements:=by funext T V;unfold oV Extern.Rtype.implements;simp only[yc];rfl
noncomputable section
inductive SE where
 |lit(s:ByteArray)
 |var(i:Nat)
 |cat(a b:SE)
def SE.eI:SE->SE->Bool
 |.lit a,.lit b=>decide (a.data=b.data)
 |.var a,.var b=>a==b
 |.cat a b,.cat a' b'=>a.eI a'&&b.eI b'
 |_,_=>false
inductive IE where
 |lit(n:Int)
 |var(i:Nat)
 |op(o:BinOp)(k:IntKind)(a b:IE)
 |conv(k:IntKind)(a:IE)
 |plus(a b:IE)
 |times(a b:IE)
 |tn(a:IE)
 |jj(a:SE)
def IE.eI:IE->IE->Bool
 |.lit a,.lit b=>a==b
 |.var a,.var b=>a==b
 |.op o k a b,.op o' k' a' b'=>decide (o=o')&&decide (k=k')&&a.eI a'&&b.eI b'
 |.conv k a,.conv k' a'=>decide (k=k')&&a.eI a'
 |.plus a b,.plus a' b'=>a.eI a'&&b.eI b'
 |.times a b,.times a' b'=>a.eI a'&&b.eI b'
 |.tn a,.tn a'=>a.eI a'
 |.jj a,.jj a'=>a.eI a'
 |_,_=>false
def iF(o:BinOp)(k:IntKind)(x y:Int):Int:=
 match o with
 |.add=>k.wrap (x+y)
 |.sub=>k.wrap (x-y)
 |.mul=>k.wrap (x*y)
 |.quo=>k.wrap (x.tdiv y)
 |.rem=>x.tmod y
 |.and=>k.wrap ((BitVec.ofInt k.bits x&&& BitVec.ofInt k.bits y).toNat:Int)
 |.or=>k.wrap ((BitVec.ofInt k.bits x ||| BitVec.ofInt k.bits y).toNat:Int)
 |.xor=>k.wrap ((BitVec.ofInt k.bits x ^^^ BitVec.ofInt k.bits y).toNat:Int)
 |.andNot=>k.wrap ((BitVec.ofInt k.bits x&&& ~~~(BitVec.ofInt k.bits y)).toNat:Int)
 |.shl=>k.wrap (x*2 ^ (min y.toNat k.bits))
 |.shr=>x.fdiv (2 ^ (min y.toNat k.bits))
 |_=>0
inductive BE where
 |lit(b:Bool)
 |var(i:Nat)
 |cmp(o:BinOp)(a b:IE)
 |seq(n:Bool)(a b:SE)
def BE.eI:BE->BE->Bool
 |.lit a,.lit b=>a==b
 |.var a,.var b=>a==b
 |.cmp o a b,.cmp o' a' b'=>decide (o=o')&&a.eI a'&&b.eI b'
 |.seq n a b,.seq n' a' b'=>n==n'&&a.eI a'&&b.eI b'
 |_,_=>false
def A0(o:BinOp)(x y:Int):Bool:=
 match o with
 |.eql=>x==y
 |.neq=>x != y
 |.lss=>decide (x<y)
 |.leq=>decide (x≤y)
 |.gtr=>decide (x>y)
 |.geq=>decide (x≥y)
 |_=>false
inductive BR where
 |qN(g:Nat)
 |dyn(i:Nat)
def BR.eI:BR->BR->Bool
 |.qN a,.qN b=>a==b
 |.dyn a,.dyn b=>a==b
 |_,_=>false
structure AA where
 blk:BR
 off:IE
def AA.eI(a b:AA):Bool:=a.blk.eI b.blk&&a.off.eI b.off
inductive AV where
 |bool(b:BE)
 |int(k:IntKind)(e:IE)
 |str(s:ByteArray)
 |ptr(a:Option AA)
 |slice(a:Option AA)(len cap:IE)
 |map(r:Option BR)
 |chan(r:Option BR)
 |func(fn:Fn)(first captured:List AV)
 |nilFunc
 |iface(t:TypeId)(v:AV)
 |nilIface
 |agg(cs:List AV)
 |tuple(vs:List AV)
 |bC(i:Nat)
 |raw(v:Value)
 |ss(e:SE)
def qO{α:Type}(f:α->α->Bool):Option α->Option α->Bool
 |none,none=>true
 |some a,some b=>f a b
 |_,_=>false
mutual
def AV.eI:AV->AV->Bool
 |.bool a,.bool b=>a.eI b
 |.int k a,.int k' b=>decide (k=k')&&a.eI b
 |.str a,.str b=>decide (a.data=b.data)
 |.ptr a,.ptr b=>qO AA.eI a b
 |.slice a l c,.slice a' l' c'=>qO AA.eI a a'&&l.eI l'&&c.eI c'
 |.map a,.map b=>qO BR.eI a b
 |.chan a,.chan b=>qO BR.eI a b
 |.func f x y,.func f' x' y'=>decide (f=f')&&AV.u7 x x'&&AV.u7 y y'
 |.nilFunc,.nilFunc=>true
 |.iface t v,.iface t' v'=>t==t'&&v.eI v'
 |.nilIface,.nilIface=>true
 |.agg x,.agg y=>AV.u7 x y
 |.tuple x,.tuple y=>AV.u7 x y
 |.bC i,.bC j=>i==j
 |.ss a,.ss b=>a.eI b
 |_,_=>false
def AV.u7:List AV->List AV->Bool
 |[],[]=>true
 |a::x,b::y=>a.eI b&&AV.u7 x y
 |_,_=>false
end
inductive TT where
 |leaf
 |node(v:AV)(l r:TT)
def cJ:AV:=.tuple []
def TT.get(t:TT):Nat->AV:=
 TT.rec (fun _=>cJ) (fun v _ _ gl gr n=>Nat.rec v (fun m _=>Bool.rec (gl (m / 2)) (gr (m / 2)) (Nat.beq (m % 2) 0)) n) t
def TT.set(v:AV)(f:Nat):TT->Nat->TT:=
 Nat.rec (fun t _=>t) (fun _ ih t n=>
  TT.rec (Nat.rec (.node v .leaf .leaf) (fun m _=>Bool.rec (.node cJ (ih .leaf (m / 2)) .leaf) (.node cJ .leaf (ih .leaf (m / 2))) (Nat.beq (m % 2) 0)) n)
   (fun u l r _ _=>Nat.rec (.node v l r) (fun m _=>Bool.rec (.node u (ih l (m / 2)) r) (.node u l (ih r (m / 2))) (Nat.beq (m % 2) 0)) n) t) f
def TT.eI:TT->TT->Bool
 |.leaf,.leaf=>true
 |.node v l r,.node v' l' r'=>v.eI v'&&l.eI l'&&r.eI r'
 |_,_=>false
def TT.fill:List AV->Nat->TT->TT
 |[],_,t=>t
 |v::l,n,t=>TT.fill l (n+1) (t.set v 16 n)
structure dH where
 bs:List (BE×Bool):=[]
 is:List (IE×IE):=[]
 mem:List (AA×AV):=[]
 fns:List FuncId:=[]
 ext:List (FuncId×(Array Value->Sem Value)):=[]
 abw:List FuncId:=[]
 alF:List (FuncId×Bool):=[]
abbrev M:=Except String
def look{α β:Type}(eq:α->α->Bool)(a:α)(l:List (α×β)):Option β:=List.rec none (fun p _ ih=>Bool.rec ih (some p.2) (eq a p.1)) l
def IE.fold:IE->IE
 |.op o k (.lit a) (.lit b)=>.lit (iF o k a b)
 |.conv k (.lit a)=>.lit (k.wrap a)
 |.plus (.lit a) (.lit b)=>.lit (a+b)
 |.times (.lit a) (.lit b)=>.lit (a*b)
 |.tn (.lit a)=>.lit a.toNat
 |.jj (.lit s)=>.lit (.ofNat s.size)
 |e=>e
def dH.int(O:dH)(e:IE):IE:=
 match e.fold with
 |.lit n=>.lit n
 |e=>(look IE.eI e O.is).getD e
def BE.fold:BE->BE
 |.cmp o (.lit a) (.lit b)=>.lit (A0 o a b)
 |.seq n (.lit a) (.lit b)=>.lit ((a.toList==b.toList) != n)
 |b=>b
def dH.bool(O:dH)(b:BE):BE:=
 match b.fold with
 |.lit n=>.lit n
 |b=>match look BE.eI b O.bs with
  |some v=>.lit v
  |none=>b
def dH.dec(O:dH)(b:BE):M Bool:=
 match O.bool b with
 |.lit v=>.ok v
 |_=>.error "a test is open"
inductive bO where
 |cells(cs:List AV)(elem:TypeId)
 |row(cs:List AV)(elem:TypeId)(cap:IE)
 |gi(cs:List AV)(elem:TypeId)(ls:List Nat)
 |map(es:List (AV×AV))
 |chan
 |jA(s:Nat)(n:IE)(fs:List (AA×Option AV))(ws:List (AV×AV))
 |pre(lk:Bool)(s:Nat)(n:IE)(fs ws:List (IE×AV))(cs:List AV)(elem:TypeId)(cap:IE)
structure AH where
 hp:List (Nat×bO)
 nb:Nat
 fJ:Nat
def cE(i:Nat)(l:List (Nat×bO)):Option bO:=List.rec none (fun p _ ih=>Bool.rec ih (some p.2) (Nat.beq i p.1)) l
def vA(i:Nat)(b:bO)(l:List (Nat×bO)):List (Nat×bO):=List.rec [] (fun p t ih=>Bool.rec (p::ih) ((p.1,b)::t) (Nat.beq i p.1)) l
def jk(i:Nat)(l:List (Nat×bO)):List (Nat×bO):=List.rec [] (fun p t ih=>Bool.rec (p::ih) t (Nat.beq i p.1)) l
def qP(i:Nat)(b:bO)(l:List (Nat×bO)):List (Nat×bO):=List.rec [(i,b)] (fun p t ih=>Bool.rec (p::ih) ((i,b)::p::t) (Nat.ble (p.1+1) i)) l
def alloc?(h:AH)(b:bO):M (AV×AH):=
 match h with
 |⟨hp,nb,fJ⟩=>if nb<fJ then .ok (.ptr (some ⟨.dyn nb,.lit 0⟩),⟨qP nb b hp,nb+1,fJ⟩)else .error "new numbers"
def allocO?(h:AH)(b:bO)(mk:BR->AV):M (AV×AH):=
 match h with
 |⟨hp,nb,fJ⟩=>if nb<fJ then .ok (mk (.dyn nb),⟨qP nb b hp,nb+1,fJ⟩)else .error "new numbers"
def allocSlice?(h:AH)(b:bO)(len cap:IE):M (AV×AH):=
 match h with
 |⟨hp,nb,fJ⟩=>if nb<fJ then .ok (.slice (some ⟨.dyn nb,.lit 0⟩) len cap,⟨qP nb b hp,nb+1,fJ⟩)else .error "new numbers"
def allocRow?(h:AH)(old:Option Nat)(cs:List AV)(elem:TypeId)(len:Nat):M (AV×AH):=
 match h with
 |⟨hp,nb,fJ⟩=>if nb<fJ then
   .ok (.slice (some ⟨.dyn nb,.lit 0⟩) (.lit (.ofNat len)) (.var nb),⟨qP nb (.row cs elem (.var nb)) (match old with|some i=>jk i hp|none=>hp),nb+1,fJ⟩)
  else .error "new numbers"
def Nt:Value->AV
 |.bool b=>.bool (.lit b)
 |.int k n=>.int k (.lit n)
 |.string s=>.str s
 |.pointer none=>.ptr none
 |.pointer (some ⟨b,o,none⟩)=>.ptr (some ⟨.qN b,.lit o⟩)
 |.slice none l c=>.slice none (.lit l) (.lit c)
 |.map none=>.map none
 |.chan none=>.chan none
 |.nilFunc=>.nilFunc
 |.nilIface=>.nilIface
 |v=>.raw v
def rS:Value->AV
 |.iface t v=>.iface t (Nt v)
 |v=>Nt v
def QW:Value->AV
 |.agg cs=>.agg (cs.toList.map Nt)
 |.iface t (.agg cs)=>.iface t (.agg (cs.toList.map Nt))
 |v=>rS v
def ofValue:Value->AV
 |.tuple vs=>.tuple (vs.toList.map QW)
 |v=>QW v
mutual
def AV.val?:AV->Option Value
 |.bool (.lit b)=>some (.bool b)
 |.int k (.lit n)=>some (.int k n)
 |.str s=>some (.string s)
 |.ptr none=>some (.pointer none)
 |.ptr (some ⟨.qN g,.lit (.ofNat o)⟩)=>some (.pointer (some ⟨g,o,none⟩))
 |.slice none (.lit (.ofNat l)) (.lit (.ofNat c))=>some (.slice none l c)
 |.map none=>some (.map none)
 |.chan none=>some (.chan none)
 |.func f x y=>match AV.vals? x,AV.vals? y with
  |some x,some y=>some (.func f x.toArray y.toArray)
  |_,_=>none
 |.nilFunc=>some .nilFunc
 |.iface t v=>match v.val? with
  |some v=>some (.iface t v)
  |none=>none
 |.nilIface=>some .nilIface
 |.agg x=>match AV.vals? x with
  |some x=>some (.agg x.toArray)
  |none=>none
 |.tuple x=>match AV.vals? x with
  |some x=>some (.tuple x.toArray)
  |none=>none
 |.raw v=>some v
 |_=>none
def AV.vals?:List AV->Option (List Value)
 |[]=>some []
 |a::l=>match a.val?,AV.vals? l with
  |some a,some l=>some (a::l)
  |_,_=>none
end
def fZ{α:Type}(P:Program):Sem α->Option α
 |.pure a=>some a
 |.program k=>fZ P (k P)
 |_=>none
def AV.cells?:AV->M (List AV)
 |.agg cs=>.ok cs
 |.raw _=>.error "cells of a raw value"
 |.bC _=>.error "cells of a veiled value"
 |v=>.ok [v]
def AV.oneCell?:AV->Bool
 |.agg _|.tuple _|.raw _|.bC _=>false
 |_=>true
def yd(a:IE)(n:Nat):IE:=
 match a with
 |.lit (.ofNat m)=>.lit (.ofNat (m+n))
 |_=>if n=0 then a else .plus (.tn a) (.lit (.ofNat n))
def AA.add(a:AA)(n:Nat):AA:={a with off:=yd a.off n}
def bO.cs:bO->List AV
 |.cells cs _=>cs
 |.row cs _ _=>cs
 |.gi cs _ _=>cs
 |.map _=>[]
 |.chan=>[]
 |.jA _ _ _ _=>[]
 |.pre _ _ _ _ _ _ _ _=>[]
def fq:IE->IE×Nat
 |.plus a b=>match a,b with
  |.tn c,.lit (.ofNat j)=>((fq c).1,(fq c).2+j)
  |a,b=>(.plus a b,0)
 |.lit n=>match n with
  |.ofNat j=>(.lit 0,j)
  |n=>(.lit n,0)
 |e=>(e,0)
def sameAt(a b:IE):Bool:=(fq a).1.eI (fq b).1&&Nat.beq (fq a).2 (fq b).2
def zY(a b:IE):Bool:=(fq a).1.eI (fq b).1&&!(Nat.beq (fq a).2 (fq b).2)
def Ht(a:IE):List (IE×AV)->Option AV
 |[]=>none
 |p::l=>match sameAt a p.1 with
  |true=>some p.2
  |false=>Ht a l
def Dt(a:IE)(fs:List (IE×AV)):List (IE×AV)->Option AV
 |[]=>Ht a fs
 |p::l=>match sameAt a p.1 with
  |true=>some p.2
  |false=>match zY a p.1 with
   |true=>Dt a fs l
   |false=>none
def bO.JM(a:IE):bO->Option AV
 |.pre _ _ _ fs ws _ _ _=>Dt a fs ws
 |_=>none
def bO.JN(a:IE)(v:AV):bO->Option bO
 |.pre lk s n fs ws cs e c=>match lk,Dt a fs ws with
  |false,some _=>some (.pre false s n fs ((a,v)::ws) cs e c)
  |_,_=>none
 |_=>none
def bO.isChan:bO->Bool
 |.chan=>true
 |_=>false
def bO.nF:bO->Bool
 |.map _=>false
 |.chan=>false
 |.jA _ _ _ _=>false
 |_=>true
def bO.put(b:bO)(cs:List AV):bO:=
 match b with
 |.cells _ e=>.cells cs e
 |.row _ e c=>.row cs e c
 |.gi _ e l=>.gi cs e l
 |.map es=>.map es
 |.chan=>.chan
 |.jA s n fs ws=>.jA s n fs ws
 |.pre lk s n fs ws cs e c=>.pre lk s n fs ws cs e c
def bO.qQ(b:bO)(n:Nat):Bool:=
 match b with
 |.gi _ _ ls=>ls.contains n
 |.chan=>true
 |_=>false
def yO(O:dH)(h:AH)(a:AA):M AV:=
 let old:M AV:=match look AA.eI a O.mem with
  |some v=>.ok v
  |none=>.error "load an unknown cell"
 match a.blk,a.off with
 |.dyn i,.lit (.ofNat n)=>
  match cE i h.hp with
  |some b=>match b.cs[n]? with
   |some v=>.ok v
   |none=>.error "load out of the block"
  |none=>old
 |_,_=>old
def preAt?(h:AH)(a:AA):Option AV:=
 match a.blk with
 |.dyn i=>match cE i h.hp with
  |some b=>b.JM a.off
  |none=>none
 |_=>none
def rT(O:dH)(h:AH)(a:AA):M AV:=
 match yO O h a with
 |.ok v=>.ok v
 |.error e=>match preAt? h a with
  |some v=>.ok v
  |none=>.error e
def kN(O:dH)(h:AH)(a:AA):Nat->Nat->M (List AV)
 |0,_=>.ok []
 |n+1,j=>match rT O h (a.add j)with
  |.ok v=>match kN O h a n (j+1)with
   |.ok l=>.ok (v::l)
   |.error e=>.error e
  |.error e=>.error e
def og(h:AH)(a:AA)(v:AV):M AH:=
 match a.blk,a.off with
 |.dyn i,.lit (.ofNat n)=>
  match cE i h.hp with
  |some b=>
   if n<b.cs.length&&v.oneCell?&&!(b.qQ n)then .ok {h with hp:=vA i (b.put (b.cs.set n v)) h.hp}
   else .error "store out of the block or no cells value"
  |none=>.error "store not an own block"
 |_,_=>.error "store not an own block"
def preSet?(h:AH)(a:AA)(v:AV):Option AH:=
 match a.blk with
 |.dyn i=>match cE i h.hp with
  |some b=>match b.JN a.off v with
   |some b'=>match v.oneCell? with
    |true=>some {h with hp:=vA i b' h.hp}
    |false=>none
   |none=>none
  |none=>none
 |_=>none
def gJ(h:AH)(a:AA)(v:AV):M AH:=
 match og h a v with
 |.ok h=>.ok h
 |.error e=>match preSet? h a v with
  |some h=>.ok h
  |none=>.error e
def kh(h:AH)(a:AA):List AV->Nat->M AH
 |[],_=>.ok h
 |v::l,j=>match gJ h (a.add j) v with
  |.ok h=>kh h a l (j+1)
  |.error e=>.error e
def isAgg?(P:Program)(t:TypeId):M Bool:=
 match P.underlying t with
 |some (.struct _)|some (.array _ _)=>.ok true
 |some _=>.ok false
 |none=>.error "no such type"
def bytesOf?(P:Program)(t:TypeId):M Nat:=
 match P.info? t with
 |some i=>.ok i.bytes
 |none=>.error "no such type"
def sizeOf?(P:Program)(t:TypeId):M Nat:=
 match P.info? t with
 |some i=>.ok i.size
 |none=>.error "no such type"
def zero?(P:Program)(t:TypeId):M AV:=
 match P.info? t with
 |some i=>match i.zero with
  |some v=>.ok (ofValue v)
  |none=>.error "no zero value"
 |none=>.error "no such type"
def under?(P:Program)(t:TypeId):M TypeDesc:=
 match P.underlying t with
 |some d=>.ok d
 |none=>.error "no such type"
def loadVar?(P:Program)(O:dH)(h:AH)(t:TypeId)(a:AA):M AV:=do
 if<-isAgg? P t then
  let l<-kN O h a (<-sizeOf? P t) 0
  pure (.agg l)
 else rT O h a
def storeVar?(P:Program)(h:AH)(t:TypeId)(a:AA)(v:AV):M AH:=do
 let cs<-v.cells?
 if cs.length=(<-sizeOf? P t)then kh h a cs 0 else .error "storeVar size"
def part?(P:Program)(t:TypeId)(cs:List AV)(off:Nat):M AV:=do
 if<-isAgg? P t then
  let n<-sizeOf? P t
  if off+n≤cs.length then pure (.agg ((cs.drop off).take n))else .error "part size"
 else match cs[off]? with
  |some v=>.ok v
  |none=>.error "part no such cell"
inductive jw where
 |fn(fn:Fn)(captured:List AV)
 |builtin(b:Builtin)(argTypes:Array TypeId)(type:TypeId)(consts:Array Bool)
structure AD where
 target:jw
 args:List AV
inductive AN where
 |value(v:AV)
 |skip
 |enter(f:FuncId)(args:List AV)
 |defer(d:AD)
 |recover
 |panic(v:AV)
def kO(r:M AV)(h:AH):M (AN×AH):=
 match r with
 |.ok v=>.ok (.value v,h)
 |.error e=>.error e
def kG(r:M (AV×AH)):M (AN×AH):=
 match r with
 |.ok (v,h)=>.ok (.value v,h)
 |.error e=>.error e
def vB(r:M AH):M (AN×AH):=
 match r with
 |.ok h=>.ok (.skip,h)
 |.error e=>.error e
def sureAddr?:AV->M AA
 |.ptr (some a)=>.ok a
 |_=>.error "an address expected"
def litNat?:IE->M Nat
 |.lit (.ofNat n)=>.ok n
 |_=>.error "a literal count expected"
def yP(l:List AV)(off:Nat):List AV->List AV
 |[]=>l
 |v::vs=>yP (l.set off v) (off+1) vs
def fill?(place:Nat->Option (Nat×Nat))(cells:List AV):List (Nat×AV)->M (List AV)
 |[]=>.ok cells
 |(i,v)::rest=>
  match place i with
  |none=>.error "fill no such place"
  |some (off,size)=>match v.cells? with
   |.ok cs=>if cs.length=size∧off+cs.length≤cells.length then fill? place (yP cells off cs) rest else .error "fill size"
   |.error e=>.error e
def A4(n:Nat)(l:List AV):List AV:=
 match n with
 |0=>[]
 |n+1=>l++A4 n l
def eqAll?(P:Program)(eq:TypeId->AV->AV->M BE)(xs ys:List AV):List Field->M BE
 |[]=>.ok (.lit true)
 |f::l=>do
  if f.name= "_" then .error " a blank field" else
  let a<-part? P f.type xs f.offset;let b<-part? P f.type ys f.offset
  match<-eq f.type a b with
  |.lit true=>eqAll? P eq xs ys l
  |.lit false=>.ok (.lit false)
  |c=>match l with
   |[]=>.ok c
   |_=>.error " an open field"
def eq?(P:Program)(O:dH)(h:AH):Nat->TypeId->AV->AV->M BE
 |0,_,_,_=>.error " depth"
 |d+1,t,x,y=>do
  match<-under? P t,x,y with
  |.bool,.bool a,.bool b=>match O.bool a,O.bool b with
   |.lit a,.lit b=>pure (.lit (a==b))
   |_,_=>.error " an open truth value"
  |.int _,.int k a,.int k' b=>if k=k' then pure (O.bool (.cmp .eql a b))else .error " kinds"
  |.string,.str a,.str b=>pure (.lit (a==b))
  |.string,.ss a,.ss b=>pure (O.bool (.seq false a b))
  |.string,.ss a,.str b=>pure (O.bool (.seq false a (.lit b)))
  |.string,.str a,.ss b=>pure (O.bool (.seq false (.lit a) b))
  |.pointer _,.ptr none,.ptr b=>pure (.lit b.isNone)
  |.pointer _,.ptr (some _),.ptr none=>pure (.lit false)
  |.pointer e,.ptr (some a),.ptr (some b)=>do
   if(<-sizeOf? P e)=0 then .error " pointers to nothing" else
   match a.blk,a.off,b.blk,b.off with
   |.dyn i,.lit (.ofNat m),.dyn j,.lit (.ofNat n)=>
    if i==j then pure (.lit (m==n))
    else match cE i h.hp,cE j h.hp with
     |some b,some c=>if b.nF&&c.nF then pure (.lit false)else .error " pointers to objects"
     |_,_=>.error " pointers to unknown blocks"
   |.qN i,.lit (.ofNat m),.qN j,.lit (.ofNat n)=>
    if i==j then pure (.lit (m==n))else .error " pointers to two variables"
   |_,_,_,_=>.error " pointers"
  |.interface _,.nilIface,.nilIface=>pure (.lit true)
  |.interface _,.nilIface,.iface _ _=>pure (.lit false)
  |.interface _,.iface _ _,.nilIface=>pure (.lit false)
  |.interface _,.iface tx vx,.iface ty vy=>
   if tx==ty then
    match P.info? tx with
    |some i=>if i.comparable then eq? P O h d tx vx vy else .error " uncomparable"
    |none=>.error " type"
   else pure (.lit false)
  |.slice _,.slice none _ _,.slice b _ _=>pure (.lit b.isNone)
  |.slice _,.slice (some _) _ _,.slice none _ _=>pure (.lit false)
  |.map _ _,.map none,.map b=>pure (.lit b.isNone)
  |.map _ _,.map (some _),.map none=>pure (.lit false)
  |.func _ _ _,.nilFunc,.nilFunc=>pure (.lit true)
  |.func _ _ _,.nilFunc,.func _ _ _=>pure (.lit false)
  |.func _ _ _,.func _ _ _,.nilFunc=>pure (.lit false)
  |.chan _ _,.chan none,.chan b=>pure (.lit b.isNone)
  |.chan _ _,.chan (some _),.chan none=>pure (.lit false)
  |.struct fs,.agg xs,.agg ys=>if P.stoodInHeld t then .error " a struct that stands in" else eqAll? P (eq? P O h d) xs ys fs.toList
  |_,_,_=>.error " the operands"
def u9:BE->M BE
 |.lit b=>.ok (.lit (!b))
 |.cmp .eql a b=>.ok (.cmp .neq a b)
 |.cmp .neq a b=>.ok (.cmp .eql a b)
 |.cmp .lss a b=>.ok (.cmp .geq a b)
 |.cmp .geq a b=>.ok (.cmp .lss a b)
 |.cmp .gtr a b=>.ok (.cmp .leq a b)
 |.cmp .leq a b=>.ok (.cmp .gtr a b)
 |.seq n a b=>.ok (.seq (!n) a b)
 |_=>.error "not of an open truth value"
def isConst?:Operand->Bool
 |.const _=>true
 |_=>false
def eqGuard?(P:Program)(op:BinOp)(t:TypeId)(x y:Operand)(a b:AV):M Unit:=
 match op with
 |.eql|.neq=>
  match a,b with
  |.nilIface,.nilIface=>if isConst? x||isConst? y then .ok ()else
   match P.underlying t with
   |some (.interface ms)=>if ms.isEmpty then .ok ()else .error " two nil values"
   |_=>.error " two nil values"
  |.agg _,.agg _=>if P.eqGuardType P.depth t then .error " structs with interface values" else .ok ()
  |.raw _,_=>.error " raw"
  |_,.raw _=>.error " raw"
  |.bC _,_=>.error " veiled"
  |_,.bC _=>.error " veiled"
  |_,_=>.ok ()
 |_=>.ok ()
def intArith?(o:BinOp):Bool:=
 match o with
 |.add|.sub|.mul|.and|.or|.xor|.andNot=>true
 |_=>false
def cmp?(o:BinOp):Bool:=
 match o with
 |.eql|.neq|.lss|.leq|.gtr|.geq=>true
 |_=>false
def sOp?(O:dH)(o:BinOp)(a b:SE):M AV:=
 match o with
 |.eql=>.ok (.bool (O.bool (.seq false a b)))
 |.neq=>.ok (.bool (O.bool (.seq true a b)))
 |.add=>match O.dec (.cmp .leq (.jj (.cat a b)) (.lit 4611686018427387904))with
  |.ok true=>.ok (.ss (.cat a b))
  |.ok false=>.error "binOp long"
  |.error e=>.error e
 |_=>.error "binOp strings"
def binOp?(P:Program)(O:dH)(h:AH)(o:BinOp)(t:TypeId)(x y:AV):M AV:=do
 match x,y with
 |.int k a,.int k' b=>
  match o with
  |.shl|.shr=>if<-O.dec (.cmp .lss b (.lit 0))then .error "shift negative" else pure (.int k (O.int (.op o k a b)))
  |.quo|.rem=>if k=k' then(if<-O.dec (.cmp .eql b (.lit 0))then .error "division by nought" else pure (.int k (O.int (.op o k a b))))else .error "kinds"
  |_=>if k=k' then(if intArith? o then pure (.int k (O.int (.op o k a b)))else if cmp? o then pure (.bool (O.bool (.cmp o a b)))else .error "binOp int")else .error "kinds"
 |.str a,.str b=>match o with
  |.eql=>pure (.bool (.lit (a.toList==b.toList)))
  |.neq=>pure (.bool (.lit (!(a.toList==b.toList))))
  |.add=>if a.size+b.size≤1048576 then pure (.str (a++b))else .error "binOp long"
  |_=>.error "binOp strings"
 |.ss a,.ss b=>sOp? O o a b
 |.ss a,.str b=>sOp? O o a (.lit b)
 |.str a,.ss b=>sOp? O o (.lit a) b
 |x,y=>match o with
  |.eql=>do
   let b<-eq? P O h 8 t x y
   pure (.bool b)
  |.neq=>do
   let b<-eq? P O h 8 t x y;let c<-u9 b
   pure (.bool c)
  |_=>.error "binOp these operands"
def index?(O:dH)(i len:IE):M Unit:=do
 if<-O.dec (.cmp .leq (.lit 0) i)then(if<-O.dec (.cmp .lss i len)then pure ()else .error "index beyond")else .error "index below"
def vC(a:IE)(n:Nat):IE:=
 match a with
 |.lit (.ofNat m)=>.lit (.ofNat (m*n))
 |_=>if n=1 then .tn a else .times (.tn a) (.lit (.ofNat n))
def AA.at(a:AA)(i:IE)(size:Nat):AA:=
 match vC i size with
 |.lit (.ofNat n)=>a.add n
 |e=>match a.off with
  |.lit 0=>{a with off:=e}
  |off=>{a with off:=.plus (.tn off) e}
def appArgs?(O:dH)(h:AH)(size:Nat)(x:AV):M (Nat×List AV):=
 match x with
 |.slice none n _=>match n with
  |.lit (.ofNat 0)=>.ok (0,[])
  |_=>.error "append nil"
 |.slice (some b) n _=>do
  let n<-litNat? n;let l<-kN O h b (n*size) 0
  pure (n,l)
 |.str t=>if size=1 then .ok (t.size,t.data.toList.map fun c=>AV.int .u8 (.lit c.toNat))else .error "append string"
 |_=>.error "append what"
def appFit?(h:AH)(base:Option AA)(sLen n cap size:Nat)(new:List AV):M (AV×AH):=
 match base with
 |some a=>do
  let h<-kh h (a.add (sLen*size)) new 0
  pure (.slice base (.lit (.ofNat (sLen+n))) (.lit (.ofNat cap)),h)
 |none=>if n=0 then pure (.slice none (.lit (.ofNat sLen)) (.lit (.ofNat cap)),h)else .error "append nil with room"
def appOld?(O:dH)(h:AH)(base:Option AA)(sLen size:Nat):M (List AV):=
 match base with
 |none=>if sLen=0 then .ok []else .error "append nil"
 |some a=>kN O h a (sLen*size) 0
def appGrow?(O:dH)(h:AH)(base:Option AA)(sLen n size:Nat)(new:List AV)(elem:TypeId):M (AV×AH):=do
 let old<-appOld? O h base sLen size
 allocRow? h none (old++new) elem (sLen+n)
def appRow?(h:AH)(base:Option AA)(sl c:IE)(sLen n size:Nat)(new:List AV)(elem:TypeId):M (AV×AH):=
 match base with
 |some a=>match a.blk,a.off with
  |.dyn i,.lit (.ofNat 0)=>match cE i h.hp with
   |some (.row cs e c')=>
    if e=elem∧c.eI c'=true∧sLen*size≤cs.length then
     (if n=0 then pure (.slice base sl c,h)else allocRow? h (some i) (cs.take (sLen*size)++new) elem (sLen+n))
    else .error "append row"
   |_=>.error "append no row"
  |_,_=>.error "append open"
 |none=>.error "append open"
def iS(n:IE)(k:Nat):IE:=match k with
 |0=>n
 |k=>.plus (.tn n) (.lit (.ofNat k))
def allocPre?(h:AH)(old:Nat)(lk:Bool)(s:Nat)(n:IE)(fs ws:List (IE×AV))(cs:List AV)(elem:TypeId)(len:IE):M (AV×AH):=
 match h with
 |⟨hp,nb,fJ⟩=>if nb<fJ then
   .ok (.slice (some ⟨.dyn nb,.lit 0⟩) len (.var nb),⟨qP nb (.pre lk s n fs ws cs elem (.var nb)) (jk old hp),nb+1,fJ⟩)
  else .error "new numbers"
def preOk?(O:dH)(m sl c c':IE)(e elem:TypeId)(size n:Nat)(cs:List AV):Bool:=
 decide (e=elem)&&c.eI c'&&Nat.beq (cs.length / size*size) cs.length&&sl.eI (iS m (cs.length / size))&&
  (match O.dec (.cmp .leq (.plus (.tn sl) (.lit (.ofNat n))) (.lit 1048576))with
  |.ok b=>b
  |.error _=>false)
def appPre?(O:dH)(h:AH)(base:Option AA)(sl c:IE)(n size:Nat)(new:List AV)(elem:TypeId):M (AV×AH):=
 match base with
 |some a=>match a.blk,a.off with
  |.dyn i,.lit (.ofNat 0)=>match cE i h.hp with
   |some (.pre lk s m fs ws cs e c')=>match preOk? O m sl c c' e elem size n cs with
    |true=>match n with
     |0=>pure (.slice base sl c,h)
     |n=>allocPre? h i lk s m fs ws (cs++new) elem (iS m (cs.length / size+n))
    |false=>.error "append veiled"
   |_=>.error "append no veiled list"
  |_,_=>.error "append open"
 |none=>.error "append open"
def append?(P:Program)(h:AH)(argTypes:Array TypeId)(s x:AV)(O:dH):M (AV×AH):=do
 match argTypes[0]?,argTypes[1]? with
 |some sType,some xType=>do
  let X<-under? P xType
  match X with
  |.int _=>.error "append make"
  |_=>match<-under? P sType with
   |.slice elem=>do
    let size<-sizeOf? P elem;let z<-zero? P elem;let zc<-z.cells?;let bytes<-bytesOf? P elem
    if zc.length=size∧0<size∧0<bytes∧bytes≤1024 then do
     let(n,new)<-appArgs? O h size x
     if new.all (·.oneCell?)then
      match s with
      |.slice base sl sc=>match sl with
       |.lit _=>do
        let sLen<-litNat? sl
        if sLen+n≤1048576 then
         match sc with
         |.lit (.ofNat cap)=>if sLen+n≤cap then appFit? h base sLen n cap size new else appGrow? O h base sLen n size new elem
         |c=>appRow? h base sl c sLen n size new elem
        else .error "append long"
       |sl=>appPre? O h base sl sc n size new elem
      |_=>.error "append no slice"
     else .error "append cells"
    else .error "append element"
   |_=>.error "append type"
 |_,_=>.error "append types"
def lenOf?(P:Program)(h:AH)(t:TypeId)(x:AV):M IE:=do
 match<-under? P t,x with
 |.string,.str s=>pure (.lit (.ofNat s.size))
 |.string,.ss e=>pure (.jj e)
 |.array n _,_=>pure (.lit (.ofNat n))
 |.slice _,.slice _ n _=>pure (.tn n)
 |.slice _,.raw (.slice _ n _)=>pure (.lit (.ofNat n))
 |.map _ _,.map none=>pure (.lit 0)
 |.chan _ _,.chan none=>pure (.lit 0)
 |.map _ _,.map (some (.dyn i))=>match cE i h.hp with
  |some (.map es)=>pure (.lit (.ofNat es.length))
  |some (.jA _ n _ ws)=>match ws with
   |[]=>pure (.tn n)
   |_=>.error "len a veiled map"
  |_=>.error "len map"
 |_,_=>.error "len"
def makeChan?(P:Program)(h:AH)(t:TypeId)(s:AV):M (AV×AH):=
 match s,P.underlying t with
 |.int _ (.lit (.ofNat 0)),some (.chan _ elem)=>match P.info? elem with
  |some _=>allocO? h .chan fun r=>.chan (some r)
  |none=>.error "makeChan"
 |_,_=>.error "makeChan"
def makeMap?(h:AH)(r:Option AV):M (AV×AH):=
 match r with
 |none=>allocO? h (.map []) fun r=>.map (some r)
 |some _=>.error "makeMap"
def findA?(P:Program)(O:dH)(h:AH)(key:TypeId)(k:AV):List (AV×AV)->M (Option AV)
 |[]=>.ok none
 |(a,v)::l=>match eq? P O h 8 key k a with
  |.ok (.lit true)=>.ok (some v)
  |.ok (.lit false)=>findA? P O h key k l
  |.ok _=>.error "a maps key open"
  |.error e=>.error e
def entries?(h:AH)(x:AV):M (List (AV×AV)):=
 match x with
 |.map none=>.ok []
 |.map (some (.dyn i))=>match cE i h.hp with
  |some (.map es)=>.ok es
  |_=>.error "map"
 |_=>.error "map"
def keyOk?(P:Program)(key:TypeId):Bool:=
 match P.underlying key with
 |some (.pointer _)=>true
 |some .string=>true
 |some (.int _)=>true
 |_=>false
def Fp(a:AA):List (AA×Option AV)->Option (Option AV)
 |[]=>none
 |p::l=>match a.eI p.1 with
  |true=>some p.2
  |false=>Fp a l
def keySize?(P:Program)(key:TypeId):Bool:=
 match P.underlying key with
 |some (.pointer e)=>match sizeOf? P e with
  |.ok n=>!(Nat.beq n 0)
  |.error _=>false
 |_=>false
def lookV?(P:Program)(h:AH)(key:TypeId)(x k:AV):Option (Option AV):=
 match x with
 |.map (some (.dyn i))=>match cE i h.hp with
  |some (.jA _ _ fs ws)=>match ws,k,keySize? P key with
   |[],.ptr (some a),true=>Fp a fs
   |_,_,_=>none
  |_=>none
 |_=>none
def lookup?(P:Program)(O:dH)(h:AH)(t:TypeId)(x k:AV)(commaOk:Bool):M AV:=
 match P.underlying t with
 |some (.map key elem)=>match lookV? P h key x k with
  |some r=>(match r with
   |some v=>.ok (if commaOk then .tuple [v,.bool (.lit true)]else v)
   |none=>match zero? P elem with
    |.ok z=>.ok (if commaOk then .tuple [z,.bool (.lit false)]else z)
    |.error e=>.error e)
  |none=>if keyOk? P key then(match entries? h x with
  |.ok es=>match findA? P O h key k es with
   |.ok (some v)=>.ok (if commaOk then .tuple [v,.bool (.lit true)]else v)
   |.ok none=>match zero? P elem with
    |.ok z=>.ok (if commaOk then .tuple [z,.bool (.lit false)]else z)
    |.error e=>.error e
   |.error e=>.error e
  |.error e=>.error e)else .error "lookup key"
 |_=>.error "lookup"
def mapUpdate?(P:Program)(O:dH)(h:AH)(t:TypeId)(x k v:AV):M AH:=
 match P.underlying t,x with
 |some (.map key _),.map (some (.dyn i))=>match cE i h.hp with
  |some (.map es)=>if keyOk? P key then(match findA? P O h key k es with
   |.ok none=>.ok {h with hp:=vA i (.map (es++[(k,v)])) h.hp}
   |.ok (some _)=>.error "mapUpdate a key that is there"
   |.error e=>.error e)else .error "mapUpdate key"
  |some (.jA s n fs ws)=>(match lookV? P h key x k with
   |some none=>.ok {h with hp:=vA i (.jA s n fs (ws++[(k,v)])) h.hp}
   |_=>.error "mapUpdate a veiled map")
  |_=>.error "mapUpdate"
 |_,_=>.error "mapUpdate"
def minMax?(O:dH)(mx:Bool):AV->List AV->M AV
 |x,[]=>.ok x
 |.int k x,.int k' y::l=>do
  if k=k' then
   let less<-O.dec (if mx then .cmp .lss x y else .cmp .lss y x)
   minMax? O mx (.int k (if less then y else x)) l
  else .error "min kinds"
 |_,_=>.error "min"
def copyTo?(h:AH)(base:Option AA)(new:List AV)(n:Nat):M (AV×AH):=
 match base with
 |some a=>match kh h a new 0 with
  |.ok h=>.ok (.int .i64 (.lit (.ofNat n)),h)
  |.error e=>.error e
 |none=>.ok (.int .i64 (.lit (.ofNat n)),h)
def copyFrom?(O:dH)(h:AH)(sb:Option AA)(n:Nat):M (List AV):=
 match sb with
 |some a=>kN O h a n 0
 |none=>.ok []
def copy?(P:Program)(O:dH)(h:AH)(argTypes:Array TypeId)(d s:AV):M (AV×AH):=do
 match argTypes[0]? with
 |some dType=>match<-under? P dType with
  |.slice elem=>do
   let size<-sizeOf? P elem
   match d,s with
   |.slice base dl _,.slice sb sl _=>do
    let m<-litNat? sl;let n<-litNat? dl;let new<-copyFrom? O h sb (Nat.min m n*size)
    copyTo? h base new (Nat.min m n)
   |_,_=>.error "copy what"
  |_=>.error "copy type"
 |none=>.error "copy"
def builtin?(P:Program)(O:dH)(h:AH)(b:Builtin)(argTypes:Array TypeId)(args:List AV):M (AN×AH):=
 match b,args with
 |.len,[x]=>match argTypes[0]? with
  |some t=>match lenOf? P h t x with
   |.ok e=>.ok (.value (.int .i64 (O.int e)),h)
   |.error e=>.error e
  |none=>.error "len"
 |.cap,[.slice _ _ c]=>match argTypes[0]? with
  |some t=>match under? P t with
   |.ok (.slice _)=>.ok (.value (.int .i64 (O.int (.tn c))),h)
   |_=>.error "cap"
  |none=>.error "cap"
 |.append,[s,x]=>kG (append? P h argTypes s x O)
 |.copy,[d,s]=>kG (copy? P O h argTypes d s)
 |.min,x::l=>kO (minMax? O false x l) h
 |.max,x::l=>kO (minMax? O true x l) h
 |.recover,[]=>.ok (.recover,h)
 |.panic,[.iface t v]=>.ok (.panic (.iface t v),h)
 |_,_=>.error "builtin"
def handle?(P:Program):AV->Option TypeId
 |.ptr (some ⟨.qN b,.lit (.ofNat o)⟩)=>if b==P.globals.size then some o else none
 |_=>none
def invokeFn?(P:Program)(O:dH)(ext:AH->FuncId->List AV->M (AV×AH))(h:AH)(f:FuncId)(args:List AV):M (AN×AH):=
 if O.fns.contains f then .ok (.enter f args,h)else
 match look (fun a b=>a==b) f O.ext with
 |some e=>match AV.vals? args with
  |some vs=>match fZ P (e vs.toArray)with
   |some v=>.ok (.value (ofValue v),h)
   |none=>match ext h f args with
    |.ok (v,h)=>.ok (.value v,h)
    |.error e=>.error e
  |none=>match ext h f args with
   |.ok (v,h)=>.ok (.value v,h)
   |.error e=>.error e
 |none=>match ext h f args with
  |.ok (v,h)=>.ok (.value v,h)
  |.error e=>.error e
def method?(P:Program)(t:TypeId)(v:AV)(name:String):M (FuncId×AV):=
 match P.info? t with
 |none=>.error "method type"
 |some i=>match i.methods.find? (·.name==name)with
  |none=>.error "method none"
  |some m=>if m.path.isEmpty then
    match m.func with
    |some (f,true)=>match P.underlying t with
     |some (.pointer _)=>.ok (f,v)
     |_=>.error "method row"
    |some (f,false)=>match P.underlying t with
     |some (.pointer _)=>.error "method through a pointer"
     |some _=>.ok (f,v)
     |none=>.error "method row"
    |none=>.error "method row"
   else match v.val? with
    |some u=>match fZ P (method (P.types.size+Made.depth) t u name)with
     |some (f,r)=>.ok (f,ofValue r)
     |none=>.error "method promoted"
    |none=>.error "method promoted"
def invoke?(P:Program)(O:dH)(ext:AH->FuncId->List AV->M (AV×AH))(h:AH)(d:AD):M (AN×AH):=
 match d.target with
 |.builtin b argTypes _ _=>builtin? P O h b argTypes d.args
 |.fn (.func f) captured=>invokeFn? P O ext h f (d.args++captured)
 |.fn (.method name) _=>
  match d.args with
  |.iface t v::args=>match method? P t v name with
   |.ok (f,r)=>invokeFn? P O ext h f (r::args)
   |.error e=>.error e
  |_=>.error "invoke receiver"
 |.fn _ _=>.error "invoke what"
def resolve?(ρ:Operand->AV)(c:Call)(type:TypeId):M AD:=
 let args:=c.args.toList.map ρ
 match c.callee with
 |.builtin b=>.ok {target:=.builtin b c.argTypes type (c.args.map fun|.const _=>true|_=>false),args}
 |.invoke recv name=>.ok {target:=.fn (.method name) [],args:=ρ recv::args}
 |.value f=>match ρ f with
  |.func fn first captured=>.ok {target:=.fn fn captured,args:=first++args}
  |_=>.error "call no function"
def zeros?(P:Program)(elem:TypeId)(size n:Nat):M (List AV):=
 if n*size=0 then .ok []else do
  let z<-zero? P elem;let zc<-z.cells?
  if zc.length=size then pure (A4 n zc)else .error "zeros size"
def makeSlice?(P:Program)(h:AH)(t:TypeId)(l c:AV):M (AV×AH):=do
 match<-under? P t with
 |.slice elem=>match l,c with
  |.int _ l,.int _ c=>do
   let l<-litNat? l;let c<-litNat? c;let size<-sizeOf? P elem;let bytes<-bytesOf? P elem
   if l≤c∧c≤1048576∧bytes≤65536 then do
    let cells<-zeros? P elem size c
    allocSlice? h (.cells cells elem) (.lit (.ofNat l)) (.lit (.ofNat c))
   else .error "makeSlice size"
  |_,_=>.error "makeSlice"
 |_=>.error "makeSlice type"
def VU(O:dH)(c:IE):M Bool:=
 match O.dec (.cmp .gtr c (.lit 1048576))with
 |.ok b=>.ok b
 |.error _=>O.dec (.cmp .gtr c (.lit 4294967296))
def makeRow?(P:Program)(O:dH)(h:AH)(t:TypeId)(l c:AV):M (AV×AH):=do
 match<-under? P t with
 |.slice elem=>match l,c with
  |.int _ l,.int _ c=>do
   let _<-zero? P elem;let _<-sizeOf? P elem;let bytes<-bytesOf? P elem;let neg<-O.dec (.cmp .lss c (.lit 0));let big<-VU O c
   if IE.eI l c∧neg=false∧big=false∧bytes≤65536 then allocSlice? h (.row [] elem c) c c
   else .error "makeRow size"
  |_,_=>.error "makeRow"
 |_=>.error "makeRow type"
def makeSliceS?(P:Program)(O:dH)(h:AH)(t:TypeId)(l c:AV):M (AV×AH):=
 match c with
 |.int _ (.lit _)=>makeSlice? P h t l c
 |_=>makeRow? P O h t l c
def rU:List AV->Bool
 |[]=>true
 |v::l=>v.oneCell?&&rU l
def storeRow?(P:Program)(O:dH)(h:AH)(t:TypeId)(i:Nat)(off:IE)(v:AV):M AH:=do
 let cs<-v.cells?
 match cE i h.hp with
 |some (.row [] e c)=>do
  let size<-sizeOf? P e;let ok<-O.dec (.cmp .lss (.plus (.tn off) (.lit (.ofNat (cs.length-1)))) (.times (.tn c) (.lit (.ofNat size))))
  if cs.length=(<-sizeOf? P t)∧rU cs=true∧ok=true∧cs.length≠0 then .ok h else .error "store an open place"
 |_=>.error "store an open place no such array"
def storeS?(P:Program)(O:dH)(h:AH)(t:TypeId)(a:AA)(v:AV):M AH:=
 match a with
 |⟨.dyn i,off⟩=>match cE i h.hp with
  |some (.row [] _ _)=>storeRow? P O h t i off v
  |_=>storeVar? P h t a v
 |_=>storeVar? P h t a v
def bound?(v:Option AV)(d:Nat):M Nat:=
 match v with
 |none=>.ok d
 |some (.int _ e)=>litNat? e
 |some _=>.error "slice bound"
def high?(hi mx:Option AV)(len:Nat):M Nat:=
 match hi,mx with
 |none,some _=>.error "slice max without high"
 |hi,_=>bound? hi len
def bounds?(len cap:Nat)(lo hi mx:Option AV):M (Nat×Nat×Nat):=do
 let m<-bound? mx cap;let h<-high? hi mx len;let l<-bound? lo 0
 if m≤cap∧h≤m∧l≤h then pure (l,h,m)else .error "slice out of bounds"
def sliceOp?(P:Program)(t:TypeId)(x:AV)(lo hi mx:Option AV):M AV:=do
 match<-under? P t,x with
 |.slice elem,.slice a len (.lit (.ofNat cap))=>do
  let len<-litNat? len;let(l,h,m)<-bounds? len cap lo hi mx;let size<-sizeOf? P elem
  pure (.slice (if m=l then a else a.map (·.add (l*size))) (.lit (.ofNat (h-l))) (.lit (.ofNat (m-l))))
 |.string,.str s=>do
  match mx with
  |some _=>.error "slice string"
  |none=>do
   let(l,h,_)<-bounds? s.size s.size lo hi none
   pure (.str (s.extract l h))
 |.array n elem,.ptr (some a)=>do
  let(l,h,m)<-bounds? n n lo hi mx;let size<-sizeOf? P elem
  pure (.slice (some (if m=l then a else a.add (l*size))) (.lit (.ofNat (h-l))) (.lit (.ofNat (m-l))))
 |_,_=>.error "slice"
def fieldAddr?(P:Program)(s:TypeId)(x:AV)(i:Nat):M AV:=do
 match<-under? P s with
 |.struct fs=>match fs[i]? with
  |some f=>do
   let a<-sureAddr? x
   if(<-sizeOf? P f.type)=0 then .error "fieldAddr empty" else pure (.ptr (some (a.add f.offset)))
  |none=>.error "fieldAddr"
 |_=>.error "fieldAddr type"
def indexAddr?(P:Program)(O:dH)(t:TypeId)(x i:AV):M AV:=do
 match i with
 |.int _ i=>match<-under? P t,x with
  |.slice elem,.slice (some a) len _=>do
   index? O i (match len with|.lit n=>.lit n|l=>.tn l)
   pure (.ptr (some (a.at i (<-sizeOf? P elem))))
  |.array n elem,.ptr (some a)=>do
   index? O i (.lit (.ofNat n))
   pure (.ptr (some (a.at i (<-sizeOf? P elem))))
  |_,_=>.error "indexAddr"
 |_=>.error "indexAddr index"
def indexOp?(P:Program)(t:TypeId)(x i:AV):M AV:=do
 match<-under? P t,x,i with
 |.array n elem,.agg cs,.int _ (.lit (.ofNat i))=>if i<n then part? P elem cs (i*(<-sizeOf? P elem))else .error "index beyond"
 |.string,.str s,.int _ (.lit (.ofNat i))=>match s.data.toList[i]? with
  |some b=>pure (.int .u8 (.lit b.toNat))
  |none=>.error "index beyond"
 |_,_,_=>.error "index"
def typeAssert?(P:Program)(x:AV)(asserted:TypeId)(commaOk:Bool):M AV:=do
 let holds (v:AV):M AV:=pure (if commaOk then .tuple [v,.bool (.lit true)]else v);let cA:M AV:=do if commaOk then pure (.tuple [<-zero? P asserted,.bool (.lit false)])else .error "typeAssert fails"
 match<-under? P asserted,x with
 |.interface _,.nilIface=>cA
 |.interface want,.iface t v=>match P.info? t with
  |some i=>match yN want i.methods with
   |false=>holds (.iface t v)
   |true=>cA
  |none=>.error "typeAssert type"
 |_,.nilIface=>cA
 |_,.iface t v=>if t=asserted then holds v else cA
 |_,_=>.error "typeAssert"
def build?(P:Program)(t:TypeId)(parts:List (Nat×AV)):M AV:=do
 let zero<-(<-zero? P t).cells?
 match<-under? P t with
 |.struct fs=>do
  let places<-fs.toList.mapM fun f=>do pure (f.offset,<-sizeOf? P f.type)
  pure (.agg (<-fill? (places[·]?) zero parts))
 |.array _ elem=>do
  let size<-sizeOf? P elem
  pure (.agg (<-fill? (fun i=>some (i*size,size)) zero parts))
 |_=>.error "build"
def buildSlice?(P:Program)(h:AH)(t:TypeId)(len:Nat)(parts:List (Nat×AV)):M (AV×AH):=do
 match<-under? P t with
 |.slice elem=>do
  let size<-sizeOf? P elem
  if len*size>65536 then .error "buildSlice long" else
  let z<-zeros? P elem size len;let cells<-fill? (fun i=>some (i*size,size)) z parts
  allocSlice? h (.cells cells elem) (.lit (.ofNat len)) (.lit (.ofNat len))
 |_=>.error "buildSlice"
def field?(P:Program)(t:TypeId)(x:AV)(i:Nat):M AV:=do
 match<-under? P t,x with
 |.struct fs,.agg cs=>match fs[i]? with
  |some f=>part? P f.type cs f.offset
  |none=>.error "field"
 |_,_=>.error "field"
def convert?(P:Program)(O:dH)(h:AH)(src dst:TypeId)(x:AV):M AV:=do
 match<-under? P src,<-under? P dst,x with
 |_,.int k,.int _ e=>pure (.int k (O.int (.conv k e)))
 |_,.string,.str s=>pure (.str s)
 |.pointer t,.unsafePointer,.ptr (some ⟨.dyn i,.lit (.ofNat n)⟩)=>
  match cE i h.hp with
  |some b=>do
   if n<b.cs.length∧(<-sizeOf? P t)≠0 then pure (.ptr (some ⟨.dyn i,.lit (.ofNat n)⟩))else .error "convert pointer"
  |none=>.error "convert pointer"
 |_,_,_=>.error "convert"
def oF(O:dH)(v:AV):AV:=
 match v with
 |.int k e=>.int k (O.int e)
 |v=>v
def op?(P:Program)(O:dH)(ext:AH->FuncId->List AV->M (AV×AH))(h:AH)(ρ:Operand->AV)(o:Oper):M (AN×AH):=
 match o.op with
 |.move x|.assign x=>.ok (.value (ρ x),h)
 |.pick c a b=>match ρ c with
  |.bool t=>match O.bool t with
   |.lit t=>.ok (.value (if t then ρ a else ρ b),h)
   |_=>.error "pick an open test"
  |_=>.error "pick"
 |.alloc elem=>match zero? P elem with
  |.ok z=>match z.cells? with
   |.ok cs=>kG (alloc? h (.cells cs elem))
   |.error e=>.error e
  |.error e=>.error e
 |.box elem x=>match(ρ x).cells? with
  |.ok cs=>kG (alloc? h (.cells cs elem))
  |.error e=>.error e
 |.build t parts=>kO (build? P t (parts.toList.map fun(i,x)=>(i,ρ x))) h
 |.buildSlice t len parts=>kG (buildSlice? P h t len (parts.toList.map fun(i,x)=>(i,ρ x)))
 |.load t a=>match sureAddr? (ρ a)with
  |.ok a=>kO (loadVar? P O h t a) h
  |.error e=>.error e
 |.store t a x=>match sureAddr? (ρ a)with
  |.ok a=>vB (storeS? P O h t a (ρ x))
  |.error e=>.error e
 |.nilCheck x=>match ρ x with
  |.ptr (some a)=>.ok (.value (.ptr (some a)),h)
  |.iface t v=>.ok (.value (.iface t v),h)
  |.func (.func f) a b=>.ok (.value (.func (.func f) a b),h)
  |_=>.error "nilCheck"
 |.binOp op t x y _=>match eqGuard? P op t x y (ρ x) (ρ y)with
  |.ok _=>kO (binOp? P O h op t (ρ x) (ρ y)) h
  |.error e=>.error e
 |.unOp .not _ x=>match ρ x with
  |.bool b=>match u9 b with
   |.ok b=>.ok (.value (.bool (O.bool b)),h)
   |.error e=>.error e
  |_=>.error "not"
 |.unOp .neg _ x=>match ρ x with
  |.int k e=>.ok (.value (.int k (O.int (.op .sub k (.lit 0) e))),h)
  |_=>.error "neg"
 |.convert src dst x=>kO (convert? P O h src dst (ρ x)) h
 |.makeInterface t x=>match P.underlying t with
  |some (.interface _)=>.error "makeInterface"
  |some _=>.ok (.value (.iface t (ρ x)),h)
  |none=>.error "makeInterface"
 |.makeFunc fn first captured=>.ok (.value (.func fn (first.toList.map ρ) (captured.toList.map ρ)),h)
 |.makeSlice t l c=>kG (makeSliceS? P O h t (oF O (ρ l)) (oF O (ρ c)))
 |.slice t x lo hi mx=>kO (sliceOp? P t (ρ x) (lo.map fun x=>oF O (ρ x)) (hi.map fun x=>oF O (ρ x)) (mx.map fun x=>oF O (ρ x))) h
 |.fieldAddr s x f=>kO (fieldAddr? P s (ρ x) f) h
 |.field t x f=>kO (field? P t (ρ x) f) h
 |.indexAddr t x ix=>kO (indexAddr? P O t (ρ x) (oF O (ρ ix))) h
 |.index t x ix=>kO (indexOp? P t (ρ x) (oF O (ρ ix))) h
 |.typeAssert x _ asserted ok=>kO (typeAssert? P (ρ x) asserted ok) h
 |.extract t ix=>match ρ t with
  |.tuple vs=>match vs[ix]? with
   |some v=>.ok (.value v,h)
   |none=>.error "extract"
  |_=>.error "extract"
 |.call c=>match resolve? ρ c o.type with
  |.ok d=>invoke? P O ext h d
  |.error e=>.error e
 |.defer c=>match resolve? ρ c o.type with
  |.ok d=>.ok (.defer d,h)
  |.error e=>.error e
 |.panic x=>match ρ x with
  |.iface t v=>.ok (.panic (.iface t v),h)
  |_=>.error "panic"
 |.makeChan t s=>kG (makeChan? P h t (ρ s))
 |.makeMap _ r=>kG (makeMap? h (r.map ρ))
 |.lookup t x k ok=>kO (lookup? P O h t (ρ x) (ρ k) ok) h
 |.mapUpdate t m k x=>vB (mapUpdate? P O h t (ρ m) (ρ k) (ρ x))
 |.insert t m k x=>vB (mapUpdate? P O h t (ρ m) (ρ k) (ρ x))
 |_=>.error "this operation"
inductive gK where
 |run
 |returning
 |panicking(chain:List (AV×Bool))
structure bR where
 fn:FuncId
 nt:Nat
 tmps:TT
 todo:List Item
 defers:List AD
 mode:gK
 kind:CallKind
structure dU where
 cur:bR
 callers:List bR
 h:AH
def kP(tmps:TT):Operand->AV
 |.tmp t=>tmps.get t
 |.const v=>ofValue v
 |.global g=>.ptr (some ⟨.qN g,.lit 0⟩)
 |.func f=>.func (.func f) [] []
def bP(P:Program)(f:FuncId)(args:List AV)(kind:CallKind):M bR:=
 match P.funcs[f]? with
 |some fn=>match fn.body with
  |some c=>if args.length≤fn.ntmps∧fn.ntmps≤60000 then .ok {fn:=f,nt:=fn.ntmps,tmps:=TT.fill args 0 .leaf,todo:=[.code c],defers:=[],mode:=.run,kind}else .error "enter temporaries"
  |none=>.error "enter no body"
 |none=>.error "enter no function"
def jl(nt:Nat)(tmps:TT)(dst:Option Tmp)(v:AV):TT:=
 match dst with
 |some d=>match Nat.ble (d+1) nt with
  |true=>tmps.set v 16 d
  |false=>tmps
 |none=>tmps
def oW(O:dH)(ops:Array Oper)(tmps:TT)(j:Nat):M (Option Bool):=
 match(ops[j]?).bind (·.dst)with
 |none=>.error "a guard without a place"
 |some d=>match tmps.get d with
  |.bool b=>match O.bool b with
   |.lit b=>.ok (some b)
   |_=>.error "a guard is open"
  |.tuple _=>.ok none
  |_=>.error "a guard"
def gz(O:dH)(ops:Array Oper)(tmps:TT)(o:Oper):M Bool:=
 match o.guard with
 |none=>.ok true
 |some (j,want)=>match oW O ops tmps j with
  |.ok y=>.ok (y==some want)
  |.error e=>.error e
def hJ(fr:bR)(v:AV):M bR:=
 match fr with
 |⟨fn,nt,tmps,.inRegion ops (i::rest)::k,defers,.run,kind⟩=>.ok ⟨fn,nt,jl nt tmps ((ops[i]?).bind (·.dst)) v,.inRegion ops rest::k,defers,.run,kind⟩
 |_=>.error "finish"
def oX(fr:bR)(vs:List (AV×Bool)):bR:=
 match fr with
 |⟨fn,nt,tmps,todo,defers,.panicking chain,kind⟩=>⟨fn,nt,tmps,todo,defers,.panicking (vs++chain),kind⟩
 |⟨fn,nt,tmps,todo,defers,_,kind⟩=>⟨fn,nt,tmps,todo,defers,.panicking vs,kind⟩
def vD(kind:CallKind)(callers:List bR):M (Option (AV×List bR)):=
 match kind with
 |.normal=>.ok none
 |.deferred=>match callers with
  |[]=>.error "recover no caller"
  |⟨fn,nt,tmps,todo,defers,mode,kind⟩::rest=>match mode with
   |.panicking ((v,false)::older)=>.ok (some (v,⟨fn,nt,tmps,todo,defers,.panicking ((v,true)::older),kind⟩::rest))
   |_=>.ok none
 |_=>.error "recover kind"
inductive AE where
 |returned(v:AV)
 |panicked(chain:List (AV×Bool))
def oY(P:Program)(O:dH)(h:AH)(tmps:TT):ResultVar->M AV
 |.tmp t=>.ok (tmps.get t)
 |.cell a t=>match tmps.get a with
  |.ptr (some a)=>loadVar? P O h t a
  |_=>.error "result"
def iT(P:Program)(O:dH)(h:AH)(tmps:TT):List ResultVar->M (List AV)
 |[]=>.ok []
 |r::l=>match oY P O h tmps r with
  |.ok v=>match iT P O h tmps l with
   |.ok vs=>.ok (v::vs)
   |.error e=>.error e
  |.error e=>.error e
def results?(P:Program)(O:dH)(h:AH)(fn:FuncId)(tmps:TT):M AV:=
 match P.funcs[fn]? with
 |some fn=>match iT P O h tmps fn.results.toList with
  |.ok [v]=>.ok v
  |.ok vs=>.ok (.tuple vs)
  |.error e=>.error e
 |none=>.error "results no function"
abbrev Ext:=AH->FuncId->List AV->M (AV×AH)
inductive AR where
 |on(tmps:TT)(h:AH)
 |panic(tmps:TT)(chain:List (AV×Bool))(h:AH)
def jB(P:Program)(O:dH)(ext:Ext)(call:FuncId->List AV->AH->M (AE×AH))(nt:Nat)(ops:Array Oper)(i:Nat)(tmps:TT)(h:AH):M AR:=
 match ops[i]? with
 |none=>.error "region no operation"
 |some o=>match gz O ops tmps o with
  |.error e=>.error e
  |.ok false=>.ok (.on (jl nt tmps o.dst cJ) h)
  |.ok true=>match op? P O ext h (kP tmps) o with
   |.error e=>.error e
   |.ok (.value v,h)=>.ok (.on (jl nt tmps o.dst v) h)
   |.ok (.skip,h)=>.ok (.on (jl nt tmps o.dst cJ) h)
   |.ok (.enter f args,h)=>match call f args h with
    |.ok (.returned v,h)=>.ok (.on (jl nt tmps o.dst v) h)
    |.ok (.panicked chain,h)=>.ok (.panic tmps chain h)
    |.error e=>.error e
   |.ok (.panic v,h)=>.ok (.panic tmps [(v,false)] h)
   |.ok _=>.error "region this operation"
def lU:List (AV×AV)->List (AV×AV)->Bool
 |[],[]=>true
 |(a,b)::l,(c,d)::m=>a.eI c&&b.eI d&&lU l m
 |_,_=>false
def lV:List (IE×AV)->List (IE×AV)->Bool
 |[],[]=>true
 |(a,b)::l,(c,d)::m=>a.eI c&&b.eI d&&lV l m
 |_,_=>false
def lK:List (AA×Option AV)->List (AA×Option AV)->Bool
 |[],[]=>true
 |(a,b)::l,(c,d)::m=>a.eI c&&qO AV.eI b d&&lK l m
 |_,_=>false
def bO.eI:bO->bO->Bool
 |.map a,.map b=>lU a b
 |.chan,.chan=>true
 |.jA s n f w,.jA s' n' f' w'=>Nat.beq s s'&&n.eI n'&&lK f f'&&lU w w'
 |.cells a e,.cells b e'=>AV.u7 a b&&e==e'
 |.row a e c,.row b e' c'=>AV.u7 a b&&e==e'&&c.eI c'
 |.gi a e l,.gi b e' l'=>AV.u7 a b&&e==e'&&decide (l=l')
 |.pre l s n f w a e c,.pre l' s' n' f' w' b e' c'=>(l==l')&&Nat.beq s s'&&n.eI n'&&lV f f'&&lV w w'&&AV.u7 a b&&e==e'&&c.eI c'
 |_,_=>false
def vE:List (Nat×bO)->List (Nat×bO)->Bool
 |[],[]=>true
 |(i,a)::l,(j,b)::m=>Nat.beq i j&&a.eI b&&vE l m
 |_,_=>false
def pZ(s:List Nat)(o:Oper):Bool:=o.after.all fun e=>!Region.binds .any e||s.contains e.on
def cI(ops:Array Oper)(s:List Nat):List Nat:=
 (List.range ops.size).filter fun i=>!s.contains i&&(match ops[i]? with|some o=>pZ s o|none=>false)
abbrev Fq:=List (List Nat×TT×AH)
def rV(a b:List Nat):Bool:=a.all b.contains&&b.all a.contains
def vF(s:List Nat)(tmps:TT)(h:AH):Fq->M Fq
 |[]=>.ok [(s,tmps,h)]
 |(s',t',h')::l=>
  if rV s s' then(if tmps.eI t'&&vE h.hp h'.hp then .ok ((s',t',h')::l)else .error "region the order matters")
  else match vF s tmps h l with
   |.ok l=>.ok ((s',t',h')::l)
   |.error e=>.error e
def iB(h0:AH):Nat:=(h0.fJ-h0.nb) / 65536
def lW(h0:AH)(i:Nat)(h:AH):AH:=
 match h with
 |⟨hp,_,_⟩=>⟨hp,h0.nb+i*iB h0,h0.nb+(i+1)*iB h0⟩
def jI(h0:AH)(n:Nat)(h:AH):AH:=
 match h with
 |⟨hp,_,_⟩=>⟨hp,h0.nb+n*iB h0,h0.fJ⟩
def p6(P:Program)(O:dH)(ext:Ext)(call:FuncId->List AV->AH->M (AE×AH))(nt:Nat)(ops:Array Oper)(h0:AH)(s:List Nat)(tmps:TT)(h:AH):List Nat->Fq->M Fq
 |[],l=>.ok l
 |i::r,l=>
  match jB P O ext call nt ops i tmps (lW h0 i h)with
  |.error e=>.error e
  |.ok (.panic _ _ _)=>.error "region a panic beside others"
  |.ok (.on t' h')=>if h'.nb≤h'.fJ then(match vF (i::s) t' h' l with
   |.ok l=>p6 P O ext call nt ops h0 s tmps h r l
   |.error e=>.error e)else .error "region numbers"
def rW(P:Program)(O:dH)(ext:Ext)(call:FuncId->List AV->AH->M (AE×AH))(nt:Nat)(ops:Array Oper)(h0:AH):Fq->Fq->M Fq
 |[],l=>.ok l
 |(s,t,h)::r,l=>if(cI ops s).isEmpty then .error "region none is ready" else match p6 P O ext call nt ops h0 s t h (cI ops s) l with
  |.ok l=>rW P O ext call nt ops h0 r l
  |.error e=>.error e
def mQ(P:Program)(O:dH)(ext:Ext)(call:FuncId->List AV->AH->M (AE×AH))(nt:Nat)(ops:Array Oper):Nat->Option AH->Fq->M AR
 |0,_,_=>.error "region levels"
 |n+1,fork,l=>
  match l,fork with
  |[(s,t,h)],some h0=>mQ P O ext call nt ops n none [(s,t,jI h0 ops.size h)]
  |[(s,t,h)],none=>match cI ops s with
   |[]=>.ok (.on t h)
   |[i]=>match jB P O ext call nt ops i t h with
    |.error e=>.error e
    |.ok (.panic t' c h')=>.ok (.panic t' c h')
    |.ok (.on t' h')=>mQ P O ext call nt ops n none [(i::s,t',h')]
   |r=>match p6 P O ext call nt ops h s t h r []with
    |.ok l=>mQ P O ext call nt ops n (some h) l
    |.error e=>.error e
  |l,some h0=>match rW P O ext call nt ops h0 l []with
   |.ok l=>mQ P O ext call nt ops n (some h0) l
   |.error e=>.error e
  |_,none=>.error "region levels"
def jP(o:Oper):Bool:=
 match o.op with
 |.move _|.assign _|.pick _ _ _|.build _ _|.load _ _|.nilCheck _|.binOp _ _ _ _ _|.unOp _ _ _|.convert _ _ _|.makeInterface _ _|.makeFunc _ _ _|.slice _ _ _ _ _|.fieldAddr _ _ _|.field _ _ _|.indexAddr _ _ _|.index _ _ _
 |.typeAssert _ _ _ _|.extract _ _=>true
 |_=>false
def JO(i:Nat):Nat:=Nat.pow 2 i
def oP(m i:Nat):Bool:=!(Nat.beq (Nat.land m (JO i)) 0)
def ye(m i:Nat):Nat:=Nat.lor m (JO i)
def ir:List Edge->Nat
 |[]=>0
 |e::l=>match Region.binds .any e with
  |true=>ye (ir l) e.on
  |false=>ir l
abbrev Info:=Nat×Oper×Nat×Bool
def nG:Nat->List Oper->List Info
 |_,[]=>[]
 |i,o::l=>(i,o,ir o.after.toList,jP o)::nG (i+1) l
def cW(ops:Array Oper):List Info:=nG 0 ops.toList
def u_(m:Nat)(x:Info):Bool:=!(oP m x.1)&&Nat.beq (Nat.land x.2.2.1 m) x.2.2.1
def jQ(ops:Array Oper)(infos:List Info):Bool:=
 infos.all fun x=>match x.2.2.2,x.2.1.dst with
  |true,some d=>infos.all fun y=>!((y.2.1.looksAt ops).contains d)||oP y.2.2.1 x.1
  |_,_=>true
def oG(P:Program)(O:dH)(ext:Ext)(nt:Nat)(ops:Array Oper)(h:AH):List Info->List Nat->Nat->TT->M (List Nat×Nat×TT)
 |[],s,m,t=>.ok (s,m,t)
 |x::r,s,m,t=>match x.2.2.2&&u_ m x with
  |false=>oG P O ext nt ops h r s m t
  |true=>match gz O ops t x.2.1 with
   |.error e=>.error e
   |.ok false=>oG P O ext nt ops h r (x.1::s) (ye m x.1) (jl nt t x.2.1.dst cJ)
   |.ok true=>match op? P O ext h (kP t) x.2.1 with
    |.ok (.value v,_)=>oG P O ext nt ops h r (x.1::s) (ye m x.1) (jl nt t x.2.1.dst v)
    |.ok _=>.error "region a quiet operation"
    |.error e=>.error e
def Fs(nt:Nat)(t:TT)(dst:Option Tmp)(v:AV):Bool:=
 match dst with
 |some d=>match Nat.ble (d+1) nt with
  |true=>(t.get d).eI v
  |false=>true
 |none=>true
def oZ(P:Program)(O:dH)(ext:Ext)(nt:Nat)(ops:Array Oper)(m:Nat)(t:TT)(h:AH):List Info->Bool
 |[]=>true
 |x::r=>(match x.2.2.2&&oP m x.1 with
  |false=>true
  |true=>match gz O ops t x.2.1 with
   |.error _=>false
   |.ok false=>Fs nt t x.2.1.dst cJ
   |.ok true=>match op? P O ext h (kP t) x.2.1 with
    |.ok (.value v,_)=>Fs nt t x.2.1.dst v
    |_=>false)&&oZ P O ext nt ops m t h r
abbrev qo:=List (List Nat×Nat×TT×AH)
def rX(s:List Nat)(m:Nat)(t:TT)(h:AH):qo->M qo
 |[]=>.ok [(s,m,t,h)]
 |(s',m',t',h')::l=>match Nat.beq m m' with
  |true=>if t.eI t'&&vE h.hp h'.hp then .ok ((s',m',t',h')::l)else .error "region the order matters"
  |false=>match rX s m t h l with
   |.ok l=>.ok ((s',m',t',h')::l)
   |.error e=>.error e
def bare(h:AH):AH:=⟨h.hp,0,0⟩
def NB(P:Program)(O:dH)(ext:Ext)(call:FuncId->List AV->AH->M (AE×AH))(nt:Nat)(ops:Array Oper)(infos:List Info)(s:List Nat)(m:Nat)(t:TT)(h:AH)(i:Nat):M (List Nat×Nat×TT×AH):=
 match jB P O ext call nt ops i t h with
 |.error e=>.error e
 |.ok (.panic _ _ _)=>.error "region a panic beside others"
 |.ok (.on t1 h1)=>match oG P O ext nt ops (bare h1) infos (i::s) (ye m i) t1 with
  |.error e=>.error e
  |.ok (s2,m2,t2)=>.ok (s2,m2,t2,h1)
def nH(P:Program)(O:dH)(ext:Ext)(call:FuncId->List AV->AH->M (AE×AH))(nt:Nat)(ops:Array Oper)(infos:List Info)(h0:AH)(s:List Nat)(m:Nat)(t:TT)(h:AH):List Info->qo->M qo
 |[],l=>.ok l
 |x::r,l=>match NB P O ext call nt ops infos s m t (lW h0 x.1 h) x.1 with
  |.error e=>.error e
  |.ok (s2,m2,t2,h1)=>if h1.nb≤h1.fJ then(match rX s2 m2 t2 h1 l with
   |.ok l=>nH P O ext call nt ops infos h0 s m t h r l
   |.error e=>.error e)else .error "region numbers"
def o6(P:Program)(O:dH)(ext:Ext)(call:FuncId->List AV->AH->M (AE×AH))(nt:Nat)(ops:Array Oper)(infos:List Info)(h0:AH):qo->qo->M qo
 |[],l=>.ok l
 |(s,m,t,h)::r,l=>match infos.filter (u_ m)with
  |[]=>.error "region none is ready"
  |js=>match nH P O ext call nt ops infos h0 s m t h js l with
   |.ok l=>o6 P O ext call nt ops infos h0 r l
   |.error e=>.error e
def rY(m:Nat):List Info->Nat
 |[]=>0
 |x::r=>match !x.2.2.2&&oP m x.1 with
  |true=>Nat.lor x.2.2.1 (rY m r)
  |false=>rY m r
def Hu(infos:List Info)(m:Nat):Nat:=Nat.land m (Nat.xor m (rY m infos))
def settled(P:Program)(O:dH)(ext:Ext)(nt:Nat)(ops:Array Oper)(infos:List Info)(m:Nat)(t:TT)(h:AH):Bool:=
 (infos.all fun x=>!(x.2.2.2&&u_ m x))&&oZ P O ext nt ops (Hu infos m) t (bare h) infos
def kQ(P:Program)(O:dH)(ext:Ext)(call:FuncId->List AV->AH->M (AE×AH))(nt:Nat)(ops:Array Oper)(infos:List Info):Nat->Option AH->qo->M AR
 |0,_,_=>.error "region levels"
 |n+1,fork,l=>
  match l.all fun e=>settled P O ext nt ops infos e.2.1 e.2.2.1 e.2.2.2 with
  |false=>.error "region not settled"
  |true=>match l,fork with
   |[(s,m,t,h)],some h0=>kQ P O ext call nt ops infos n none [(s,m,t,jI h0 ops.size h)]
   |[(s,m,t,h)],none=>match infos.filter (u_ m)with
    |[]=>.ok (.on t h)
    |[x]=>match NB P O ext call nt ops infos s m t h x.1 with
     |.error e=>.error e
     |.ok e=>kQ P O ext call nt ops infos n none [e]
    |js=>match nH P O ext call nt ops infos h s m t h js []with
     |.ok l=>kQ P O ext call nt ops infos n (some h) l
     |.error e=>.error e
   |l,some h0=>match o6 P O ext call nt ops infos h0 l []with
    |.ok l=>kQ P O ext call nt ops infos n (some h0) l
    |.error e=>.error e
   |_,none=>.error "region levels"
def JP(P:Program)(O:dH)(ext:Ext)(call:FuncId->List AV->AH->M (AE×AH))(nt:Nat)(ops:Array Oper)(infos:List Info)(tmps:TT)(h:AH):M AR:=
 match oG P O ext nt ops (bare h) infos [] 0 tmps with
 |.error e=>.error e
 |.ok (s,m,t)=>kQ P O ext call nt ops infos (2*ops.size+2) none [(s,m,t,h)]
def rZ(P:Program)(O:dH)(ext:Ext)(call:FuncId->List AV->AH->M (AE×AH))(nt:Nat)(ops:Array Oper)(tmps:TT)(h:AH):M AR:=
 if ops.size≤65536 then mQ P O ext call nt ops (2*ops.size+2) none [([],tmps,h)]else .error "region size"
def drawn(P:Program)(O:dH)(ext:Ext)(call:FuncId->List AV->AH->M (AE×AH))(nt:Nat)(ops:Array Oper)(tmps:TT)(h:AH):M AR:=
 match Nat.ble ops.size 65536&&jQ ops (cW ops)with
 |false=>rZ P O ext call nt ops tmps h
 |true=>match JP P O ext call nt ops (cW ops) tmps h with
  |.ok r=>.ok r
  |.error _=>rZ P O ext call nt ops tmps h
def NC(o:Oper):Bool:=
 match o.op with
 |.call _|.go _|.send _ _|.recv _ _ _|.defer _=>true
 |_=>false
def nq:List Info->Nat->Nat
 |[],m=>m
 |x::r,m=>match oP (nq r m) x.1 with
  |true=>Nat.lor (nq r m) x.2.2.1
  |false=>nq r m
def Du(P:Program)(O:dH)(ext:Ext)(nt:Nat)(ops:Array Oper)(infos:List Info)(tmps:TT)(h:AH):Option (Nat×TT):=
 match infos.filter fun x=>!x.2.2.2 with
 |[x]=>match NC x.2.1&&(Nat.ble ops.size 65536&&jQ ops infos)with
  |false=>none
  |true=>match oG P O ext nt ops (bare h) infos [] 0 tmps with
   |.error _=>none
   |.ok (_,m,t)=>match u_ m x&&(infos.all fun y=>Nat.beq y.1 x.1||(oP m y.1&&oP (nq infos x.2.2.1) y.1))&&oZ P O ext nt ops m t (bare h) infos with
    |true=>some (x.1,t)
    |false=>none
 |_=>none
def upon(P:Program)(fr:bR)(callers:List bR)(n:AN)(h:AH):M dU:=
 match n with
 |.value v=>match hJ fr v with
  |.ok fr=>.ok ⟨fr,callers,h⟩
  |.error e=>.error e
 |.skip=>match hJ fr cJ with
  |.ok fr=>.ok ⟨fr,callers,h⟩
  |.error e=>.error e
 |.enter f args=>match bP P f args .normal with
  |.ok fr'=>.ok ⟨fr',fr::callers,h⟩
  |.error e=>.error e
 |.defer d=>match fr with
  |⟨fn,nt,tmps,todo,defers,mode,kind⟩=>match hJ ⟨fn,nt,tmps,todo,d::defers,mode,kind⟩ cJ with
   |.ok fr=>.ok ⟨fr,callers,h⟩
   |.error e=>.error e
 |.recover=>match vD fr.kind callers with
  |.error e=>.error e
  |.ok (some (v,callers))=>match hJ fr v with
   |.ok fr=>.ok ⟨fr,callers,h⟩
   |.error e=>.error e
  |.ok none=>match hJ fr .nilIface with
   |.ok fr=>.ok ⟨fr,callers,h⟩
   |.error e=>.error e
 |.panic v=>.ok ⟨oX fr [(v,false)],callers,h⟩
def tagged:CallKind->Bool
 |.wrapped=>true
 |_=>false
def nI(kind:CallKind)(n:AN):Bool:=
 match tagged kind with
 |false=>true
 |true=>match n with
  |.defer _=>false
  |.recover=>false
  |_=>true
def summed(O:dH)(n:AN):Bool:=
 match n with
 |.enter f _=>O.abw.contains f
 |_=>false
def exec?(P:Program)(O:dH)(ext:Ext)(call:FuncId->List AV->AH->M (AE×AH))(fn:FuncId)(nt:Nat)(tmps:TT)(todo:List Item)(defers:List AD)(kind:CallKind)(callers:List bR)(h:AH):M dU:=
 match todo with
 |[]=>match tagged kind with
  |true=>.error "marked the end"
  |false=>.ok ⟨⟨fn,nt,tmps,[],defers,.returning,kind⟩,callers,h⟩
 |.inRegion ops is::k=>match is with
  |[]=>.ok ⟨⟨fn,nt,tmps,k,defers,.run,kind⟩,callers,h⟩
  |i::rest=>match ops[i]? with
   |none=>.error "region no operation"
   |some o=>match gz O ops tmps o with
    |.error e=>.error e
    |.ok false=>.ok ⟨⟨fn,nt,jl nt tmps o.dst cJ,.inRegion ops rest::k,defers,.run,kind⟩,callers,h⟩
    |.ok true=>match op? P O ext h (kP tmps) o with
     |.error e=>.error e
     |.ok (n,h')=>match nI kind n with
      |false=>.error "marked this operation"
      |true=>match summed O n with
       |false=>upon P ⟨fn,nt,tmps,.inRegion ops (i::rest)::k,defers,.run,kind⟩ callers n h'
       |true=>match jB P O ext call nt ops i tmps h with
        |.ok (.on t h')=>.ok ⟨⟨fn,nt,t,.inRegion ops rest::k,defers,.run,kind⟩,callers,h'⟩
        |.ok (.panic t ch h')=>.ok ⟨⟨fn,nt,t,.inRegion ops (i::rest)::k,defers,.panicking ch,kind⟩,callers,h'⟩
        |.error e=>.error e
 |.inBlock _::k=>.ok ⟨⟨fn,nt,tmps,k,defers,.run,kind⟩,callers,h⟩
 |.inScope _::k=>.ok ⟨⟨fn,nt,tmps,k,defers,.run,kind⟩,callers,h⟩
 |.inLoop body::k=>.ok ⟨⟨fn,nt,tmps,.code body::.inLoop body::k,defers,.run,kind⟩,callers,h⟩
 |.code c::k=>match c with
  |.ret=>match tagged kind with
   |true=>.error "marked return"
   |false=>.ok ⟨⟨fn,nt,tmps,.code .ret::k,defers,.returning,kind⟩,callers,h⟩
  |.skip=>.ok ⟨⟨fn,nt,tmps,k,defers,.run,kind⟩,callers,h⟩
  |.label _=>.ok ⟨⟨fn,nt,tmps,k,defers,.run,kind⟩,callers,h⟩
  |.seq a b=>.ok ⟨⟨fn,nt,tmps,.code a::.code b::k,defers,.run,kind⟩,callers,h⟩
  |.cond x thn els=>match kP tmps x with
   |.bool b=>match O.bool b with
    |.lit true=>.ok ⟨⟨fn,nt,tmps,.code thn::k,defers,.run,kind⟩,callers,h⟩
    |.lit false=>.ok ⟨⟨fn,nt,tmps,.code els::k,defers,.run,kind⟩,callers,h⟩
    |_=>.error "if an open test"
   |_=>.error "if"
  |.block id body=>.ok ⟨⟨fn,nt,tmps,.code body::.inBlock id::k,defers,.run,kind⟩,callers,h⟩
  |.loop body=>.ok ⟨⟨fn,nt,tmps,.code body::.inLoop body::k,defers,.run,kind⟩,callers,h⟩
  |.scope body=>.ok ⟨⟨fn,nt,tmps,.code body::.inScope body::k,defers,.run,kind⟩,callers,h⟩
  |.exit id=>match exitTo id k with
   |some k=>.ok ⟨⟨fn,nt,tmps,k,defers,.run,kind⟩,callers,h⟩
   |none=>.error "exit"
  |.goto l=>match gotoIn l k with
   |some k=>.ok ⟨⟨fn,nt,tmps,k,defers,.run,kind⟩,callers,h⟩
   |none=>.error "goto"
  |.region _ ops draw=>match draw with
   |false=>.ok ⟨⟨fn,nt,tmps,.inRegion ops (List.range ops.size)::k,defers,.run,kind⟩,callers,h⟩
   |true=>match Du P O ext nt ops (cW ops) tmps h with
    |some (j,t)=>.ok ⟨⟨fn,nt,t,.inRegion ops [j]::k,defers,.run,kind⟩,callers,h⟩
    |none=>match drawn P O ext call nt ops tmps h with
     |.ok (.on t h)=>.ok ⟨⟨fn,nt,t,k,defers,.run,kind⟩,callers,h⟩
     |.ok (.panic t ch h)=>.ok ⟨⟨fn,nt,t,k,defers,.panicking ch,kind⟩,callers,h⟩
     |.error e=>.error e
  |_=>.error "this code"
 |_=>.error "this item"
def defer?(P:Program)(O:dH)(ext:Ext)(fn:FuncId)(nt:Nat)(tmps:TT)(todo:List Item)(d:AD)(ds:List AD)(mode:gK)(kind:CallKind)(callers:List bR)(h:AH):M dU:=
 match invoke? P O ext h d with
 |.ok (.enter f args,h)=>match bP P f args .deferred with
  |.ok fr'=>.ok ⟨fr',⟨fn,nt,tmps,todo,ds,mode,kind⟩::callers,h⟩
  |.error e=>.error e
 |.ok (.value _,h)=>.ok ⟨⟨fn,nt,tmps,todo,ds,mode,kind⟩,callers,h⟩
 |.ok _=>.error "a deferred call"
 |.error e=>.error e
def vG(caller:bR):bR:=
 match caller with
 |⟨fn,nt,tmps,todo,defers,.panicking ((_,true)::_),kind⟩=>⟨fn,nt,tmps,todo,defers,.returning,kind⟩
 |fr=>fr
def step?(P:Program)(O:dH)(ext:Ext)(call:FuncId->List AV->AH->M (AE×AH))(c:dU):M (dU⊕(AE×AH)):=
 match c with
 |⟨⟨fn,nt,tmps,todo,defers,mode,kind⟩,callers,h⟩=>match mode with
  |.run=>match exec? P O ext call fn nt tmps todo defers kind callers h with
    |.ok c=>.ok (.inl c)
    |.error e=>.error e
  |.returning=>match tagged kind with
   |true=>.error "marked unwinding"
   |false=>match defers with
    |d::ds=>match defer? P O ext fn nt tmps todo d ds .returning kind callers h with
     |.ok c=>.ok (.inl c)
     |.error e=>.error e
    |[]=>match results? P O h fn tmps with
     |.error e=>.error e
     |.ok v=>match callers with
      |[]=>match kind with
       |.normal=>.ok (.inr (.returned v,h))
       |_=>.error "return kind"
      |caller::rest=>match kind with
       |.normal=>match hJ caller v with
        |.ok caller=>.ok (.inl ⟨caller,rest,h⟩)
        |.error e=>.error e
       |.deferred=>.ok (.inl ⟨vG caller,rest,h⟩)
       |_=>.error "return kind"
  |.panicking chain=>match tagged kind with
   |true=>.error "marked unwinding"
   |false=>match defers with
    |d::ds=>match defer? P O ext fn nt tmps todo d ds (.panicking chain) kind callers h with
     |.ok c=>.ok (.inl c)
     |.error e=>.error e
    |[]=>match callers with
     |[]=>.ok (.inr (.panicked chain,h))
     |caller::rest=>.ok (.inl ⟨oX caller chain,rest,h⟩)
abbrev qp:=FuncId->List AV->AH->Option (M (AE×AH))
def JQ:qp:=fun _ _ _=>none
def run?(P:Program)(O:dH)(ext:Ext)(sum:qp)(n:Nat):dU->M (AE×AH):=
 Nat.rec (fun _=>.error "fuel") (fun _ ih c=>
  match step? P O ext (fun f args h=>match sum f args h with
   |some r=>r
   |none=>match bP P f args .normal with
    |.ok fr=>ih ⟨fr,[],h⟩
    |.error e=>.error e) c with
  |.ok (.inl c)=>ih c
  |.ok (.inr r)=>.ok r
  |.error e=>.error e) n
end
noncomputable section
inductive XE where
 |ld(k:IntKind)|st|sw(k:IntKind)|cas(k:IntKind)|add(k:IntKind)
 |acquire|release|releaseMerge|quiet
 |typeOf|valueOf|JR|PI|VV|vType
def kind?(P:Program)(t:TypeId):M Nat:=
 match fZ P (Extern.Rtype.kind t)with
 |some k=>.ok k
 |none=>.error "kind"
def mkV?(P:Program)(t:TypeId)(a:AA)(flags:Nat):M AV:=do
 pure (.agg [.ptr (some ⟨.qN P.globals.size,.lit (.ofNat t)⟩),.ptr (some a),.int .u64 (.lit (.ofNat ((<-kind? P t)+128+flags)))])
def partsV?(P:Program)(x:AV):M (TypeId×AA×Nat):=
 match x with
 |.agg [h,.ptr (some a),.int .u64 (.lit (.ofNat f))]=>match handle? P h with
  |some t=>if f=0||P.packed t then .error "Value nought" else .ok (t,a,f)
  |none=>.error "Value handle"
 |_=>.error "Value"
def Ft(P:Program)(s:Sem Bool):M Bool:=
 match fZ P s with
 |some b=>.ok b
 |none=>.error "pureB"
def elemT?(P:Program)(t:TypeId):M TypeId:=
 match fZ P (Extern.Rtype.elem? t)with
 |some (some e)=>.ok e
 |_=>.error "elem"
def unpackV?(P:Program)(h:AH)(x:AV):M (AV×AH):=do
 match x with
 |.iface t v=>do
  let cs<-v.cells?;let(x,h)<-alloc? h (.cells cs t)
  match x with
  |.ptr (some a)=>do
   let r<-mkV? P t a 0
   pure (r,h)
  |_=>.error "unpack"
 |.nilIface=>pure (.agg [.ptr none,.ptr none,.int .u64 (.lit 0)],h)
 |_=>.error "unpack"
def qv(O:dH)(h:AH)(a:AA)(k:IntKind):M IE:=do
 match<-rT O h a with
 |.int k' e=>if k=k' then pure e else .error "atomic"
 |_=>.error "atomic"
def isNil?:AV->M Bool
 |.chan none|.nilFunc|.nilIface|.map none|.ptr none|.slice none _ _=>.ok true
 |.chan (some _)|.func ..|.iface ..|.map (some _)|.ptr (some _)|.slice (some _) _ _=>.ok false
 |_=>.error "IsNil"
def xIsNil?(P:Program)(O:dH)(h:AH)(x:AV):M (AV×AH):=do
 let(t,a,fl)<-partsV? P x
 if[18,19,20,21,22,23,26].contains (fl % 32)then do
  let v<-loadVar? P O h t a;let b<-isNil? v
  pure (.bool (.lit b),h)
 else .error "IsNil kind"
def xElem?(P:Program)(O:dH)(h:AH)(x:AV):M (AV×AH):=do
 let(t,a,fl)<-partsV? P x;let v<-loadVar? P O h t a
 if fl % 32=22 then do
  let e<-elemT? P t
  match v with
  |.ptr none=>pure (.agg [.ptr none,.ptr none,.int .u64 (.lit 0)],h)
  |.ptr (some p)=>do
   pure (<-mkV? P e p 256,h)
  |_=>.error "Elem"
 else if fl % 32=20 then do
  let _<-(match fZ P (Extern.Rtype.elem? t)with|some e=>.ok e|none=>.error "Elem" :M (Option TypeId))
  unpackV? P h v
 else .error "Elem kind"
def setVal?(P:Program)(dst src:TypeId)(val:AV):M AV:=
 match Ft P (Extern.Rtype.directlyAssignable dst src)with
 |.error e=>.error e
 |.ok true=>.ok val
 |.ok false=>match Ft P (oV dst src)with
  |.ok true=>match kind? P src with
   |.ok k=>if k=20 then(match val with
    |.iface t v=>.ok (.iface t v)
    |_=>.error "Set nil")else .ok (.iface src val)
   |.error e=>.error e
  |.ok false=>.error "Set type"
  |.error e=>.error e
def xSet?(P:Program)(O:dH)(h:AH)(v x:AV):M (AV×AH):=do
 let(dst,a,fl)<-partsV? P v;let(src,b,_)<-partsV? P x
 if fl / 256 % 2=0 then .error "Set" else
 let val<-loadVar? P O h src b;let val<-setVal? P dst src val;let h<-storeVar? P h dst a val
 pure (cJ,h)
def ext?(P:Program)(O:dH)(Nu:List (FuncId×XE)):Ext:=fun h f args=>
 match look (fun a b=>a==b) f Nu with
 |none=>.error "no entry"
 |some x=>match x,args with
  |.ld k,[.ptr (some a)]=>do
   let e<-qv O h a k
   pure (.int k e,h)
  |.st,[.ptr (some a),v]=>do
   let h<-gJ h a v
   pure (cJ,h)
  |.sw k,[.ptr (some a),v]=>do
   let e<-qv O h a k;let h<-gJ h a v
   pure (.int k e,h)
  |.cas k,[.ptr (some a),.int _ old,v]=>do
   let e<-qv O h a k;let b<-O.dec (.cmp .eql e old);let h2<-gJ h a v
   pure (.bool (.lit b),if b then h2 else h)
  |.add k,[.ptr (some a),.int _ d]=>do
   let e<-qv O h a k;let h<-gJ h a (.int k (O.int (.op .add k e d)))
   pure (.int k (O.int (.op .add k e d)),h)
  |.acquire,[.ptr (some _)]=>pure (cJ,h)
  |.release,[.ptr (some _)]=>pure (cJ,h)
  |.releaseMerge,[.ptr (some _)]=>pure (cJ,h)
  |.quiet,_=>pure (cJ,h)
  |.typeOf,[.iface t _]=>match fZ P (Extern.ReflectliteType.toType t)with
   |some v=>pure (ofValue v,h)
   |none=>.error "toType"
  |.typeOf,[.nilIface]=>pure (.nilIface,h)
  |.valueOf,[x]=>unpackV? P h x
  |.vType,[x]=>do
   let(t,_,_)<-partsV? P x
   match fZ P (Extern.ReflectliteType.toType t)with
   |some v=>pure (ofValue v,h)
   |none=>.error "toType"
  |.JR,[x]=>xIsNil? P O h x
  |.PI,[x]=>xElem? P O h x
  |.VV,[v,x]=>xSet? P O h v x
  |_,_=>.error "entry arguments"
end
structure Env where
 i:Nat->Int
 p:Nat->Bool
 v:Nat->Value
 b:Nat->Nat
 bt:Option Nat×List Deferred:=(none,[])
 s:Nat->ByteArray:=fun _=>⟨#[]⟩
def SE.ev(ρ:Env):SE->ByteArray
 |.lit s=>s
 |.var i=>ρ.s i
 |.cat a b=>a.ev ρ++b.ev ρ
def IE.ev(ρ:Env):IE->Int
 |.lit n=>n
 |.var i=>ρ.i i
 |.op o k a b=>iF o k (a.ev ρ) (b.ev ρ)
 |.conv k a=>k.wrap (a.ev ρ)
 |.plus a b=>a.ev ρ+b.ev ρ
 |.times a b=>a.ev ρ*b.ev ρ
 |.tn a=>((a.ev ρ).toNat:Int)
 |.jj a=>((a.ev ρ).size:Int)
def BE.ev(ρ:Env):BE->Bool
 |.lit b=>b
 |.var i=>ρ.p i
 |.cmp o a b=>A0 o (a.ev ρ) (b.ev ρ)
 |.seq n a b=>(((a.ev ρ).toList==(b.ev ρ).toList) != n)
def BR.ev(ρ:Env):BR->Nat
 |.qN g=>g
 |.dyn i=>ρ.b i
def AA.ev(ρ:Env)(a:AA):Addr:=⟨a.blk.ev ρ,(a.off.ev ρ).toNat,none⟩
mutual
def AV.ev(ρ:Env):AV->Value
 |.bool b=>.bool (b.ev ρ)
 |.int k e=>.int k (e.ev ρ)
 |.str s=>.string s
 |.ptr a=>.pointer (a.map (AA.ev ρ))
 |.slice a l c=>.slice (a.map (AA.ev ρ)) (l.ev ρ).toNat (c.ev ρ).toNat
 |.map r=>.map (r.map (BR.ev ρ))
 |.chan r=>.chan (r.map (BR.ev ρ))
 |.func f x y=>.func f (AV.evs ρ x).toArray (AV.evs ρ y).toArray
 |.nilFunc=>.nilFunc
 |.iface t v=>.iface t (v.ev ρ)
 |.nilIface=>.nilIface
 |.agg x=>.agg (AV.evs ρ x).toArray
 |.tuple x=>.tuple (AV.evs ρ x).toArray
 |.bC i=>ρ.v i
 |.raw v=>v
 |.ss e=>.string (e.ev ρ)
def AV.evs(ρ:Env):List AV->List Value
 |[]=>[]
 |a::x=>a.ev ρ::AV.evs ρ x
end
theorem iU(ρ:Env):∀l,AV.evs ρ l=l.map (AV.ev ρ)
 |[]=>by simp[AV.evs]
 |a::l=>by simp[AV.evs,iU ρ l]
theorem SE.cK:∀{a b:SE},a.eI b=true->a=b:=by
 intro a
 induction a with
 |lit s=>intro b h;cases b<;>simp_all [SE.eI];rename_i t;cases s;cases t;simp_all
 |var i=>intro b h;cases b<;>simp_all [SE.eI]
 |cat x y QX QY=>intro b h;cases b<;>simp_all [SE.eI];exact⟨QX h.1,QY h.2⟩
theorem IE.cK:∀{a b:IE},a.eI b=true->a=b:=by
 intro a
 induction a with
 |lit n=>intro b h;cases b<;>simp_all [IE.eI]
 |var n=>intro b h;cases b<;>simp_all [IE.eI]
 |op o k x y QX QY=>intro b h;cases b<;>simp_all [IE.eI];exact⟨QX h.1.2,QY h.2⟩
 |conv k x ih=>intro b h;cases b<;>simp_all [IE.eI];exact ih h.2
 |plus x y QX QY=>intro b h;cases b<;>simp_all [IE.eI];exact⟨QX h.1,QY h.2⟩
 |times x y QX QY=>intro b h;cases b<;>simp_all [IE.eI];exact⟨QX h.1,QY h.2⟩
 |tn x ih=>intro b h;cases b<;>simp_all [IE.eI];exact ih h
 |jj x=>intro b h;cases b<;>simp_all [IE.eI];exact SE.cK h
theorem BE.cK:∀{a b:BE},a.eI b=true->a=b:=by
 intro a b h;cases a<;>cases b<;>simp_all [BE.eI]
 ·exact⟨IE.cK h.1.2,IE.cK h.2⟩
 ·exact⟨SE.cK h.1.2,SE.cK h.2⟩
theorem BR.cK:∀{a b:BR},a.eI b=true->a=b:=by intro a b h;cases a<;>cases b<;>simp_all [BR.eI]
theorem AA.cK:∀{a b:AA},a.eI b=true->a=b:=by intro a b h;obtain⟨x,y⟩:=a;obtain⟨x',y'⟩:=b;simp[AA.eI]at h;simp[BR.cK h.1,IE.cK h.2]
theorem nJ{α:Type}{f:α->α->Bool}(hf:∀{a b},f a b=true->a=b):∀{a b:Option α},qO f a b=true->a=b:=by intro a b h;cases a<;>cases b<;>simp_all [qO];exact hf h
mutual
theorem AV.cK:∀(a b:AV),a.eI b=true->a=b
 |.bool x,b,h=>by cases b<;>simp_all [AV.eI];exact BE.cK h
 |.int k x,b,h=>by cases b<;>simp_all [AV.eI];exact IE.cK h.2
 |.str s,b,h=>by cases b<;>simp_all [AV.eI];rename_i t;cases s;cases t;simp_all
 |.ptr a,b,h=>by cases b<;>simp_all [AV.eI];exact nJ AA.cK h
 |.slice a l c,b,h=>by cases b<;>simp_all [AV.eI];exact⟨nJ AA.cK h.1.1,IE.cK h.1.2,IE.cK h.2⟩
 |.map a,b,h=>by cases b<;>simp_all [AV.eI];exact nJ BR.cK h
 |.chan a,b,h=>by cases b<;>simp_all [AV.eI];exact nJ BR.cK h
 |.func f x y,b,h=>by cases b<;>simp_all [AV.eI];exact⟨AV.lz _ _ h.1.2,AV.lz _ _ h.2⟩
 |.nilFunc,b,h=>by cases b<;>simp_all [AV.eI]
 |.iface t v,b,h=>by cases b<;>simp_all [AV.eI];exact AV.cK _ _ h.2
 |.nilIface,b,h=>by cases b<;>simp_all [AV.eI]
 |.agg x,b,h=>by cases b<;>simp_all [AV.eI];exact AV.lz _ _ h
 |.tuple x,b,h=>by cases b<;>simp_all [AV.eI];exact AV.lz _ _ h
 |.bC i,b,h=>by cases b<;>simp_all [AV.eI]
 |.raw v,b,h=>by cases b<;>simp_all [AV.eI]
 |.ss e,b,h=>by cases b<;>simp_all [AV.eI];exact SE.cK h
theorem AV.lz:∀(a b:List AV),AV.u7 a b=true->a=b
 |[],b,h=>by cases b<;>simp_all [AV.u7]
 |a::x,b,h=>by cases b<;>simp_all [AV.u7];exact⟨AV.cK _ _ h.1,AV.lz _ _ h.2⟩
end
theorem TT.cK:∀{a b:TT},a.eI b=true->a=b:=by
 intro a
 induction a with
 |leaf=>intro b h;cases b<;>simp_all [TT.eI]
 |node v l r ihl ihr=>intro b h;cases b<;>simp_all [TT.eI];exact⟨AV.cK _ _ h.1.1,ihl h.1.2,ihr h.2⟩
theorem uu:∀{a b:List (AV×AV)},lU a b=true->a=b:=by
 intro a
 induction a with
 |nil=>intro b h;cases b with
  |nil=>rfl
  |cons x l=>simp[lU]at h
 |cons x l ih=>intro b h;cases b with
  |nil=>simp[lU]at h
  |cons y m=>obtain⟨x1,x2⟩:=x;obtain⟨y1,y2⟩:=y;simp only[lU,an]at h;rw[AV.cK _ _ h.1.1,AV.cK _ _ h.1.2,ih h.2]
theorem uv:∀{a b:List (IE×AV)},lV a b=true->a=b:=by
 intro a
 induction a with
 |nil=>intro b h;cases b with
  |nil=>rfl
  |cons x l=>simp[lV]at h
 |cons x l ih=>intro b h;cases b with
  |nil=>simp[lV]at h
  |cons y m=>obtain⟨x1,x2⟩:=x;obtain⟨y1,y2⟩:=y;simp only[lV,an]at h;rw[IE.cK h.1.1,AV.cK _ _ h.1.2,ih h.2]
theorem zZ:∀{a b:List (AA×Option AV)},lK a b=true->a=b:=by
 intro a
 induction a with
 |nil=>intro b h;cases b with
  |nil=>rfl
  |cons x l=>simp[lK]at h
 |cons x l ih=>intro b h;cases b with
  |nil=>simp[lK]at h
  |cons y m=>obtain⟨x1,x2⟩:=x;obtain⟨y1,y2⟩:=y;simp only[lK,an]at h;rw[AA.cK h.1.1,nJ (fun h=>AV.cK _ _ h) h.1.2,ih h.2]
theorem bO.cK:∀{a b:bO},a.eI b=true->a=b:=by
 intro a b h;cases a<;>cases b<;>simp_all [bO.eI]
 ·exact AV.lz _ _ h.1
 ·exact⟨AV.lz _ _ h.1.1,IE.cK h.2⟩
 ·exact AV.lz _ _ h.1.1
 ·exact uu h
 ·obtain⟨⟨⟨h1,h2⟩,h3⟩,h4⟩:=h;exact⟨IE.cK h2,zZ h3,uu h4⟩
 ·obtain⟨⟨⟨⟨⟨⟨h1,h2⟩,h3⟩,h4⟩,h5⟩,h6⟩,h7⟩:=h;exact⟨IE.cK h2,uv h3,uv h4,AV.lz _ _ h5,IE.cK h7⟩
theorem A5:∀{a b:List (Nat×bO)},vE a b=true->a=b:=by
 intro a
 induction a with
 |nil=>intro b h;cases b<;>simp_all [vE]
 |cons p l ih=>
  intro b h;cases b with
  |nil=>simp[vE]at h
  |cons q m=>obtain⟨i,x⟩:=p;obtain⟨j,y⟩:=q;simp[vE,Nat.beq_eq]at h;obtain⟨⟨rfl,h2⟩,h3⟩:=h;rw[bO.cK h2,ih h3]
@[simp] theorem TT.VW(n:Nat):TT.leaf.get n=cJ:=rfl
@[simp] theorem TT.Nv(v:AV)(l r:TT):(TT.node v l r).get 0=v:=rfl
theorem TT.iu(v:AV)(l r:TT)(m:Nat):(TT.node v l r).get (m+1)=if m % 2=0 then r.get (m / 2)else l.get (m / 2):=by
 show(Bool.rec (motive:=fun _=>AV) (l.get (m / 2)) (r.get (m / 2)) (Nat.beq (m % 2) 0))=_;by_cases h:m % 2=0
 ·simp[h]
 ·simp only[if_neg h];have:Nat.beq (m % 2) 0=false:=by
   cases hb:Nat.beq (m % 2) 0 with
   |false=>rfl
   |true=>exact absurd (aH hb) h
  rw[this]
theorem TT.qR(v:AV)(f:Nat):TT.set v (f+1) .leaf 0=.node v .leaf .leaf:=rfl
theorem TT.qS(v u:AV)(f:Nat)(l r:TT):TT.set v (f+1) (.node u l r) 0=.node v l r:=rfl
theorem Fu(m:Nat)(h:¬m % 2=0):Nat.beq (m % 2) 0=false:=by
 cases hb:Nat.beq (m % 2) 0 with
 |false=>rfl
 |true=>exact absurd (aH hb) h
theorem TT.qT(v:AV)(f m:Nat):TT.set v (f+1) .leaf (m+1)=if m % 2=0 then .node cJ .leaf (TT.set v f .leaf (m / 2))else .node cJ (TT.set v f .leaf (m / 2)) .leaf:=by
 show Bool.rec (motive:=fun _=>TT) (TT.node cJ (TT.set v f .leaf (m / 2)) .leaf) (TT.node cJ .leaf (TT.set v f .leaf (m / 2))) (Nat.beq (m % 2) 0)=_;by_cases h:m % 2=0
 ·simp[h]
 ·rw[Fu m h,if_neg h]
theorem TT.qU(v u:AV)(f m:Nat)(l r:TT):TT.set v (f+1) (.node u l r) (m+1)=if m % 2=0 then .node u l (TT.set v f r (m / 2))else .node u (TT.set v f l (m / 2)) r:=by
 show Bool.rec (motive:=fun _=>TT) (TT.node u (TT.set v f l (m / 2)) r) (TT.node u l (TT.set v f r (m / 2))) (Nat.beq (m % 2) 0)=_;by_cases h:m % 2=0
 ·simp[h]
 ·rw[Fu m h,if_neg h]
theorem TT.r5(v:AV):∀(f:Nat) (t:TT) (n m:Nat),n+1<2 ^ f->(TT.set v f t n).get m=if m=n then v else t.get m:=by
 intro f
 induction f with
 |zero=>intro t n m h;simp at h
 |succ f ih=>
  intro t n m h;have alG:2 ^ (f+1)=2*2 ^ f:=by rw[Nat.pow_succ,Nat.mul_comm]
  cases t with
  |leaf=>
   cases n with
   |zero=>
    rw[TT.qR];cases m with
    |zero=>simp
    |succ m=>simp[TT.iu]
   |succ n=>
    have h':n / 2+1<2 ^ f:=by omega
    rw[TT.qT];cases m with
    |zero=>split<;>simp
    |succ m=>
     split<;>rename_i hn<;>rw[TT.iu]<;>split<;>rename_i hm
     ·rw[ih _ _ _ h'];by_cases e:m=n
      ·subst e;simp
      ·have:¬m / 2=n / 2:=by omega
       simp[this,e]
     ·have:¬m=n:=by omega
      simp[this]
     ·have:¬m=n:=by omega
      simp[this]
     ·rw[ih _ _ _ h'];by_cases e:m=n
      ·subst e;simp
      ·have:¬m / 2=n / 2:=by omega
       simp[this,e]
  |node u l r=>
   cases n with
   |zero=>
    rw[TT.qS];cases m with
    |zero=>simp
    |succ m=>simp[TT.iu]
   |succ n=>
    have h':n / 2+1<2 ^ f:=by omega
    rw[TT.qU];cases m with
    |zero=>split<;>simp
    |succ m=>
     split<;>rename_i hn<;>rw[TT.iu,TT.iu]<;>split<;>rename_i hm
     ·rw[ih _ _ _ h'];by_cases e:m=n
      ·subst e;simp
      ·have:¬m / 2=n / 2:=by omega
       simp[this,e]
     ·have:¬m=n:=by omega
      simp[this]
     ·have:¬m=n:=by omega
      simp[this]
     ·rw[ih _ _ _ h'];by_cases e:m=n
      ·subst e;simp
      ·have:¬m / 2=n / 2:=by omega
       simp[this,e]
theorem TT.r6:∀(l:List AV) (n:Nat) (t:TT) (m:Nat),n+l.length≤60000->(TT.fill l n t).get m=if n≤m∧m<n+l.length then l.getD (m-n) cJ else t.get m:=by
 intro l
 induction l with
 |nil=>intro n t m _;simp[TT.fill];intro h;omega
 |cons v l ih=>
  intro n t m h;simp only[aC]at h;rw[TT.fill,ih (n+1) _ m (by omega),TT.r5 v 16 t n m (by omega)];by_cases h1:n+1≤m∧m<n+1+l.length
  ·rw[if_pos h1,if_pos (by simp only[aC];omega)];have:m-n=(m-(n+1))+1:=by omega
   rw[this];simp
  ·rw[if_neg h1];by_cases h2:m=n
   ·subst h2;simp
   ·rw[if_neg h2,if_neg (by simp only[aC];omega)]
theorem p7(i:Nat):cE i []=none:=rfl
theorem dO(i j:Nat)(b:bO)(l:List (Nat×bO)):cE i ((j,b)::l)=if i=j then some b else cE i l:=by
 show Bool.rec (motive:=fun _=>Option bO) (cE i l) (some b) (Nat.beq i j)=_;by_cases h:i=j
 ·subst h;simp
 ·have:Nat.beq i j=false:=by
   cases hb:Nat.beq i j with
   |false=>rfl
   |true=>exact absurd (aH hb) h
  rw[this,if_neg h]
theorem yQ(i j:Nat)(b c:bO)(l:List (Nat×bO)):vA i b ((j,c)::l)=if i=j then(j,b)::l else(j,c)::vA i b l:=by
 show Bool.rec (motive:=fun _=>List (Nat×bO)) ((j,c)::vA i b l) ((j,b)::l) (Nat.beq i j)=_;by_cases h:i=j
 ·subst h;simp
 ·have:Nat.beq i j=false:=by
   cases hb:Nat.beq i j with
   |false=>rfl
   |true=>exact absurd (aH hb) h
  rw[this,if_neg h]
theorem vH(i j:Nat)(c:bO)(l:List (Nat×bO)):jk i ((j,c)::l)=if i=j then l else(j,c)::jk i l:=by
 show Bool.rec (motive:=fun _=>List (Nat×bO)) ((j,c)::jk i l) l (Nat.beq i j)=_;by_cases h:i=j
 ·subst h;simp
 ·have:Nat.beq i j=false:=by
   cases hb:Nat.beq i j with
   |false=>rfl
   |true=>exact absurd (aH hb) h
  rw[this,if_neg h]
theorem yR(i j:Nat)(b c:bO)(l:List (Nat×bO)):qP i b ((j,c)::l)=if j<i then(i,b)::(j,c)::l else(j,c)::qP i b l:=by
 show Bool.rec (motive:=fun _=>List (Nat×bO)) ((j,c)::qP i b l) ((i,b)::(j,c)::l) (Nat.ble (j+1) i)=_;by_cases h:j<i
 ·have:Nat.ble (j+1) i=true:=Nat.ble_eq_true_of_le h;rw[this,if_pos h]
 ·have:Nat.ble (j+1) i=false:=by
   cases hb:Nat.ble (j+1) i with
   |false=>rfl
   |true=>exact absurd (Nat.le_of_ble_eq_true hb) h
  rw[this,if_neg h]
def keys(l:List (Nat×bO)):List Nat:=l.map (·.1)
theorem dw(i j:Nat)(b:bO):∀l,cE j (vA i b l)=if j=i then(cE i l).map (fun _=>b)else cE j l
 |[]=>by simp[vA,p7]
 |(k,c)::l=>by
  rw[yQ];split
  ·rename_i h;subst h;rw[dO,dO,dO];split
   ·rename_i h;subst h;simp
   ·rename_i h;simp
  ·rename_i h;rw[dO,dw i j b l,dO,dO,if_neg h];by_cases e:j=k
   ·subst e;rw[if_pos rfl,if_neg (fun e=>h e.symm)];simp
   ·simp[e]
theorem vI{i:Nat}:∀{l:List (Nat×bO)},i∉keys l->cE i l=none
 |[],_=>rfl
 |(j,b)::l,h=>by simp[keys]at h;rw[dO,if_neg h.1];exact vI (by simp[keys];exact h.2)
theorem p8{i:Nat}{b:bO}:∀{l:List (Nat×bO)},cE i l=some b->i∈keys l
 |[],h=>by simp[p7]at h
 |(j,c)::l,h=>by
  rw[dO]at h;split at h
  ·rename_i e;subst e;simp[keys]
  ·have:=p8 h;simp[keys]at this⊢;exact .inr this
theorem ki(i j:Nat)(b:bO):∀l,i∉keys l->cE j (qP i b l)=if j=i then some b else cE j l
 |[],_=>by show cE j [(i,b)]=_;rw[dO,p7]
 |(k,c)::l,h=>by
  simp[keys]at h;rw[yR];split
  ·rw[dO]
  ·rw[dO,ki i j b l (by simp[keys];exact h.2),dO];by_cases e:j=k
   ·subst e;rw[if_pos rfl,if_neg (fun e=>h.1 e.symm),if_pos rfl]
   ·rw[if_neg e,if_neg e]
theorem tH(i:Nat)(b:bO):∀l,(keys (qP i b l)).Perm (i::keys l)
 |[]=>by show(keys [(i,b)]).Perm _;simp[keys]
 |(k,c)::l=>by
  rw[yR];split
  ·simp[keys]
  ·have:=tH i b l;simp only[keys,aK]at this⊢;exact(List.Perm.cons k this).trans (List.Perm.swap i k _)
theorem iW(i:Nat)(b:bO):∀l,keys (vA i b l)=keys l
 |[]=>rfl
 |(k,c)::l=>by
  rw[yQ];split
  ·simp[keys]
  ·have:=iW i b l;simp only[keys,aK]at this⊢;rw[this]
theorem iG(i j:Nat):∀l,(keys l).Nodup->cE j (jk i l)=if j=i then none else cE j l
 |[],_=>by simp[jk,p7]
 |(k,c)::l,h=>by
  simp only[keys,aK,List.nodup_cons]at h;rw[vH];split
  ·rename_i e;subst e;rw[dO];split
   ·rename_i e;subst e;exact vI h.1
   ·rfl
  ·rename_i e;rw[dO,iG i j l h.2,dO];by_cases e':j=k
   ·subst e';rw[if_pos rfl,if_neg (fun x=>e x.symm),if_pos rfl]
   ·rw[if_neg e',if_neg e']
theorem lY(i:Nat):∀l,(keys (jk i l)).Sublist (keys l)
 |[]=>List.Sublist.refl _
 |(k,c)::l=>by
  rw[vH];split
  ·simp[keys]
  ·have:=lY i l;simp only[keys,aK]at this⊢;exact this.cons_cons k
theorem iX{α β:Type}{eq:α->α->Bool}{a:α}{y:β}:∀{l:List (α×β)},look eq a l=some y->∃x,(x,y)∈l∧eq a x=true
 |[],h=>by simp[look]at h
 |(x,z)::l,h=>by
  have h':(Bool.rec (look eq a l) (some z) (eq a x):Option β)=some y:=h;cases e:eq a x with
  |true=>rw[e]at h';simp at h';subst h';exact⟨x,by simp,e⟩
  |false=>rw[e]at h';obtain⟨x',hm,he⟩:=iX (l:=l) h';exact⟨x',aa _ hm,he⟩
def wq{α:Type}(P:Program)(Ev:Event->Prop)(E:Value->World->Prop):Sem α->(α->World->Prop)->World->Prop
 |.pure a,Q,w=>Q a w
 |.load m a k,Q,w=>∃v,w.cell? a=some v∧Ev ⟨.cell a,false,m==.atomic⟩∧wq P Ev E (k v) Q w
 |.store m a v k,Q,w=>v.oneCell'=true∧(∃u,w.cell? a=some u)∧w.frozen? a=false∧Ev ⟨.cell a,true,m==.atomic⟩∧wq P Ev E k Q (w.setCell a v)
 |.new o k,Q,w=>wq P Ev E (k w.heap.size) Q {w with heap:=w.heap.push o}
 |.shape r k,Q,w=>wq P Ev E (k (w.shape? r)) Q w
 |.freeze _ _ _,_,_=>False
 |.frozen a k,Q,w=>wq P Ev E (k (w.frozen? a)) Q w
 |.getObj r k,Q,w=>∃o,w.heap[r]?=some o∧(∀c e f,o≠.cells c e f)∧Ev ⟨.obj r,false,o.isChan⟩∧wq P Ev E (k o) Q w
 |.setObj r o k,Q,w=>(∃o',w.heap[r]?=some o'∧∀c e f,o'≠.cells c e f)∧Ev ⟨.obj r,true,o.isChan⟩∧wq P Ev E k Q {w with heap:=w.heap.setIfInBounds r o}
 |.choose q k,Q,w=>if q.forced then wq P Ev E (k 0) Q w else ∀n,wq P Ev E (k (q.cut n)) Q {w with drawn:=w.drawn+1}
 |.sys _ _,_,_=>False
 |.program k,Q,w=>wq P Ev E (k P) Q w
 |.mark m k,Q,w=>Ev ⟨.mark m,false,true⟩∧wq P Ev E k Q w
 |.halt (.panic v),_,w=>E v w
 |.halt _,_,_=>False
def _root_.Go.Result.goes{α:Type}(Q:α->World->Prop)(E:Value->World->Prop):Result α->Prop
 |.ok a w=>Q a w
 |.halt (.panic v) w=>E v w
 |.halt _ _=>False
section
variable {α β:Type}{P:Program}{Ev:Event->Prop}{E:Value->World->Prop}
theorem JS(s:Sem α):∀{Q:α->World->Prop} {w:World} (es:Array Event),wq P Ev E s Q w->(∀e∈es,Ev e)->(s.runT P w es).1.goes Q E∧∀e∈(s.runT P w es).2,Ev e:=by
 have push:∀(es:Array Event) (x:Event),(∀e∈es,Ev e)->Ev x->∀e∈es.push x,Ev e:=fun es x h hx e he=>by
  rcases Array.mem_push.1 he with h'|rfl
  ·exact h _ h'
  ·exact hx
 induction s with
 |pure a=>intro Q w es h he;exact⟨h,he⟩
 |load m a k ih=>intro Q w es h he;obtain⟨v,hc,hv,hk⟩:=h;simp only[Sem.runT,hc];exact ih v _ hk (push _ _ he hv)
 |store m a v k ih=>
  intro Q w es h he;obtain⟨h1,⟨u,hu⟩,hf,hv,hk⟩:=h;cases v<;>first
   |(simp[Value.oneCell']at h1;done)
   |(simp only[Sem.runT,hu,hf,aF,if_false];exact ih _ hk (push _ _ he hv))
 |new o k ih=>intro Q w es h he;simp only[Sem.runT];exact ih _ _ h he
 |shape r k ih=>intro Q w es h he;simp only[Sem.runT];exact ih _ _ h he
 |freeze a n k ih=>intro Q w es h he;exact h.elim
 |frozen a k ih=>intro Q w es h he;simp only[Sem.runT];exact ih _ _ h he
 |getObj r k ih=>
  intro Q w es h he;obtain⟨o,ho,hn,hv,hk⟩:=h;simp only[Sem.runT,ho];cases o<;>first
   |exact absurd rfl (hn _ _ _)
   |exact ih _ _ hk (push _ _ he hv)
 |setObj r o k ih=>
  intro Q w es h he;obtain⟨⟨o',ho,hn⟩,hv,hk⟩:=h;simp only[Sem.runT,ho];cases o'<;>first
   |exact absurd rfl (hn _ _ _)
   |exact ih _ hk (push _ _ he hv)
 |choose q k ih=>
  intro Q w es h he;simp only[wq]at h;simp only[Sem.runT];split at h
  ·rename_i hq;rw[if_pos hq];exact ih _ _ h he
  ·rename_i hq;rw[if_neg hq];exact ih _ _ (h _) he
 |sys c k ih=>intro Q w es h he;exact h.elim
 |program k ih=>intro Q w es h he;simp only[Sem.runT];exact ih _ _ h he
 |mark m k ih=>intro Q w es h he;simp only[Sem.runT];exact ih _ h.2 (push _ _ he h.1)
 |halt x=>
  intro Q w es h he;cases x<;>first
   |exact⟨h,he⟩
   |exact(show False from h).elim
theorem lZ{s:Sem α}{Q:α->World->Prop}{w:World}(h:wq P Ev E s Q w):(s.run P w).goes Q E∧∀e∈s.events P w #[],Ev e:=by have:=JS s #[] h (by simp);rw[Sem.runT_fst]at this;exact this
theorem A6(x:Sem α)(f:α->Sem β){Q:β->World->Prop}:∀{w:World},wq P Ev E (x.bind f) Q w↔wq P Ev E x (fun a w=>wq P Ev E (f a) Q w) w:=by
 induction x with
 |pure a=>intro w;exact Iff.rfl
 |load m a k ih=>intro w;simp only[Sem.bind,wq,ih]
 |store m a v k ih=>intro w;simp only[Sem.bind,wq,ih]
 |new o k ih=>intro w;simp only[Sem.bind,wq,ih]
 |shape r k ih=>intro w;simp only[Sem.bind,wq,ih]
 |freeze a n k ih=>intro w;simp only[Sem.bind,wq]
 |frozen a k ih=>intro w;simp only[Sem.bind,wq,ih]
 |getObj r k ih=>intro w;simp only[Sem.bind,wq,ih]
 |setObj r o k ih=>intro w;simp only[Sem.bind,wq,ih]
 |choose q k ih=>intro w;simp only[Sem.bind,wq,ih]
 |sys c k ih=>intro w;simp only[Sem.bind,wq]
 |program k ih=>intro w;simp only[Sem.bind,wq,ih]
 |mark m k ih=>intro w;simp only[Sem.bind,wq,ih]
 |halt h=>intro w;cases h<;>simp only[Sem.bind,wq]
@[simp] theorem bF(x:Sem α)(f:α->Sem β){Q:β->World->Prop}{w:World}:wq P Ev E (x>>= f) Q w↔wq P Ev E x (fun a w=>wq P Ev E (f a) Q w) w:=A6 x f
@[simp] theorem JU(x:Sem α)(f:α->β){Q:β->World->Prop}{w:World}:wq P Ev E (f<$>x) Q w↔wq P Ev E x (fun a w=>Q (f a) w) w:=A6 x _
@[simp] theorem bG(a:α){Q:α->World->Prop}{w:World}:wq P Ev E (Pure.pure a) Q w↔Q a w:=Iff.rfl
@[simp] theorem VX(a:α){Q:α->World->Prop}{w:World}:wq P Ev E (Sem.pure a) Q w↔Q a w:=Iff.rfl
@[simp] theorem iH{Q:Program->World->Prop}{w:World}:wq P Ev E program Q w↔Q P w:=Iff.rfl
@[simp] theorem jJ(o:Obj){Q:Nat->World->Prop}{w:World}:wq P Ev E (newObj o) Q w↔Q w.heap.size {w with heap:=w.heap.push o}:=Iff.rfl
@[simp] theorem r7(r:Nat){Q:Option (TypeId×Nat)->World->Prop}{w:World}:wq P Ev E (shape r) Q w↔Q (w.shape? r) w:=Iff.rfl
@[simp] theorem nM(a:Addr){Q:Bool->World->Prop}{w:World}:wq P Ev E (frozen a) Q w↔Q (w.frozen? a) w:=Iff.rfl
@[simp] theorem oh(m:Mark){Q:Unit->World->Prop}{w:World}:wq P Ev E (mark m) Q w↔Ev ⟨.mark m,false,true⟩∧Q () w:=Iff.rfl
@[simp] theorem Dv(v:Value){Q:α->World->Prop}{w:World}:wq P Ev E (goPanic v) Q w↔E v w:=Iff.rfl
theorem vf(a:Addr)(m:Mode){Q:Value->World->Prop}{w:World}:wq P Ev E (load a m) Q w↔∃v,w.cell? a=some v∧Ev ⟨.cell a,false,m==.atomic⟩∧Q v w:=Iff.rfl
theorem o7(a:Addr)(v:Value)(m:Mode){Q:Unit->World->Prop}{w:World}:
 wq P Ev E (store a v m) Q w↔v.oneCell'=true∧(∃u,w.cell? a=some u)∧w.frozen? a=false∧Ev ⟨.cell a,true,m==.atomic⟩∧Q () (w.setCell a v):=Iff.rfl
theorem tI(q:Question){Q:Nat->World->Prop}{w:World}:wq P Ev E (choose q) Q w↔if q.forced then Q 0 w else ∀n,Q (q.cut n) {w with drawn:=w.drawn+1}:=Iff.rfl
@[simp] theorem gk(c:Prop)[Decidable c](x y:Sem α){Q:α->World->Prop}{w:World}:wq P Ev E (if c then x else y) Q w↔if c then wq P Ev E x Q w else wq P Ev E y Q w:=by split<;>exact Iff.rfl
theorem ND{s:Sem α}{Q Q':α->World->Prop}{E':Value->World->Prop}(hE:∀v w,E v w->E' v w)(hQ:∀a w,Q a w->Q' a w):∀{w:World},wq P Ev E s Q w->wq P Ev E' s Q' w:=by
 induction s with
 |pure a=>intro w h;exact hQ _ _ h
 |load m a k ih=>intro w h;obtain⟨v,h1,h2,h3⟩:=h;exact⟨v,h1,h2,ih _ h3⟩
 |store m a v k ih=>intro w h;obtain⟨h1,h2,h3,h4,h5⟩:=h;exact⟨h1,h2,h3,h4,ih h5⟩
 |new o k ih=>intro w h;exact ih _ h
 |shape r k ih=>intro w h;exact ih _ h
 |freeze a n k ih=>intro w h;exact h
 |frozen a k ih=>intro w h;exact ih _ h
 |getObj r k ih=>intro w h;obtain⟨o,h1,h2,h3,h4⟩:=h;exact⟨o,h1,h2,h3,ih _ h4⟩
 |setObj r o k ih=>intro w h;obtain⟨h1,h2,h3⟩:=h;exact⟨h1,h2,ih h3⟩
 |choose q k ih=>
  intro w h;simp only[wq]at h⊢;split
  ·rename_i hq;rw[if_pos hq]at h;exact ih _ h
  ·rename_i hq;rw[if_neg hq]at h;exact fun n=>ih _ (h n)
 |sys c k ih=>intro w h;exact h
 |program k ih=>intro w h;exact ih _ h
 |mark m k ih=>intro w h;exact⟨h.1,ih h.2⟩
 |halt h=>intro w hh;cases h<;>first|exact hE _ _ hh|exact hh
theorem dI{t:TypeId}{i:TypeInfo}(h:P.info? t=some i){Q:TypeInfo->World->Prop}{w:World}:wq P Ev E (typeInfo t) Q w↔Q i w:=by simp[typeInfo,h]
theorem bK{t:TypeId}{d:TypeDesc}(h:P.underlying t=some d){Q:TypeDesc->World->Prop}{w:World}:wq P Ev E (underlying t) Q w↔Q d w:=by simp[underlying,h]
theorem gm{s:Sem α}:∀{a:α},fZ P s=some a->∀{Q:α->World->Prop} {w:World},Q a w->wq P Ev E s Q w:=by
 induction s with
 |pure b=>intro a h Q w hq;simp[fZ]at h;subst h;exact hq
 |program k ih=>intro a h Q w hq;exact ih P h hq
 |_=>intro a h;simp[fZ]at h
end
theorem l5{P:Program}{t:TypeId}{n:Nat}(h:sizeOf? P t=.ok n):∃i,P.info? t=some i∧i.size=n:=by
 unfold sizeOf? at h;split at h
 ·rename_i i hi;exact⟨i,hi,by simpa using h⟩
 ·cases h
theorem cZ{P:Program}{t:TypeId}{d:TypeDesc}(h:under? P t=.ok d):P.underlying t=some d:=by
 unfold under? at h;split at h
 ·rename_i i hi;rw[hi];simpa using h
 ·cases h
theorem c6{P:Program}{Ev:Event->Prop}{E:Value->World->Prop}{t:TypeId}{n:Nat}(h:sizeOf? P t=.ok n){Q:Nat->World->Prop}{w:World}:wq P Ev E (sizeOf t) Q w↔Q n w:=by obtain⟨i,hi,rfl⟩:=l5 h;simp[sizeOf,dI hi]
theorem A7{P:Program}{Ev:Event->Prop}{E:Value->World->Prop}{t:TypeId}{b:Bool}(h:isAgg? P t=.ok b){Q:Bool->World->Prop}{w:World}:wq P Ev E (isAgg t) Q w↔Q b w:=by
 unfold isAgg? at h;split at h
 ·rename_i hu;cases h;simp[isAgg,bK hu]
 ·rename_i hu;cases h;simp[isAgg,bK hu]
 ·rename_i d h1 h2 hu;cases h;simp only[isAgg,bF,bK hu];cases d<;>first
   |exact absurd hu (h1 _)
   |exact absurd hu (h2 _ _)
   |exact Iff.rfl
 ·cases h
section
def IE.In(U:Nat->Prop):IE->Prop
 |.lit _=>True
 |.var i=>U i
 |.op _ _ a b=>a.In U∧b.In U
 |.conv _ a=>a.In U
 |.plus a b=>a.In U∧b.In U
 |.times a b=>a.In U∧b.In U
 |.tn a=>a.In U
 |.jj _=>True
def BE.In(U:Nat->Prop):BE->Prop
 |.lit _=>True
 |.var _=>True
 |.cmp _ a b=>a.In U∧b.In U
 |.seq _ _ _=>True
def BR.In(U:Nat->Prop):BR->Prop
 |.qN _=>True
 |.dyn i=>U i
def AA.In(U:Nat->Prop)(a:AA):Prop:=a.blk.In U∧a.off.In U
def k_{α:Type}(f:α->Prop):Option α->Prop
 |none=>True
 |some a=>f a
mutual
def AV.In(U:Nat->Prop):AV->Prop
 |.bool b=>b.In U
 |.int _ e=>e.In U
 |.ptr a=>k_ (AA.In U) a
 |.slice a l c=>k_ (AA.In U) a∧l.In U∧c.In U
 |.map r=>k_ (BR.In U) r
 |.chan r=>k_ (BR.In U) r
 |.func _ x y=>AV.iw U x∧AV.iw U y
 |.iface _ v=>v.In U
 |.agg x=>AV.iw U x
 |.tuple x=>AV.iw U x
 |.str _=>True
 |.nilFunc=>True
 |.nilIface=>True
 |.bC _=>True
 |.raw _=>True
 |.ss _=>True
def AV.iw(U:Nat->Prop):List AV->Prop
 |[]=>True
 |a::x=>a.In U∧AV.iw U x
end
def bO.In(U:Nat->Prop):bO->Prop
 |.cells cs _=>AV.iw U cs
 |.row cs _ c=>AV.iw U cs∧c.In U
 |.gi cs _ _=>AV.iw U cs
 |.map es=>∀p∈es,p.1.In U∧p.2.In U
 |.chan=>True
 |.jA _ n fs ws=>n.In U∧(∀p∈fs,p.1.In U∧k_ (AV.In U) p.2)∧∀p∈ws,p.1.In U∧p.2.In U
 |.pre _ _ n fs ws cs _ c=>n.In U∧(∀p∈fs,p.1.In U∧p.2.In U)∧(∀p∈ws,p.1.In U∧p.2.In U)∧AV.iw U cs∧c.In U
def TT.In(U:Nat->Prop)(t:TT):Prop:=∀n,(t.get n).In U
structure dH.In(U:Nat->Prop)(O:dH):Prop where
 bs:∀p∈O.bs,p.1.In U
 is:∀p∈O.is,p.1.In U∧p.2.In U
 mem:∀p∈O.mem,p.1.In U∧p.2.In U
theorem cS{U:Nat->Prop}:∀{l:List AV},AV.iw U l↔∀a∈l,a.In U
 |[]=>by simp[AV.iw]
 |a::l=>by simp[AV.iw,cS (l:=l)]
structure cv(U:Nat->Prop)(ρ ρ':Env):Prop where
 p:ρ'.p=ρ.p
 v:ρ'.v=ρ.v
 bt:ρ'.bt=ρ.bt
 i:∀n,U n->ρ'.i n=ρ.i n
 b:∀n,U n->ρ'.b n=ρ.b n
 s:ρ'.s=ρ.s
theorem cv.ii{U:Nat->Prop}{ρ ρ':Env}(A:cv U ρ ρ')(n:Nat)(h:U n:=by decide):ρ'.i n=ρ.i n:=A.i n h
theorem cv.bb{U:Nat->Prop}{ρ ρ':Env}(A:cv U ρ ρ')(n:Nat)(h:U n:=by decide):ρ'.b n=ρ.b n:=A.b n h
theorem cv.refl(U:Nat->Prop)(ρ:Env):cv U ρ ρ:=⟨rfl,rfl,rfl,fun _ _=>rfl,fun _ _=>rfl,rfl⟩
theorem cv.trans{U U':Nat->Prop}{ρ ρ' yf:Env}(h:cv U ρ ρ')(h':cv U' ρ' yf)(hs:∀n,U n->U' n):cv U ρ yf:=
 ⟨h'.p.trans h.p,h'.v.trans h.v,h'.bt.trans h.bt,fun n hn=>(h'.i n (hs n hn)).trans (h.i n hn),fun n hn=>(h'.b n (hs n hn)).trans (h.b n hn),h'.s.trans h.s⟩
theorem cv.mono{U U':Nat->Prop}{ρ ρ':Env}(h:cv U' ρ ρ')(hs:∀n,U n->U' n):cv U ρ ρ':=
 ⟨h.p,h.v,h.bt,fun n hn=>h.i n (hs n hn),fun n hn=>h.b n (hs n hn),h.s⟩
section
variable {U:Nat->Prop}{ρ ρ':Env}
theorem SE.bV(h:cv U ρ ρ'){e:SE}:e.ev ρ'=e.ev ρ:=by
 induction e with
 |lit s=>rfl
 |var i=>simp only[SE.ev,h.s]
 |cat a b vJ ya=>simp only[SE.ev,vJ,ya]
theorem IE.bV(h:cv U ρ ρ'):∀{e:IE},e.In U->e.ev ρ'=e.ev ρ:=by
 intro e
 induction e with
 |lit n=>intro _;rfl
 |var i=>intro hi;exact h.i i hi
 |op o k a b vJ ya=>intro hi;simp only[IE.ev];rw[vJ hi.1,ya hi.2]
 |conv k a ih=>intro hi;simp only[IE.ev];rw[ih hi]
 |plus a b vJ ya=>intro hi;simp only[IE.ev];rw[vJ hi.1,ya hi.2]
 |times a b vJ ya=>intro hi;simp only[IE.ev];rw[vJ hi.1,ya hi.2]
 |tn a ih=>intro hi;simp only[IE.ev];rw[ih hi]
 |jj a=>intro _;simp only[IE.ev];rw[SE.bV h]
theorem BE.bV(h:cv U ρ ρ'){e:BE}(hi:e.In U):e.ev ρ'=e.ev ρ:=by
 cases e with
 |lit b=>rfl
 |var i=>simp[BE.ev,h.p]
 |cmp o a b=>simp only[BE.ev];rw[IE.bV h hi.1,IE.bV h hi.2]
 |seq n a b=>simp only[BE.ev];rw[SE.bV h,SE.bV h]
theorem BR.bV(h:cv U ρ ρ'){e:BR}(hi:e.In U):e.ev ρ'=e.ev ρ:=by
 cases e with
 |qN g=>rfl
 |dyn i=>exact h.b i hi
theorem AA.bV(h:cv U ρ ρ'){e:AA}(hi:e.In U):e.ev ρ'=e.ev ρ:=by simp only[AA.ev,BR.bV h hi.1,IE.bV h hi.2]
theorem p9{α β:Type}{f g:α->β}{I:α->Prop}(hf:∀{a},I a->f a=g a):∀{o:Option α},k_ I o->o.map f=o.map g
 |none,_=>rfl
 |some a,h=>by simp[hf h]
mutual
theorem AV.bV(h:cv U ρ ρ'):∀(a:AV),a.In U->a.ev ρ'=a.ev ρ
 |.bool b,hi=>by simp only[AV.ev,BE.bV h hi]
 |.int k e,hi=>by simp only[AV.ev,IE.bV h hi]
 |.str s,_=>rfl
 |.ptr a,hi=>by simp only[AV.ev];rw[p9 (fun x=>AA.bV h x) hi]
 |.slice a l c,hi=>by simp only[AV.ev];rw[p9 (fun x=>AA.bV h x) hi.1,IE.bV h hi.2.1,IE.bV h hi.2.2]
 |.map r,hi=>by simp only[AV.ev];rw[p9 (fun x=>BR.bV h x) hi]
 |.chan r,hi=>by simp only[AV.ev];rw[p9 (fun x=>BR.bV h x) hi]
 |.func f x y,hi=>by simp only[AV.ev];rw[AV.fe h x hi.1,AV.fe h y hi.2]
 |.nilFunc,_=>rfl
 |.iface t v,hi=>by simp only[AV.ev];rw[AV.bV h v hi]
 |.nilIface,_=>rfl
 |.agg x,hi=>by simp only[AV.ev];rw[AV.fe h x hi]
 |.tuple x,hi=>by simp only[AV.ev];rw[AV.fe h x hi]
 |.bC i,_=>by simp only[AV.ev,h.v]
 |.raw v,_=>rfl
 |.ss e,_=>by simp only[AV.ev];rw[SE.bV h]
theorem AV.fe(h:cv U ρ ρ'):∀(l:List AV),AV.iw U l->AV.evs ρ' l=AV.evs ρ l
 |[],_=>rfl
 |a::l,hi=>by simp only[AV.evs];rw[AV.bV h a hi.1,AV.fe h l hi.2]
end
end
section
variable {U U':Nat->Prop}(hs:∀n,U n->U' n)
 include hs
theorem IE.In.mono:∀{e:IE},e.In U->e.In U':=by
 intro e
 induction e with
 |lit n=>intro _;trivial
 |var i=>exact hs i
 |op o k a b vJ ya=>exact fun h=>⟨vJ h.1,ya h.2⟩
 |conv k a ih=>exact ih
 |plus a b vJ ya=>exact fun h=>⟨vJ h.1,ya h.2⟩
 |times a b vJ ya=>exact fun h=>⟨vJ h.1,ya h.2⟩
 |tn a ih=>exact ih
 |jj a=>exact fun _=>trivial
theorem BE.In.mono{e:BE}(h:e.In U):e.In U':=by
 cases e with
 |cmp o a b=>exact⟨IE.In.mono hs h.1,IE.In.mono hs h.2⟩
 |_=>trivial
theorem BR.In.mono{e:BR}(h:e.In U):e.In U':=by
 cases e with
 |qN g=>trivial
 |dyn i=>exact hs i h
theorem AA.In.mono{e:AA}(h:e.In U):e.In U':=⟨BR.In.mono hs h.1,IE.In.mono hs h.2⟩
theorem k_.mono{α:Type}{f g:α->Prop}(hf:∀{a},f a->g a):∀{o:Option α},k_ f o->k_ g o
 |none,_=>trivial
 |some _,h=>hf h
mutual
theorem AV.In.mono:∀(a:AV),a.In U->a.In U'
 |.bool _,h=>BE.In.mono hs h
 |.int _ _,h=>IE.In.mono hs h
 |.str _,_=>trivial
 |.ptr _,h=>k_.mono hs (fun x=>AA.In.mono hs x) h
 |.slice _ _ _,h=>⟨k_.mono hs (fun x=>AA.In.mono hs x) h.1,IE.In.mono hs h.2.1,IE.In.mono hs h.2.2⟩
 |.map _,h=>k_.mono hs (fun x=>BR.In.mono hs x) h
 |.chan _,h=>k_.mono hs (fun x=>BR.In.mono hs x) h
 |.func _ x y,h=>⟨AV.iw.mono x h.1,AV.iw.mono y h.2⟩
 |.nilFunc,_=>trivial
 |.iface _ v,h=>AV.In.mono v h
 |.nilIface,_=>trivial
 |.agg x,h=>AV.iw.mono x h
 |.tuple x,h=>AV.iw.mono x h
 |.bC _,_=>trivial
 |.raw _,_=>trivial
 |.ss _,_=>trivial
theorem AV.iw.mono:∀(l:List AV),AV.iw U l->AV.iw U' l
 |[],_=>trivial
 |a::l,h=>⟨AV.In.mono a h.1,AV.iw.mono l h.2⟩
end
theorem bO.In.mono{b:bO}(h:b.In U):b.In U':=by
 cases b with
 |cells cs e=>exact AV.iw.mono hs _ h
 |row cs e c=>exact⟨AV.iw.mono hs _ h.1,IE.In.mono hs h.2⟩
 |gi cs e l=>exact AV.iw.mono hs _ h
 |map es=>exact fun p hp=>⟨AV.In.mono hs _ (h p hp).1,AV.In.mono hs _ (h p hp).2⟩
 |chan=>trivial
 |jA s n fs ws=>exact⟨IE.In.mono hs h.1,fun p hp=>⟨AA.In.mono hs (h.2.1 p hp).1,k_.mono hs (fun x=>AV.In.mono hs _ x) (h.2.1 p hp).2⟩,fun p hp=>⟨AV.In.mono hs _ (h.2.2 p hp).1,AV.In.mono hs _ (h.2.2 p hp).2⟩⟩
 |pre lk s n fs ws cs e c=>exact⟨IE.In.mono hs h.1,fun p hp=>⟨IE.In.mono hs (h.2.1 p hp).1,AV.In.mono hs _ (h.2.1 p hp).2⟩,fun p hp=>⟨IE.In.mono hs (h.2.2.1 p hp).1,AV.In.mono hs _ (h.2.2.1 p hp).2⟩,AV.iw.mono hs _ h.2.2.2.1,IE.In.mono hs h.2.2.2.2⟩
theorem TT.In.mono{t:TT}(h:t.In U):t.In U':=fun n=>AV.In.mono hs _ (h n)
theorem dH.In.mono{O:dH}(h:O.In U):O.In U':=
 ⟨fun p hp=>BE.In.mono hs (h.bs p hp),fun p hp=>⟨IE.In.mono hs (h.is p hp).1,IE.In.mono hs (h.is p hp).2⟩,fun p hp=>⟨AA.In.mono hs (h.mem p hp).1,AV.In.mono hs _ (h.mem p hp).2⟩⟩
end
structure Ctx where
 P:Program
 O:dH
 own:Nat->Prop
 Ev:Event->Prop
 lock:Prop
 still:Nat->Nat->Prop
def JV:Mark->Bool
 |.acquire _|.release _|.releaseMerge _|.extern _|.noRoom=>true
 |_=>false
structure Ctx.Good(K:Ctx):Prop where
 rd:∀a s,K.own a.block->K.Ev ⟨.cell a,false,s⟩
 wr:∀a s,K.own a.block->¬K.still a.block a.off->K.Ev ⟨.cell a,true,s⟩
 NF:∀b n s,K.still b n->¬K.Ev ⟨.cell ⟨b,n,none⟩,true,s⟩
 ext:∀m,JV m=true->K.Ev ⟨.mark m,false,true⟩
 noRoom:K.Ev ⟨.mark .noRoom,false,true⟩
 lock:K.lock->∀m,K.Ev ⟨.mark m,false,true⟩
 obj:∀r wr s,K.own r->K.Ev ⟨.obj r,wr,s⟩
def bO.elem:bO->TypeId
 |.cells _ e=>e
 |.row _ e _=>e
 |.gi _ e _=>e
 |.map _=>0
 |.chan=>0
 |.jA _ _ _ _=>0
 |.pre _ _ _ _ _ _ e _=>e
def wrote(ρ:Env)(l:List Value)(ws:List (IE×AV)):List Value:=ws.foldr (fun p l=>l.set (p.1.ev ρ).toNat (p.2.ev ρ)) l
structure vK(P:Program)(ρ:Env)(s:Nat)(n:IE)(fs ws:List (IE×AV))(e:TypeId)(i:TypeInfo)(pre:Array Value):Prop where
 val:ρ.v s=.agg pre
 info:P.info? e=some i
 size:pre.size=(n.ev ρ).toNat*i.size
 fs:∀p∈fs,pre[(p.1.ev ρ).toNat]?=some (p.2.ev ρ)
 ws:∀p∈ws,(p.1.ev ρ).toNat<pre.size
def bO.fits(P:Program)(ρ:Env):bO->Array Value->Prop
 |.cells cs _,arr=>arr.toList=AV.evs ρ cs
 |.gi cs _ _,arr=>arr.toList=AV.evs ρ cs
 |.row cs e c,arr=>∃rest i,arr.toList=AV.evs ρ cs++rest∧P.info? e=some i∧arr.size=(c.ev ρ).toNat*i.size
 |.map _,_=>False
 |.chan,_=>False
 |.jA _ _ _ _,_=>False
 |.pre _ s n fs ws cs e c,arr=>∃pre rest i,vK P ρ s n fs ws e i pre∧arr.toList=wrote ρ pre.toList ws++(AV.evs ρ cs++rest)∧arr.size=(c.ev ρ).toNat*i.size
def JW(E:List (Value×Value)):Value:=.agg (E.map fun p=>Value.agg #[p.1,p.2]).toArray
def r8(ρ:Env)(E:List (Value×Value))(a:AA)(r:Option AV):Prop:=
 (∀q∈E,∃off,q.1=.pointer (some ⟨(a.ev ρ).block,off,none⟩))∧match r with
  |some v=>∃E1 E2,E=E1++(.pointer (some (a.ev ρ)),v.ev ρ)::E2∧∀q∈E1,q.1≠.pointer (some (a.ev ρ))
  |none=>∀q∈E,q.1≠.pointer (some (a.ev ρ))
def bO.JX(ρ:Env):bO->Obj->Prop
 |.map es,o=>∃arr nu,o=.map arr nu∧arr.toList.map (fun e=>(e.key,e.val))=es.map fun p=>(p.1.ev ρ,p.2.ev ρ)
 |.chan,o=>∃k,o=.chan 0 #[] false k k false
 |.jA s n fs ws,o=>∃arr nu E,o=.map arr nu∧ρ.v s=JW E∧E.length=(n.ev ρ).toNat∧arr.toList.map (fun e=>(e.key,e.val))=E++ws.map (fun p=>(p.1.ev ρ,p.2.ev ρ))∧∀p∈fs,r8 ρ E p.1 p.2
 |_,_=>False
def bO.is(P:Program)(ρ:Env)(b:bO)(o:Obj):Prop:=(∃arr,o=.cells arr b.elem (0,0)∧b.fits P ρ arr)∨b.JX ρ o
def bO.kY(P:Program)(ρ:Env):bO->Nat->Prop
 |.pre lk _ m _ _ _ e _,n=>lk=true∧∃i,P.info? e=some i∧n<(m.ev ρ).toNat*i.size
 |b,n=>b.qQ n=true
structure Rel(K:Ctx)(ρ:Env)(h:AH)(w:World):Prop where
 blk:∀i b,cE i h.hp=some b->∃o,w.heap[ρ.b i]?=some o∧b.is K.P ρ o
 qV:∀i b,cE i h.hp=some b->K.own (ρ.b i)∨(b.isChan=true∧K.still (ρ.b i) 0)
 inj:∀i j b c,cE i h.hp=some b->cE j h.hp=some c->ρ.b i=ρ.b j->i=j
 bs:∀p∈K.O.bs,p.1.ev ρ=p.2
 is:∀p∈K.O.is,p.1.ev ρ=p.2.ev ρ
 mem:∀p∈K.O.mem,¬K.own (p.1.ev ρ).block∧w.cell? (p.1.ev ρ)=some (p.2.ev ρ)∧∀s,K.Ev ⟨.cell (p.1.ev ρ),false,s⟩
 room:∀n,w.heap.size≤n->K.own n
 gi:∀i b,cE i h.hp=some b->∀n,K.still (ρ.b i) n->b.kY K.P ρ n
 low:∀b n,K.still b n->b<w.heap.size
structure f_(K:Ctx)(U:Nat->Prop)(h:AH):Prop where
 hp:∀i b,cE i h.hp=some b->b.In U
 keys:∀i∈keys h.hp,U i
 nodup:(Go.Proofs.YtmobbajggkjpgaaGreat.SX.keys h.hp).Nodup
 fresh:∀n,h.nb≤n->n<h.fJ->¬U n
 A8:K.O.In U
structure bS(own:Nat->Prop)(w w':World):Prop where
 heap:∀n,¬own n->w'.heap[n]?=w.heap[n]?
 size:w.heap.size≤w'.heap.size
 tape:w'.tape=w.tape
 os:w'.os=w.os
 output:w'.output=w.output
theorem bS.refl(own:Nat->Prop)(w:World):bS own w w:=⟨fun _ _=>rfl,ax _,rfl,rfl,rfl⟩
theorem bS.trans{own:Nat->Prop}{w w' w'':World}(h:bS own w w')(h':bS own w' w''):bS own w w'':=
 ⟨fun n hn=>(h'.heap n hn).trans (h.heap n hn),aA h.size h'.size,h'.tape.trans h.tape,h'.os.trans h.os,h'.output.trans h.output⟩
theorem jx{w:World}{n:Nat}{o:Obj}(h:w.heap[n]?=some o):n<w.heap.size:=by
 rcases Nat.lt_or_ge n w.heap.size with h'|h'
 ·exact h'
 ·simp[Array.getElem?_eq_none h']at h
theorem jm{w:World}{b o:Nat}{arr:Array Value}{e:TypeId}{f:Nat×Nat}(h:w.heap[b]?=some (.cells arr e f)):w.cell? ⟨b,o,none⟩=arr[o]?:=by simp[World.cell?,h]
theorem h_{w:World}{b o:Nat}{arr:Array Value}{e:TypeId}(h:w.heap[b]?=some (.cells arr e (0,0))):w.frozen? ⟨b,o,none⟩=false:=by simp[World.frozen?,h]
theorem mR(ρ:Env)(l:List AV)(n:Nat):(AV.evs ρ l)[n]?=(l[n]?).map (AV.ev ρ):=by rw[iU];simp
theorem cM(ρ:Env)(l:List AV):(AV.evs ρ l).length=l.length:=by rw[iU];simp
theorem jC(ρ:Env)(l m:List AV):AV.evs ρ (l++m)=AV.evs ρ l++AV.evs ρ m:=by simp[iU]
theorem vg(ρ:Env)(l:List AV)(n:Nat)(v:AV):AV.evs ρ (l.set n v)=(AV.evs ρ l).set n (v.ev ρ):=by simp[iU,List.map_set]
theorem vL{P:Program}{ρ:Env}{b:bO}{arr:Array Value}(h:b.fits P ρ arr){n:Nat}{v:AV}(hn:b.cs[n]?=some v):arr[n]?=some (v.ev ρ):=by
 have hlt:n<b.cs.length:=(aq.1 hn).1;cases b with
 |cells cs e=>simp only[bO.fits]at h;rw[<-bn,h,mR];simp only[bO.cs]at hn;rw[hn];rfl
 |gi cs e l=>simp only[bO.fits]at h;rw[<-bn,h,mR];simp only[bO.cs]at hn;rw[hn];rfl
 |row cs e c=>obtain⟨rest,i,h1,h2,h3⟩:=h;simp only[bO.cs]at hn hlt;rw[<-bn,h1,aV (by rw[cM];exact hlt),mR,hn];rfl
 |map es=>exact h.elim
 |chan=>exact h.elim
 |jA s n fs ws=>exact h.elim
 |pre lk s n fs ws cs e c=>simp[bO.cs]at hlt
theorem JY{P:Program}{ρ:Env}{b:bO}{arr:Array Value}(h:b.fits P ρ arr){n:Nat}{v:AV}(hn:n<b.cs.length):(b.put (b.cs.set n v)).fits P ρ (arr.setIfInBounds n (v.ev ρ)):=by
 cases b with
 |cells cs e=>simp only[bO.fits,bO.put,bO.cs]at h⊢;rw[Array.toList_setIfInBounds,h,vg]
 |gi cs e l=>simp only[bO.fits,bO.put,bO.cs]at h⊢;rw[Array.toList_setIfInBounds,h,vg]
 |row cs e c=>obtain⟨rest,i,h1,h2,h3⟩:=h;simp only[bO.cs]at hn;refine⟨rest,i,?_,h2,by simpa using h3⟩;simp only[bO.cs];rw[Array.toList_setIfInBounds,h1,vg,List.set_append_left _ _ (by rw[cM];exact hn)]
 |map es=>exact h.elim
 |chan=>exact h.elim
 |jA s n fs ws=>exact h.elim
 |pre lk s n fs ws cs e c=>simp[bO.cs]at hn
theorem o8{U:Nat->Prop}{ρ ρ':Env}(ha:cv U ρ ρ')(l:List Value):∀{ws:List (IE×AV)},(∀p∈ws,p.1.In U∧p.2.In U)->wrote ρ' l ws=wrote ρ l ws
 |[],_=>rfl
 |p::ws,h=>by have h1:=o8 ha l (ws:=ws) fun q hq=>h q (aa _ hq);show(wrote ρ' l ws).set _ _=(wrote ρ l ws).set _ _;rw[h1,IE.bV ha (h p (ai ..)).1,AV.bV ha _ (h p (ai ..)).2]
theorem vK.mS{P:Program}{U:Nat->Prop}{ρ ρ':Env}(ha:cv U ρ ρ'){s:Nat}{n:IE}{fs ws:List (IE×AV)}{e:TypeId}{i:TypeInfo}{pre:Array Value}(hn:n.In U)(hf:∀p∈fs,p.1.In U∧p.2.In U)(hw:∀p∈ws,p.1.In U∧p.2.In U)(h:vK P ρ s n fs ws e i pre):vK P ρ' s n fs ws e i pre:=
 ⟨by rw[ha.v];exact h.val,h.info,by rw[IE.bV ha hn];exact h.size,fun p hp=>by rw[IE.bV ha (hf p hp).1,AV.bV ha _ (hf p hp).2];exact h.fs p hp,fun p hp=>by rw[IE.bV ha (hw p hp).1];exact h.ws p hp⟩
theorem Hv{P:Program}{ρ:Env}{b:bO}{n m:Nat}(h:m<b.cs.length)(hl:b.kY P ρ n):b.qQ n=true:=by cases b<;>first|exact hl|(simp[bO.cs]at h)
theorem Dw{P:Program}{ρ:Env}{b:bO}{m:Nat}(h:m<b.cs.length)(cs:List AV)(n:Nat)(P':Program)(ρ':Env):(b.put cs).kY P' ρ' n↔b.kY P ρ n:=by cases b<;>first|exact Iff.rfl|(simp[bO.cs]at h)
theorem z0{P:Program}{U:Nat->Prop}{ρ ρ':Env}(A:cv U ρ ρ'){b:bO}(hb:b.In U){n:Nat}:b.kY P ρ' n↔b.kY P ρ n:=by
 cases b with
 |pre lk s m fs ws cs e c=>simp only[bO.kY,IE.bV A hb.1]
 |_=>exact Iff.rfl
theorem JZ(b:bO)(cs:List AV):(b.put cs).elem=b.elem:=by cases b<;>rfl
theorem qW{P:Program}{U:Nat->Prop}{ρ ρ':Env}(ha:cv U ρ ρ'){b:bO}(hb:b.In U){arr:Array Value}(h:b.fits P ρ arr):b.fits P ρ' arr:=by
 cases b with
 |cells cs e=>simp only[bO.fits]at h⊢;rw[AV.fe ha _ hb];exact h
 |gi cs e l=>simp only[bO.fits]at h⊢;rw[AV.fe ha _ hb];exact h
 |row cs e c=>obtain⟨rest,i,h1,h2,h3⟩:=h;exact⟨rest,i,by rw[AV.fe ha _ hb.1];exact h1,h2,by rw[IE.bV ha hb.2];exact h3⟩
 |map es=>exact h.elim
 |chan=>exact h.elim
 |jA s n fs ws=>exact h.elim
 |pre lk s n fs ws cs e c=>obtain⟨pre,rest,i,h1,h2,h3⟩:=h;obtain⟨b1,b2,b3,b4,b5⟩:=hb;exact⟨pre,rest,i,h1.mS ha b1 b2 b3,by rw[o8 ha _ b3,AV.fe ha _ b4];exact h2,by rw[IE.bV ha b5];exact h3⟩
theorem A9{U:Nat->Prop}{ρ ρ':Env}(ha:cv U ρ ρ'){b:bO}(hb:b.In U){o:Obj}(h:b.JX ρ o):b.JX ρ' o:=by
 cases b with
 |map es=>obtain⟨arr,nu,h1,h2⟩:=h;refine⟨arr,nu,h1,h2.trans (a_ fun p hp=>?_)⟩;rw[AV.bV ha _ (hb p hp).1,AV.bV ha _ (hb p hp).2]
 |chan=>exact h
 |jA s n fs ws=>
  obtain⟨arr,nu,E,h1,h2,h3,h4,h5⟩:=h;obtain⟨b1,b2,b3⟩:=hb;refine⟨arr,nu,E,h1,by rw[ha.v];exact h2,by rw[IE.bV ha b1];exact h3,h4.trans ?_,fun p hp=>?_⟩
  ·congr 1;refine a_ fun p hp=>?_;rw[AV.bV ha _ (b3 p hp).1,AV.bV ha _ (b3 p hp).2]
  ·obtain⟨k1,k2⟩:=h5 p hp;obtain⟨c1,c2⟩:=b2 p hp;unfold r8;rw[AA.bV ha c1];refine⟨k1,?_⟩;obtain⟨a,r⟩:=p;cases r with
   |none=>exact k2
   |some v=>have c2':v.In U:=c2;dsimp only at k2⊢;rw[AV.bV ha _ c2'];exact k2
 |_=>exact h.elim
theorem A_{P:Program}{U:Nat->Prop}{ρ ρ':Env}(ha:cv U ρ ρ'){b:bO}(hb:b.In U){o:Obj}(h:b.is P ρ o):b.is P ρ' o:=
 h.elim (fun⟨arr,h1,h2⟩=>.inl ⟨arr,h1,qW ha hb h2⟩) fun h=>.inr (A9 ha hb h)
theorem r9{b:bO}{n:Nat}(h:n<b.cs.length):b.nF=true:=by cases b<;>first|rfl|(simp[bO.cs]at h)
theorem Hw{b:bO}{n:Nat}{v:AV}(h:b.cs[n]?=some v):b.nF=true:=r9 (aq.1 h).1
theorem QZ{P:Program}{ρ:Env}{b:bO}{o:Obj}(h:b.is P ρ o)(hm:b.nF=true):∃arr,o=.cells arr b.elem (0,0)∧b.fits P ρ arr:=by
 rcases h with h|h
 ·exact h
 ·cases b with
  |map es=>cases hm
  |chan=>cases hm
  |jA s n fs ws=>cases hm
  |_=>exact h.elim
theorem Rel.arr{K:Ctx}{ρ:Env}{h:AH}{w:World}(R:Rel K ρ h w){i:Nat}{b:bO}(hb:cE i h.hp=some b)(hm:b.nF=true):∃arr,w.heap[ρ.b i]?=some (.cells arr b.elem (0,0))∧b.fits K.P ρ arr:=by obtain⟨o,h1,h2⟩:=R.blk i b hb;obtain⟨arr,rfl,h3⟩:=QZ h2 hm;exact⟨arr,h1,h3⟩
section
variable {K:Ctx}{ρ:Env}{h:AH}{w:World}{U:Nat->Prop}
theorem Rel.at(R:Rel K ρ h w){w':World}(hh:w'.heap=w.heap):Rel K ρ h w':=
 ⟨fun i b hb=>by rw[hh];exact R.blk i b hb,R.qV,R.inj,R.bs,R.is,fun p hp=>by have:=R.mem p hp;rw[show w'.cell? (p.1.ev ρ)=w.cell? (p.1.ev ρ)from by simp[World.cell?,hh]];exact this,by rw[hh];exact R.room,R.gi,by rw[hh];exact R.low⟩
theorem Rel.own{K:Ctx}{ρ:Env}{h:AH}{w:World}(R:Rel K ρ h w)(i:Nat)(b:bO)(hb:cE i h.hp=some b)(hc:b.isChan=false):K.own (ρ.b i):=
 (R.qV i b hb).elim id fun x=>by rw[hc]at x;cases x.1
theorem vM{b:bO}{n:Nat}(h:n<b.cs.length):b.isChan=false:=by cases b<;>first|rfl|(simp[bO.cs]at h)
theorem Ba{b:bO}{n:Nat}{v:AV}(h:b.cs[n]?=some v):b.isChan=false:=vM (aq.1 h).1
theorem Bb(ρ:Env):∀(e:IE),(e.ev ρ).toNat=((fq e).1.ev ρ).toNat+(fq e).2∧∀c,e=.tn c->(c.ev ρ).toNat=((fq c).1.ev ρ).toNat+(fq c).2:=by
 intro e
 induction e with
 |plus a b vJ ya=>
  refine⟨?_,fun c h=>by cases h⟩;cases a with
  |tn c=>
   cases b with
   |lit n=>
    cases n with
    |ofNat j=>
     have ih:=vJ.2 c rfl;simp only[fq,IE.ev];have:(((c.ev ρ).toNat:Int)+Int.ofNat j).toNat=(c.ev ρ).toNat+j:=by simp;omega
     rw[this,ih];omega
    |negSucc j=>simp[fq]
   |_=>simp[fq]
  |_=>simp[fq]
 |lit n=>exact⟨by cases n<;>simp[fq,IE.ev],fun c h=>by cases h⟩
 |tn a ih=>exact⟨by simp[fq],fun c h=>by cases h;exact ih.1⟩
 |_=>exact⟨by simp[fq],fun c h=>by cases h⟩
theorem p_(ρ:Env)(e:IE):(e.ev ρ).toNat=((fq e).1.ev ρ).toNat+(fq e).2:=(Bb ρ e).1
theorem yS{a b:IE}(h:sameAt a b=true)(ρ:Env):(a.ev ρ).toNat=(b.ev ρ).toNat:=by unfold sameAt at h;rw[an]at h;rw[p_ ρ a,p_ ρ b,IE.cK h.1,aH h.2]
theorem Dx{a b:IE}(h:zY a b=true)(ρ:Env):(a.ev ρ).toNat≠(b.ev ρ).toNat:=by
 unfold zY at h;rw[an]at h;rw[p_ ρ a,p_ ρ b,IE.cK h.1];have h2:=h.2;intro e;have:(fq a).2=(fq b).2:=by omega
 rw[this]at h2;simp at h2
theorem lB(ρ:Env)(l:List Value):∀(ws:List (IE×AV)),(wrote ρ l ws).length=l.length
 |[]=>rfl
 |p::ws=>by show((wrote ρ l ws).set _ _).length=_;rw[List.length_set,lB ρ l ws]
theorem Fv{P:Program}{ρ:Env}{s:Nat}{n:IE}{fs0 ws:List (IE×AV)}{e:TypeId}{i:TypeInfo}{pre:Array Value}(h:vK P ρ s n fs0 ws e i pre){a:IE}{v:AV}:∀{fs:List (IE×AV)},(∀p∈fs,p∈fs0)->Ht a fs=some v->pre.toList[(a.ev ρ).toNat]?=some (v.ev ρ)
 |[],_,hv=>by cases hv
 |p::fs,hs,hv=>by
  unfold Ht at hv;split at hv
  ·rename_i hsame;cases hv;rw[yS hsame ρ];simpa using h.fs p (hs p (ai ..))
  ·exact Fv h (fun q hq=>hs q (aa _ hq)) hv
theorem z4{P:Program}{ρ:Env}{s:Nat}{n:IE}{fs ws0:List (IE×AV)}{e:TypeId}{i:TypeInfo}{pre:Array Value}(h:vK P ρ s n fs ws0 e i pre){a:IE}{v:AV}:∀{ws:List (IE×AV)},(∀p∈ws,p∈ws0)->Dt a fs ws=some v->(wrote ρ pre.toList ws)[(a.ev ρ).toNat]?=some (v.ev ρ)
 |[],_,hv=>Fv h (fun _ hp=>hp) hv
 |p::ws,hs,hv=>by
  unfold Dt at hv;show((wrote ρ pre.toList ws).set _ _)[_]?=_;split at hv
  ·rename_i hsame;cases hv;rw[yS hsame ρ,List.getElem?_set_self (by rw[lB];simpa using h.ws p (hs p (ai ..)))]
  ·split at hv
   ·rename_i hap;rw[List.getElem?_set_ne (fun e=>Dx hap ρ e.symm)];exact z4 h (fun q hq=>hs q (aa _ hq)) hv
   ·cases hv
theorem Fw{P:Program}{ρ:Env}{b:bO}{arr:Array Value}(h:b.fits P ρ arr){a:IE}{v:AV}(hv:b.JM a=some v):arr[(a.ev ρ).toNat]?=some (v.ev ρ):=by
 cases b with
 |pre lk s n fs ws cs e c=>obtain⟨pre,rest,i,h1,h2,h3⟩:=h;have h4:=z4 h1 (fun _ hp=>hp) hv;rw[<-bn,h2,aV (aq.1 h4).1];exact h4
 |_=>cases hv
theorem Bc{b:bO}{a:IE}{v:AV}(hv:b.JM a=some v):b.nF=true∧b.isChan=false:=by cases b<;>first|exact⟨rfl,rfl⟩|cases hv
theorem Fx{U:Nat->Prop}{a:IE}{v:AV}:∀{fs:List (IE×AV)},(∀p∈fs,p.1.In U∧p.2.In U)->Ht a fs=some v->v.In U
 |[],_,hv=>by cases hv
 |p::fs,hs,hv=>by
  unfold Ht at hv;split at hv
  ·cases hv;exact(hs p (ai ..)).2
  ·exact Fx (fun q hq=>hs q (aa _ hq)) hv
theorem Fy{U:Nat->Prop}{a:IE}{v:AV}{fs:List (IE×AV)}(hf:∀p∈fs,p.1.In U∧p.2.In U):∀{ws:List (IE×AV)},(∀p∈ws,p.1.In U∧p.2.In U)->Dt a fs ws=some v->v.In U
 |[],_,hv=>Fx hf hv
 |p::ws,hs,hv=>by
  unfold Dt at hv;split at hv
  ·cases hv;exact(hs p (ai ..)).2
  ·split at hv
   ·exact Fy hf (fun q hq=>hs q (aa _ hq)) hv
   ·cases hv
theorem NG{U:Nat->Prop}{b:bO}(hb:b.In U){a:IE}{v:AV}(hv:b.JM a=some v):v.In U:=by
 cases b with
 |pre lk s n fs ws cs e c=>exact Fy hb.2.1 hb.2.2.1 hv
 |_=>cases hv
theorem NH{P:Program}{ρ:Env}{b b':bO}{arr:Array Value}(h:b.fits P ρ arr){a:IE}{v:AV}(hv:b.JN a v=some b'):b'.fits P ρ (arr.setIfInBounds (a.ev ρ).toNat (v.ev ρ))∧b'.elem=b.elem∧b'.isChan=false∧b.nF=true∧(∀m,¬b.kY P ρ m)∧∃u,b.JM a=some u:=by
 cases b with
 |pre lk s n fs ws cs e c=>
  unfold bO.JN at hv;dsimp only at hv;split at hv
  ·rename_i u hu;cases hv;obtain⟨pre,rest,i,h1,h2,h3⟩:=h;have h4:=z4 h1 (fun _ hp=>hp) hu;have hlt:=(aq.1 h4).1;refine⟨⟨pre,rest,i,⟨h1.val,h1.info,h1.size,h1.fs,fun p hp=>?_⟩,?_,by simpa using h3⟩,rfl,rfl,rfl,fun m hm=>by(cases hm.1),u,hu⟩
   ·rcases aj.1 hp with rfl|hp
    ·rw[lB]at hlt;simpa using hlt
    ·exact h1.ws p hp
   ·rw[Array.toList_setIfInBounds,h2,List.set_append_left _ _ hlt];rfl
  ·cases hv
 |_=>cases hv
theorem NI{U:Nat->Prop}{b b':bO}(hb:b.In U){a:IE}{v:AV}(ha:a.In U)(hi:v.In U)(hv:b.JN a v=some b'):b'.In U:=by
 cases b with
 |pre lk s n fs ws cs e c=>
  unfold bO.JN at hv;dsimp only at hv;split at hv
  ·cases hv;exact⟨hb.1,hb.2.1,fun p hp=>(aj.1 hp).elim (fun e=>e▸⟨ha,hi⟩) (hb.2.2.1 p),hb.2.2.2⟩
  ·cases hv
 |_=>cases hv
theorem Bd(R:Rel K ρ h w)(G:K.Good){a:AA}{v:AV}(hl:yO K.O h a=.ok v):w.cell? (a.ev ρ)=some (v.ev ρ)∧∀s,K.Ev ⟨.cell (a.ev ρ),false,s⟩:=by
 have old:∀{v:AV},(match look AA.eI a K.O.mem with|some v=>(Except.ok v:M AV)|none=>.error "load an unknown cell")=.ok v->w.cell? (a.ev ρ)=some (v.ev ρ)∧∀s,K.Ev ⟨.cell (a.ev ρ),false,s⟩:=by
  intro v hv;split at hv
  ·rename_i u hu;cases hv;obtain⟨x,hx,he⟩:=iX hu;obtain rfl:=AA.cK he;exact⟨(R.mem _ hx).2.1,(R.mem _ hx).2.2⟩
  ·cases hv
 obtain⟨blk,off⟩:=a;unfold yO at hl;dsimp only at hl;split at hl
 ·rename_i i n;split at hl
  ·rename_i b hb;split at hl
   ·rename_i u hu;cases hl;obtain⟨arr,ha,hf⟩:=R.arr hb (Hw hu);refine⟨?_,fun s=>G.rd _ _ (R.own _ _ hb (Ba hu))⟩;rw[show AA.ev ρ ⟨.dyn i,.lit (.ofNat n)⟩=⟨ρ.b i,n,none⟩from rfl,jm ha];exact vL hf hu
   ·cases hl
  ·exact old hl
 ·exact old hl
theorem J0(I:f_ K U h){a:AA}{v:AV}(hl:yO K.O h a=.ok v):v.In U:=by
 have old:∀{v:AV},(match look AA.eI a K.O.mem with|some v=>(Except.ok v:M AV)|none=>.error "load an unknown cell")=.ok v->v.In U:=by
  intro v hv;split at hv
  ·rename_i u hu;cases hv;obtain⟨x,hx,he⟩:=iX hu;exact(I.A8.mem _ hx).2
  ·cases hv
 unfold yO at hl;dsimp only at hl;split at hl
 ·split at hl
  ·rename_i b hb;split at hl
   ·rename_i u hu;cases hl;have:=I.hp _ _ hb;have hm:=ay hu;cases b with
    |cells cs e=>exact cS.1 this _ hm
    |gi cs e l=>exact cS.1 this _ hm
    |row cs e c=>exact cS.1 this.1 _ hm
    |map es=>cases hm
    |chan=>cases hm
    |jA s n fs ws=>cases hm
    |pre lk s n fs ws cs e c=>cases hm
   ·cases hl
  ·exact old hl
 ·exact old hl
theorem o9(R:Rel K ρ h w)(G:K.Good){a:AA}{v:AV}(hl:rT K.O h a=.ok v):w.cell? (a.ev ρ)=some (v.ev ρ)∧∀s,K.Ev ⟨.cell (a.ev ρ),false,s⟩:=by
 unfold rT at hl;split at hl
 ·rename_i u hu;cases hl;exact Bd R G hu
 ·split at hl
  ·rename_i u hu;cases hl;obtain⟨blk,off⟩:=a;unfold preAt? at hu;dsimp only at hu;split at hu
   ·rename_i i _;split at hu
    ·rename_i b hb;obtain⟨m1,m2⟩:=Bc hu;obtain⟨arr,ha,hf⟩:=R.arr hb m1;refine⟨?_,fun s=>G.rd _ _ (R.own _ _ hb m2)⟩;rw[show AA.ev ρ ⟨.dyn i,off⟩=⟨ρ.b i,(off.ev ρ).toNat,none⟩from rfl,jm ha];exact Fw hf hu
    ·cases hu
   ·cases hu
  ·cases hl
theorem vN(I:f_ K U h){a:AA}{v:AV}(hl:rT K.O h a=.ok v):v.In U:=by
 unfold rT at hl;split at hl
 ·rename_i u hu;cases hl;exact J0 I hu
 ·split at hl
  ·rename_i u hu;cases hl;unfold preAt? at hu;split at hu
   ·split at hu
    ·rename_i b hb;exact NG (I.hp _ _ hb) hu
    ·cases hu
   ·cases hu
  ·cases hl
theorem NJ(ρ:Env)(a:IE)(n:Nat):((yd a n).ev ρ).toNat=(a.ev ρ).toNat+n:=by
 unfold yd;split
 ·simp[IE.ev];omega
 ·split
  ·rename_i h;subst h;simp
  ·simp only[IE.ev];simp;omega
theorem NK{a:IE}(n:Nat)(hi:a.In U):(yd a n).In U:=by
 unfold yd;split
 ·trivial
 ·split
  ·exact hi
  ·exact⟨hi,trivial⟩
theorem AA.qX(ρ:Env)(a:AA)(n:Nat):(a.add n).ev ρ=(a.ev ρ).add n:=by
 simp only[AA.ev,AA.add,Addr.add,NJ];split
 ·rename_i h;subst h;simp
 ·rfl
theorem AA.tJ{a:AA}(n:Nat)(hi:a.In U):(a.add n).In U:=⟨hi.1,NK n hi.2⟩
theorem kR(R:Rel K ρ h w)(G:K.Good){E:Value->World->Prop}{a:AA}:∀{n j:Nat} {l:List AV} {acc:Array Value},kN K.O h a n j=.ok l->
  ∀{Q:Array Value->World->Prop},Q (acc++(AV.evs ρ l).toArray) w->wq K.P K.Ev E (loadCellsFrom (a.ev ρ) j n acc) Q w:=by
 intro n
 induction n with
 |zero=>intro j l acc hl Q hq;simp[kN]at hl;subst hl;simpa[loadCellsFrom,AV.evs] using hq
 |succ n ih=>
  intro j l acc hl Q hq;simp only[kN]at hl;split at hl
  ·rename_i v hv;split at hl
   ·rename_i l' hl';cases hl;obtain⟨hc,he⟩:=o9 R G hv;rw[AA.qX]at hc he;simp only[loadCellsFrom,bF];rw[vf];refine⟨_,hc,he _,ih hl' ?_⟩;simpa[AV.evs] using hq
   ·cases hl
  ·cases hl
theorem r_(I:f_ K U h){a:AA}:∀{n j:Nat} {l:List AV},kN K.O h a n j=.ok l->AV.iw U l:=by
 intro n
 induction n with
 |zero=>intro j l hl;simp[kN]at hl;subst hl;trivial
 |succ n ih=>
  intro j l hl;simp only[kN]at hl;split at hl
  ·rename_i v hv;split at hl
   ·rename_i l' hl';cases hl;exact⟨vN I hv,ih hl'⟩
   ·cases hl
  ·cases hl
theorem sg{O:dH}{a:AA}:∀{n j:Nat} {l:List AV},kN O h a n j=.ok l->l.length=n:=by
 intro n
 induction n with
 |zero=>intro j l hl;simp[kN]at hl;subst hl;rfl
 |succ n ih=>
  intro j l hl;simp only[kN]at hl;split at hl
  ·split at hl
   ·rename_i l' hl';cases hl;simp[ih hl']
   ·cases hl
  ·cases hl
theorem heap_setCell(w:World)(a:Addr)(v:Value)(n:Nat):(w.setCell a v).heap[n]?=if n=a.block then(w.heap[n]?).map (fun
   |.cells c elem frozen=>.cells (if a.spot.isSome then c else c.setIfInBounds a.off v) elem frozen
   |o=>o)else w.heap[n]?:=by
 simp only[World.setCell,Array.getElem?_modify];by_cases e:a.block=n
 ·subst e;rw[if_pos rfl,if_pos rfl];rfl
 ·rw[if_neg e,if_neg (fun x=>e x.symm)]
theorem size_setCell(w:World)(a:Addr)(v:Value):(w.setCell a v).heap.size=w.heap.size:=by simp[World.setCell]
theorem om{v:AV}(ho:v.oneCell?=true)(ρ:Env):(v.ev ρ).oneCell'=true:=by cases v<;>simp_all [AV.oneCell?,AV.ev,Value.oneCell']
theorem z5(R:Rel K ρ h w)(G:K.Good){a:AA}{v:AV}{h':AH}(hs:og h a v=.ok h'):
  (v.ev ρ).oneCell'=true∧(∃u,w.cell? (a.ev ρ)=some u)∧w.frozen? (a.ev ρ)=false∧(∀s,K.Ev ⟨.cell (a.ev ρ),true,s⟩)∧Rel K ρ h' (w.setCell (a.ev ρ) (v.ev ρ))∧bS K.own w (w.setCell (a.ev ρ) (v.ev ρ))∧h'.nb=h.nb∧h'.fJ=h.fJ:=by
 obtain⟨blk,off⟩:=a;unfold og at hs;dsimp only at hs;split at hs
 ·rename_i i n;split at hs
  ·rename_i b hb;split at hs
   ·rename_i hc;cases hs;simp only[an,decide_eq_true_eq,Bool.not_eq_true']at hc;obtain⟨⟨hlt,ho⟩,Dy⟩:=hc;have Be:¬K.still (ρ.b i) n:=fun x=>by
     have:=Hv hlt (R.gi _ _ hb n x);rw[this]at Dy;cases Dy
    obtain⟨arr,ha,hf⟩:=R.arr hb (r9 hlt);have hown:=R.own _ _ hb (vM hlt);have hev:AA.ev ρ ⟨.dyn i,.lit (.ofNat n)⟩=⟨ρ.b i,n,none⟩:=rfl;rw[hev];obtain⟨u,hu⟩:∃u,b.cs[n]?=some u:=⟨_,af hlt⟩;refine⟨om ho ρ,⟨_,(jm ha).trans (vL hf hu)⟩,h_ ha,fun s=>G.wr _ _ hown Be,?_,?_,rfl,rfl⟩
    ·refine⟨fun j c hj=>?_,fun j c hj=>?_,fun j k c d hj hk e=>?_,R.bs,R.is,fun p hp=>?_,fun m hm=>R.room m (by rw[size_setCell]at hm;exact hm),fun j c hj m hm=>?_,fun b m hm=>by rw[size_setCell];exact R.low b m hm⟩
     ·rw[dw]at hj;split at hj
      ·rename_i e;subst e;rw[hb]at hj;cases hj;refine⟨.cells (arr.setIfInBounds n (v.ev ρ)) b.elem (0,0),?_,.inl ⟨_,by rw[JZ],JY hf hlt⟩⟩;rw[heap_setCell,if_pos rfl,ha];rfl
      ·rename_i e;obtain⟨gn,ha',hf'⟩:=R.blk _ _ hj;refine⟨gn,?_,hf'⟩;rw[heap_setCell,if_neg (fun x=>e (R.inj _ _ _ _ hj hb x)),ha']
     ·rw[dw]at hj;split at hj
      ·rename_i e;subst e;exact .inl hown
      ·exact R.qV _ _ hj
     ·rw[dw]at hj hk;split at hj<;>split at hk
      ·rename_i e1 e2;exact e1.trans e2.symm
      ·rename_i e1 e2;subst e1;exact R.inj _ _ _ _ hb hk e
      ·rename_i e1 e2;subst e2;exact R.inj _ _ _ _ hj hb e
      ·exact R.inj _ _ _ _ hj hk e
     ·obtain⟨m1,m2,m3⟩:=R.mem p hp;refine⟨m1,?_,m3⟩;have hne:(p.1.ev ρ).block≠ρ.b i:=fun x=>m1 (x▸hown);simp only[World.cell?]at m2⊢;rw[heap_setCell,if_neg hne];exact m2
     ·rw[dw]at hj;split at hj
      ·rename_i e;subst e;rw[hb]at hj;cases hj;exact(Dw hlt _ _ _ _).2 (R.gi _ _ hb m hm)
      ·exact R.gi _ _ hj m hm
    ·refine⟨fun m hm=>?_,by rw[size_setCell];exact ax _,rfl,rfl,rfl⟩;rw[heap_setCell,if_neg (fun x=>hm (by rw[x];exact hown))]
   ·cases hs
  ·cases hs
 ·cases hs
theorem Dz(I:f_ K U h){a:AA}{v:AV}{h':AH}(hs:og h a v=.ok h')(hv:v.In U):f_ K U h':=by
 obtain⟨blk,off⟩:=a;unfold og at hs;dsimp only at hs;split at hs
 ·split at hs
  ·rename_i b hb;split at hs
   ·cases hs;refine⟨fun j c hj=>?_,fun j hj=>I.keys j (by rw[iW]at hj;exact hj),by rw[iW];exact I.nodup,I.fresh,I.A8⟩;rw[dw]at hj;split at hj
    ·rw[hb]at hj;cases hj;have AU:=I.hp _ _ hb;have Hx:∀(l:List AV) (n:Nat),AV.iw U l->AV.iw U (l.set n v):=fun l n hl=>cS.2 fun a ha=>by
      rcases List.mem_or_eq_of_mem_set ha with h'|rfl
      ·exact cS.1 hl _ h'
      ·exact hv
     cases b with
     |cells cs e=>exact Hx _ _ AU
     |gi cs e l=>exact Hx _ _ AU
     |row cs e c=>exact⟨Hx _ _ AU.1,AU.2⟩
     |map es=>exact AU
     |chan=>exact AU
     |jA s n fs ws=>exact AU
     |pre lk s n fs ws cs e c=>exact AU
    ·exact I.hp _ _ hj
   ·cases hs
  ·cases hs
 ·cases hs
theorem z6(R:Rel K ρ h w)(G:K.Good){a:AA}{v:AV}{h':AH}(hs:preSet? h a v=some h'):
  (v.ev ρ).oneCell'=true∧(∃u,w.cell? (a.ev ρ)=some u)∧w.frozen? (a.ev ρ)=false∧(∀s,K.Ev ⟨.cell (a.ev ρ),true,s⟩)∧Rel K ρ h' (w.setCell (a.ev ρ) (v.ev ρ))∧bS K.own w (w.setCell (a.ev ρ) (v.ev ρ))∧h'.nb=h.nb∧h'.fJ=h.fJ:=by
 obtain⟨blk,off⟩:=a;unfold preSet? at hs;dsimp only at hs;split at hs
 ·rename_i i;split at hs
  ·rename_i b hb;split at hs
   ·rename_i b' hb';split at hs
    ·rename_i ho;cases hs;have hmem:b.nF=true:=by cases b<;>first|rfl|cases hb'
     obtain⟨arr,ha,hf⟩:=R.arr hb hmem;obtain⟨f1,f2,f3,f4,f5,u,hu⟩:=NH hf hb';have hown:=R.own _ _ hb (Bc hu).2;have Be:¬K.still (ρ.b i) (off.ev ρ).toNat:=fun x=>by exact f5 _ (R.gi _ _ hb _ x)
     have hev:AA.ev ρ ⟨.dyn i,off⟩=⟨ρ.b i,(off.ev ρ).toNat,none⟩:=rfl;rw[hev];have hcell:=Fw hf hu;generalize(off.ev ρ).toNat=n at*;refine⟨om ho ρ,⟨_,(jm ha).trans hcell⟩,h_ ha,fun s=>G.wr _ _ hown Be,?_,?_,rfl,rfl⟩
     ·refine⟨fun j c hj=>?_,fun j c hj=>?_,fun j k c d hj hk e=>?_,R.bs,R.is,fun p hp=>?_,fun m hm=>R.room m (by rw[size_setCell]at hm;exact hm),fun j c hj m hm=>?_,fun b m hm=>by rw[size_setCell];exact R.low b m hm⟩
      ·rw[dw]at hj;split at hj
       ·rename_i e;subst e;rw[hb]at hj;cases hj;refine⟨.cells (arr.setIfInBounds n (v.ev ρ)) b'.elem (0,0),?_,.inl ⟨_,rfl,f1⟩⟩;rw[heap_setCell,if_pos rfl,ha,f2];rfl
       ·rename_i e;obtain⟨gn,ha',hf'⟩:=R.blk _ _ hj;refine⟨gn,?_,hf'⟩;rw[heap_setCell,if_neg (fun x=>e (R.inj _ _ _ _ hj hb x)),ha']
      ·rw[dw]at hj;split at hj
       ·rename_i e;subst e;exact .inl hown
       ·exact R.qV _ _ hj
      ·rw[dw]at hj hk;split at hj<;>split at hk
       ·rename_i e1 e2;exact e1.trans e2.symm
       ·rename_i e1 e2;subst e1;exact R.inj _ _ _ _ hb hk e
       ·rename_i e1 e2;subst e2;exact R.inj _ _ _ _ hj hb e
       ·exact R.inj _ _ _ _ hj hk e
      ·obtain⟨m1,m2,m3⟩:=R.mem p hp;refine⟨m1,?_,m3⟩;have hne:(p.1.ev ρ).block≠ρ.b i:=fun x=>m1 (x▸hown);simp only[World.cell?]at m2⊢;rw[heap_setCell,if_neg hne];exact m2
      ·rw[dw]at hj;split at hj
       ·rename_i e;subst e;rw[hb]at hj;cases hj;exact absurd (R.gi _ _ hb m hm) (f5 m)
       ·exact R.gi _ _ hj m hm
     ·refine⟨fun m hm=>?_,by rw[size_setCell];exact ax _,rfl,rfl,rfl⟩;rw[heap_setCell,if_neg (fun x=>hm (by rw[x];exact hown))]
    ·cases hs
   ·cases hs
  ·cases hs
 ·cases hs
theorem ia(R:Rel K ρ h w)(G:K.Good){a:AA}{v:AV}{h':AH}(hs:gJ h a v=.ok h'):
  (v.ev ρ).oneCell'=true∧(∃u,w.cell? (a.ev ρ)=some u)∧w.frozen? (a.ev ρ)=false∧(∀s,K.Ev ⟨.cell (a.ev ρ),true,s⟩)∧Rel K ρ h' (w.setCell (a.ev ρ) (v.ev ρ))∧bS K.own w (w.setCell (a.ev ρ) (v.ev ρ))∧h'.nb=h.nb∧h'.fJ=h.fJ:=by
 unfold gJ at hs;split at hs
 ·rename_i h1 hh;cases hs;exact z5 R G hh
 ·split at hs
  ·rename_i h1 hh;cases hs;exact z6 R G hh
  ·cases hs
theorem vO(I:f_ K U h){a:AA}{v:AV}{h':AH}(hs:gJ h a v=.ok h')(ha:a.In U)(hv:v.In U):f_ K U h':=by
 unfold gJ at hs;split at hs
 ·rename_i h1 hh;cases hs;exact Dz I hh hv
 ·split at hs
  ·rename_i h1 hh;cases hs;unfold preSet? at hh;split at hh
   ·rename_i i hi;split at hh
    ·rename_i b hb;split at hh
     ·rename_i b' hb';split at hh
      ·cases hh;refine⟨fun j c hj=>?_,fun j hj=>I.keys j (by rw[iW]at hj;exact hj),by rw[iW];exact I.nodup,I.fresh,I.A8⟩;rw[dw]at hj;split at hj
       ·rw[hb]at hj;cases hj;exact NI (I.hp _ _ hb) ha.2 hv hb'
       ·exact I.hp _ _ hj
      ·cases hh
     ·cases hh
    ·cases hh
   ·cases hh
  ·cases hs
theorem oo(G:K.Good){E:Value->World->Prop}{a:AA}:∀{l:List AV} {j:Nat} {h h':AH} {w:World},Rel K ρ h w->kh h a l j=.ok h'->
  ∀{Q:Unit->World->Prop},(∀w',Rel K ρ h' w'->bS K.own w w'->h'.nb=h.nb->h'.fJ=h.fJ->Q () w')->wq K.P K.Ev E (storeCells (a.ev ρ) (AV.evs ρ l) j) Q w:=by
 intro l
 induction l with
 |nil=>intro j h h' w R hs Q hq;simp[kh]at hs;subst hs;exact hq w R (bS.refl _ _) rfl rfl
 |cons v l ih=>
  intro j h h' w R hs Q hq;simp only[kh]at hs;split at hs
  ·rename_i h1 VY;obtain⟨s1,s2,s3,s4,s5,s6,s7,s8⟩:=ia R G VY;rw[AA.qX]at s2 s3 s4 s5 s6;simp only[AV.evs,storeCells,bF];rw[o7];exact⟨s1,s2,s3,s4 _,ih s5 hs fun w' r1 r2 r3 r4=>hq w' r1 (s6.trans r2) (r3.trans s7) (r4.trans s8)⟩
  ·cases hs
theorem qY{a:AA}(ha:a.In U):∀{l:List AV} {j:Nat} {h h':AH},f_ K U h->kh h a l j=.ok h'->AV.iw U l->f_ K U h':=by
 intro l
 induction l with
 |nil=>intro j h h' I hs _;simp[kh]at hs;subst hs;exact I
 |cons v l ih=>
  intro j h h' I hs hv;simp only[kh]at hs;split at hs
  ·rename_i h1 VY;exact ih (vO I VY (AA.tJ j ha) hv.1) hs hv.2
  ·cases hs
end
end
def Env.upd(ρ:Env)(n m:Nat)(c:Int):Env:={ρ with b:=fun x=>if x=n then m else ρ.b x,i:=fun x=>if x=n then c else ρ.i x}
def plus(U:Nat->Prop)(a b:Nat):Nat->Prop:=fun n=>U n∨(a≤n∧n<b)
theorem b_{U:Nat->Prop}{a b:Nat}:∀n,U n->plus U a b n:=fun _ h=>.inl h
theorem fM{U:Nat->Prop}{ρ:Env}{n m:Nat}{c:Int}(h:¬U n):cv U ρ (ρ.upd n m c):=
 ⟨rfl,rfl,rfl,fun x hx=>by
  have:x≠n:=fun e=>h (e▸hx);simp[Env.upd,this],fun x hx=>by
  have:x≠n:=fun e=>h (e▸hx);simp[Env.upd,this],rfl⟩
section
variable {K:Ctx}{ρ:Env}{h:AH}{w:World}{U:Nat->Prop}
theorem Rel.mS(R:Rel K ρ h w)(I:f_ K U h){ρ':Env}(A:cv U ρ ρ'):Rel K ρ' h w:=by
 have hk:∀i b,cE i h.hp=some b->ρ'.b i=ρ.b i:=fun i b hb=>A.b i (I.keys i (p8 hb));refine⟨fun i b hb=>?_,fun i b hb=>by rw[hk i b hb];exact R.qV i b hb,fun i j b c hb hc e=>R.inj i j b c hb hc (by rw[hk i b hb,hk j c hc]at e;exact e),fun p hp=>?_,fun p hp=>?_,fun p hp=>?_,R.room,fun i b hb n hs=>(z0 A (I.hp i b hb)).2 (R.gi i b hb n (by rw[hk i b hb]at hs;exact hs)),R.low⟩
 ·obtain⟨arr,ha,hf⟩:=R.blk i b hb;exact⟨arr,by rw[hk i b hb];exact ha,A_ A (I.hp i b hb) hf⟩
 ·rw[BE.bV A (I.A8.bs p hp)];exact R.bs p hp
 ·rw[IE.bV A (I.A8.is p hp).1,IE.bV A (I.A8.is p hp).2];exact R.is p hp
 ·rw[AA.bV A (I.A8.mem p hp).1,AV.bV A _ (I.A8.mem p hp).2];exact R.mem p hp
theorem Rel.VZ(R:Rel K ρ h w)(I:f_ K U h)(hlt:h.nb<h.fJ){m:Nat}{c:Int}{b:bO}{o:Obj}(hm:w.heap[m]?=some o)(hown:K.own m)
 (hne:∀j x,cE j h.hp=some x->ρ.b j≠m)(hst:∀n,K.still m n->b.kY K.P (ρ.upd h.nb m c) n)(hf:b.is K.P (ρ.upd h.nb m c) o):Rel K (ρ.upd h.nb m c) ⟨qP h.nb b h.hp,h.nb+1,h.fJ⟩ w:=by
 have yg:¬U h.nb:=I.fresh _ (ax _) hlt;have hnk:h.nb∉Go.Proofs.YtmobbajggkjpgaaGreat.SX.keys h.hp:=fun hk=>yg (I.keys _ hk);have R':=R.mS I (fM (m:=m) (c:=c) yg);have hb0:(ρ.upd h.nb m c).b h.nb=m:=by simp[Env.upd]
 have hbj:∀j x,cE j h.hp=some x->(ρ.upd h.nb m c).b j=ρ.b j:=fun j x hx=>(fM (m:=m) (c:=c) yg).b j (I.keys j (p8 hx));refine⟨fun i x hx=>?_,fun i x hx=>?_,fun i j x y hx hy e=>?_,R'.bs,R'.is,R'.mem,R'.room,fun i x hx n hs=>?_,R'.low⟩
 ·rw[ki _ _ _ _ hnk]at hx;split at hx
  ·rename_i e;subst e;cases hx;rw[hb0];exact⟨o,hm,hf⟩
  ·exact R'.blk i x hx
 ·rw[ki _ _ _ _ hnk]at hx;split at hx
  ·rename_i e;subst e;cases hx;rw[hb0];exact .inl hown
  ·exact R'.qV i x hx
 ·rw[ki _ _ _ _ hnk]at hx hy;split at hx<;>split at hy
  ·rename_i e1 e2;exact e1.trans e2.symm
  ·rename_i e1 e2;subst e1;rw[hb0,hbj j y hy]at e;exact absurd e.symm (hne j y hy)
  ·rename_i e1 e2;subst e2;rw[hb0,hbj i x hx]at e;exact absurd e (hne i x hx)
  ·exact R'.inj i j x y hx hy e
 ·rw[ki _ _ _ _ hnk]at hx;split at hx
  ·rename_i e;subst e;cases hx;rw[hb0]at hs;exact hst n hs
  ·exact R'.gi i x hx n hs
theorem Rel.V0(R:Rel K ρ h w)(I:f_ K U h)(hlt:h.nb<h.fJ){m:Nat}{c:Int}{b:bO}{o:Obj}(hm:w.heap[m]?=some o)(hown:K.own m)
 (hne:∀j x,cE j h.hp=some x->ρ.b j≠m)(hst:∀n,¬K.still m n)(hf:b.is K.P (ρ.upd h.nb m c) o):Rel K (ρ.upd h.nb m c) ⟨qP h.nb b h.hp,h.nb+1,h.fJ⟩ w:=
 R.VZ I hlt hm hown hne (fun n hs=>absurd hs (hst n)) hf
theorem Rel.ins(R:Rel K ρ h w)(I:f_ K U h)(hlt:h.nb<h.fJ){m:Nat}{c:Int}{b:bO}{arr:Array Value}(hm:w.heap[m]?=some (.cells arr b.elem (0,0)))(hown:K.own m)
 (hne:∀j x,cE j h.hp=some x->ρ.b j≠m)(hst:∀n,¬K.still m n)(hf:b.fits K.P (ρ.upd h.nb m c) arr):Rel K (ρ.upd h.nb m c) ⟨qP h.nb b h.hp,h.nb+1,h.fJ⟩ w:=
 R.V0 I hlt hm hown hne hst (.inl ⟨arr,rfl,hf⟩)
theorem f_.ins(I:f_ K U h)(hlt:h.nb<h.fJ){b:bO}(hb:b.In (plus U h.nb (h.nb+1))):f_ K (plus U h.nb (h.nb+1)) ⟨qP h.nb b h.hp,h.nb+1,h.fJ⟩:=by
 have yg:¬U h.nb:=I.fresh _ (ax _) hlt;have hnk:h.nb∉Go.Proofs.YtmobbajggkjpgaaGreat.SX.keys h.hp:=fun hk=>yg (I.keys _ hk);refine⟨fun i x hx=>?_,fun i hi=>?_,?_,fun n h1 h2=>?_,I.A8.mono b_⟩
 ·rw[ki _ _ _ _ hnk]at hx;split at hx
  ·cases hx;exact hb
  ·exact bO.In.mono b_ (I.hp i x hx)
 ·have:=(tH h.nb b h.hp).mem_iff.1 hi;rcases aj.1 this with rfl|hm
  ·exact .inr ⟨ax _,Nat.lt_succ_self _⟩
  ·exact .inl (I.keys i hm)
 ·exact(tH h.nb b h.hp).nodup_iff.2 (List.nodup_cons.2 ⟨hnk,I.nodup⟩)
 ·rintro(hu|⟨_,h3⟩)
  ·exact I.fresh n (by simp only at h1;omega) h2 hu
  ·simp only at h1;omega
theorem Rel.push(R:Rel K ρ h w)(o:Obj):Rel K ρ h {w with heap:=w.heap.push o}∧bS K.own w {w with heap:=w.heap.push o}:=by
 have Q0:∀n,n<w.heap.size->(w.heap.push o)[n]?=w.heap[n]?:=fun n hn=>by rw[Array.getElem?_push_lt hn,aO hn]
 have hsz:(w.heap.push o).size=w.heap.size+1:=by simp
 refine⟨⟨fun i b hb=>?_,R.qV,R.inj,R.bs,R.is,fun p hp=>?_,fun n hn=>R.room n (by simp only[hsz]at hn;omega),R.gi,fun b n hs=>by have:=R.low b n hs;simp only[hsz];omega⟩,⟨fun n hn=>?_,by simp only[hsz];omega,rfl,rfl,rfl⟩⟩
 ·obtain⟨arr,ha,hf⟩:=R.blk i b hb;exact⟨arr,by show(w.heap.push o)[_]?=_;rw[Q0 _ (jx ha)];exact ha,hf⟩
 ·obtain⟨m1,m2,m3⟩:=R.mem p hp;refine⟨m1,?_,m3⟩;have hlt:(p.1.ev ρ).block<w.heap.size:=by
   rcases Nat.lt_or_ge (p.1.ev ρ).block w.heap.size with h'|h'
   ·exact h'
   ·simp[World.cell?,Array.getElem?_eq_none h']at m2
  simp only[World.cell?]at m2⊢;rw[Q0 _ hlt];exact m2
 ·show(w.heap.push o)[n]?=_;rcases Nat.lt_or_ge n w.heap.size with h'|h'
  ·exact Q0 n h'
  ·exact absurd (R.room n h') hn
theorem Rel.new(R:Rel K ρ h w)(I:f_ K U h)(hlt:h.nb<h.fJ){b:bO}{arr:Array Value}{c:Int}(hf:b.fits K.P (ρ.upd h.nb w.heap.size c) arr):
  Rel K (ρ.upd h.nb w.heap.size c) ⟨qP h.nb b h.hp,h.nb+1,h.fJ⟩ {w with heap:=w.heap.push (.cells arr b.elem (0,0))}:=by
 obtain⟨R',_⟩:=R.push (.cells arr b.elem (0,0));refine R'.ins I hlt (by simp) (R.room _ (ax _)) (fun j x hx e=>?_) (fun n hs=>by have:=R.low _ n hs;omega) hf;obtain⟨gn,ha,_⟩:=R.blk j x hx;have:=jx ha;omega
theorem Rel.drop(R:Rel K ρ h w)(I:f_ K U h)(i:Nat):Rel K ρ {h with hp:=jk i h.hp} w:=by
 have hs:∀j b,cE j (jk i h.hp)=some b->cE j h.hp=some b:=fun j b hb=>by
  rw[iG _ _ _ I.nodup]at hb;split at hb
  ·cases hb
  ·exact hb
 exact⟨fun j b hb=>R.blk j b (hs j b hb),fun j b hb=>R.qV j b (hs j b hb),fun j k b c hb hc e=>R.inj j k b c (hs j b hb) (hs k c hc) e,R.bs,R.is,R.mem,R.room,fun j b hb=>R.gi j b (hs j b hb),R.low⟩
theorem f_.drop(I:f_ K U h)(i:Nat):f_ K U {h with hp:=jk i h.hp}:=
 ⟨fun j b hb=>I.hp j b (by
  rw[iG _ _ _ I.nodup]at hb;split at hb
  ·cases hb
  ·exact hb),fun j hj=>I.keys j ((lY i h.hp).mem hj),(lY i h.hp).nodup I.nodup,I.fresh,I.A8⟩
structure c7(K:Ctx)(U:Nat->Prop)(h h':AH):Prop where
 nb:h.nb≤h'.nb
 fJ:h'.fJ=h.fJ
 ids:f_ K (plus U h.nb h'.nb) h'
theorem qa{U:Nat->Prop}{a:Nat}:∀n,plus U a a n->U n:=fun n h=>h.elim id fun h=>by omega
theorem f_.congr{U U':Nat->Prop}(I:f_ K U h)(h1:∀n,U n↔U' n):f_ K U' h:=
 ⟨fun i b hb=>bO.In.mono (fun n=>(h1 n).1) (I.hp i b hb),fun i hi=>(h1 i).1 (I.keys i hi),I.nodup,fun n a b c=>I.fresh n a b ((h1 n).2 c),I.A8.mono fun n=>(h1 n).1⟩
theorem c7.refl(I:f_ K U h):c7 K U h h:=⟨ax _,rfl,I.congr fun n=>⟨.inl,qa n⟩⟩
theorem lM{U:Nat->Prop}{a b c:Nat}(h1:a≤b)(h2:b≤c)(n:Nat):plus (plus U a b) b c n↔plus U a c n:=by
 unfold plus;constructor
 ·rintro((h|h)|h)
  ·exact .inl h
  ·exact .inr ⟨h.1,by omega⟩
  ·exact .inr ⟨by omega,h.2⟩
 ·rintro(h|h)
  ·exact .inl (.inl h)
  ·by_cases e:n<b
   ·exact .inl (.inr ⟨h.1,e⟩)
   ·exact .inr ⟨by omega,h.2⟩
theorem c7.trans{h' h'':AH}(g:c7 K U h h')(g':c7 K (plus U h.nb h'.nb) h' h''):c7 K U h h'':=
 ⟨aA g.nb g'.nb,g'.fJ.trans g.fJ,g'.ids.congr fun n=>lM g.nb g'.nb n⟩
def After(K:Ctx)(U:Nat->Prop)(ρ:Env)(w:World)(h':AH)(Q:Env->Prop)(w':World):Prop:=
 ∃ρ',cv U ρ ρ'∧Rel K ρ' h' w'∧bS K.own w w'∧Q ρ'
theorem After.same(R:Rel K ρ h w){Q:Env->Prop}(hq:Q ρ):After K U ρ w h Q w:=⟨ρ,cv.refl _ _,R,bS.refl _ _,hq⟩
theorem oq(R:Rel K ρ h w)(I:f_ K U h){b:bO}{v:AV}{h':AH}(ha:alloc? h b=.ok (v,h'))(hb:b.In U):
  (∃a,v=.ptr (some a))∧v.In (plus U h.nb h'.nb)∧c7 K U h h'∧∀arr,b.fits K.P ρ arr->
   After K U ρ w h' (fun ρ'=>v.ev ρ'=.pointer (some ⟨w.heap.size,0,none⟩)) {w with heap:=w.heap.push (.cells arr b.elem (0,0))}:=by
 obtain⟨hp,nb,fJ⟩:=h;simp only[alloc?]at ha;split at ha
 ·rename_i hlt;cases ha;have yg:¬U nb:=I.fresh _ (ax _) hlt;refine⟨⟨_,rfl⟩,⟨.inr ⟨ax _,Nat.lt_succ_self _⟩,trivial⟩,⟨Nat.le_succ _,rfl,I.ins hlt (bO.In.mono b_ hb)⟩,fun arr hf=>?_⟩;refine⟨ρ.upd nb w.heap.size 0,fM yg,R.new I hlt (qW (fM yg) hb hf),(R.push _).2,?_⟩;simp[AV.ev,AA.ev,BR.ev,IE.ev,Env.upd]
 ·cases ha
theorem jR(R:Rel K ρ h w)(I:f_ K U h){b:bO}{l c:IE}{v:AV}{h':AH}(ha:allocSlice? h b l c=.ok (v,h'))(hb:b.In U)(hl:l.In U)(hc:c.In U):
  v.In (plus U h.nb h'.nb)∧c7 K U h h'∧∀arr,b.fits K.P ρ arr->
   After K U ρ w h' (fun ρ'=>v.ev ρ'=.slice (some ⟨w.heap.size,0,none⟩) (l.ev ρ).toNat (c.ev ρ).toNat) {w with heap:=w.heap.push (.cells arr b.elem (0,0))}:=by
 obtain⟨hp,nb,fJ⟩:=h;simp only[allocSlice?]at ha;split at ha
 ·rename_i hlt;cases ha;have yg:¬U nb:=I.fresh _ (ax _) hlt;refine⟨⟨⟨.inr ⟨ax _,Nat.lt_succ_self _⟩,trivial⟩,IE.In.mono b_ hl,IE.In.mono b_ hc⟩,⟨Nat.le_succ _,rfl,I.ins hlt (bO.In.mono b_ hb)⟩,fun arr hf=>?_⟩;refine⟨ρ.upd nb w.heap.size 0,fM yg,R.new I hlt (qW (fM yg) hb hf),(R.push _).2,?_⟩;simp only[AV.ev,IE.bV (fM yg) hl,IE.bV (fM yg) hc];simp[AA.ev,BR.ev,IE.ev,Env.upd]
 ·cases ha
end
end Go.Proofs.YtmobbajggkjpgaaGreat.SX
