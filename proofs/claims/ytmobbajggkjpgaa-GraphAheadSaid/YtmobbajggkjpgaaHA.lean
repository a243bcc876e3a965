/-
  A symbolic run of the model, proved sound, and the walk of the code: a text of its parts. Conditions: none.
-/
import GoSem.Step
import Derived.Orders
import Derived.Conc.Own5
import Derived.Laws.Sem
import Derived.Conc.Events
import Derived.Laws.StructEq
set_option linter.unusedSectionVars false
set_option maxRecDepth 100000
set_option linter.unusedVariables false
set_option linter.unusedSimpArgs false
namespace Go.Proofs.Ytmobbajggkjpgaa.SX
def lacks(want:Array (String×TypeId))(got:Array Method):Bool:=want.toList.any fun x=>!got.any fun m=>m.name==x.1&&m.sig==x.2
theorem least_some{l:List String}(h:l≠[]):∃s,Instr.least l=some s:=by
 cases l with
 |nil=>exact absurd rfl h
 |cons s r=>exact⟨_,rfl⟩
theorem missing_none{want:Array (String×TypeId)}{got:Array Method}(h:lacks want got=false):Instr.missingMethod want got=none:=by
 have:want.toList.filter (fun(x:String×TypeId)=>!got.any fun m=>m.name==x.1&&m.sig==x.2)=[]:=by
  apply List.filter_eq_nil_iff.2
  intro x hx
  have:=List.any_eq_false.1 h x hx
  exact this
 unfold Instr.missingMethod
 simp only[this]
 rfl
theorem part_some{miss:List String}(p:String->Bool)(f:String->String)(hmne:miss≠[]):∃m,(match miss.partition p with|(unexported,exported)=>(Instr.least exported <|> Instr.least (unexported.map f)))=some m:=by
 rw[List.partition_eq_filter_filter]
 dsimp only
 by_cases hx:miss.filter (not ∘ p)=[]
 ·rw[hx]
  have:miss.filter p≠[]:=by
   intro hy
   obtain⟨s,hs⟩:=List.exists_mem_of_ne_nil _ hmne
   have a:=List.filter_eq_nil_iff.1 hx s hs
   have b:=List.filter_eq_nil_iff.1 hy s hs
   simp at a b
   simp[b]at a
  obtain⟨m,h2⟩:=least_some (l:=(miss.filter p).map f) (by simpa using this)
  exact⟨m,by rw[h2];rfl⟩
 ·obtain⟨m,h2⟩:=least_some hx
  exact⟨m,by rw[h2];rfl⟩
theorem missing_some{want:Array (String×TypeId)}{got:Array Method}(h:lacks want got=true):∃m,Instr.missingMethod want got=some m:=by
 have hne:want.toList.filter (fun(x:String×TypeId)=>!got.any fun m=>m.name==x.1&&m.sig==x.2)≠[]:=by
  obtain⟨x,hx,hp⟩:=List.any_eq_true.1 h
  intro he
  have:=List.filter_eq_nil_iff.1 he x hx
  exact this hp
 unfold Instr.missingMethod
 generalize hm:(want.toList.filter (fun(x:String×TypeId)=>!got.any fun m=>m.name==x.1&&m.sig==x.2)).map (·.1)=miss
 have hmne:miss≠[]:=by rw[<-hm];simpa using hne
 exact part_some _ _ hmne
theorem missing_lacks(want:Array (String×TypeId))(got:Array Method):(Instr.missingMethod want got).isNone=!lacks want got:=by
 cases h:lacks want got with
 |false=>rw[missing_none h];rfl
 |true=>obtain⟨m,hm⟩:=missing_some h;rw[hm];rfl
def implementsA(T V:TypeId):Sem Bool:=do
 Extern.Rtype.noPackMethods "a method set held against an interface's list" V
 Extern.Rtype.noPackMethods "a method set held against an interface's list" T
 match(<-Extern.Rtype.under T).2.desc,(<-Extern.Rtype.under V).2.desc with
 |.interface want,.interface got=>pure (want.all got.contains)
 |.interface want,_=>pure (!lacks want (<-typeInfo V).methods)
 |_,_=>pure false
theorem implementsA_eq:implementsA=Extern.Rtype.implements:=by
 funext T V
 unfold implementsA Extern.Rtype.implements
 simp only[missing_lacks]
 rfl
noncomputable section
inductive SE where
 |lit(s:ByteArray)
 |var(i:Nat)
 |cat(a b:SE)
def SE.eqb:SE->SE->Bool
 |.lit a,.lit b=>decide (a.data=b.data)
 |.var a,.var b=>a==b
 |.cat a b,.cat a' b'=>a.eqb a'&&b.eqb b'
 |_,_=>false
inductive IE where
 |lit(n:Int)
 |var(i:Nat)
 |op(o:BinOp)(k:IntKind)(a b:IE)
 |conv(k:IntKind)(a:IE)
 |plus(a b:IE)
 |times(a b:IE)
 |tn(a:IE)
 |slen(a:SE)
def IE.eqb:IE->IE->Bool
 |.lit a,.lit b=>a==b
 |.var a,.var b=>a==b
 |.op o k a b,.op o' k' a' b'=>decide (o=o')&&decide (k=k')&&a.eqb a'&&b.eqb b'
 |.conv k a,.conv k' a'=>decide (k=k')&&a.eqb a'
 |.plus a b,.plus a' b'=>a.eqb a'&&b.eqb b'
 |.times a b,.times a' b'=>a.eqb a'&&b.eqb b'
 |.tn a,.tn a'=>a.eqb a'
 |.slen a,.slen a'=>a.eqb a'
 |_,_=>false
def iop(o:BinOp)(k:IntKind)(x y:Int):Int:=
 match o with
 |.add=>k.wrap (x+y)
 |.sub=>k.wrap (x-y)
 |.mul=>k.wrap (x*y)
 |.quo=>k.wrap (x.tdiv y)
 |.rem=>x.tmod y
 |.and=>k.wrap ((BitVec.ofInt k.bits x&&& BitVec.ofInt k.bits y).toNat:Int)
 |.or=>k.wrap ((BitVec.ofInt k.bits x ||| BitVec.ofInt k.bits y).toNat:Int)
 |.xor=>k.wrap ((BitVec.ofInt k.bits x ^^^ BitVec.ofInt k.bits y).toNat:Int)
 |.andNot=>k.wrap ((BitVec.ofInt k.bits x&&& ~~~(BitVec.ofInt k.bits y)).toNat:Int)
 |.shl=>k.wrap (x*2 ^ (min y.toNat k.bits))
 |.shr=>x.fdiv (2 ^ (min y.toNat k.bits))
 |_=>0
inductive BE where
 |lit(b:Bool)
 |var(i:Nat)
 |cmp(o:BinOp)(a b:IE)
 |seq(n:Bool)(a b:SE)
def BE.eqb:BE->BE->Bool
 |.lit a,.lit b=>a==b
 |.var a,.var b=>a==b
 |.cmp o a b,.cmp o' a' b'=>decide (o=o')&&a.eqb a'&&b.eqb b'
 |.seq n a b,.seq n' a' b'=>n==n'&&a.eqb a'&&b.eqb b'
 |_,_=>false
def icmp(o:BinOp)(x y:Int):Bool:=
 match o with
 |.eql=>x==y
 |.neq=>x != y
 |.lss=>decide (x<y)
 |.leq=>decide (x≤y)
 |.gtr=>decide (x>y)
 |.geq=>decide (x≥y)
 |_=>false
inductive BR where
 |glob(g:Nat)
 |dyn(i:Nat)
def BR.eqb:BR->BR->Bool
 |.glob a,.glob b=>a==b
 |.dyn a,.dyn b=>a==b
 |_,_=>false
structure AA where
 blk:BR
 off:IE
def AA.eqb(a b:AA):Bool:=a.blk.eqb b.blk&&a.off.eqb b.off
inductive AV where
 |bool(b:BE)
 |int(k:IntKind)(e:IE)
 |str(s:ByteArray)
 |ptr(a:Option AA)
 |slice(a:Option AA)(len cap:IE)
 |map(r:Option BR)
 |chan(r:Option BR)
 |func(fn:Fn)(first captured:List AV)
 |nilFunc
 |iface(t:TypeId)(v:AV)
 |nilIface
 |agg(cs:List AV)
 |tuple(vs:List AV)
 |opq(i:Nat)
 |raw(v:Value)
 |ss(e:SE)
def optEqb{α:Type}(f:α->α->Bool):Option α->Option α->Bool
 |none,none=>true
 |some a,some b=>f a b
 |_,_=>false
mutual
def AV.eqb:AV->AV->Bool
 |.bool a,.bool b=>a.eqb b
 |.int k a,.int k' b=>decide (k=k')&&a.eqb b
 |.str a,.str b=>decide (a.data=b.data)
 |.ptr a,.ptr b=>optEqb AA.eqb a b
 |.slice a l c,.slice a' l' c'=>optEqb AA.eqb a a'&&l.eqb l'&&c.eqb c'
 |.map a,.map b=>optEqb BR.eqb a b
 |.chan a,.chan b=>optEqb BR.eqb a b
 |.func f x y,.func f' x' y'=>decide (f=f')&&AV.eqbs x x'&&AV.eqbs y y'
 |.nilFunc,.nilFunc=>true
 |.iface t v,.iface t' v'=>t==t'&&v.eqb v'
 |.nilIface,.nilIface=>true
 |.agg x,.agg y=>AV.eqbs x y
 |.tuple x,.tuple y=>AV.eqbs x y
 |.opq i,.opq j=>i==j
 |.ss a,.ss b=>a.eqb b
 |_,_=>false
def AV.eqbs:List AV->List AV->Bool
 |[],[]=>true
 |a::x,b::y=>a.eqb b&&AV.eqbs x y
 |_,_=>false
end
inductive TT where
 |leaf
 |node(v:AV)(l r:TT)
def undefA:AV:=.tuple []
def TT.get(t:TT):Nat->AV:=
 TT.rec (fun _=>undefA) (fun v _ _ gl gr n=>Nat.rec v (fun m _=>Bool.rec (gl (m / 2)) (gr (m / 2)) (Nat.beq (m % 2) 0)) n) t
def TT.set(v:AV)(f:Nat):TT->Nat->TT:=
 Nat.rec (fun t _=>t) (fun _ ih t n=>
  TT.rec (Nat.rec (.node v .leaf .leaf) (fun m _=>Bool.rec (.node undefA (ih .leaf (m / 2)) .leaf) (.node undefA .leaf (ih .leaf (m / 2))) (Nat.beq (m % 2) 0)) n)
   (fun u l r _ _=>Nat.rec (.node v l r) (fun m _=>Bool.rec (.node u (ih l (m / 2)) r) (.node u l (ih r (m / 2))) (Nat.beq (m % 2) 0)) n) t) f
def TT.eqb:TT->TT->Bool
 |.leaf,.leaf=>true
 |.node v l r,.node v' l' r'=>v.eqb v'&&l.eqb l'&&r.eqb r'
 |_,_=>false
def TT.fill:List AV->Nat->TT->TT
 |[],_,t=>t
 |v::l,n,t=>TT.fill l (n+1) (t.set v 16 n)
structure Orc where
 bs:List (BE×Bool):=[]
 is:List (IE×IE):=[]
 mem:List (AA×AV):=[]
 fns:List FuncId:=[]
 ext:List (FuncId×(Array Value->Sem Value)):=[]
 sums:List FuncId:=[]
 offs:List (FuncId×Bool):=[]
abbrev M:=Except String
def look{α β:Type}(eq:α->α->Bool)(a:α)(l:List (α×β)):Option β:=List.rec none (fun p _ ih=>Bool.rec ih (some p.2) (eq a p.1)) l
def IE.fold:IE->IE
 |.op o k (.lit a) (.lit b)=>.lit (iop o k a b)
 |.conv k (.lit a)=>.lit (k.wrap a)
 |.plus (.lit a) (.lit b)=>.lit (a+b)
 |.times (.lit a) (.lit b)=>.lit (a*b)
 |.tn (.lit a)=>.lit a.toNat
 |.slen (.lit s)=>.lit (.ofNat s.size)
 |e=>e
def Orc.int(O:Orc)(e:IE):IE:=
 match e.fold with
 |.lit n=>.lit n
 |e=>(look IE.eqb e O.is).getD e
def BE.fold:BE->BE
 |.cmp o (.lit a) (.lit b)=>.lit (icmp o a b)
 |.seq n (.lit a) (.lit b)=>.lit ((a.toList==b.toList) != n)
 |b=>b
def Orc.bool(O:Orc)(b:BE):BE:=
 match b.fold with
 |.lit n=>.lit n
 |b=>match look BE.eqb b O.bs with
  |some v=>.lit v
  |none=>b
def Orc.dec(O:Orc)(b:BE):M Bool:=
 match O.bool b with
 |.lit v=>.ok v
 |_=>.error "a test is open"
inductive ABlk where
 |cells(cs:List AV)(elem:TypeId)
 |row(cs:List AV)(elem:TypeId)(cap:IE)
 |lent(cs:List AV)(elem:TypeId)(ls:List Nat)
 |map(es:List (AV×AV))
 |chan
 |vmap(s:Nat)(n:IE)(fs:List (AA×Option AV))(ws:List (AV×AV))
 |pre(lk:Bool)(s:Nat)(n:IE)(fs ws:List (IE×AV))(cs:List AV)(elem:TypeId)(cap:IE)
structure AH where
 hp:List (Nat×ABlk)
 nb:Nat
 lim:Nat
def findB(i:Nat)(l:List (Nat×ABlk)):Option ABlk:=List.rec none (fun p _ ih=>Bool.rec ih (some p.2) (Nat.beq i p.1)) l
def setB(i:Nat)(b:ABlk)(l:List (Nat×ABlk)):List (Nat×ABlk):=List.rec [] (fun p t ih=>Bool.rec (p::ih) ((p.1,b)::t) (Nat.beq i p.1)) l
def dropB(i:Nat)(l:List (Nat×ABlk)):List (Nat×ABlk):=List.rec [] (fun p t ih=>Bool.rec (p::ih) t (Nat.beq i p.1)) l
def insB(i:Nat)(b:ABlk)(l:List (Nat×ABlk)):List (Nat×ABlk):=List.rec [(i,b)] (fun p t ih=>Bool.rec (p::ih) ((i,b)::p::t) (Nat.ble (p.1+1) i)) l
def alloc?(h:AH)(b:ABlk):M (AV×AH):=
 match h with
 |⟨hp,nb,lim⟩=>if nb<lim then .ok (.ptr (some ⟨.dyn nb,.lit 0⟩),⟨insB nb b hp,nb+1,lim⟩)else .error "new numbers"
def allocO?(h:AH)(b:ABlk)(mk:BR->AV):M (AV×AH):=
 match h with
 |⟨hp,nb,lim⟩=>if nb<lim then .ok (mk (.dyn nb),⟨insB nb b hp,nb+1,lim⟩)else .error "new numbers"
def allocSlice?(h:AH)(b:ABlk)(len cap:IE):M (AV×AH):=
 match h with
 |⟨hp,nb,lim⟩=>if nb<lim then .ok (.slice (some ⟨.dyn nb,.lit 0⟩) len cap,⟨insB nb b hp,nb+1,lim⟩)else .error "new numbers"
def allocRow?(h:AH)(old:Option Nat)(cs:List AV)(elem:TypeId)(len:Nat):M (AV×AH):=
 match h with
 |⟨hp,nb,lim⟩=>if nb<lim then
   .ok (.slice (some ⟨.dyn nb,.lit 0⟩) (.lit (.ofNat len)) (.var nb),⟨insB nb (.row cs elem (.var nb)) (match old with|some i=>dropB i hp|none=>hp),nb+1,lim⟩)
  else .error "new numbers"
def of1:Value->AV
 |.bool b=>.bool (.lit b)
 |.int k n=>.int k (.lit n)
 |.string s=>.str s
 |.pointer none=>.ptr none
 |.pointer (some ⟨b,o,none⟩)=>.ptr (some ⟨.glob b,.lit o⟩)
 |.slice none l c=>.slice none (.lit l) (.lit c)
 |.map none=>.map none
 |.chan none=>.chan none
 |.nilFunc=>.nilFunc
 |.nilIface=>.nilIface
 |v=>.raw v
def ofIface:Value->AV
 |.iface t v=>.iface t (of1 v)
 |v=>of1 v
def of2:Value->AV
 |.agg cs=>.agg (cs.toList.map of1)
 |.iface t (.agg cs)=>.iface t (.agg (cs.toList.map of1))
 |v=>ofIface v
def ofValue:Value->AV
 |.tuple vs=>.tuple (vs.toList.map of2)
 |v=>of2 v
mutual
def AV.val?:AV->Option Value
 |.bool (.lit b)=>some (.bool b)
 |.int k (.lit n)=>some (.int k n)
 |.str s=>some (.string s)
 |.ptr none=>some (.pointer none)
 |.ptr (some ⟨.glob g,.lit (.ofNat o)⟩)=>some (.pointer (some ⟨g,o,none⟩))
 |.slice none (.lit (.ofNat l)) (.lit (.ofNat c))=>some (.slice none l c)
 |.map none=>some (.map none)
 |.chan none=>some (.chan none)
 |.func f x y=>match AV.vals? x,AV.vals? y with
  |some x,some y=>some (.func f x.toArray y.toArray)
  |_,_=>none
 |.nilFunc=>some .nilFunc
 |.iface t v=>match v.val? with
  |some v=>some (.iface t v)
  |none=>none
 |.nilIface=>some .nilIface
 |.agg x=>match AV.vals? x with
  |some x=>some (.agg x.toArray)
  |none=>none
 |.tuple x=>match AV.vals? x with
  |some x=>some (.tuple x.toArray)
  |none=>none
 |.raw v=>some v
 |_=>none
def AV.vals?:List AV->Option (List Value)
 |[]=>some []
 |a::l=>match a.val?,AV.vals? l with
  |some a,some l=>some (a::l)
  |_,_=>none
end
def pureRun{α:Type}(P:Program):Sem α->Option α
 |.pure a=>some a
 |.program k=>pureRun P (k P)
 |_=>none
def AV.cells?:AV->M (List AV)
 |.agg cs=>.ok cs
 |.raw _=>.error "cells of a raw value"
 |.opq _=>.error "cells of a veiled value"
 |v=>.ok [v]
def AV.oneCell?:AV->Bool
 |.agg _|.tuple _|.raw _|.opq _=>false
 |_=>true
def addN(a:IE)(n:Nat):IE:=
 match a with
 |.lit (.ofNat m)=>.lit (.ofNat (m+n))
 |_=>if n=0 then a else .plus (.tn a) (.lit (.ofNat n))
def AA.add(a:AA)(n:Nat):AA:={a with off:=addN a.off n}
def ABlk.cs:ABlk->List AV
 |.cells cs _=>cs
 |.row cs _ _=>cs
 |.lent cs _ _=>cs
 |.map _=>[]
 |.chan=>[]
 |.vmap _ _ _ _=>[]
 |.pre _ _ _ _ _ _ _ _=>[]
def baseOf:IE->IE×Nat
 |.plus a b=>match a,b with
  |.tn c,.lit (.ofNat j)=>((baseOf c).1,(baseOf c).2+j)
  |a,b=>(.plus a b,0)
 |.lit n=>match n with
  |.ofNat j=>(.lit 0,j)
  |n=>(.lit n,0)
 |e=>(e,0)
def sameAt(a b:IE):Bool:=(baseOf a).1.eqb (baseOf b).1&&Nat.beq (baseOf a).2 (baseOf b).2
def apartAt(a b:IE):Bool:=(baseOf a).1.eqb (baseOf b).1&&!(Nat.beq (baseOf a).2 (baseOf b).2)
def getF(a:IE):List (IE×AV)->Option AV
 |[]=>none
 |p::l=>match sameAt a p.1 with
  |true=>some p.2
  |false=>getF a l
def getW(a:IE)(fs:List (IE×AV)):List (IE×AV)->Option AV
 |[]=>getF a fs
 |p::l=>match sameAt a p.1 with
  |true=>some p.2
  |false=>match apartAt a p.1 with
   |true=>getW a fs l
   |false=>none
def ABlk.getP(a:IE):ABlk->Option AV
 |.pre _ _ _ fs ws _ _ _=>getW a fs ws
 |_=>none
def ABlk.setP(a:IE)(v:AV):ABlk->Option ABlk
 |.pre lk s n fs ws cs e c=>match lk,getW a fs ws with
  |false,some _=>some (.pre false s n fs ((a,v)::ws) cs e c)
  |_,_=>none
 |_=>none
def ABlk.isChan:ABlk->Bool
 |.chan=>true
 |_=>false
def ABlk.isMem:ABlk->Bool
 |.map _=>false
 |.chan=>false
 |.vmap _ _ _ _=>false
 |_=>true
def ABlk.put(b:ABlk)(cs:List AV):ABlk:=
 match b with
 |.cells _ e=>.cells cs e
 |.row _ e c=>.row cs e c
 |.lent _ e l=>.lent cs e l
 |.map es=>.map es
 |.chan=>.chan
 |.vmap s n fs ws=>.vmap s n fs ws
 |.pre lk s n fs ws cs e c=>.pre lk s n fs ws cs e c
def ABlk.isLent(b:ABlk)(n:Nat):Bool:=
 match b with
 |.lent _ _ ls=>ls.contains n
 |.chan=>true
 |_=>false
def load0(O:Orc)(h:AH)(a:AA):M AV:=
 let old:M AV:=match look AA.eqb a O.mem with
  |some v=>.ok v
  |none=>.error "load an unknown cell"
 match a.blk,a.off with
 |.dyn i,.lit (.ofNat n)=>
  match findB i h.hp with
  |some b=>match b.cs[n]? with
   |some v=>.ok v
   |none=>.error "load out of the block"
  |none=>old
 |_,_=>old
def preAt?(h:AH)(a:AA):Option AV:=
 match a.blk with
 |.dyn i=>match findB i h.hp with
  |some b=>b.getP a.off
  |none=>none
 |_=>none
def load1(O:Orc)(h:AH)(a:AA):M AV:=
 match load0 O h a with
 |.ok v=>.ok v
 |.error e=>match preAt? h a with
  |some v=>.ok v
  |none=>.error e
def loadN(O:Orc)(h:AH)(a:AA):Nat->Nat->M (List AV)
 |0,_=>.ok []
 |n+1,j=>match load1 O h (a.add j)with
  |.ok v=>match loadN O h a n (j+1)with
   |.ok l=>.ok (v::l)
   |.error e=>.error e
  |.error e=>.error e
def store0(h:AH)(a:AA)(v:AV):M AH:=
 match a.blk,a.off with
 |.dyn i,.lit (.ofNat n)=>
  match findB i h.hp with
  |some b=>
   if n<b.cs.length&&v.oneCell?&&!(b.isLent n)then .ok {h with hp:=setB i (b.put (b.cs.set n v)) h.hp}
   else .error "store out of the block or no cells value"
  |none=>.error "store not an own block"
 |_,_=>.error "store not an own block"
def preSet?(h:AH)(a:AA)(v:AV):Option AH:=
 match a.blk with
 |.dyn i=>match findB i h.hp with
  |some b=>match b.setP a.off v with
   |some b'=>match v.oneCell? with
    |true=>some {h with hp:=setB i b' h.hp}
    |false=>none
   |none=>none
  |none=>none
 |_=>none
def store1(h:AH)(a:AA)(v:AV):M AH:=
 match store0 h a v with
 |.ok h=>.ok h
 |.error e=>match preSet? h a v with
  |some h=>.ok h
  |none=>.error e
def storeN(h:AH)(a:AA):List AV->Nat->M AH
 |[],_=>.ok h
 |v::l,j=>match store1 h (a.add j) v with
  |.ok h=>storeN h a l (j+1)
  |.error e=>.error e
def isAgg?(P:Program)(t:TypeId):M Bool:=
 match P.underlying t with
 |some (.struct _)|some (.array _ _)=>.ok true
 |some _=>.ok false
 |none=>.error "no such type"
def bytesOf?(P:Program)(t:TypeId):M Nat:=
 match P.info? t with
 |some i=>.ok i.bytes
 |none=>.error "no such type"
def sizeOf?(P:Program)(t:TypeId):M Nat:=
 match P.info? t with
 |some i=>.ok i.size
 |none=>.error "no such type"
def zero?(P:Program)(t:TypeId):M AV:=
 match P.info? t with
 |some i=>match i.zero with
  |some v=>.ok (ofValue v)
  |none=>.error "no zero value"
 |none=>.error "no such type"
def under?(P:Program)(t:TypeId):M TypeDesc:=
 match P.underlying t with
 |some d=>.ok d
 |none=>.error "no such type"
def loadVar?(P:Program)(O:Orc)(h:AH)(t:TypeId)(a:AA):M AV:=do
 if<-isAgg? P t then
  let l<-loadN O h a (<-sizeOf? P t) 0
  pure (.agg l)
 else load1 O h a
def storeVar?(P:Program)(h:AH)(t:TypeId)(a:AA)(v:AV):M AH:=do
 let cs<-v.cells?
 if cs.length=(<-sizeOf? P t)then storeN h a cs 0 else .error "storeVar size"
def part?(P:Program)(t:TypeId)(cs:List AV)(off:Nat):M AV:=do
 if<-isAgg? P t then
  let n<-sizeOf? P t
  if off+n≤cs.length then pure (.agg ((cs.drop off).take n))else .error "part size"
 else match cs[off]? with
  |some v=>.ok v
  |none=>.error "part no such cell"
inductive ATarget where
 |fn(fn:Fn)(captured:List AV)
 |builtin(b:Builtin)(argTypes:Array TypeId)(type:TypeId)(consts:Array Bool)
structure AD where
 target:ATarget
 args:List AV
inductive AN where
 |value(v:AV)
 |skip
 |enter(f:FuncId)(args:List AV)
 |defer(d:AD)
 |recover
 |panic(v:AV)
def valOp(r:M AV)(h:AH):M (AN×AH):=
 match r with
 |.ok v=>.ok (.value v,h)
 |.error e=>.error e
def allocOp(r:M (AV×AH)):M (AN×AH):=
 match r with
 |.ok (v,h)=>.ok (.value v,h)
 |.error e=>.error e
def skipOp(r:M AH):M (AN×AH):=
 match r with
 |.ok h=>.ok (.skip,h)
 |.error e=>.error e
def sureAddr?:AV->M AA
 |.ptr (some a)=>.ok a
 |_=>.error "an address expected"
def litNat?:IE->M Nat
 |.lit (.ofNat n)=>.ok n
 |_=>.error "a literal count expected"
def setAt(l:List AV)(off:Nat):List AV->List AV
 |[]=>l
 |v::vs=>setAt (l.set off v) (off+1) vs
def fill?(place:Nat->Option (Nat×Nat))(cells:List AV):List (Nat×AV)->M (List AV)
 |[]=>.ok cells
 |(i,v)::rest=>
  match place i with
  |none=>.error "fill no such place"
  |some (off,size)=>match v.cells? with
   |.ok cs=>if cs.length=size∧off+cs.length≤cells.length then fill? place (setAt cells off cs) rest else .error "fill size"
   |.error e=>.error e
def repl(n:Nat)(l:List AV):List AV:=
 match n with
 |0=>[]
 |n+1=>l++repl n l
def eqAll?(P:Program)(eq:TypeId->AV->AV->M BE)(xs ys:List AV):List Field->M BE
 |[]=>.ok (.lit true)
 |f::l=>do
  if f.name= "_" then .error " a blank field" else
  let a<-part? P f.type xs f.offset
  let b<-part? P f.type ys f.offset
  match<-eq f.type a b with
  |.lit true=>eqAll? P eq xs ys l
  |.lit false=>.ok (.lit false)
  |c=>match l with
   |[]=>.ok c
   |_=>.error " an open field"
def eq?(P:Program)(O:Orc)(h:AH):Nat->TypeId->AV->AV->M BE
 |0,_,_,_=>.error " depth"
 |d+1,t,x,y=>do
  match<-under? P t,x,y with
  |.bool,.bool a,.bool b=>match O.bool a,O.bool b with
   |.lit a,.lit b=>pure (.lit (a==b))
   |_,_=>.error " an open truth value"
  |.int _,.int k a,.int k' b=>if k=k' then pure (O.bool (.cmp .eql a b))else .error " kinds"
  |.string,.str a,.str b=>pure (.lit (a==b))
  |.string,.ss a,.ss b=>pure (O.bool (.seq false a b))
  |.string,.ss a,.str b=>pure (O.bool (.seq false a (.lit b)))
  |.string,.str a,.ss b=>pure (O.bool (.seq false (.lit a) b))
  |.pointer _,.ptr none,.ptr b=>pure (.lit b.isNone)
  |.pointer _,.ptr (some _),.ptr none=>pure (.lit false)
  |.pointer e,.ptr (some a),.ptr (some b)=>do
   if(<-sizeOf? P e)=0 then .error " pointers to nothing" else
   match a.blk,a.off,b.blk,b.off with
   |.dyn i,.lit (.ofNat m),.dyn j,.lit (.ofNat n)=>
    if i==j then pure (.lit (m==n))
    else match findB i h.hp,findB j h.hp with
     |some b,some c=>if b.isMem&&c.isMem then pure (.lit false)else .error " pointers to objects"
     |_,_=>.error " pointers to unknown blocks"
   |.glob i,.lit (.ofNat m),.glob j,.lit (.ofNat n)=>
    if i==j then pure (.lit (m==n))else .error " pointers to two variables"
   |_,_,_,_=>.error " pointers"
  |.interface _,.nilIface,.nilIface=>pure (.lit true)
  |.interface _,.nilIface,.iface _ _=>pure (.lit false)
  |.interface _,.iface _ _,.nilIface=>pure (.lit false)
  |.interface _,.iface tx vx,.iface ty vy=>
   if tx==ty then
    match P.info? tx with
    |some i=>if i.comparable then eq? P O h d tx vx vy else .error " uncomparable"
    |none=>.error " type"
   else pure (.lit false)
  |.slice _,.slice none _ _,.slice b _ _=>pure (.lit b.isNone)
  |.slice _,.slice (some _) _ _,.slice none _ _=>pure (.lit false)
  |.map _ _,.map none,.map b=>pure (.lit b.isNone)
  |.map _ _,.map (some _),.map none=>pure (.lit false)
  |.func _ _ _,.nilFunc,.nilFunc=>pure (.lit true)
  |.func _ _ _,.nilFunc,.func _ _ _=>pure (.lit false)
  |.func _ _ _,.func _ _ _,.nilFunc=>pure (.lit false)
  |.chan _ _,.chan none,.chan b=>pure (.lit b.isNone)
  |.chan _ _,.chan (some _),.chan none=>pure (.lit false)
  |.struct fs,.agg xs,.agg ys=>if P.stoodInHeld t then .error " a struct that stands in" else eqAll? P (eq? P O h d) xs ys fs.toList
  |_,_,_=>.error " the operands"
def notB:BE->M BE
 |.lit b=>.ok (.lit (!b))
 |.cmp .eql a b=>.ok (.cmp .neq a b)
 |.cmp .neq a b=>.ok (.cmp .eql a b)
 |.cmp .lss a b=>.ok (.cmp .geq a b)
 |.cmp .geq a b=>.ok (.cmp .lss a b)
 |.cmp .gtr a b=>.ok (.cmp .leq a b)
 |.cmp .leq a b=>.ok (.cmp .gtr a b)
 |.seq n a b=>.ok (.seq (!n) a b)
 |_=>.error "not of an open truth value"
def isConst?:Operand->Bool
 |.const _=>true
 |_=>false
def eqGuard?(P:Program)(op:BinOp)(t:TypeId)(x y:Operand)(a b:AV):M Unit:=
 match op with
 |.eql|.neq=>
  match a,b with
  |.nilIface,.nilIface=>if isConst? x||isConst? y then .ok ()else
   match P.underlying t with
   |some (.interface ms)=>if ms.isEmpty then .ok ()else .error " two nil values"
   |_=>.error " two nil values"
  |.agg _,.agg _=>if P.eqGuardType P.depth t then .error " structs with interface values" else .ok ()
  |.raw _,_=>.error " raw"
  |_,.raw _=>.error " raw"
  |.opq _,_=>.error " veiled"
  |_,.opq _=>.error " veiled"
  |_,_=>.ok ()
 |_=>.ok ()
def intArith?(o:BinOp):Bool:=
 match o with
 |.add|.sub|.mul|.and|.or|.xor|.andNot=>true
 |_=>false
def cmp?(o:BinOp):Bool:=
 match o with
 |.eql|.neq|.lss|.leq|.gtr|.geq=>true
 |_=>false
def sOp?(O:Orc)(o:BinOp)(a b:SE):M AV:=
 match o with
 |.eql=>.ok (.bool (O.bool (.seq false a b)))
 |.neq=>.ok (.bool (O.bool (.seq true a b)))
 |.add=>match O.dec (.cmp .leq (.slen (.cat a b)) (.lit 4611686018427387904))with
  |.ok true=>.ok (.ss (.cat a b))
  |.ok false=>.error "binOp long"
  |.error e=>.error e
 |_=>.error "binOp strings"
def binOp?(P:Program)(O:Orc)(h:AH)(o:BinOp)(t:TypeId)(x y:AV):M AV:=do
 match x,y with
 |.int k a,.int k' b=>
  match o with
  |.shl|.shr=>if<-O.dec (.cmp .lss b (.lit 0))then .error "shift negative" else pure (.int k (O.int (.op o k a b)))
  |.quo|.rem=>if k=k' then(if<-O.dec (.cmp .eql b (.lit 0))then .error "division by nought" else pure (.int k (O.int (.op o k a b))))else .error "kinds"
  |_=>if k=k' then(if intArith? o then pure (.int k (O.int (.op o k a b)))else if cmp? o then pure (.bool (O.bool (.cmp o a b)))else .error "binOp int")else .error "kinds"
 |.str a,.str b=>match o with
  |.eql=>pure (.bool (.lit (a.toList==b.toList)))
  |.neq=>pure (.bool (.lit (!(a.toList==b.toList))))
  |.add=>if a.size+b.size≤1048576 then pure (.str (a++b))else .error "binOp long"
  |_=>.error "binOp strings"
 |.ss a,.ss b=>sOp? O o a b
 |.ss a,.str b=>sOp? O o a (.lit b)
 |.str a,.ss b=>sOp? O o (.lit a) b
 |x,y=>match o with
  |.eql=>do
   let b<-eq? P O h 8 t x y
   pure (.bool b)
  |.neq=>do
   let b<-eq? P O h 8 t x y
   let c<-notB b
   pure (.bool c)
  |_=>.error "binOp these operands"
def index?(O:Orc)(i len:IE):M Unit:=do
 if<-O.dec (.cmp .leq (.lit 0) i)then(if<-O.dec (.cmp .lss i len)then pure ()else .error "index beyond")else .error "index below"
def timesN(a:IE)(n:Nat):IE:=
 match a with
 |.lit (.ofNat m)=>.lit (.ofNat (m*n))
 |_=>if n=1 then .tn a else .times (.tn a) (.lit (.ofNat n))
def AA.at(a:AA)(i:IE)(size:Nat):AA:=
 match timesN i size with
 |.lit (.ofNat n)=>a.add n
 |e=>match a.off with
  |.lit 0=>{a with off:=e}
  |off=>{a with off:=.plus (.tn off) e}
def appArgs?(O:Orc)(h:AH)(size:Nat)(x:AV):M (Nat×List AV):=
 match x with
 |.slice none n _=>match n with
  |.lit (.ofNat 0)=>.ok (0,[])
  |_=>.error "append nil"
 |.slice (some b) n _=>do
  let n<-litNat? n
  let l<-loadN O h b (n*size) 0
  pure (n,l)
 |.str t=>if size=1 then .ok (t.size,t.data.toList.map fun c=>AV.int .u8 (.lit c.toNat))else .error "append string"
 |_=>.error "append what"
def appFit?(h:AH)(base:Option AA)(sLen n cap size:Nat)(new:List AV):M (AV×AH):=
 match base with
 |some a=>do
  let h<-storeN h (a.add (sLen*size)) new 0
  pure (.slice base (.lit (.ofNat (sLen+n))) (.lit (.ofNat cap)),h)
 |none=>if n=0 then pure (.slice none (.lit (.ofNat sLen)) (.lit (.ofNat cap)),h)else .error "append nil with room"
def appOld?(O:Orc)(h:AH)(base:Option AA)(sLen size:Nat):M (List AV):=
 match base with
 |none=>if sLen=0 then .ok []else .error "append nil"
 |some a=>loadN O h a (sLen*size) 0
def appGrow?(O:Orc)(h:AH)(base:Option AA)(sLen n size:Nat)(new:List AV)(elem:TypeId):M (AV×AH):=do
 let old<-appOld? O h base sLen size
 allocRow? h none (old++new) elem (sLen+n)
def appRow?(h:AH)(base:Option AA)(sl c:IE)(sLen n size:Nat)(new:List AV)(elem:TypeId):M (AV×AH):=
 match base with
 |some a=>match a.blk,a.off with
  |.dyn i,.lit (.ofNat 0)=>match findB i h.hp with
   |some (.row cs e c')=>
    if e=elem∧c.eqb c'=true∧sLen*size≤cs.length then
     (if n=0 then pure (.slice base sl c,h)else allocRow? h (some i) (cs.take (sLen*size)++new) elem (sLen+n))
    else .error "append row"
   |_=>.error "append no row"
  |_,_=>.error "append open"
 |none=>.error "append open"
def lenPlus(n:IE)(k:Nat):IE:=match k with
 |0=>n
 |k=>.plus (.tn n) (.lit (.ofNat k))
def allocPre?(h:AH)(old:Nat)(lk:Bool)(s:Nat)(n:IE)(fs ws:List (IE×AV))(cs:List AV)(elem:TypeId)(len:IE):M (AV×AH):=
 match h with
 |⟨hp,nb,lim⟩=>if nb<lim then
   .ok (.slice (some ⟨.dyn nb,.lit 0⟩) len (.var nb),⟨insB nb (.pre lk s n fs ws cs elem (.var nb)) (dropB old hp),nb+1,lim⟩)
  else .error "new numbers"
def preOk?(O:Orc)(m sl c c':IE)(e elem:TypeId)(size n:Nat)(cs:List AV):Bool:=
 decide (e=elem)&&c.eqb c'&&Nat.beq (cs.length / size*size) cs.length&&sl.eqb (lenPlus m (cs.length / size))&&
  (match O.dec (.cmp .leq (.plus (.tn sl) (.lit (.ofNat n))) (.lit 1048576))with
  |.ok b=>b
  |.error _=>false)
def appPre?(O:Orc)(h:AH)(base:Option AA)(sl c:IE)(n size:Nat)(new:List AV)(elem:TypeId):M (AV×AH):=
 match base with
 |some a=>match a.blk,a.off with
  |.dyn i,.lit (.ofNat 0)=>match findB i h.hp with
   |some (.pre lk s m fs ws cs e c')=>match preOk? O m sl c c' e elem size n cs with
    |true=>match n with
     |0=>pure (.slice base sl c,h)
     |n=>allocPre? h i lk s m fs ws (cs++new) elem (lenPlus m (cs.length / size+n))
    |false=>.error "append veiled"
   |_=>.error "append no veiled list"
  |_,_=>.error "append open"
 |none=>.error "append open"
def append?(P:Program)(h:AH)(argTypes:Array TypeId)(s x:AV)(O:Orc):M (AV×AH):=do
 match argTypes[0]?,argTypes[1]? with
 |some sType,some xType=>do
  let X<-under? P xType
  match X with
  |.int _=>.error "append make"
  |_=>match<-under? P sType with
   |.slice elem=>do
    let size<-sizeOf? P elem
    let z<-zero? P elem
    let zc<-z.cells?
    let bytes<-bytesOf? P elem
    if zc.length=size∧0<size∧0<bytes∧bytes≤1024 then do
     let(n,new)<-appArgs? O h size x
     if new.all (·.oneCell?)then
      match s with
      |.slice base sl sc=>match sl with
       |.lit _=>do
        let sLen<-litNat? sl
        if sLen+n≤1048576 then
         match sc with
         |.lit (.ofNat cap)=>if sLen+n≤cap then appFit? h base sLen n cap size new else appGrow? O h base sLen n size new elem
         |c=>appRow? h base sl c sLen n size new elem
        else .error "append long"
       |sl=>appPre? O h base sl sc n size new elem
      |_=>.error "append no slice"
     else .error "append cells"
    else .error "append element"
   |_=>.error "append type"
 |_,_=>.error "append types"
def lenOf?(P:Program)(h:AH)(t:TypeId)(x:AV):M IE:=do
 match<-under? P t,x with
 |.string,.str s=>pure (.lit (.ofNat s.size))
 |.string,.ss e=>pure (.slen e)
 |.array n _,_=>pure (.lit (.ofNat n))
 |.slice _,.slice _ n _=>pure (.tn n)
 |.slice _,.raw (.slice _ n _)=>pure (.lit (.ofNat n))
 |.map _ _,.map none=>pure (.lit 0)
 |.chan _ _,.chan none=>pure (.lit 0)
 |.map _ _,.map (some (.dyn i))=>match findB i h.hp with
  |some (.map es)=>pure (.lit (.ofNat es.length))
  |some (.vmap _ n _ ws)=>match ws with
   |[]=>pure (.tn n)
   |_=>.error "len a veiled map"
  |_=>.error "len map"
 |_,_=>.error "len"
def makeChan?(P:Program)(h:AH)(t:TypeId)(s:AV):M (AV×AH):=
 match s,P.underlying t with
 |.int _ (.lit (.ofNat 0)),some (.chan _ elem)=>match P.info? elem with
  |some _=>allocO? h .chan fun r=>.chan (some r)
  |none=>.error "makeChan"
 |_,_=>.error "makeChan"
def makeMap?(h:AH)(r:Option AV):M (AV×AH):=
 match r with
 |none=>allocO? h (.map []) fun r=>.map (some r)
 |some _=>.error "makeMap"
def findA?(P:Program)(O:Orc)(h:AH)(key:TypeId)(k:AV):List (AV×AV)->M (Option AV)
 |[]=>.ok none
 |(a,v)::l=>match eq? P O h 8 key k a with
  |.ok (.lit true)=>.ok (some v)
  |.ok (.lit false)=>findA? P O h key k l
  |.ok _=>.error "a maps key open"
  |.error e=>.error e
def entries?(h:AH)(x:AV):M (List (AV×AV)):=
 match x with
 |.map none=>.ok []
 |.map (some (.dyn i))=>match findB i h.hp with
  |some (.map es)=>.ok es
  |_=>.error "map"
 |_=>.error "map"
def keyOk?(P:Program)(key:TypeId):Bool:=
 match P.underlying key with
 |some (.pointer _)=>true
 |some .string=>true
 |some (.int _)=>true
 |_=>false
def lookF(a:AA):List (AA×Option AV)->Option (Option AV)
 |[]=>none
 |p::l=>match a.eqb p.1 with
  |true=>some p.2
  |false=>lookF a l
def keySize?(P:Program)(key:TypeId):Bool:=
 match P.underlying key with
 |some (.pointer e)=>match sizeOf? P e with
  |.ok n=>!(Nat.beq n 0)
  |.error _=>false
 |_=>false
def lookV?(P:Program)(h:AH)(key:TypeId)(x k:AV):Option (Option AV):=
 match x with
 |.map (some (.dyn i))=>match findB i h.hp with
  |some (.vmap _ _ fs ws)=>match ws,k,keySize? P key with
   |[],.ptr (some a),true=>lookF a fs
   |_,_,_=>none
  |_=>none
 |_=>none
def lookup?(P:Program)(O:Orc)(h:AH)(t:TypeId)(x k:AV)(commaOk:Bool):M AV:=
 match P.underlying t with
 |some (.map key elem)=>match lookV? P h key x k with
  |some r=>(match r with
   |some v=>.ok (if commaOk then .tuple [v,.bool (.lit true)]else v)
   |none=>match zero? P elem with
    |.ok z=>.ok (if commaOk then .tuple [z,.bool (.lit false)]else z)
    |.error e=>.error e)
  |none=>if keyOk? P key then(match entries? h x with
  |.ok es=>match findA? P O h key k es with
   |.ok (some v)=>.ok (if commaOk then .tuple [v,.bool (.lit true)]else v)
   |.ok none=>match zero? P elem with
    |.ok z=>.ok (if commaOk then .tuple [z,.bool (.lit false)]else z)
    |.error e=>.error e
   |.error e=>.error e
  |.error e=>.error e)else .error "lookup key"
 |_=>.error "lookup"
def mapUpdate?(P:Program)(O:Orc)(h:AH)(t:TypeId)(x k v:AV):M AH:=
 match P.underlying t,x with
 |some (.map key _),.map (some (.dyn i))=>match findB i h.hp with
  |some (.map es)=>if keyOk? P key then(match findA? P O h key k es with
   |.ok none=>.ok {h with hp:=setB i (.map (es++[(k,v)])) h.hp}
   |.ok (some _)=>.error "mapUpdate a key that is there"
   |.error e=>.error e)else .error "mapUpdate key"
  |some (.vmap s n fs ws)=>(match lookV? P h key x k with
   |some none=>.ok {h with hp:=setB i (.vmap s n fs (ws++[(k,v)])) h.hp}
   |_=>.error "mapUpdate a veiled map")
  |_=>.error "mapUpdate"
 |_,_=>.error "mapUpdate"
def minMax?(O:Orc)(mx:Bool):AV->List AV->M AV
 |x,[]=>.ok x
 |.int k x,.int k' y::l=>do
  if k=k' then
   let less<-O.dec (if mx then .cmp .lss x y else .cmp .lss y x)
   minMax? O mx (.int k (if less then y else x)) l
  else .error "min kinds"
 |_,_=>.error "min"
def copyTo?(h:AH)(base:Option AA)(new:List AV)(n:Nat):M (AV×AH):=
 match base with
 |some a=>match storeN h a new 0 with
  |.ok h=>.ok (.int .i64 (.lit (.ofNat n)),h)
  |.error e=>.error e
 |none=>.ok (.int .i64 (.lit (.ofNat n)),h)
def copyFrom?(O:Orc)(h:AH)(sb:Option AA)(n:Nat):M (List AV):=
 match sb with
 |some a=>loadN O h a n 0
 |none=>.ok []
def copy?(P:Program)(O:Orc)(h:AH)(argTypes:Array TypeId)(d s:AV):M (AV×AH):=do
 match argTypes[0]? with
 |some dType=>match<-under? P dType with
  |.slice elem=>do
   let size<-sizeOf? P elem
   match d,s with
   |.slice base dl _,.slice sb sl _=>do
    let m<-litNat? sl
    let n<-litNat? dl
    let new<-copyFrom? O h sb (Nat.min m n*size)
    copyTo? h base new (Nat.min m n)
   |_,_=>.error "copy what"
  |_=>.error "copy type"
 |none=>.error "copy"
def builtin?(P:Program)(O:Orc)(h:AH)(b:Builtin)(argTypes:Array TypeId)(args:List AV):M (AN×AH):=
 match b,args with
 |.len,[x]=>match argTypes[0]? with
  |some t=>match lenOf? P h t x with
   |.ok e=>.ok (.value (.int .i64 (O.int e)),h)
   |.error e=>.error e
  |none=>.error "len"
 |.cap,[.slice _ _ c]=>match argTypes[0]? with
  |some t=>match under? P t with
   |.ok (.slice _)=>.ok (.value (.int .i64 (O.int (.tn c))),h)
   |_=>.error "cap"
  |none=>.error "cap"
 |.append,[s,x]=>allocOp (append? P h argTypes s x O)
 |.copy,[d,s]=>allocOp (copy? P O h argTypes d s)
 |.min,x::l=>valOp (minMax? O false x l) h
 |.max,x::l=>valOp (minMax? O true x l) h
 |.recover,[]=>.ok (.recover,h)
 |.panic,[.iface t v]=>.ok (.panic (.iface t v),h)
 |_,_=>.error "builtin"
def handle?(P:Program):AV->Option TypeId
 |.ptr (some ⟨.glob b,.lit (.ofNat o)⟩)=>if b==P.globals.size then some o else none
 |_=>none
def invokeFn?(P:Program)(O:Orc)(ext:AH->FuncId->List AV->M (AV×AH))(h:AH)(f:FuncId)(args:List AV):M (AN×AH):=
 if O.fns.contains f then .ok (.enter f args,h)else
 match look (fun a b=>a==b) f O.ext with
 |some e=>match AV.vals? args with
  |some vs=>match pureRun P (e vs.toArray)with
   |some v=>.ok (.value (ofValue v),h)
   |none=>match ext h f args with
    |.ok (v,h)=>.ok (.value v,h)
    |.error e=>.error e
  |none=>match ext h f args with
   |.ok (v,h)=>.ok (.value v,h)
   |.error e=>.error e
 |none=>match ext h f args with
  |.ok (v,h)=>.ok (.value v,h)
  |.error e=>.error e
def method?(P:Program)(t:TypeId)(v:AV)(name:String):M (FuncId×AV):=
 match P.info? t with
 |none=>.error "method type"
 |some i=>match i.methods.find? (·.name==name)with
  |none=>.error "method none"
  |some m=>if m.path.isEmpty then
    match m.func with
    |some (f,true)=>match P.underlying t with
     |some (.pointer _)=>.ok (f,v)
     |_=>.error "method row"
    |some (f,false)=>match P.underlying t with
     |some (.pointer _)=>.error "method through a pointer"
     |some _=>.ok (f,v)
     |none=>.error "method row"
    |none=>.error "method row"
   else match v.val? with
    |some u=>match pureRun P (method (P.types.size+Made.depth) t u name)with
     |some (f,r)=>.ok (f,ofValue r)
     |none=>.error "method promoted"
    |none=>.error "method promoted"
def invoke?(P:Program)(O:Orc)(ext:AH->FuncId->List AV->M (AV×AH))(h:AH)(d:AD):M (AN×AH):=
 match d.target with
 |.builtin b argTypes _ _=>builtin? P O h b argTypes d.args
 |.fn (.func f) captured=>invokeFn? P O ext h f (d.args++captured)
 |.fn (.method name) _=>
  match d.args with
  |.iface t v::args=>match method? P t v name with
   |.ok (f,r)=>invokeFn? P O ext h f (r::args)
   |.error e=>.error e
  |_=>.error "invoke receiver"
 |.fn _ _=>.error "invoke what"
def resolve?(ρ:Operand->AV)(c:Call)(type:TypeId):M AD:=
 let args:=c.args.toList.map ρ
 match c.callee with
 |.builtin b=>.ok {target:=.builtin b c.argTypes type (c.args.map fun|.const _=>true|_=>false),args}
 |.invoke recv name=>.ok {target:=.fn (.method name) [],args:=ρ recv::args}
 |.value f=>match ρ f with
  |.func fn first captured=>.ok {target:=.fn fn captured,args:=first++args}
  |_=>.error "call no function"
def zeros?(P:Program)(elem:TypeId)(size n:Nat):M (List AV):=
 if n*size=0 then .ok []else do
  let z<-zero? P elem
  let zc<-z.cells?
  if zc.length=size then pure (repl n zc)else .error "zeros size"
def makeSlice?(P:Program)(h:AH)(t:TypeId)(l c:AV):M (AV×AH):=do
 match<-under? P t with
 |.slice elem=>match l,c with
  |.int _ l,.int _ c=>do
   let l<-litNat? l
   let c<-litNat? c
   let size<-sizeOf? P elem
   let bytes<-bytesOf? P elem
   if l≤c∧c≤1048576∧bytes≤65536 then do
    let cells<-zeros? P elem size c
    allocSlice? h (.cells cells elem) (.lit (.ofNat l)) (.lit (.ofNat c))
   else .error "makeSlice size"
  |_,_=>.error "makeSlice"
 |_=>.error "makeSlice type"
def bigB(O:Orc)(c:IE):M Bool:=
 match O.dec (.cmp .gtr c (.lit 1048576))with
 |.ok b=>.ok b
 |.error _=>O.dec (.cmp .gtr c (.lit 4294967296))
def makeRow?(P:Program)(O:Orc)(h:AH)(t:TypeId)(l c:AV):M (AV×AH):=do
 match<-under? P t with
 |.slice elem=>match l,c with
  |.int _ l,.int _ c=>do
   let _<-zero? P elem
   let _<-sizeOf? P elem
   let bytes<-bytesOf? P elem
   let neg<-O.dec (.cmp .lss c (.lit 0))
   let big<-bigB O c
   if IE.eqb l c∧neg=false∧big=false∧bytes≤65536 then allocSlice? h (.row [] elem c) c c
   else .error "makeRow size"
  |_,_=>.error "makeRow"
 |_=>.error "makeRow type"
def makeSliceS?(P:Program)(O:Orc)(h:AH)(t:TypeId)(l c:AV):M (AV×AH):=
 match c with
 |.int _ (.lit _)=>makeSlice? P h t l c
 |_=>makeRow? P O h t l c
def oneCells:List AV->Bool
 |[]=>true
 |v::l=>v.oneCell?&&oneCells l
def storeRow?(P:Program)(O:Orc)(h:AH)(t:TypeId)(i:Nat)(off:IE)(v:AV):M AH:=do
 let cs<-v.cells?
 match findB i h.hp with
 |some (.row [] e c)=>do
  let size<-sizeOf? P e
  let ok<-O.dec (.cmp .lss (.plus (.tn off) (.lit (.ofNat (cs.length-1)))) (.times (.tn c) (.lit (.ofNat size))))
  if cs.length=(<-sizeOf? P t)∧oneCells cs=true∧ok=true∧cs.length≠0 then .ok h else .error "store an open place"
 |_=>.error "store an open place no such array"
def storeS?(P:Program)(O:Orc)(h:AH)(t:TypeId)(a:AA)(v:AV):M AH:=
 match a with
 |⟨.dyn i,off⟩=>match findB i h.hp with
  |some (.row [] _ _)=>storeRow? P O h t i off v
  |_=>storeVar? P h t a v
 |_=>storeVar? P h t a v
def bound?(v:Option AV)(d:Nat):M Nat:=
 match v with
 |none=>.ok d
 |some (.int _ e)=>litNat? e
 |some _=>.error "slice bound"
def high?(hi mx:Option AV)(len:Nat):M Nat:=
 match hi,mx with
 |none,some _=>.error "slice max without high"
 |hi,_=>bound? hi len
def bounds?(len cap:Nat)(lo hi mx:Option AV):M (Nat×Nat×Nat):=do
 let m<-bound? mx cap
 let h<-high? hi mx len
 let l<-bound? lo 0
 if m≤cap∧h≤m∧l≤h then pure (l,h,m)else .error "slice out of bounds"
def sliceOp?(P:Program)(t:TypeId)(x:AV)(lo hi mx:Option AV):M AV:=do
 match<-under? P t,x with
 |.slice elem,.slice a len (.lit (.ofNat cap))=>do
  let len<-litNat? len
  let(l,h,m)<-bounds? len cap lo hi mx
  let size<-sizeOf? P elem
  pure (.slice (if m=l then a else a.map (·.add (l*size))) (.lit (.ofNat (h-l))) (.lit (.ofNat (m-l))))
 |.string,.str s=>do
  match mx with
  |some _=>.error "slice string"
  |none=>do
   let(l,h,_)<-bounds? s.size s.size lo hi none
   pure (.str (s.extract l h))
 |.array n elem,.ptr (some a)=>do
  let(l,h,m)<-bounds? n n lo hi mx
  let size<-sizeOf? P elem
  pure (.slice (some (if m=l then a else a.add (l*size))) (.lit (.ofNat (h-l))) (.lit (.ofNat (m-l))))
 |_,_=>.error "slice"
def fieldAddr?(P:Program)(s:TypeId)(x:AV)(i:Nat):M AV:=do
 match<-under? P s with
 |.struct fs=>match fs[i]? with
  |some f=>do
   let a<-sureAddr? x
   if(<-sizeOf? P f.type)=0 then .error "fieldAddr empty" else pure (.ptr (some (a.add f.offset)))
  |none=>.error "fieldAddr"
 |_=>.error "fieldAddr type"
def indexAddr?(P:Program)(O:Orc)(t:TypeId)(x i:AV):M AV:=do
 match i with
 |.int _ i=>match<-under? P t,x with
  |.slice elem,.slice (some a) len _=>do
   index? O i (match len with|.lit n=>.lit n|l=>.tn l)
   pure (.ptr (some (a.at i (<-sizeOf? P elem))))
  |.array n elem,.ptr (some a)=>do
   index? O i (.lit (.ofNat n))
   pure (.ptr (some (a.at i (<-sizeOf? P elem))))
  |_,_=>.error "indexAddr"
 |_=>.error "indexAddr index"
def indexOp?(P:Program)(t:TypeId)(x i:AV):M AV:=do
 match<-under? P t,x,i with
 |.array n elem,.agg cs,.int _ (.lit (.ofNat i))=>if i<n then part? P elem cs (i*(<-sizeOf? P elem))else .error "index beyond"
 |.string,.str s,.int _ (.lit (.ofNat i))=>match s.data.toList[i]? with
  |some b=>pure (.int .u8 (.lit b.toNat))
  |none=>.error "index beyond"
 |_,_,_=>.error "index"
def typeAssert?(P:Program)(x:AV)(asserted:TypeId)(commaOk:Bool):M AV:=do
 let holds (v:AV):M AV:=pure (if commaOk then .tuple [v,.bool (.lit true)]else v)
 let fails:M AV:=do if commaOk then pure (.tuple [<-zero? P asserted,.bool (.lit false)])else .error "typeAssert fails"
 match<-under? P asserted,x with
 |.interface _,.nilIface=>fails
 |.interface want,.iface t v=>match P.info? t with
  |some i=>match lacks want i.methods with
   |false=>holds (.iface t v)
   |true=>fails
  |none=>.error "typeAssert type"
 |_,.nilIface=>fails
 |_,.iface t v=>if t=asserted then holds v else fails
 |_,_=>.error "typeAssert"
def build?(P:Program)(t:TypeId)(parts:List (Nat×AV)):M AV:=do
 let zero<-(<-zero? P t).cells?
 match<-under? P t with
 |.struct fs=>do
  let places<-fs.toList.mapM fun f=>do pure (f.offset,<-sizeOf? P f.type)
  pure (.agg (<-fill? (places[·]?) zero parts))
 |.array _ elem=>do
  let size<-sizeOf? P elem
  pure (.agg (<-fill? (fun i=>some (i*size,size)) zero parts))
 |_=>.error "build"
def buildSlice?(P:Program)(h:AH)(t:TypeId)(len:Nat)(parts:List (Nat×AV)):M (AV×AH):=do
 match<-under? P t with
 |.slice elem=>do
  let size<-sizeOf? P elem
  if len*size>65536 then .error "buildSlice long" else
  let z<-zeros? P elem size len
  let cells<-fill? (fun i=>some (i*size,size)) z parts
  allocSlice? h (.cells cells elem) (.lit (.ofNat len)) (.lit (.ofNat len))
 |_=>.error "buildSlice"
def field?(P:Program)(t:TypeId)(x:AV)(i:Nat):M AV:=do
 match<-under? P t,x with
 |.struct fs,.agg cs=>match fs[i]? with
  |some f=>part? P f.type cs f.offset
  |none=>.error "field"
 |_,_=>.error "field"
def convert?(P:Program)(O:Orc)(h:AH)(src dst:TypeId)(x:AV):M AV:=do
 match<-under? P src,<-under? P dst,x with
 |_,.int k,.int _ e=>pure (.int k (O.int (.conv k e)))
 |_,.string,.str s=>pure (.str s)
 |.pointer t,.unsafePointer,.ptr (some ⟨.dyn i,.lit (.ofNat n)⟩)=>
  match findB i h.hp with
  |some b=>do
   if n<b.cs.length∧(<-sizeOf? P t)≠0 then pure (.ptr (some ⟨.dyn i,.lit (.ofNat n)⟩))else .error "convert pointer"
  |none=>.error "convert pointer"
 |_,_,_=>.error "convert"
def normI(O:Orc)(v:AV):AV:=
 match v with
 |.int k e=>.int k (O.int e)
 |v=>v
def op?(P:Program)(O:Orc)(ext:AH->FuncId->List AV->M (AV×AH))(h:AH)(ρ:Operand->AV)(o:Oper):M (AN×AH):=
 match o.op with
 |.move x|.assign x=>.ok (.value (ρ x),h)
 |.pick c a b=>match ρ c with
  |.bool t=>match O.bool t with
   |.lit t=>.ok (.value (if t then ρ a else ρ b),h)
   |_=>.error "pick an open test"
  |_=>.error "pick"
 |.alloc elem=>match zero? P elem with
  |.ok z=>match z.cells? with
   |.ok cs=>allocOp (alloc? h (.cells cs elem))
   |.error e=>.error e
  |.error e=>.error e
 |.box elem x=>match(ρ x).cells? with
  |.ok cs=>allocOp (alloc? h (.cells cs elem))
  |.error e=>.error e
 |.build t parts=>valOp (build? P t (parts.toList.map fun(i,x)=>(i,ρ x))) h
 |.buildSlice t len parts=>allocOp (buildSlice? P h t len (parts.toList.map fun(i,x)=>(i,ρ x)))
 |.load t a=>match sureAddr? (ρ a)with
  |.ok a=>valOp (loadVar? P O h t a) h
  |.error e=>.error e
 |.store t a x=>match sureAddr? (ρ a)with
  |.ok a=>skipOp (storeS? P O h t a (ρ x))
  |.error e=>.error e
 |.nilCheck x=>match ρ x with
  |.ptr (some a)=>.ok (.value (.ptr (some a)),h)
  |.iface t v=>.ok (.value (.iface t v),h)
  |.func (.func f) a b=>.ok (.value (.func (.func f) a b),h)
  |_=>.error "nilCheck"
 |.binOp op t x y _=>match eqGuard? P op t x y (ρ x) (ρ y)with
  |.ok _=>valOp (binOp? P O h op t (ρ x) (ρ y)) h
  |.error e=>.error e
 |.unOp .not _ x=>match ρ x with
  |.bool b=>match notB b with
   |.ok b=>.ok (.value (.bool (O.bool b)),h)
   |.error e=>.error e
  |_=>.error "not"
 |.unOp .neg _ x=>match ρ x with
  |.int k e=>.ok (.value (.int k (O.int (.op .sub k (.lit 0) e))),h)
  |_=>.error "neg"
 |.convert src dst x=>valOp (convert? P O h src dst (ρ x)) h
 |.makeInterface t x=>match P.underlying t with
  |some (.interface _)=>.error "makeInterface"
  |some _=>.ok (.value (.iface t (ρ x)),h)
  |none=>.error "makeInterface"
 |.makeFunc fn first captured=>.ok (.value (.func fn (first.toList.map ρ) (captured.toList.map ρ)),h)
 |.makeSlice t l c=>allocOp (makeSliceS? P O h t (normI O (ρ l)) (normI O (ρ c)))
 |.slice t x lo hi mx=>valOp (sliceOp? P t (ρ x) (lo.map fun x=>normI O (ρ x)) (hi.map fun x=>normI O (ρ x)) (mx.map fun x=>normI O (ρ x))) h
 |.fieldAddr s x f=>valOp (fieldAddr? P s (ρ x) f) h
 |.field t x f=>valOp (field? P t (ρ x) f) h
 |.indexAddr t x ix=>valOp (indexAddr? P O t (ρ x) (normI O (ρ ix))) h
 |.index t x ix=>valOp (indexOp? P t (ρ x) (normI O (ρ ix))) h
 |.typeAssert x _ asserted ok=>valOp (typeAssert? P (ρ x) asserted ok) h
 |.extract t ix=>match ρ t with
  |.tuple vs=>match vs[ix]? with
   |some v=>.ok (.value v,h)
   |none=>.error "extract"
  |_=>.error "extract"
 |.call c=>match resolve? ρ c o.type with
  |.ok d=>invoke? P O ext h d
  |.error e=>.error e
 |.defer c=>match resolve? ρ c o.type with
  |.ok d=>.ok (.defer d,h)
  |.error e=>.error e
 |.panic x=>match ρ x with
  |.iface t v=>.ok (.panic (.iface t v),h)
  |_=>.error "panic"
 |.makeChan t s=>allocOp (makeChan? P h t (ρ s))
 |.makeMap _ r=>allocOp (makeMap? h (r.map ρ))
 |.lookup t x k ok=>valOp (lookup? P O h t (ρ x) (ρ k) ok) h
 |.mapUpdate t m k x=>skipOp (mapUpdate? P O h t (ρ m) (ρ k) (ρ x))
 |.insert t m k x=>skipOp (mapUpdate? P O h t (ρ m) (ρ k) (ρ x))
 |_=>.error "this operation"
inductive AMode where
 |run
 |returning
 |panicking(chain:List (AV×Bool))
structure AFrame where
 fn:FuncId
 nt:Nat
 tmps:TT
 todo:List Item
 defers:List AD
 mode:AMode
 kind:CallKind
structure ACfg where
 cur:AFrame
 callers:List AFrame
 h:AH
def evalA(tmps:TT):Operand->AV
 |.tmp t=>tmps.get t
 |.const v=>ofValue v
 |.global g=>.ptr (some ⟨.glob g,.lit 0⟩)
 |.func f=>.func (.func f) [] []
def enterA(P:Program)(f:FuncId)(args:List AV)(kind:CallKind):M AFrame:=
 match P.funcs[f]? with
 |some fn=>match fn.body with
  |some c=>if args.length≤fn.ntmps∧fn.ntmps≤60000 then .ok {fn:=f,nt:=fn.ntmps,tmps:=TT.fill args 0 .leaf,todo:=[.code c],defers:=[],mode:=.run,kind}else .error "enter temporaries"
  |none=>.error "enter no body"
 |none=>.error "enter no function"
def putA(nt:Nat)(tmps:TT)(dst:Option Tmp)(v:AV):TT:=
 match dst with
 |some d=>match Nat.ble (d+1) nt with
  |true=>tmps.set v 16 d
  |false=>tmps
 |none=>tmps
def yieldedA(O:Orc)(ops:Array Oper)(tmps:TT)(j:Nat):M (Option Bool):=
 match(ops[j]?).bind (·.dst)with
 |none=>.error "a guard without a place"
 |some d=>match tmps.get d with
  |.bool b=>match O.bool b with
   |.lit b=>.ok (some b)
   |_=>.error "a guard is open"
  |.tuple _=>.ok none
  |_=>.error "a guard"
def wantedA(O:Orc)(ops:Array Oper)(tmps:TT)(o:Oper):M Bool:=
 match o.guard with
 |none=>.ok true
 |some (j,want)=>match yieldedA O ops tmps j with
  |.ok y=>.ok (y==some want)
  |.error e=>.error e
def finishA(fr:AFrame)(v:AV):M AFrame:=
 match fr with
 |⟨fn,nt,tmps,.inRegion ops (i::rest)::k,defers,.run,kind⟩=>.ok ⟨fn,nt,putA nt tmps ((ops[i]?).bind (·.dst)) v,.inRegion ops rest::k,defers,.run,kind⟩
 |_=>.error "finish"
def raiseA(fr:AFrame)(vs:List (AV×Bool)):AFrame:=
 match fr with
 |⟨fn,nt,tmps,todo,defers,.panicking chain,kind⟩=>⟨fn,nt,tmps,todo,defers,.panicking (vs++chain),kind⟩
 |⟨fn,nt,tmps,todo,defers,_,kind⟩=>⟨fn,nt,tmps,todo,defers,.panicking vs,kind⟩
def recoverA(kind:CallKind)(callers:List AFrame):M (Option (AV×List AFrame)):=
 match kind with
 |.normal=>.ok none
 |.deferred=>match callers with
  |[]=>.error "recover no caller"
  |⟨fn,nt,tmps,todo,defers,mode,kind⟩::rest=>match mode with
   |.panicking ((v,false)::older)=>.ok (some (v,⟨fn,nt,tmps,todo,defers,.panicking ((v,true)::older),kind⟩::rest))
   |_=>.ok none
 |_=>.error "recover kind"
inductive AE where
 |returned(v:AV)
 |panicked(chain:List (AV×Bool))
def resultOf(P:Program)(O:Orc)(h:AH)(tmps:TT):ResultVar->M AV
 |.tmp t=>.ok (tmps.get t)
 |.cell a t=>match tmps.get a with
  |.ptr (some a)=>loadVar? P O h t a
  |_=>.error "result"
def resultsOf(P:Program)(O:Orc)(h:AH)(tmps:TT):List ResultVar->M (List AV)
 |[]=>.ok []
 |r::l=>match resultOf P O h tmps r with
  |.ok v=>match resultsOf P O h tmps l with
   |.ok vs=>.ok (v::vs)
   |.error e=>.error e
  |.error e=>.error e
def results?(P:Program)(O:Orc)(h:AH)(fn:FuncId)(tmps:TT):M AV:=
 match P.funcs[fn]? with
 |some fn=>match resultsOf P O h tmps fn.results.toList with
  |.ok [v]=>.ok v
  |.ok vs=>.ok (.tuple vs)
  |.error e=>.error e
 |none=>.error "results no function"
abbrev Ext:=AH->FuncId->List AV->M (AV×AH)
inductive AR where
 |on(tmps:TT)(h:AH)
 |panic(tmps:TT)(chain:List (AV×Bool))(h:AH)
def opFull(P:Program)(O:Orc)(ext:Ext)(call:FuncId->List AV->AH->M (AE×AH))(nt:Nat)(ops:Array Oper)(i:Nat)(tmps:TT)(h:AH):M AR:=
 match ops[i]? with
 |none=>.error "region no operation"
 |some o=>match wantedA O ops tmps o with
  |.error e=>.error e
  |.ok false=>.ok (.on (putA nt tmps o.dst undefA) h)
  |.ok true=>match op? P O ext h (evalA tmps) o with
   |.error e=>.error e
   |.ok (.value v,h)=>.ok (.on (putA nt tmps o.dst v) h)
   |.ok (.skip,h)=>.ok (.on (putA nt tmps o.dst undefA) h)
   |.ok (.enter f args,h)=>match call f args h with
    |.ok (.returned v,h)=>.ok (.on (putA nt tmps o.dst v) h)
    |.ok (.panicked chain,h)=>.ok (.panic tmps chain h)
    |.error e=>.error e
   |.ok (.panic v,h)=>.ok (.panic tmps [(v,false)] h)
   |.ok _=>.error "region this operation"
def pairsEqb:List (AV×AV)->List (AV×AV)->Bool
 |[],[]=>true
 |(a,b)::l,(c,d)::m=>a.eqb c&&b.eqb d&&pairsEqb l m
 |_,_=>false
def factsEqb:List (IE×AV)->List (IE×AV)->Bool
 |[],[]=>true
 |(a,b)::l,(c,d)::m=>a.eqb c&&b.eqb d&&factsEqb l m
 |_,_=>false
def kfactsEqb:List (AA×Option AV)->List (AA×Option AV)->Bool
 |[],[]=>true
 |(a,b)::l,(c,d)::m=>a.eqb c&&optEqb AV.eqb b d&&kfactsEqb l m
 |_,_=>false
def ABlk.eqb:ABlk->ABlk->Bool
 |.map a,.map b=>pairsEqb a b
 |.chan,.chan=>true
 |.vmap s n f w,.vmap s' n' f' w'=>Nat.beq s s'&&n.eqb n'&&kfactsEqb f f'&&pairsEqb w w'
 |.cells a e,.cells b e'=>AV.eqbs a b&&e==e'
 |.row a e c,.row b e' c'=>AV.eqbs a b&&e==e'&&c.eqb c'
 |.lent a e l,.lent b e' l'=>AV.eqbs a b&&e==e'&&decide (l=l')
 |.pre l s n f w a e c,.pre l' s' n' f' w' b e' c'=>(l==l')&&Nat.beq s s'&&n.eqb n'&&factsEqb f f'&&factsEqb w w'&&AV.eqbs a b&&e==e'&&c.eqb c'
 |_,_=>false
def hpEqb:List (Nat×ABlk)->List (Nat×ABlk)->Bool
 |[],[]=>true
 |(i,a)::l,(j,b)::m=>Nat.beq i j&&a.eqb b&&hpEqb l m
 |_,_=>false
def boundIn(s:List Nat)(o:Oper):Bool:=o.after.all fun e=>!Region.binds .any e||s.contains e.on
def readyIn(ops:Array Oper)(s:List Nat):List Nat:=
 (List.range ops.size).filter fun i=>!s.contains i&&(match ops[i]? with|some o=>boundIn s o|none=>false)
abbrev Lvl:=List (List Nat×TT×AH)
def sameSet(a b:List Nat):Bool:=a.all b.contains&&b.all a.contains
def putLvl(s:List Nat)(tmps:TT)(h:AH):Lvl->M Lvl
 |[]=>.ok [(s,tmps,h)]
 |(s',t',h')::l=>
  if sameSet s s' then(if tmps.eqb t'&&hpEqb h.hp h'.hp then .ok ((s',t',h')::l)else .error "region the order matters")
  else match putLvl s tmps h l with
   |.ok l=>.ok ((s',t',h')::l)
   |.error e=>.error e
def stride(h0:AH):Nat:=(h0.lim-h0.nb) / 65536
def rangeFor(h0:AH)(i:Nat)(h:AH):AH:=
 match h with
 |⟨hp,_,_⟩=>⟨hp,h0.nb+i*stride h0,h0.nb+(i+1)*stride h0⟩
def rangeBack(h0:AH)(n:Nat)(h:AH):AH:=
 match h with
 |⟨hp,_,_⟩=>⟨hp,h0.nb+n*stride h0,h0.lim⟩
def stepOne(P:Program)(O:Orc)(ext:Ext)(call:FuncId->List AV->AH->M (AE×AH))(nt:Nat)(ops:Array Oper)(h0:AH)(s:List Nat)(tmps:TT)(h:AH):List Nat->Lvl->M Lvl
 |[],l=>.ok l
 |i::r,l=>
  match opFull P O ext call nt ops i tmps (rangeFor h0 i h)with
  |.error e=>.error e
  |.ok (.panic _ _ _)=>.error "region a panic beside others"
  |.ok (.on t' h')=>if h'.nb≤h'.lim then(match putLvl (i::s) t' h' l with
   |.ok l=>stepOne P O ext call nt ops h0 s tmps h r l
   |.error e=>.error e)else .error "region numbers"
def stepLvl(P:Program)(O:Orc)(ext:Ext)(call:FuncId->List AV->AH->M (AE×AH))(nt:Nat)(ops:Array Oper)(h0:AH):Lvl->Lvl->M Lvl
 |[],l=>.ok l
 |(s,t,h)::r,l=>if(readyIn ops s).isEmpty then .error "region none is ready" else match stepOne P O ext call nt ops h0 s t h (readyIn ops s) l with
  |.ok l=>stepLvl P O ext call nt ops h0 r l
  |.error e=>.error e
def runLvls(P:Program)(O:Orc)(ext:Ext)(call:FuncId->List AV->AH->M (AE×AH))(nt:Nat)(ops:Array Oper):Nat->Option AH->Lvl->M AR
 |0,_,_=>.error "region levels"
 |n+1,fork,l=>
  match l,fork with
  |[(s,t,h)],some h0=>runLvls P O ext call nt ops n none [(s,t,rangeBack h0 ops.size h)]
  |[(s,t,h)],none=>match readyIn ops s with
   |[]=>.ok (.on t h)
   |[i]=>match opFull P O ext call nt ops i t h with
    |.error e=>.error e
    |.ok (.panic t' c h')=>.ok (.panic t' c h')
    |.ok (.on t' h')=>runLvls P O ext call nt ops n none [(i::s,t',h')]
   |r=>match stepOne P O ext call nt ops h s t h r []with
    |.ok l=>runLvls P O ext call nt ops n (some h) l
    |.error e=>.error e
  |l,some h0=>match stepLvl P O ext call nt ops h0 l []with
   |.ok l=>runLvls P O ext call nt ops n (some h0) l
   |.error e=>.error e
  |_,none=>.error "region levels"
def quietOp(o:Oper):Bool:=
 match o.op with
 |.move _|.assign _|.pick _ _ _|.build _ _|.load _ _|.nilCheck _|.binOp _ _ _ _ _|.unOp _ _ _|.convert _ _ _|.makeInterface _ _|.makeFunc _ _ _|.slice _ _ _ _ _|.fieldAddr _ _ _|.field _ _ _|.indexAddr _ _ _|.index _ _ _
 |.typeAssert _ _ _ _|.extract _ _=>true
 |_=>false
def bitOf(i:Nat):Nat:=Nat.pow 2 i
def inM(m i:Nat):Bool:=!(Nat.beq (Nat.land m (bitOf i)) 0)
def addM(m i:Nat):Nat:=Nat.lor m (bitOf i)
def predMask:List Edge->Nat
 |[]=>0
 |e::l=>match Region.binds .any e with
  |true=>addM (predMask l) e.on
  |false=>predMask l
abbrev Info:=Nat×Oper×Nat×Bool
def infosFrom:Nat->List Oper->List Info
 |_,[]=>[]
 |i,o::l=>(i,o,predMask o.after.toList,quietOp o)::infosFrom (i+1) l
def infosOf(ops:Array Oper):List Info:=infosFrom 0 ops.toList
def canM(m:Nat)(x:Info):Bool:=!(inM m x.1)&&Nat.beq (Nat.land x.2.2.1 m) x.2.2.1
def regionOk(ops:Array Oper)(infos:List Info):Bool:=
 infos.all fun x=>match x.2.2.2,x.2.1.dst with
  |true,some d=>infos.all fun y=>!((y.2.1.looksAt ops).contains d)||inM y.2.2.1 x.1
  |_,_=>true
def soakM(P:Program)(O:Orc)(ext:Ext)(nt:Nat)(ops:Array Oper)(h:AH):List Info->List Nat->Nat->TT->M (List Nat×Nat×TT)
 |[],s,m,t=>.ok (s,m,t)
 |x::r,s,m,t=>match x.2.2.2&&canM m x with
  |false=>soakM P O ext nt ops h r s m t
  |true=>match wantedA O ops t x.2.1 with
   |.error e=>.error e
   |.ok false=>soakM P O ext nt ops h r (x.1::s) (addM m x.1) (putA nt t x.2.1.dst undefA)
   |.ok true=>match op? P O ext h (evalA t) x.2.1 with
    |.ok (.value v,_)=>soakM P O ext nt ops h r (x.1::s) (addM m x.1) (putA nt t x.2.1.dst v)
    |.ok _=>.error "region a quiet operation"
    |.error e=>.error e
def dstIs(nt:Nat)(t:TT)(dst:Option Tmp)(v:AV):Bool:=
 match dst with
 |some d=>match Nat.ble (d+1) nt with
  |true=>(t.get d).eqb v
  |false=>true
 |none=>true
def holdsQ(P:Program)(O:Orc)(ext:Ext)(nt:Nat)(ops:Array Oper)(m:Nat)(t:TT)(h:AH):List Info->Bool
 |[]=>true
 |x::r=>(match x.2.2.2&&inM m x.1 with
  |false=>true
  |true=>match wantedA O ops t x.2.1 with
   |.error _=>false
   |.ok false=>dstIs nt t x.2.1.dst undefA
   |.ok true=>match op? P O ext h (evalA t) x.2.1 with
    |.ok (.value v,_)=>dstIs nt t x.2.1.dst v
    |_=>false)&&holdsQ P O ext nt ops m t h r
abbrev LvlM:=List (List Nat×Nat×TT×AH)
def putLvlM(s:List Nat)(m:Nat)(t:TT)(h:AH):LvlM->M LvlM
 |[]=>.ok [(s,m,t,h)]
 |(s',m',t',h')::l=>match Nat.beq m m' with
  |true=>if t.eqb t'&&hpEqb h.hp h'.hp then .ok ((s',m',t',h')::l)else .error "region the order matters"
  |false=>match putLvlM s m t h l with
   |.ok l=>.ok ((s',m',t',h')::l)
   |.error e=>.error e
def bare(h:AH):AH:=⟨h.hp,0,0⟩
def oneM(P:Program)(O:Orc)(ext:Ext)(call:FuncId->List AV->AH->M (AE×AH))(nt:Nat)(ops:Array Oper)(infos:List Info)(s:List Nat)(m:Nat)(t:TT)(h:AH)(i:Nat):M (List Nat×Nat×TT×AH):=
 match opFull P O ext call nt ops i t h with
 |.error e=>.error e
 |.ok (.panic _ _ _)=>.error "region a panic beside others"
 |.ok (.on t1 h1)=>match soakM P O ext nt ops (bare h1) infos (i::s) (addM m i) t1 with
  |.error e=>.error e
  |.ok (s2,m2,t2)=>.ok (s2,m2,t2,h1)
def stepOneM(P:Program)(O:Orc)(ext:Ext)(call:FuncId->List AV->AH->M (AE×AH))(nt:Nat)(ops:Array Oper)(infos:List Info)(h0:AH)(s:List Nat)(m:Nat)(t:TT)(h:AH):List Info->LvlM->M LvlM
 |[],l=>.ok l
 |x::r,l=>match oneM P O ext call nt ops infos s m t (rangeFor h0 x.1 h) x.1 with
  |.error e=>.error e
  |.ok (s2,m2,t2,h1)=>if h1.nb≤h1.lim then(match putLvlM s2 m2 t2 h1 l with
   |.ok l=>stepOneM P O ext call nt ops infos h0 s m t h r l
   |.error e=>.error e)else .error "region numbers"
def stepLvlM(P:Program)(O:Orc)(ext:Ext)(call:FuncId->List AV->AH->M (AE×AH))(nt:Nat)(ops:Array Oper)(infos:List Info)(h0:AH):LvlM->LvlM->M LvlM
 |[],l=>.ok l
 |(s,m,t,h)::r,l=>match infos.filter (canM m)with
  |[]=>.error "region none is ready"
  |js=>match stepOneM P O ext call nt ops infos h0 s m t h js l with
   |.ok l=>stepLvlM P O ext call nt ops infos h0 r l
   |.error e=>.error e
def doneM(m:Nat):List Info->Nat
 |[]=>0
 |x::r=>match !x.2.2.2&&inM m x.1 with
  |true=>Nat.lor x.2.2.1 (doneM m r)
  |false=>doneM m r
def remM(infos:List Info)(m:Nat):Nat:=Nat.land m (Nat.xor m (doneM m infos))
def settled(P:Program)(O:Orc)(ext:Ext)(nt:Nat)(ops:Array Oper)(infos:List Info)(m:Nat)(t:TT)(h:AH):Bool:=
 (infos.all fun x=>!(x.2.2.2&&canM m x))&&holdsQ P O ext nt ops (remM infos m) t (bare h) infos
def runLvlsM(P:Program)(O:Orc)(ext:Ext)(call:FuncId->List AV->AH->M (AE×AH))(nt:Nat)(ops:Array Oper)(infos:List Info):Nat->Option AH->LvlM->M AR
 |0,_,_=>.error "region levels"
 |n+1,fork,l=>
  match l.all fun e=>settled P O ext nt ops infos e.2.1 e.2.2.1 e.2.2.2 with
  |false=>.error "region not settled"
  |true=>match l,fork with
   |[(s,m,t,h)],some h0=>runLvlsM P O ext call nt ops infos n none [(s,m,t,rangeBack h0 ops.size h)]
   |[(s,m,t,h)],none=>match infos.filter (canM m)with
    |[]=>.ok (.on t h)
    |[x]=>match oneM P O ext call nt ops infos s m t h x.1 with
     |.error e=>.error e
     |.ok e=>runLvlsM P O ext call nt ops infos n none [e]
    |js=>match stepOneM P O ext call nt ops infos h s m t h js []with
     |.ok l=>runLvlsM P O ext call nt ops infos n (some h) l
     |.error e=>.error e
   |l,some h0=>match stepLvlM P O ext call nt ops infos h0 l []with
    |.ok l=>runLvlsM P O ext call nt ops infos n (some h0) l
    |.error e=>.error e
   |_,none=>.error "region levels"
def drawnM(P:Program)(O:Orc)(ext:Ext)(call:FuncId->List AV->AH->M (AE×AH))(nt:Nat)(ops:Array Oper)(infos:List Info)(tmps:TT)(h:AH):M AR:=
 match soakM P O ext nt ops (bare h) infos [] 0 tmps with
 |.error e=>.error e
 |.ok (s,m,t)=>runLvlsM P O ext call nt ops infos (2*ops.size+2) none [(s,m,t,h)]
def drawnOld(P:Program)(O:Orc)(ext:Ext)(call:FuncId->List AV->AH->M (AE×AH))(nt:Nat)(ops:Array Oper)(tmps:TT)(h:AH):M AR:=
 if ops.size≤65536 then runLvls P O ext call nt ops (2*ops.size+2) none [([],tmps,h)]else .error "region size"
def drawn(P:Program)(O:Orc)(ext:Ext)(call:FuncId->List AV->AH->M (AE×AH))(nt:Nat)(ops:Array Oper)(tmps:TT)(h:AH):M AR:=
 match Nat.ble ops.size 65536&&regionOk ops (infosOf ops)with
 |false=>drawnOld P O ext call nt ops tmps h
 |true=>match drawnM P O ext call nt ops (infosOf ops) tmps h with
  |.ok r=>.ok r
  |.error _=>drawnOld P O ext call nt ops tmps h
def callish(o:Oper):Bool:=
 match o.op with
 |.call _|.go _|.send _ _|.recv _ _ _|.defer _=>true
 |_=>false
def belowM:List Info->Nat->Nat
 |[],m=>m
 |x::r,m=>match inM (belowM r m) x.1 with
  |true=>Nat.lor (belowM r m) x.2.2.1
  |false=>belowM r m
def tailOp(P:Program)(O:Orc)(ext:Ext)(nt:Nat)(ops:Array Oper)(infos:List Info)(tmps:TT)(h:AH):Option (Nat×TT):=
 match infos.filter fun x=>!x.2.2.2 with
 |[x]=>match callish x.2.1&&(Nat.ble ops.size 65536&&regionOk ops infos)with
  |false=>none
  |true=>match soakM P O ext nt ops (bare h) infos [] 0 tmps with
   |.error _=>none
   |.ok (_,m,t)=>match canM m x&&(infos.all fun y=>Nat.beq y.1 x.1||(inM m y.1&&inM (belowM infos x.2.2.1) y.1))&&holdsQ P O ext nt ops m t (bare h) infos with
    |true=>some (x.1,t)
    |false=>none
 |_=>none
def upon(P:Program)(fr:AFrame)(callers:List AFrame)(n:AN)(h:AH):M ACfg:=
 match n with
 |.value v=>match finishA fr v with
  |.ok fr=>.ok ⟨fr,callers,h⟩
  |.error e=>.error e
 |.skip=>match finishA fr undefA with
  |.ok fr=>.ok ⟨fr,callers,h⟩
  |.error e=>.error e
 |.enter f args=>match enterA P f args .normal with
  |.ok fr'=>.ok ⟨fr',fr::callers,h⟩
  |.error e=>.error e
 |.defer d=>match fr with
  |⟨fn,nt,tmps,todo,defers,mode,kind⟩=>match finishA ⟨fn,nt,tmps,todo,d::defers,mode,kind⟩ undefA with
   |.ok fr=>.ok ⟨fr,callers,h⟩
   |.error e=>.error e
 |.recover=>match recoverA fr.kind callers with
  |.error e=>.error e
  |.ok (some (v,callers))=>match finishA fr v with
   |.ok fr=>.ok ⟨fr,callers,h⟩
   |.error e=>.error e
  |.ok none=>match finishA fr .nilIface with
   |.ok fr=>.ok ⟨fr,callers,h⟩
   |.error e=>.error e
 |.panic v=>.ok ⟨raiseA fr [(v,false)],callers,h⟩
def tagged:CallKind->Bool
 |.wrapped=>true
 |_=>false
def tagOk(kind:CallKind)(n:AN):Bool:=
 match tagged kind with
 |false=>true
 |true=>match n with
  |.defer _=>false
  |.recover=>false
  |_=>true
def summed(O:Orc)(n:AN):Bool:=
 match n with
 |.enter f _=>O.sums.contains f
 |_=>false
def exec?(P:Program)(O:Orc)(ext:Ext)(call:FuncId->List AV->AH->M (AE×AH))(fn:FuncId)(nt:Nat)(tmps:TT)(todo:List Item)(defers:List AD)(kind:CallKind)(callers:List AFrame)(h:AH):M ACfg:=
 match todo with
 |[]=>match tagged kind with
  |true=>.error "marked the end"
  |false=>.ok ⟨⟨fn,nt,tmps,[],defers,.returning,kind⟩,callers,h⟩
 |.inRegion ops is::k=>match is with
  |[]=>.ok ⟨⟨fn,nt,tmps,k,defers,.run,kind⟩,callers,h⟩
  |i::rest=>match ops[i]? with
   |none=>.error "region no operation"
   |some o=>match wantedA O ops tmps o with
    |.error e=>.error e
    |.ok false=>.ok ⟨⟨fn,nt,putA nt tmps o.dst undefA,.inRegion ops rest::k,defers,.run,kind⟩,callers,h⟩
    |.ok true=>match op? P O ext h (evalA tmps) o with
     |.error e=>.error e
     |.ok (n,h')=>match tagOk kind n with
      |false=>.error "marked this operation"
      |true=>match summed O n with
       |false=>upon P ⟨fn,nt,tmps,.inRegion ops (i::rest)::k,defers,.run,kind⟩ callers n h'
       |true=>match opFull P O ext call nt ops i tmps h with
        |.ok (.on t h')=>.ok ⟨⟨fn,nt,t,.inRegion ops rest::k,defers,.run,kind⟩,callers,h'⟩
        |.ok (.panic t ch h')=>.ok ⟨⟨fn,nt,t,.inRegion ops (i::rest)::k,defers,.panicking ch,kind⟩,callers,h'⟩
        |.error e=>.error e
 |.inBlock _::k=>.ok ⟨⟨fn,nt,tmps,k,defers,.run,kind⟩,callers,h⟩
 |.inScope _::k=>.ok ⟨⟨fn,nt,tmps,k,defers,.run,kind⟩,callers,h⟩
 |.inLoop body::k=>.ok ⟨⟨fn,nt,tmps,.code body::.inLoop body::k,defers,.run,kind⟩,callers,h⟩
 |.code c::k=>match c with
  |.ret=>match tagged kind with
   |true=>.error "marked return"
   |false=>.ok ⟨⟨fn,nt,tmps,.code .ret::k,defers,.returning,kind⟩,callers,h⟩
  |.skip=>.ok ⟨⟨fn,nt,tmps,k,defers,.run,kind⟩,callers,h⟩
  |.label _=>.ok ⟨⟨fn,nt,tmps,k,defers,.run,kind⟩,callers,h⟩
  |.seq a b=>.ok ⟨⟨fn,nt,tmps,.code a::.code b::k,defers,.run,kind⟩,callers,h⟩
  |.cond x thn els=>match evalA tmps x with
   |.bool b=>match O.bool b with
    |.lit true=>.ok ⟨⟨fn,nt,tmps,.code thn::k,defers,.run,kind⟩,callers,h⟩
    |.lit false=>.ok ⟨⟨fn,nt,tmps,.code els::k,defers,.run,kind⟩,callers,h⟩
    |_=>.error "if an open test"
   |_=>.error "if"
  |.block id body=>.ok ⟨⟨fn,nt,tmps,.code body::.inBlock id::k,defers,.run,kind⟩,callers,h⟩
  |.loop body=>.ok ⟨⟨fn,nt,tmps,.code body::.inLoop body::k,defers,.run,kind⟩,callers,h⟩
  |.scope body=>.ok ⟨⟨fn,nt,tmps,.code body::.inScope body::k,defers,.run,kind⟩,callers,h⟩
  |.exit id=>match exitTo id k with
   |some k=>.ok ⟨⟨fn,nt,tmps,k,defers,.run,kind⟩,callers,h⟩
   |none=>.error "exit"
  |.goto l=>match gotoIn l k with
   |some k=>.ok ⟨⟨fn,nt,tmps,k,defers,.run,kind⟩,callers,h⟩
   |none=>.error "goto"
  |.region _ ops draw=>match draw with
   |false=>.ok ⟨⟨fn,nt,tmps,.inRegion ops (List.range ops.size)::k,defers,.run,kind⟩,callers,h⟩
   |true=>match tailOp P O ext nt ops (infosOf ops) tmps h with
    |some (j,t)=>.ok ⟨⟨fn,nt,t,.inRegion ops [j]::k,defers,.run,kind⟩,callers,h⟩
    |none=>match drawn P O ext call nt ops tmps h with
     |.ok (.on t h)=>.ok ⟨⟨fn,nt,t,k,defers,.run,kind⟩,callers,h⟩
     |.ok (.panic t ch h)=>.ok ⟨⟨fn,nt,t,k,defers,.panicking ch,kind⟩,callers,h⟩
     |.error e=>.error e
  |_=>.error "this code"
 |_=>.error "this item"
def defer?(P:Program)(O:Orc)(ext:Ext)(fn:FuncId)(nt:Nat)(tmps:TT)(todo:List Item)(d:AD)(ds:List AD)(mode:AMode)(kind:CallKind)(callers:List AFrame)(h:AH):M ACfg:=
 match invoke? P O ext h d with
 |.ok (.enter f args,h)=>match enterA P f args .deferred with
  |.ok fr'=>.ok ⟨fr',⟨fn,nt,tmps,todo,ds,mode,kind⟩::callers,h⟩
  |.error e=>.error e
 |.ok (.value _,h)=>.ok ⟨⟨fn,nt,tmps,todo,ds,mode,kind⟩,callers,h⟩
 |.ok _=>.error "a deferred call"
 |.error e=>.error e
def backTo(caller:AFrame):AFrame:=
 match caller with
 |⟨fn,nt,tmps,todo,defers,.panicking ((_,true)::_),kind⟩=>⟨fn,nt,tmps,todo,defers,.returning,kind⟩
 |fr=>fr
def step?(P:Program)(O:Orc)(ext:Ext)(call:FuncId->List AV->AH->M (AE×AH))(c:ACfg):M (ACfg⊕(AE×AH)):=
 match c with
 |⟨⟨fn,nt,tmps,todo,defers,mode,kind⟩,callers,h⟩=>match mode with
  |.run=>match exec? P O ext call fn nt tmps todo defers kind callers h with
    |.ok c=>.ok (.inl c)
    |.error e=>.error e
  |.returning=>match tagged kind with
   |true=>.error "marked unwinding"
   |false=>match defers with
    |d::ds=>match defer? P O ext fn nt tmps todo d ds .returning kind callers h with
     |.ok c=>.ok (.inl c)
     |.error e=>.error e
    |[]=>match results? P O h fn tmps with
     |.error e=>.error e
     |.ok v=>match callers with
      |[]=>match kind with
       |.normal=>.ok (.inr (.returned v,h))
       |_=>.error "return kind"
      |caller::rest=>match kind with
       |.normal=>match finishA caller v with
        |.ok caller=>.ok (.inl ⟨caller,rest,h⟩)
        |.error e=>.error e
       |.deferred=>.ok (.inl ⟨backTo caller,rest,h⟩)
       |_=>.error "return kind"
  |.panicking chain=>match tagged kind with
   |true=>.error "marked unwinding"
   |false=>match defers with
    |d::ds=>match defer? P O ext fn nt tmps todo d ds (.panicking chain) kind callers h with
     |.ok c=>.ok (.inl c)
     |.error e=>.error e
    |[]=>match callers with
     |[]=>.ok (.inr (.panicked chain,h))
     |caller::rest=>.ok (.inl ⟨raiseA caller chain,rest,h⟩)
abbrev Sums:=FuncId->List AV->AH->Option (M (AE×AH))
def noSums:Sums:=fun _ _ _=>none
def run?(P:Program)(O:Orc)(ext:Ext)(sum:Sums)(n:Nat):ACfg->M (AE×AH):=
 Nat.rec (fun _=>.error "fuel") (fun _ ih c=>
  match step? P O ext (fun f args h=>match sum f args h with
   |some r=>r
   |none=>match enterA P f args .normal with
    |.ok fr=>ih ⟨fr,[],h⟩
    |.error e=>.error e) c with
  |.ok (.inl c)=>ih c
  |.ok (.inr r)=>.ok r
  |.error e=>.error e) n
end
noncomputable section
inductive XE where
 |ld(k:IntKind)|st|sw(k:IntKind)|cas(k:IntKind)|add(k:IntKind)
 |acquire|release|releaseMerge|quiet
 |typeOf|valueOf|vIsNil|vElem|vSet|vType
def kind?(P:Program)(t:TypeId):M Nat:=
 match pureRun P (Extern.Rtype.kind t)with
 |some k=>.ok k
 |none=>.error "kind"
def mkV?(P:Program)(t:TypeId)(a:AA)(flags:Nat):M AV:=do
 pure (.agg [.ptr (some ⟨.glob P.globals.size,.lit (.ofNat t)⟩),.ptr (some a),.int .u64 (.lit (.ofNat ((<-kind? P t)+128+flags)))])
def partsV?(P:Program)(x:AV):M (TypeId×AA×Nat):=
 match x with
 |.agg [h,.ptr (some a),.int .u64 (.lit (.ofNat f))]=>match handle? P h with
  |some t=>if f=0||P.packed t then .error "Value nought" else .ok (t,a,f)
  |none=>.error "Value handle"
 |_=>.error "Value"
def pureB(P:Program)(s:Sem Bool):M Bool:=
 match pureRun P s with
 |some b=>.ok b
 |none=>.error "pureB"
def elemT?(P:Program)(t:TypeId):M TypeId:=
 match pureRun P (Extern.Rtype.elem? t)with
 |some (some e)=>.ok e
 |_=>.error "elem"
def unpackV?(P:Program)(h:AH)(x:AV):M (AV×AH):=do
 match x with
 |.iface t v=>do
  let cs<-v.cells?
  let(x,h)<-alloc? h (.cells cs t)
  match x with
  |.ptr (some a)=>do
   let r<-mkV? P t a 0
   pure (r,h)
  |_=>.error "unpack"
 |.nilIface=>pure (.agg [.ptr none,.ptr none,.int .u64 (.lit 0)],h)
 |_=>.error "unpack"
def ldInt(O:Orc)(h:AH)(a:AA)(k:IntKind):M IE:=do
 match<-load1 O h a with
 |.int k' e=>if k=k' then pure e else .error "atomic"
 |_=>.error "atomic"
def isNil?:AV->M Bool
 |.chan none|.nilFunc|.nilIface|.map none|.ptr none|.slice none _ _=>.ok true
 |.chan (some _)|.func ..|.iface ..|.map (some _)|.ptr (some _)|.slice (some _) _ _=>.ok false
 |_=>.error "IsNil"
def xIsNil?(P:Program)(O:Orc)(h:AH)(x:AV):M (AV×AH):=do
 let(t,a,fl)<-partsV? P x
 if[18,19,20,21,22,23,26].contains (fl % 32)then do
  let v<-loadVar? P O h t a
  let b<-isNil? v
  pure (.bool (.lit b),h)
 else .error "IsNil kind"
def xElem?(P:Program)(O:Orc)(h:AH)(x:AV):M (AV×AH):=do
 let(t,a,fl)<-partsV? P x
 let v<-loadVar? P O h t a
 if fl % 32=22 then do
  let e<-elemT? P t
  match v with
  |.ptr none=>pure (.agg [.ptr none,.ptr none,.int .u64 (.lit 0)],h)
  |.ptr (some p)=>do
   pure (<-mkV? P e p 256,h)
  |_=>.error "Elem"
 else if fl % 32=20 then do
  let _<-(match pureRun P (Extern.Rtype.elem? t)with|some e=>.ok e|none=>.error "Elem" :M (Option TypeId))
  unpackV? P h v
 else .error "Elem kind"
def setVal?(P:Program)(dst src:TypeId)(val:AV):M AV:=
 match pureB P (Extern.Rtype.directlyAssignable dst src)with
 |.error e=>.error e
 |.ok true=>.ok val
 |.ok false=>match pureB P (implementsA dst src)with
  |.ok true=>match kind? P src with
   |.ok k=>if k=20 then(match val with
    |.iface t v=>.ok (.iface t v)
    |_=>.error "Set nil")else .ok (.iface src val)
   |.error e=>.error e
  |.ok false=>.error "Set type"
  |.error e=>.error e
def xSet?(P:Program)(O:Orc)(h:AH)(v x:AV):M (AV×AH):=do
 let(dst,a,fl)<-partsV? P v
 let(src,b,_)<-partsV? P x
 if fl / 256 % 2=0 then .error "Set" else
 let val<-loadVar? P O h src b
 let val<-setVal? P dst src val
 let h<-storeVar? P h dst a val
 pure (undefA,h)
def ext?(P:Program)(O:Orc)(tab:List (FuncId×XE)):Ext:=fun h f args=>
 match look (fun a b=>a==b) f tab with
 |none=>.error "no entry"
 |some x=>match x,args with
  |.ld k,[.ptr (some a)]=>do
   let e<-ldInt O h a k
   pure (.int k e,h)
  |.st,[.ptr (some a),v]=>do
   let h<-store1 h a v
   pure (undefA,h)
  |.sw k,[.ptr (some a),v]=>do
   let e<-ldInt O h a k
   let h<-store1 h a v
   pure (.int k e,h)
  |.cas k,[.ptr (some a),.int _ old,v]=>do
   let e<-ldInt O h a k
   let b<-O.dec (.cmp .eql e old)
   let h2<-store1 h a v
   pure (.bool (.lit b),if b then h2 else h)
  |.add k,[.ptr (some a),.int _ d]=>do
   let e<-ldInt O h a k
   let h<-store1 h a (.int k (O.int (.op .add k e d)))
   pure (.int k (O.int (.op .add k e d)),h)
  |.acquire,[.ptr (some _)]=>pure (undefA,h)
  |.release,[.ptr (some _)]=>pure (undefA,h)
  |.releaseMerge,[.ptr (some _)]=>pure (undefA,h)
  |.quiet,_=>pure (undefA,h)
  |.typeOf,[.iface t _]=>match pureRun P (Extern.ReflectliteType.toType t)with
   |some v=>pure (ofValue v,h)
   |none=>.error "toType"
  |.typeOf,[.nilIface]=>pure (.nilIface,h)
  |.valueOf,[x]=>unpackV? P h x
  |.vType,[x]=>do
   let(t,_,_)<-partsV? P x
   match pureRun P (Extern.ReflectliteType.toType t)with
   |some v=>pure (ofValue v,h)
   |none=>.error "toType"
  |.vIsNil,[x]=>xIsNil? P O h x
  |.vElem,[x]=>xElem? P O h x
  |.vSet,[v,x]=>xSet? P O h v x
  |_,_=>.error "entry arguments"
end
structure Env where
 i:Nat->Int
 p:Nat->Bool
 v:Nat->Value
 b:Nat->Nat
 bt:Option Nat×List Deferred:=(none,[])
 s:Nat->ByteArray:=fun _=>⟨#[]⟩
def SE.ev(ρ:Env):SE->ByteArray
 |.lit s=>s
 |.var i=>ρ.s i
 |.cat a b=>a.ev ρ++b.ev ρ
def IE.ev(ρ:Env):IE->Int
 |.lit n=>n
 |.var i=>ρ.i i
 |.op o k a b=>iop o k (a.ev ρ) (b.ev ρ)
 |.conv k a=>k.wrap (a.ev ρ)
 |.plus a b=>a.ev ρ+b.ev ρ
 |.times a b=>a.ev ρ*b.ev ρ
 |.tn a=>((a.ev ρ).toNat:Int)
 |.slen a=>((a.ev ρ).size:Int)
def BE.ev(ρ:Env):BE->Bool
 |.lit b=>b
 |.var i=>ρ.p i
 |.cmp o a b=>icmp o (a.ev ρ) (b.ev ρ)
 |.seq n a b=>(((a.ev ρ).toList==(b.ev ρ).toList) != n)
def BR.ev(ρ:Env):BR->Nat
 |.glob g=>g
 |.dyn i=>ρ.b i
def AA.ev(ρ:Env)(a:AA):Addr:=⟨a.blk.ev ρ,(a.off.ev ρ).toNat,none⟩
mutual
def AV.ev(ρ:Env):AV->Value
 |.bool b=>.bool (b.ev ρ)
 |.int k e=>.int k (e.ev ρ)
 |.str s=>.string s
 |.ptr a=>.pointer (a.map (AA.ev ρ))
 |.slice a l c=>.slice (a.map (AA.ev ρ)) (l.ev ρ).toNat (c.ev ρ).toNat
 |.map r=>.map (r.map (BR.ev ρ))
 |.chan r=>.chan (r.map (BR.ev ρ))
 |.func f x y=>.func f (AV.evs ρ x).toArray (AV.evs ρ y).toArray
 |.nilFunc=>.nilFunc
 |.iface t v=>.iface t (v.ev ρ)
 |.nilIface=>.nilIface
 |.agg x=>.agg (AV.evs ρ x).toArray
 |.tuple x=>.tuple (AV.evs ρ x).toArray
 |.opq i=>ρ.v i
 |.raw v=>v
 |.ss e=>.string (e.ev ρ)
def AV.evs(ρ:Env):List AV->List Value
 |[]=>[]
 |a::x=>a.ev ρ::AV.evs ρ x
end
theorem evs_map(ρ:Env):∀l,AV.evs ρ l=l.map (AV.ev ρ)
 |[]=>by simp[AV.evs]
 |a::l=>by simp[AV.evs,evs_map ρ l]
theorem SE.eqb_eq:∀{a b:SE},a.eqb b=true->a=b:=by
 intro a
 induction a with
 |lit s=>
  intro b h
  cases b<;>simp_all [SE.eqb]
  rename_i t;cases s;cases t;simp_all
 |var i=>intro b h;cases b<;>simp_all [SE.eqb]
 |cat x y ihx ihy=>intro b h;cases b<;>simp_all [SE.eqb];exact⟨ihx h.1,ihy h.2⟩
theorem IE.eqb_eq:∀{a b:IE},a.eqb b=true->a=b:=by
 intro a
 induction a with
 |lit n=>intro b h;cases b<;>simp_all [IE.eqb]
 |var n=>intro b h;cases b<;>simp_all [IE.eqb]
 |op o k x y ihx ihy=>intro b h;cases b<;>simp_all [IE.eqb];exact⟨ihx h.1.2,ihy h.2⟩
 |conv k x ih=>intro b h;cases b<;>simp_all [IE.eqb];exact ih h.2
 |plus x y ihx ihy=>intro b h;cases b<;>simp_all [IE.eqb];exact⟨ihx h.1,ihy h.2⟩
 |times x y ihx ihy=>intro b h;cases b<;>simp_all [IE.eqb];exact⟨ihx h.1,ihy h.2⟩
 |tn x ih=>intro b h;cases b<;>simp_all [IE.eqb];exact ih h
 |slen x=>intro b h;cases b<;>simp_all [IE.eqb];exact SE.eqb_eq h
theorem BE.eqb_eq:∀{a b:BE},a.eqb b=true->a=b:=by
 intro a b h
 cases a<;>cases b<;>simp_all [BE.eqb]
 ·exact⟨IE.eqb_eq h.1.2,IE.eqb_eq h.2⟩
 ·exact⟨SE.eqb_eq h.1.2,SE.eqb_eq h.2⟩
theorem BR.eqb_eq:∀{a b:BR},a.eqb b=true->a=b:=by
 intro a b h;cases a<;>cases b<;>simp_all [BR.eqb]
theorem AA.eqb_eq:∀{a b:AA},a.eqb b=true->a=b:=by
 intro a b h
 obtain⟨x,y⟩:=a;obtain⟨x',y'⟩:=b
 simp[AA.eqb]at h
 simp[BR.eqb_eq h.1,IE.eqb_eq h.2]
theorem optEqb_eq{α:Type}{f:α->α->Bool}(hf:∀{a b},f a b=true->a=b):∀{a b:Option α},optEqb f a b=true->a=b:=by
 intro a b h;cases a<;>cases b<;>simp_all [optEqb];exact hf h
mutual
theorem AV.eqb_eq:∀(a b:AV),a.eqb b=true->a=b
 |.bool x,b,h=>by cases b<;>simp_all [AV.eqb];exact BE.eqb_eq h
 |.int k x,b,h=>by cases b<;>simp_all [AV.eqb];exact IE.eqb_eq h.2
 |.str s,b,h=>by
  cases b<;>simp_all [AV.eqb]
  rename_i t;cases s;cases t;simp_all
 |.ptr a,b,h=>by cases b<;>simp_all [AV.eqb];exact optEqb_eq AA.eqb_eq h
 |.slice a l c,b,h=>by cases b<;>simp_all [AV.eqb];exact⟨optEqb_eq AA.eqb_eq h.1.1,IE.eqb_eq h.1.2,IE.eqb_eq h.2⟩
 |.map a,b,h=>by cases b<;>simp_all [AV.eqb];exact optEqb_eq BR.eqb_eq h
 |.chan a,b,h=>by cases b<;>simp_all [AV.eqb];exact optEqb_eq BR.eqb_eq h
 |.func f x y,b,h=>by cases b<;>simp_all [AV.eqb];exact⟨AV.eqbs_eq _ _ h.1.2,AV.eqbs_eq _ _ h.2⟩
 |.nilFunc,b,h=>by cases b<;>simp_all [AV.eqb]
 |.iface t v,b,h=>by cases b<;>simp_all [AV.eqb];exact AV.eqb_eq _ _ h.2
 |.nilIface,b,h=>by cases b<;>simp_all [AV.eqb]
 |.agg x,b,h=>by cases b<;>simp_all [AV.eqb];exact AV.eqbs_eq _ _ h
 |.tuple x,b,h=>by cases b<;>simp_all [AV.eqb];exact AV.eqbs_eq _ _ h
 |.opq i,b,h=>by cases b<;>simp_all [AV.eqb]
 |.raw v,b,h=>by cases b<;>simp_all [AV.eqb]
 |.ss e,b,h=>by cases b<;>simp_all [AV.eqb];exact SE.eqb_eq h
theorem AV.eqbs_eq:∀(a b:List AV),AV.eqbs a b=true->a=b
 |[],b,h=>by cases b<;>simp_all [AV.eqbs]
 |a::x,b,h=>by
  cases b<;>simp_all [AV.eqbs]
  exact⟨AV.eqb_eq _ _ h.1,AV.eqbs_eq _ _ h.2⟩
end
theorem TT.eqb_eq:∀{a b:TT},a.eqb b=true->a=b:=by
 intro a
 induction a with
 |leaf=>intro b h;cases b<;>simp_all [TT.eqb]
 |node v l r ihl ihr=>intro b h;cases b<;>simp_all [TT.eqb];exact⟨AV.eqb_eq _ _ h.1.1,ihl h.1.2,ihr h.2⟩
theorem pairsEqb_eq:∀{a b:List (AV×AV)},pairsEqb a b=true->a=b:=by
 intro a
 induction a with
 |nil=>intro b h;cases b with
  |nil=>rfl
  |cons x l=>simp[pairsEqb]at h
 |cons x l ih=>intro b h;cases b with
  |nil=>simp[pairsEqb]at h
  |cons y m=>
   obtain⟨x1,x2⟩:=x;obtain⟨y1,y2⟩:=y
   simp only[pairsEqb,Bool.and_eq_true]at h
   rw[AV.eqb_eq _ _ h.1.1,AV.eqb_eq _ _ h.1.2,ih h.2]
theorem factsEqb_eq:∀{a b:List (IE×AV)},factsEqb a b=true->a=b:=by
 intro a
 induction a with
 |nil=>intro b h;cases b with
  |nil=>rfl
  |cons x l=>simp[factsEqb]at h
 |cons x l ih=>intro b h;cases b with
  |nil=>simp[factsEqb]at h
  |cons y m=>
   obtain⟨x1,x2⟩:=x;obtain⟨y1,y2⟩:=y
   simp only[factsEqb,Bool.and_eq_true]at h
   rw[IE.eqb_eq h.1.1,AV.eqb_eq _ _ h.1.2,ih h.2]
theorem kfactsEqb_eq:∀{a b:List (AA×Option AV)},kfactsEqb a b=true->a=b:=by
 intro a
 induction a with
 |nil=>intro b h;cases b with
  |nil=>rfl
  |cons x l=>simp[kfactsEqb]at h
 |cons x l ih=>intro b h;cases b with
  |nil=>simp[kfactsEqb]at h
  |cons y m=>
   obtain⟨x1,x2⟩:=x;obtain⟨y1,y2⟩:=y
   simp only[kfactsEqb,Bool.and_eq_true]at h
   rw[AA.eqb_eq h.1.1,optEqb_eq (fun h=>AV.eqb_eq _ _ h) h.1.2,ih h.2]
theorem ABlk.eqb_eq:∀{a b:ABlk},a.eqb b=true->a=b:=by
 intro a b h
 cases a<;>cases b<;>simp_all [ABlk.eqb]
 ·exact AV.eqbs_eq _ _ h.1
 ·exact⟨AV.eqbs_eq _ _ h.1.1,IE.eqb_eq h.2⟩
 ·exact AV.eqbs_eq _ _ h.1.1
 ·exact pairsEqb_eq h
 ·obtain⟨⟨⟨h1,h2⟩,h3⟩,h4⟩:=h
  exact⟨IE.eqb_eq h2,kfactsEqb_eq h3,pairsEqb_eq h4⟩
 ·obtain⟨⟨⟨⟨⟨⟨h1,h2⟩,h3⟩,h4⟩,h5⟩,h6⟩,h7⟩:=h
  exact⟨IE.eqb_eq h2,factsEqb_eq h3,factsEqb_eq h4,AV.eqbs_eq _ _ h5,IE.eqb_eq h7⟩
theorem hpEqb_eq:∀{a b:List (Nat×ABlk)},hpEqb a b=true->a=b:=by
 intro a
 induction a with
 |nil=>intro b h;cases b<;>simp_all [hpEqb]
 |cons p l ih=>
  intro b h
  cases b with
  |nil=>simp[hpEqb]at h
  |cons q m=>
   obtain⟨i,x⟩:=p;obtain⟨j,y⟩:=q
   simp[hpEqb,Nat.beq_eq]at h
   obtain⟨⟨rfl,h2⟩,h3⟩:=h
   rw[ABlk.eqb_eq h2,ih h3]
@[simp] theorem TT.get_leaf(n:Nat):TT.leaf.get n=undefA:=rfl
@[simp] theorem TT.get_node_zero(v:AV)(l r:TT):(TT.node v l r).get 0=v:=rfl
theorem TT.get_node_succ(v:AV)(l r:TT)(m:Nat):(TT.node v l r).get (m+1)=if m % 2=0 then r.get (m / 2)else l.get (m / 2):=by
 show(Bool.rec (motive:=fun _=>AV) (l.get (m / 2)) (r.get (m / 2)) (Nat.beq (m % 2) 0))=_
 by_cases h:m % 2=0
 ·simp[h]
 ·simp only[if_neg h]
  have:Nat.beq (m % 2) 0=false:=by
   cases hb:Nat.beq (m % 2) 0 with
   |false=>rfl
   |true=>exact absurd (Nat.eq_of_beq_eq_true hb) h
  rw[this]
theorem TT.set_succ_leaf_zero(v:AV)(f:Nat):TT.set v (f+1) .leaf 0=.node v .leaf .leaf:=rfl
theorem TT.set_succ_node_zero(v u:AV)(f:Nat)(l r:TT):TT.set v (f+1) (.node u l r) 0=.node v l r:=rfl
theorem beq_mod(m:Nat)(h:¬m % 2=0):Nat.beq (m % 2) 0=false:=by
 cases hb:Nat.beq (m % 2) 0 with
 |false=>rfl
 |true=>exact absurd (Nat.eq_of_beq_eq_true hb) h
theorem TT.set_succ_leaf_succ(v:AV)(f m:Nat):TT.set v (f+1) .leaf (m+1)=if m % 2=0 then .node undefA .leaf (TT.set v f .leaf (m / 2))else .node undefA (TT.set v f .leaf (m / 2)) .leaf:=by
 show Bool.rec (motive:=fun _=>TT) (TT.node undefA (TT.set v f .leaf (m / 2)) .leaf) (TT.node undefA .leaf (TT.set v f .leaf (m / 2))) (Nat.beq (m % 2) 0)=_
 by_cases h:m % 2=0
 ·simp[h]
 ·rw[beq_mod m h,if_neg h]
theorem TT.set_succ_node_succ(v u:AV)(f m:Nat)(l r:TT):TT.set v (f+1) (.node u l r) (m+1)=if m % 2=0 then .node u l (TT.set v f r (m / 2))else .node u (TT.set v f l (m / 2)) r:=by
 show Bool.rec (motive:=fun _=>TT) (TT.node u (TT.set v f l (m / 2)) r) (TT.node u l (TT.set v f r (m / 2))) (Nat.beq (m % 2) 0)=_
 by_cases h:m % 2=0
 ·simp[h]
 ·rw[beq_mod m h,if_neg h]
theorem TT.get_set(v:AV):∀(f:Nat) (t:TT) (n m:Nat),n+1<2 ^ f->(TT.set v f t n).get m=if m=n then v else t.get m:=by
 intro f
 induction f with
 |zero=>intro t n m h;simp at h
 |succ f ih=>
  intro t n m h
  have hpow:2 ^ (f+1)=2*2 ^ f:=by rw[Nat.pow_succ,Nat.mul_comm]
  cases t with
  |leaf=>
   cases n with
   |zero=>
    rw[TT.set_succ_leaf_zero]
    cases m with
    |zero=>simp
    |succ m=>simp[TT.get_node_succ]
   |succ n=>
    have h':n / 2+1<2 ^ f:=by omega
    rw[TT.set_succ_leaf_succ]
    cases m with
    |zero=>split<;>simp
    |succ m=>
     split<;>rename_i hn<;>rw[TT.get_node_succ]<;>split<;>rename_i hm
     ·rw[ih _ _ _ h'];by_cases e:m=n
      ·subst e;simp
      ·have:¬m / 2=n / 2:=by omega
       simp[this,e]
     ·have:¬m=n:=by omega
      simp[this]
     ·have:¬m=n:=by omega
      simp[this]
     ·rw[ih _ _ _ h'];by_cases e:m=n
      ·subst e;simp
      ·have:¬m / 2=n / 2:=by omega
       simp[this,e]
  |node u l r=>
   cases n with
   |zero=>
    rw[TT.set_succ_node_zero]
    cases m with
    |zero=>simp
    |succ m=>simp[TT.get_node_succ]
   |succ n=>
    have h':n / 2+1<2 ^ f:=by omega
    rw[TT.set_succ_node_succ]
    cases m with
    |zero=>split<;>simp
    |succ m=>
     split<;>rename_i hn<;>rw[TT.get_node_succ,TT.get_node_succ]<;>split<;>rename_i hm
     ·rw[ih _ _ _ h'];by_cases e:m=n
      ·subst e;simp
      ·have:¬m / 2=n / 2:=by omega
       simp[this,e]
     ·have:¬m=n:=by omega
      simp[this]
     ·have:¬m=n:=by omega
      simp[this]
     ·rw[ih _ _ _ h'];by_cases e:m=n
      ·subst e;simp
      ·have:¬m / 2=n / 2:=by omega
       simp[this,e]
theorem TT.get_fill:∀(l:List AV) (n:Nat) (t:TT) (m:Nat),n+l.length≤60000->(TT.fill l n t).get m=if n≤m∧m<n+l.length then l.getD (m-n) undefA else t.get m:=by
 intro l
 induction l with
 |nil=>intro n t m _;simp[TT.fill];intro h;omega
 |cons v l ih=>
  intro n t m h
  simp only[List.length_cons]at h
  rw[TT.fill,ih (n+1) _ m (by omega),TT.get_set v 16 t n m (by omega)]
  by_cases h1:n+1≤m∧m<n+1+l.length
  ·rw[if_pos h1,if_pos (by simp only[List.length_cons];omega)]
   have:m-n=(m-(n+1))+1:=by omega
   rw[this];simp
  ·rw[if_neg h1]
   by_cases h2:m=n
   ·subst h2;simp
   ·rw[if_neg h2,if_neg (by simp only[List.length_cons];omega)]
theorem findB_nil(i:Nat):findB i []=none:=rfl
theorem findB_cons(i j:Nat)(b:ABlk)(l:List (Nat×ABlk)):findB i ((j,b)::l)=if i=j then some b else findB i l:=by
 show Bool.rec (motive:=fun _=>Option ABlk) (findB i l) (some b) (Nat.beq i j)=_
 by_cases h:i=j
 ·subst h;simp
 ·have:Nat.beq i j=false:=by
   cases hb:Nat.beq i j with
   |false=>rfl
   |true=>exact absurd (Nat.eq_of_beq_eq_true hb) h
  rw[this,if_neg h]
theorem setB_cons(i j:Nat)(b c:ABlk)(l:List (Nat×ABlk)):setB i b ((j,c)::l)=if i=j then(j,b)::l else(j,c)::setB i b l:=by
 show Bool.rec (motive:=fun _=>List (Nat×ABlk)) ((j,c)::setB i b l) ((j,b)::l) (Nat.beq i j)=_
 by_cases h:i=j
 ·subst h;simp
 ·have:Nat.beq i j=false:=by
   cases hb:Nat.beq i j with
   |false=>rfl
   |true=>exact absurd (Nat.eq_of_beq_eq_true hb) h
  rw[this,if_neg h]
theorem dropB_cons(i j:Nat)(c:ABlk)(l:List (Nat×ABlk)):dropB i ((j,c)::l)=if i=j then l else(j,c)::dropB i l:=by
 show Bool.rec (motive:=fun _=>List (Nat×ABlk)) ((j,c)::dropB i l) l (Nat.beq i j)=_
 by_cases h:i=j
 ·subst h;simp
 ·have:Nat.beq i j=false:=by
   cases hb:Nat.beq i j with
   |false=>rfl
   |true=>exact absurd (Nat.eq_of_beq_eq_true hb) h
  rw[this,if_neg h]
theorem insB_cons(i j:Nat)(b c:ABlk)(l:List (Nat×ABlk)):insB i b ((j,c)::l)=if j<i then(i,b)::(j,c)::l else(j,c)::insB i b l:=by
 show Bool.rec (motive:=fun _=>List (Nat×ABlk)) ((j,c)::insB i b l) ((i,b)::(j,c)::l) (Nat.ble (j+1) i)=_
 by_cases h:j<i
 ·have:Nat.ble (j+1) i=true:=Nat.ble_eq_true_of_le h
  rw[this,if_pos h]
 ·have:Nat.ble (j+1) i=false:=by
   cases hb:Nat.ble (j+1) i with
   |false=>rfl
   |true=>exact absurd (Nat.le_of_ble_eq_true hb) h
  rw[this,if_neg h]
def keys(l:List (Nat×ABlk)):List Nat:=l.map (·.1)
theorem findB_setB(i j:Nat)(b:ABlk):∀l,findB j (setB i b l)=if j=i then(findB i l).map (fun _=>b)else findB j l
 |[]=>by simp[setB,findB_nil]
 |(k,c)::l=>by
  rw[setB_cons]
  split
  ·rename_i h;subst h
   rw[findB_cons,findB_cons,findB_cons]
   split
   ·rename_i h;subst h;simp
   ·rename_i h;simp
  ·rename_i h
   rw[findB_cons,findB_setB i j b l,findB_cons,findB_cons,if_neg h]
   by_cases e:j=k
   ·subst e;rw[if_pos rfl,if_neg (fun e=>h e.symm)];simp
   ·simp[e]
theorem findB_none{i:Nat}:∀{l:List (Nat×ABlk)},i∉keys l->findB i l=none
 |[],_=>rfl
 |(j,b)::l,h=>by
  simp[keys]at h
  rw[findB_cons,if_neg h.1]
  exact findB_none (by simp[keys];exact h.2)
theorem findB_key{i:Nat}{b:ABlk}:∀{l:List (Nat×ABlk)},findB i l=some b->i∈keys l
 |[],h=>by simp[findB_nil]at h
 |(j,c)::l,h=>by
  rw[findB_cons]at h
  split at h
  ·rename_i e;subst e;simp[keys]
  ·have:=findB_key h
   simp[keys]at this⊢
   exact .inr this
theorem findB_insB(i j:Nat)(b:ABlk):∀l,i∉keys l->findB j (insB i b l)=if j=i then some b else findB j l
 |[],_=>by show findB j [(i,b)]=_;rw[findB_cons,findB_nil]
 |(k,c)::l,h=>by
  simp[keys]at h
  rw[insB_cons]
  split
  ·rw[findB_cons]
  ·rw[findB_cons,findB_insB i j b l (by simp[keys];exact h.2),findB_cons]
   by_cases e:j=k
   ·subst e;rw[if_pos rfl,if_neg (fun e=>h.1 e.symm),if_pos rfl]
   ·rw[if_neg e,if_neg e]
theorem keys_insB(i:Nat)(b:ABlk):∀l,(keys (insB i b l)).Perm (i::keys l)
 |[]=>by show(keys [(i,b)]).Perm _;simp[keys]
 |(k,c)::l=>by
  rw[insB_cons]
  split
  ·simp[keys]
  ·have:=keys_insB i b l
   simp only[keys,List.map_cons]at this⊢
   exact(List.Perm.cons k this).trans (List.Perm.swap i k _)
theorem keys_setB(i:Nat)(b:ABlk):∀l,keys (setB i b l)=keys l
 |[]=>rfl
 |(k,c)::l=>by
  rw[setB_cons]
  split
  ·simp[keys]
  ·have:=keys_setB i b l
   simp only[keys,List.map_cons]at this⊢
   rw[this]
theorem findB_dropB(i j:Nat):∀l,(keys l).Nodup->findB j (dropB i l)=if j=i then none else findB j l
 |[],_=>by simp[dropB,findB_nil]
 |(k,c)::l,h=>by
  simp only[keys,List.map_cons,List.nodup_cons]at h
  rw[dropB_cons]
  split
  ·rename_i e;subst e
   rw[findB_cons]
   split
   ·rename_i e;subst e;exact findB_none h.1
   ·rfl
  ·rename_i e
   rw[findB_cons,findB_dropB i j l h.2,findB_cons]
   by_cases e':j=k
   ·subst e';rw[if_pos rfl,if_neg (fun x=>e x.symm),if_pos rfl]
   ·rw[if_neg e',if_neg e']
theorem keys_dropB_sub(i:Nat):∀l,(keys (dropB i l)).Sublist (keys l)
 |[]=>List.Sublist.refl _
 |(k,c)::l=>by
  rw[dropB_cons]
  split
  ·simp[keys]
  ·have:=keys_dropB_sub i l
   simp only[keys,List.map_cons]at this⊢
   exact this.cons_cons k
theorem look_some{α β:Type}{eq:α->α->Bool}{a:α}{y:β}:∀{l:List (α×β)},look eq a l=some y->∃x,(x,y)∈l∧eq a x=true
 |[],h=>by simp[look]at h
 |(x,z)::l,h=>by
  have h':(Bool.rec (look eq a l) (some z) (eq a x):Option β)=some y:=h
  cases e:eq a x with
  |true=>rw[e]at h';simp at h';subst h';exact⟨x,by simp,e⟩
  |false=>
   rw[e]at h'
   obtain⟨x',hm,he⟩:=look_some (l:=l) h'
   exact⟨x',List.mem_cons_of_mem _ hm,he⟩
def wq{α:Type}(P:Program)(Ev:Event->Prop)(E:Value->World->Prop):Sem α->(α->World->Prop)->World->Prop
 |.pure a,Q,w=>Q a w
 |.load m a k,Q,w=>∃v,w.cell? a=some v∧Ev ⟨.cell a,false,m==.atomic⟩∧wq P Ev E (k v) Q w
 |.store m a v k,Q,w=>v.oneCell'=true∧(∃u,w.cell? a=some u)∧w.frozen? a=false∧Ev ⟨.cell a,true,m==.atomic⟩∧wq P Ev E k Q (w.setCell a v)
 |.new o k,Q,w=>wq P Ev E (k w.heap.size) Q {w with heap:=w.heap.push o}
 |.shape r k,Q,w=>wq P Ev E (k (w.shape? r)) Q w
 |.freeze _ _ _,_,_=>False
 |.frozen a k,Q,w=>wq P Ev E (k (w.frozen? a)) Q w
 |.getObj r k,Q,w=>∃o,w.heap[r]?=some o∧(∀c e f,o≠.cells c e f)∧Ev ⟨.obj r,false,o.isChan⟩∧wq P Ev E (k o) Q w
 |.setObj r o k,Q,w=>(∃o',w.heap[r]?=some o'∧∀c e f,o'≠.cells c e f)∧Ev ⟨.obj r,true,o.isChan⟩∧wq P Ev E k Q {w with heap:=w.heap.setIfInBounds r o}
 |.choose q k,Q,w=>if q.forced then wq P Ev E (k 0) Q w else ∀n,wq P Ev E (k (q.cut n)) Q {w with drawn:=w.drawn+1}
 |.sys _ _,_,_=>False
 |.program k,Q,w=>wq P Ev E (k P) Q w
 |.mark m k,Q,w=>Ev ⟨.mark m,false,true⟩∧wq P Ev E k Q w
 |.halt (.panic v),_,w=>E v w
 |.halt _,_,_=>False
def _root_.Go.Result.goes{α:Type}(Q:α->World->Prop)(E:Value->World->Prop):Result α->Prop
 |.ok a w=>Q a w
 |.halt (.panic v) w=>E v w
 |.halt _ _=>False
section
variable {α β:Type}{P:Program}{Ev:Event->Prop}{E:Value->World->Prop}
theorem wq_sound(s:Sem α):∀{Q:α->World->Prop} {w:World} (es:Array Event),wq P Ev E s Q w->(∀e∈es,Ev e)->(s.runT P w es).1.goes Q E∧∀e∈(s.runT P w es).2,Ev e:=by
 have push:∀(es:Array Event) (x:Event),(∀e∈es,Ev e)->Ev x->∀e∈es.push x,Ev e:=fun es x h hx e he=>by
  rcases Array.mem_push.1 he with h'|rfl
  ·exact h _ h'
  ·exact hx
 induction s with
 |pure a=>intro Q w es h he;exact⟨h,he⟩
 |load m a k ih=>
  intro Q w es h he
  obtain⟨v,hc,hv,hk⟩:=h
  simp only[Sem.runT,hc]
  exact ih v _ hk (push _ _ he hv)
 |store m a v k ih=>
  intro Q w es h he
  obtain⟨h1,⟨u,hu⟩,hf,hv,hk⟩:=h
  cases v<;>first
   |(simp[Value.oneCell']at h1;done)
   |(simp only[Sem.runT,hu,hf,Bool.false_eq_true,if_false];exact ih _ hk (push _ _ he hv))
 |new o k ih=>intro Q w es h he;simp only[Sem.runT];exact ih _ _ h he
 |shape r k ih=>intro Q w es h he;simp only[Sem.runT];exact ih _ _ h he
 |freeze a n k ih=>intro Q w es h he;exact h.elim
 |frozen a k ih=>intro Q w es h he;simp only[Sem.runT];exact ih _ _ h he
 |getObj r k ih=>
  intro Q w es h he
  obtain⟨o,ho,hn,hv,hk⟩:=h
  simp only[Sem.runT,ho]
  cases o<;>first
   |exact absurd rfl (hn _ _ _)
   |exact ih _ _ hk (push _ _ he hv)
 |setObj r o k ih=>
  intro Q w es h he
  obtain⟨⟨o',ho,hn⟩,hv,hk⟩:=h
  simp only[Sem.runT,ho]
  cases o'<;>first
   |exact absurd rfl (hn _ _ _)
   |exact ih _ hk (push _ _ he hv)
 |choose q k ih=>
  intro Q w es h he
  simp only[wq]at h
  simp only[Sem.runT]
  split at h
  ·rename_i hq;rw[if_pos hq];exact ih _ _ h he
  ·rename_i hq;rw[if_neg hq];exact ih _ _ (h _) he
 |sys c k ih=>intro Q w es h he;exact h.elim
 |program k ih=>intro Q w es h he;simp only[Sem.runT];exact ih _ _ h he
 |mark m k ih=>intro Q w es h he;simp only[Sem.runT];exact ih _ h.2 (push _ _ he h.1)
 |halt x=>
  intro Q w es h he
  cases x<;>first
   |exact⟨h,he⟩
   |exact(show False from h).elim
theorem wq_run{s:Sem α}{Q:α->World->Prop}{w:World}(h:wq P Ev E s Q w):(s.run P w).goes Q E∧∀e∈s.events P w #[],Ev e:=by
 have:=wq_sound s #[] h (by simp)
 rw[Sem.runT_fst]at this
 exact this
theorem wq_bind'(x:Sem α)(f:α->Sem β){Q:β->World->Prop}:∀{w:World},wq P Ev E (x.bind f) Q w↔wq P Ev E x (fun a w=>wq P Ev E (f a) Q w) w:=by
 induction x with
 |pure a=>intro w;exact Iff.rfl
 |load m a k ih=>intro w;simp only[Sem.bind,wq,ih]
 |store m a v k ih=>intro w;simp only[Sem.bind,wq,ih]
 |new o k ih=>intro w;simp only[Sem.bind,wq,ih]
 |shape r k ih=>intro w;simp only[Sem.bind,wq,ih]
 |freeze a n k ih=>intro w;simp only[Sem.bind,wq]
 |frozen a k ih=>intro w;simp only[Sem.bind,wq,ih]
 |getObj r k ih=>intro w;simp only[Sem.bind,wq,ih]
 |setObj r o k ih=>intro w;simp only[Sem.bind,wq,ih]
 |choose q k ih=>intro w;simp only[Sem.bind,wq,ih]
 |sys c k ih=>intro w;simp only[Sem.bind,wq]
 |program k ih=>intro w;simp only[Sem.bind,wq,ih]
 |mark m k ih=>intro w;simp only[Sem.bind,wq,ih]
 |halt h=>intro w;cases h<;>simp only[Sem.bind,wq]
@[simp] theorem wq_bind(x:Sem α)(f:α->Sem β){Q:β->World->Prop}{w:World}:wq P Ev E (x>>= f) Q w↔wq P Ev E x (fun a w=>wq P Ev E (f a) Q w) w:=wq_bind' x f
@[simp] theorem wq_map(x:Sem α)(f:α->β){Q:β->World->Prop}{w:World}:wq P Ev E (f<$>x) Q w↔wq P Ev E x (fun a w=>Q (f a) w) w:=wq_bind' x _
@[simp] theorem wq_pure(a:α){Q:α->World->Prop}{w:World}:wq P Ev E (Pure.pure a) Q w↔Q a w:=Iff.rfl
@[simp] theorem wq_pure'(a:α){Q:α->World->Prop}{w:World}:wq P Ev E (Sem.pure a) Q w↔Q a w:=Iff.rfl
@[simp] theorem wq_program{Q:Program->World->Prop}{w:World}:wq P Ev E program Q w↔Q P w:=Iff.rfl
@[simp] theorem wq_newObj(o:Obj){Q:Nat->World->Prop}{w:World}:wq P Ev E (newObj o) Q w↔Q w.heap.size {w with heap:=w.heap.push o}:=Iff.rfl
@[simp] theorem wq_shape(r:Nat){Q:Option (TypeId×Nat)->World->Prop}{w:World}:wq P Ev E (shape r) Q w↔Q (w.shape? r) w:=Iff.rfl
@[simp] theorem wq_frozen(a:Addr){Q:Bool->World->Prop}{w:World}:wq P Ev E (frozen a) Q w↔Q (w.frozen? a) w:=Iff.rfl
@[simp] theorem wq_mark(m:Mark){Q:Unit->World->Prop}{w:World}:wq P Ev E (mark m) Q w↔Ev ⟨.mark m,false,true⟩∧Q () w:=Iff.rfl
@[simp] theorem wq_goPanic(v:Value){Q:α->World->Prop}{w:World}:wq P Ev E (goPanic v) Q w↔E v w:=Iff.rfl
theorem wq_load(a:Addr)(m:Mode){Q:Value->World->Prop}{w:World}:wq P Ev E (load a m) Q w↔∃v,w.cell? a=some v∧Ev ⟨.cell a,false,m==.atomic⟩∧Q v w:=Iff.rfl
theorem wq_store(a:Addr)(v:Value)(m:Mode){Q:Unit->World->Prop}{w:World}:
 wq P Ev E (store a v m) Q w↔v.oneCell'=true∧(∃u,w.cell? a=some u)∧w.frozen? a=false∧Ev ⟨.cell a,true,m==.atomic⟩∧Q () (w.setCell a v):=Iff.rfl
theorem wq_choose(q:Question){Q:Nat->World->Prop}{w:World}:wq P Ev E (choose q) Q w↔if q.forced then Q 0 w else ∀n,Q (q.cut n) {w with drawn:=w.drawn+1}:=Iff.rfl
@[simp] theorem wq_ite(c:Prop)[Decidable c](x y:Sem α){Q:α->World->Prop}{w:World}:wq P Ev E (if c then x else y) Q w↔if c then wq P Ev E x Q w else wq P Ev E y Q w:=by split<;>exact Iff.rfl
theorem wq_mono{s:Sem α}{Q Q':α->World->Prop}{E':Value->World->Prop}(hE:∀v w,E v w->E' v w)(hQ:∀a w,Q a w->Q' a w):∀{w:World},wq P Ev E s Q w->wq P Ev E' s Q' w:=by
 induction s with
 |pure a=>intro w h;exact hQ _ _ h
 |load m a k ih=>intro w h;obtain⟨v,h1,h2,h3⟩:=h;exact⟨v,h1,h2,ih _ h3⟩
 |store m a v k ih=>intro w h;obtain⟨h1,h2,h3,h4,h5⟩:=h;exact⟨h1,h2,h3,h4,ih h5⟩
 |new o k ih=>intro w h;exact ih _ h
 |shape r k ih=>intro w h;exact ih _ h
 |freeze a n k ih=>intro w h;exact h
 |frozen a k ih=>intro w h;exact ih _ h
 |getObj r k ih=>intro w h;obtain⟨o,h1,h2,h3,h4⟩:=h;exact⟨o,h1,h2,h3,ih _ h4⟩
 |setObj r o k ih=>intro w h;obtain⟨h1,h2,h3⟩:=h;exact⟨h1,h2,ih h3⟩
 |choose q k ih=>
  intro w h
  simp only[wq]at h⊢
  split
  ·rename_i hq;rw[if_pos hq]at h;exact ih _ h
  ·rename_i hq;rw[if_neg hq]at h;exact fun n=>ih _ (h n)
 |sys c k ih=>intro w h;exact h
 |program k ih=>intro w h;exact ih _ h
 |mark m k ih=>intro w h;exact⟨h.1,ih h.2⟩
 |halt h=>intro w hh;cases h<;>first|exact hE _ _ hh|exact hh
theorem wq_typeInfo{t:TypeId}{i:TypeInfo}(h:P.info? t=some i){Q:TypeInfo->World->Prop}{w:World}:wq P Ev E (typeInfo t) Q w↔Q i w:=by
 simp[typeInfo,h]
theorem wq_underlying{t:TypeId}{d:TypeDesc}(h:P.underlying t=some d){Q:TypeDesc->World->Prop}{w:World}:wq P Ev E (underlying t) Q w↔Q d w:=by
 simp[underlying,h]
theorem wq_pureRun{s:Sem α}:∀{a:α},pureRun P s=some a->∀{Q:α->World->Prop} {w:World},Q a w->wq P Ev E s Q w:=by
 induction s with
 |pure b=>intro a h Q w hq;simp[pureRun]at h;subst h;exact hq
 |program k ih=>intro a h Q w hq;exact ih P h hq
 |_=>intro a h;simp[pureRun]at h
end
theorem sizeOf?_ok{P:Program}{t:TypeId}{n:Nat}(h:sizeOf? P t=.ok n):∃i,P.info? t=some i∧i.size=n:=by
 unfold sizeOf? at h
 split at h
 ·rename_i i hi;exact⟨i,hi,by simpa using h⟩
 ·cases h
theorem under?_ok{P:Program}{t:TypeId}{d:TypeDesc}(h:under? P t=.ok d):P.underlying t=some d:=by
 unfold under? at h
 split at h
 ·rename_i i hi;rw[hi];simpa using h
 ·cases h
theorem wq_sizeOf{P:Program}{Ev:Event->Prop}{E:Value->World->Prop}{t:TypeId}{n:Nat}(h:sizeOf? P t=.ok n){Q:Nat->World->Prop}{w:World}:wq P Ev E (sizeOf t) Q w↔Q n w:=by
 obtain⟨i,hi,rfl⟩:=sizeOf?_ok h
 simp[sizeOf,wq_typeInfo hi]
theorem wq_isAgg{P:Program}{Ev:Event->Prop}{E:Value->World->Prop}{t:TypeId}{b:Bool}(h:isAgg? P t=.ok b){Q:Bool->World->Prop}{w:World}:wq P Ev E (isAgg t) Q w↔Q b w:=by
 unfold isAgg? at h
 split at h
 ·rename_i hu;cases h;simp[isAgg,wq_underlying hu]
 ·rename_i hu;cases h;simp[isAgg,wq_underlying hu]
 ·rename_i d h1 h2 hu;cases h
  simp only[isAgg,wq_bind,wq_underlying hu]
  cases d<;>first
   |exact absurd hu (h1 _)
   |exact absurd hu (h2 _ _)
   |exact Iff.rfl
 ·cases h
section
def IE.In(U:Nat->Prop):IE->Prop
 |.lit _=>True
 |.var i=>U i
 |.op _ _ a b=>a.In U∧b.In U
 |.conv _ a=>a.In U
 |.plus a b=>a.In U∧b.In U
 |.times a b=>a.In U∧b.In U
 |.tn a=>a.In U
 |.slen _=>True
def BE.In(U:Nat->Prop):BE->Prop
 |.lit _=>True
 |.var _=>True
 |.cmp _ a b=>a.In U∧b.In U
 |.seq _ _ _=>True
def BR.In(U:Nat->Prop):BR->Prop
 |.glob _=>True
 |.dyn i=>U i
def AA.In(U:Nat->Prop)(a:AA):Prop:=a.blk.In U∧a.off.In U
def optIn{α:Type}(f:α->Prop):Option α->Prop
 |none=>True
 |some a=>f a
mutual
def AV.In(U:Nat->Prop):AV->Prop
 |.bool b=>b.In U
 |.int _ e=>e.In U
 |.ptr a=>optIn (AA.In U) a
 |.slice a l c=>optIn (AA.In U) a∧l.In U∧c.In U
 |.map r=>optIn (BR.In U) r
 |.chan r=>optIn (BR.In U) r
 |.func _ x y=>AV.Ins U x∧AV.Ins U y
 |.iface _ v=>v.In U
 |.agg x=>AV.Ins U x
 |.tuple x=>AV.Ins U x
 |.str _=>True
 |.nilFunc=>True
 |.nilIface=>True
 |.opq _=>True
 |.raw _=>True
 |.ss _=>True
def AV.Ins(U:Nat->Prop):List AV->Prop
 |[]=>True
 |a::x=>a.In U∧AV.Ins U x
end
def ABlk.In(U:Nat->Prop):ABlk->Prop
 |.cells cs _=>AV.Ins U cs
 |.row cs _ c=>AV.Ins U cs∧c.In U
 |.lent cs _ _=>AV.Ins U cs
 |.map es=>∀p∈es,p.1.In U∧p.2.In U
 |.chan=>True
 |.vmap _ n fs ws=>n.In U∧(∀p∈fs,p.1.In U∧optIn (AV.In U) p.2)∧∀p∈ws,p.1.In U∧p.2.In U
 |.pre _ _ n fs ws cs _ c=>n.In U∧(∀p∈fs,p.1.In U∧p.2.In U)∧(∀p∈ws,p.1.In U∧p.2.In U)∧AV.Ins U cs∧c.In U
def TT.In(U:Nat->Prop)(t:TT):Prop:=∀n,(t.get n).In U
structure Orc.In(U:Nat->Prop)(O:Orc):Prop where
 bs:∀p∈O.bs,p.1.In U
 is:∀p∈O.is,p.1.In U∧p.2.In U
 mem:∀p∈O.mem,p.1.In U∧p.2.In U
theorem Ins_iff{U:Nat->Prop}:∀{l:List AV},AV.Ins U l↔∀a∈l,a.In U
 |[]=>by simp[AV.Ins]
 |a::l=>by simp[AV.Ins,Ins_iff (l:=l)]
structure Agree(U:Nat->Prop)(ρ ρ':Env):Prop where
 p:ρ'.p=ρ.p
 v:ρ'.v=ρ.v
 bt:ρ'.bt=ρ.bt
 i:∀n,U n->ρ'.i n=ρ.i n
 b:∀n,U n->ρ'.b n=ρ.b n
 s:ρ'.s=ρ.s
theorem Agree.ii{U:Nat->Prop}{ρ ρ':Env}(A:Agree U ρ ρ')(n:Nat)(h:U n:=by decide):ρ'.i n=ρ.i n:=A.i n h
theorem Agree.bb{U:Nat->Prop}{ρ ρ':Env}(A:Agree U ρ ρ')(n:Nat)(h:U n:=by decide):ρ'.b n=ρ.b n:=A.b n h
theorem Agree.refl(U:Nat->Prop)(ρ:Env):Agree U ρ ρ:=⟨rfl,rfl,rfl,fun _ _=>rfl,fun _ _=>rfl,rfl⟩
theorem Agree.trans{U U':Nat->Prop}{ρ ρ' ρ'':Env}(h:Agree U ρ ρ')(h':Agree U' ρ' ρ'')(hs:∀n,U n->U' n):Agree U ρ ρ'':=
 ⟨h'.p.trans h.p,h'.v.trans h.v,h'.bt.trans h.bt,fun n hn=>(h'.i n (hs n hn)).trans (h.i n hn),fun n hn=>(h'.b n (hs n hn)).trans (h.b n hn),h'.s.trans h.s⟩
theorem Agree.mono{U U':Nat->Prop}{ρ ρ':Env}(h:Agree U' ρ ρ')(hs:∀n,U n->U' n):Agree U ρ ρ':=
 ⟨h.p,h.v,h.bt,fun n hn=>h.i n (hs n hn),fun n hn=>h.b n (hs n hn),h.s⟩
section
variable {U:Nat->Prop}{ρ ρ':Env}
theorem SE.ev_agree(h:Agree U ρ ρ'){e:SE}:e.ev ρ'=e.ev ρ:=by
 induction e with
 |lit s=>rfl
 |var i=>simp only[SE.ev,h.s]
 |cat a b iha ihb=>simp only[SE.ev,iha,ihb]
theorem IE.ev_agree(h:Agree U ρ ρ'):∀{e:IE},e.In U->e.ev ρ'=e.ev ρ:=by
 intro e
 induction e with
 |lit n=>intro _;rfl
 |var i=>intro hi;exact h.i i hi
 |op o k a b iha ihb=>intro hi;simp only[IE.ev];rw[iha hi.1,ihb hi.2]
 |conv k a ih=>intro hi;simp only[IE.ev];rw[ih hi]
 |plus a b iha ihb=>intro hi;simp only[IE.ev];rw[iha hi.1,ihb hi.2]
 |times a b iha ihb=>intro hi;simp only[IE.ev];rw[iha hi.1,ihb hi.2]
 |tn a ih=>intro hi;simp only[IE.ev];rw[ih hi]
 |slen a=>intro _;simp only[IE.ev];rw[SE.ev_agree h]
theorem BE.ev_agree(h:Agree U ρ ρ'){e:BE}(hi:e.In U):e.ev ρ'=e.ev ρ:=by
 cases e with
 |lit b=>rfl
 |var i=>simp[BE.ev,h.p]
 |cmp o a b=>simp only[BE.ev];rw[IE.ev_agree h hi.1,IE.ev_agree h hi.2]
 |seq n a b=>simp only[BE.ev];rw[SE.ev_agree h,SE.ev_agree h]
theorem BR.ev_agree(h:Agree U ρ ρ'){e:BR}(hi:e.In U):e.ev ρ'=e.ev ρ:=by
 cases e with
 |glob g=>rfl
 |dyn i=>exact h.b i hi
theorem AA.ev_agree(h:Agree U ρ ρ'){e:AA}(hi:e.In U):e.ev ρ'=e.ev ρ:=by
 simp only[AA.ev,BR.ev_agree h hi.1,IE.ev_agree h hi.2]
theorem opt_agree{α β:Type}{f g:α->β}{I:α->Prop}(hf:∀{a},I a->f a=g a):∀{o:Option α},optIn I o->o.map f=o.map g
 |none,_=>rfl
 |some a,h=>by simp[hf h]
mutual
theorem AV.ev_agree(h:Agree U ρ ρ'):∀(a:AV),a.In U->a.ev ρ'=a.ev ρ
 |.bool b,hi=>by simp only[AV.ev,BE.ev_agree h hi]
 |.int k e,hi=>by simp only[AV.ev,IE.ev_agree h hi]
 |.str s,_=>rfl
 |.ptr a,hi=>by simp only[AV.ev];rw[opt_agree (fun x=>AA.ev_agree h x) hi]
 |.slice a l c,hi=>by simp only[AV.ev];rw[opt_agree (fun x=>AA.ev_agree h x) hi.1,IE.ev_agree h hi.2.1,IE.ev_agree h hi.2.2]
 |.map r,hi=>by simp only[AV.ev];rw[opt_agree (fun x=>BR.ev_agree h x) hi]
 |.chan r,hi=>by simp only[AV.ev];rw[opt_agree (fun x=>BR.ev_agree h x) hi]
 |.func f x y,hi=>by simp only[AV.ev];rw[AV.evs_agree h x hi.1,AV.evs_agree h y hi.2]
 |.nilFunc,_=>rfl
 |.iface t v,hi=>by simp only[AV.ev];rw[AV.ev_agree h v hi]
 |.nilIface,_=>rfl
 |.agg x,hi=>by simp only[AV.ev];rw[AV.evs_agree h x hi]
 |.tuple x,hi=>by simp only[AV.ev];rw[AV.evs_agree h x hi]
 |.opq i,_=>by simp only[AV.ev,h.v]
 |.raw v,_=>rfl
 |.ss e,_=>by simp only[AV.ev];rw[SE.ev_agree h]
theorem AV.evs_agree(h:Agree U ρ ρ'):∀(l:List AV),AV.Ins U l->AV.evs ρ' l=AV.evs ρ l
 |[],_=>rfl
 |a::l,hi=>by simp only[AV.evs];rw[AV.ev_agree h a hi.1,AV.evs_agree h l hi.2]
end
end
section
variable {U U':Nat->Prop}(hs:∀n,U n->U' n)
 include hs
theorem IE.In.mono:∀{e:IE},e.In U->e.In U':=by
 intro e
 induction e with
 |lit n=>intro _;trivial
 |var i=>exact hs i
 |op o k a b iha ihb=>exact fun h=>⟨iha h.1,ihb h.2⟩
 |conv k a ih=>exact ih
 |plus a b iha ihb=>exact fun h=>⟨iha h.1,ihb h.2⟩
 |times a b iha ihb=>exact fun h=>⟨iha h.1,ihb h.2⟩
 |tn a ih=>exact ih
 |slen a=>exact fun _=>trivial
theorem BE.In.mono{e:BE}(h:e.In U):e.In U':=by
 cases e with
 |cmp o a b=>exact⟨IE.In.mono hs h.1,IE.In.mono hs h.2⟩
 |_=>trivial
theorem BR.In.mono{e:BR}(h:e.In U):e.In U':=by
 cases e with
 |glob g=>trivial
 |dyn i=>exact hs i h
theorem AA.In.mono{e:AA}(h:e.In U):e.In U':=⟨BR.In.mono hs h.1,IE.In.mono hs h.2⟩
theorem optIn.mono{α:Type}{f g:α->Prop}(hf:∀{a},f a->g a):∀{o:Option α},optIn f o->optIn g o
 |none,_=>trivial
 |some _,h=>hf h
mutual
theorem AV.In.mono:∀(a:AV),a.In U->a.In U'
 |.bool _,h=>BE.In.mono hs h
 |.int _ _,h=>IE.In.mono hs h
 |.str _,_=>trivial
 |.ptr _,h=>optIn.mono hs (fun x=>AA.In.mono hs x) h
 |.slice _ _ _,h=>⟨optIn.mono hs (fun x=>AA.In.mono hs x) h.1,IE.In.mono hs h.2.1,IE.In.mono hs h.2.2⟩
 |.map _,h=>optIn.mono hs (fun x=>BR.In.mono hs x) h
 |.chan _,h=>optIn.mono hs (fun x=>BR.In.mono hs x) h
 |.func _ x y,h=>⟨AV.Ins.mono x h.1,AV.Ins.mono y h.2⟩
 |.nilFunc,_=>trivial
 |.iface _ v,h=>AV.In.mono v h
 |.nilIface,_=>trivial
 |.agg x,h=>AV.Ins.mono x h
 |.tuple x,h=>AV.Ins.mono x h
 |.opq _,_=>trivial
 |.raw _,_=>trivial
 |.ss _,_=>trivial
theorem AV.Ins.mono:∀(l:List AV),AV.Ins U l->AV.Ins U' l
 |[],_=>trivial
 |a::l,h=>⟨AV.In.mono a h.1,AV.Ins.mono l h.2⟩
end
theorem ABlk.In.mono{b:ABlk}(h:b.In U):b.In U':=by
 cases b with
 |cells cs e=>exact AV.Ins.mono hs _ h
 |row cs e c=>exact⟨AV.Ins.mono hs _ h.1,IE.In.mono hs h.2⟩
 |lent cs e l=>exact AV.Ins.mono hs _ h
 |map es=>exact fun p hp=>⟨AV.In.mono hs _ (h p hp).1,AV.In.mono hs _ (h p hp).2⟩
 |chan=>trivial
 |vmap s n fs ws=>exact⟨IE.In.mono hs h.1,fun p hp=>⟨AA.In.mono hs (h.2.1 p hp).1,optIn.mono hs (fun x=>AV.In.mono hs _ x) (h.2.1 p hp).2⟩,fun p hp=>⟨AV.In.mono hs _ (h.2.2 p hp).1,AV.In.mono hs _ (h.2.2 p hp).2⟩⟩
 |pre lk s n fs ws cs e c=>exact⟨IE.In.mono hs h.1,fun p hp=>⟨IE.In.mono hs (h.2.1 p hp).1,AV.In.mono hs _ (h.2.1 p hp).2⟩,fun p hp=>⟨IE.In.mono hs (h.2.2.1 p hp).1,AV.In.mono hs _ (h.2.2.1 p hp).2⟩,AV.Ins.mono hs _ h.2.2.2.1,IE.In.mono hs h.2.2.2.2⟩
theorem TT.In.mono{t:TT}(h:t.In U):t.In U':=fun n=>AV.In.mono hs _ (h n)
theorem Orc.In.mono{O:Orc}(h:O.In U):O.In U':=
 ⟨fun p hp=>BE.In.mono hs (h.bs p hp),fun p hp=>⟨IE.In.mono hs (h.is p hp).1,IE.In.mono hs (h.is p hp).2⟩,fun p hp=>⟨AA.In.mono hs (h.mem p hp).1,AV.In.mono hs _ (h.mem p hp).2⟩⟩
end
structure Ctx where
 P:Program
 O:Orc
 own:Nat->Prop
 Ev:Event->Prop
 lock:Prop
 still:Nat->Nat->Prop
def markOk:Mark->Bool
 |.acquire _|.release _|.releaseMerge _|.extern _|.noRoom=>true
 |_=>false
structure Ctx.Good(K:Ctx):Prop where
 rd:∀a s,K.own a.block->K.Ev ⟨.cell a,false,s⟩
 wr:∀a s,K.own a.block->¬K.still a.block a.off->K.Ev ⟨.cell a,true,s⟩
 noWr:∀b n s,K.still b n->¬K.Ev ⟨.cell ⟨b,n,none⟩,true,s⟩
 ext:∀m,markOk m=true->K.Ev ⟨.mark m,false,true⟩
 noRoom:K.Ev ⟨.mark .noRoom,false,true⟩
 lock:K.lock->∀m,K.Ev ⟨.mark m,false,true⟩
 obj:∀r wr s,K.own r->K.Ev ⟨.obj r,wr,s⟩
def ABlk.elem:ABlk->TypeId
 |.cells _ e=>e
 |.row _ e _=>e
 |.lent _ e _=>e
 |.map _=>0
 |.chan=>0
 |.vmap _ _ _ _=>0
 |.pre _ _ _ _ _ _ e _=>e
def wrote(ρ:Env)(l:List Value)(ws:List (IE×AV)):List Value:=ws.foldr (fun p l=>l.set (p.1.ev ρ).toNat (p.2.ev ρ)) l
structure PreIs(P:Program)(ρ:Env)(s:Nat)(n:IE)(fs ws:List (IE×AV))(e:TypeId)(i:TypeInfo)(pre:Array Value):Prop where
 val:ρ.v s=.agg pre
 info:P.info? e=some i
 size:pre.size=(n.ev ρ).toNat*i.size
 fs:∀p∈fs,pre[(p.1.ev ρ).toNat]?=some (p.2.ev ρ)
 ws:∀p∈ws,(p.1.ev ρ).toNat<pre.size
def ABlk.fits(P:Program)(ρ:Env):ABlk->Array Value->Prop
 |.cells cs _,arr=>arr.toList=AV.evs ρ cs
 |.lent cs _ _,arr=>arr.toList=AV.evs ρ cs
 |.row cs e c,arr=>∃rest i,arr.toList=AV.evs ρ cs++rest∧P.info? e=some i∧arr.size=(c.ev ρ).toNat*i.size
 |.map _,_=>False
 |.chan,_=>False
 |.vmap _ _ _ _,_=>False
 |.pre _ s n fs ws cs e c,arr=>∃pre rest i,PreIs P ρ s n fs ws e i pre∧arr.toList=wrote ρ pre.toList ws++(AV.evs ρ cs++rest)∧arr.size=(c.ev ρ).toNat*i.size
def encE(E:List (Value×Value)):Value:=.agg (E.map fun p=>Value.agg #[p.1,p.2]).toArray
def KeyIs(ρ:Env)(E:List (Value×Value))(a:AA)(r:Option AV):Prop:=
 (∀q∈E,∃off,q.1=.pointer (some ⟨(a.ev ρ).block,off,none⟩))∧match r with
  |some v=>∃E1 E2,E=E1++(.pointer (some (a.ev ρ)),v.ev ρ)::E2∧∀q∈E1,q.1≠.pointer (some (a.ev ρ))
  |none=>∀q∈E,q.1≠.pointer (some (a.ev ρ))
def ABlk.thing(ρ:Env):ABlk->Obj->Prop
 |.map es,o=>∃arr clk,o=.map arr clk∧arr.toList.map (fun e=>(e.key,e.val))=es.map fun p=>(p.1.ev ρ,p.2.ev ρ)
 |.chan,o=>∃k,o=.chan 0 #[] false k k false
 |.vmap s n fs ws,o=>∃arr clk E,o=.map arr clk∧ρ.v s=encE E∧E.length=(n.ev ρ).toNat∧arr.toList.map (fun e=>(e.key,e.val))=E++ws.map (fun p=>(p.1.ev ρ,p.2.ev ρ))∧∀p∈fs,KeyIs ρ E p.1 p.2
 |_,_=>False
def ABlk.is(P:Program)(ρ:Env)(b:ABlk)(o:Obj):Prop:=(∃arr,o=.cells arr b.elem (0,0)∧b.fits P ρ arr)∨b.thing ρ o
def ABlk.lentAt(P:Program)(ρ:Env):ABlk->Nat->Prop
 |.pre lk _ m _ _ _ e _,n=>lk=true∧∃i,P.info? e=some i∧n<(m.ev ρ).toNat*i.size
 |b,n=>b.isLent n=true
structure Rel(K:Ctx)(ρ:Env)(h:AH)(w:World):Prop where
 blk:∀i b,findB i h.hp=some b->∃o,w.heap[ρ.b i]?=some o∧b.is K.P ρ o
 own':∀i b,findB i h.hp=some b->K.own (ρ.b i)∨(b.isChan=true∧K.still (ρ.b i) 0)
 inj:∀i j b c,findB i h.hp=some b->findB j h.hp=some c->ρ.b i=ρ.b j->i=j
 bs:∀p∈K.O.bs,p.1.ev ρ=p.2
 is:∀p∈K.O.is,p.1.ev ρ=p.2.ev ρ
 mem:∀p∈K.O.mem,¬K.own (p.1.ev ρ).block∧w.cell? (p.1.ev ρ)=some (p.2.ev ρ)∧∀s,K.Ev ⟨.cell (p.1.ev ρ),false,s⟩
 room:∀n,w.heap.size≤n->K.own n
 lent:∀i b,findB i h.hp=some b->∀n,K.still (ρ.b i) n->b.lentAt K.P ρ n
 low:∀b n,K.still b n->b<w.heap.size
structure Ids(K:Ctx)(U:Nat->Prop)(h:AH):Prop where
 hp:∀i b,findB i h.hp=some b->b.In U
 keys:∀i∈keys h.hp,U i
 nodup:(Go.Proofs.Ytmobbajggkjpgaa.SX.keys h.hp).Nodup
 fresh:∀n,h.nb≤n->n<h.lim->¬U n
 orc:K.O.In U
structure Keeps(own:Nat->Prop)(w w':World):Prop where
 heap:∀n,¬own n->w'.heap[n]?=w.heap[n]?
 size:w.heap.size≤w'.heap.size
 tape:w'.tape=w.tape
 os:w'.os=w.os
 output:w'.output=w.output
theorem Keeps.refl(own:Nat->Prop)(w:World):Keeps own w w:=⟨fun _ _=>rfl,Nat.le_refl _,rfl,rfl,rfl⟩
theorem Keeps.trans{own:Nat->Prop}{w w' w'':World}(h:Keeps own w w')(h':Keeps own w' w''):Keeps own w w'':=
 ⟨fun n hn=>(h'.heap n hn).trans (h.heap n hn),Nat.le_trans h.size h'.size,h'.tape.trans h.tape,h'.os.trans h.os,h'.output.trans h.output⟩
theorem heap_lt{w:World}{n:Nat}{o:Obj}(h:w.heap[n]?=some o):n<w.heap.size:=by
 rcases Nat.lt_or_ge n w.heap.size with h'|h'
 ·exact h'
 ·simp[Array.getElem?_eq_none h']at h
theorem cell?_of{w:World}{b o:Nat}{arr:Array Value}{e:TypeId}{f:Nat×Nat}(h:w.heap[b]?=some (.cells arr e f)):w.cell? ⟨b,o,none⟩=arr[o]?:=by
 simp[World.cell?,h]
theorem frozen?_of{w:World}{b o:Nat}{arr:Array Value}{e:TypeId}(h:w.heap[b]?=some (.cells arr e (0,0))):w.frozen? ⟨b,o,none⟩=false:=by
 simp[World.frozen?,h]
theorem evs_get(ρ:Env)(l:List AV)(n:Nat):(AV.evs ρ l)[n]?=(l[n]?).map (AV.ev ρ):=by
 rw[evs_map];simp
theorem evs_length(ρ:Env)(l:List AV):(AV.evs ρ l).length=l.length:=by rw[evs_map];simp
theorem evs_append(ρ:Env)(l m:List AV):AV.evs ρ (l++m)=AV.evs ρ l++AV.evs ρ m:=by simp[evs_map]
theorem evs_set(ρ:Env)(l:List AV)(n:Nat)(v:AV):AV.evs ρ (l.set n v)=(AV.evs ρ l).set n (v.ev ρ):=by simp[evs_map,List.map_set]
theorem fits_get{P:Program}{ρ:Env}{b:ABlk}{arr:Array Value}(h:b.fits P ρ arr){n:Nat}{v:AV}(hn:b.cs[n]?=some v):arr[n]?=some (v.ev ρ):=by
 have hlt:n<b.cs.length:=(List.getElem?_eq_some_iff.1 hn).1
 cases b with
 |cells cs e=>
  simp only[ABlk.fits]at h
  rw[<-Array.getElem?_toList,h,evs_get]
  simp only[ABlk.cs]at hn
  rw[hn];rfl
 |lent cs e l=>
  simp only[ABlk.fits]at h
  rw[<-Array.getElem?_toList,h,evs_get]
  simp only[ABlk.cs]at hn
  rw[hn];rfl
 |row cs e c=>
  obtain⟨rest,i,h1,h2,h3⟩:=h
  simp only[ABlk.cs]at hn hlt
  rw[<-Array.getElem?_toList,h1,List.getElem?_append_left (by rw[evs_length];exact hlt),evs_get,hn];rfl
 |map es=>exact h.elim
 |chan=>exact h.elim
 |vmap s n fs ws=>exact h.elim
 |pre lk s n fs ws cs e c=>simp[ABlk.cs]at hlt
theorem fits_set{P:Program}{ρ:Env}{b:ABlk}{arr:Array Value}(h:b.fits P ρ arr){n:Nat}{v:AV}(hn:n<b.cs.length):(b.put (b.cs.set n v)).fits P ρ (arr.setIfInBounds n (v.ev ρ)):=by
 cases b with
 |cells cs e=>
  simp only[ABlk.fits,ABlk.put,ABlk.cs]at h⊢
  rw[Array.toList_setIfInBounds,h,evs_set]
 |lent cs e l=>
  simp only[ABlk.fits,ABlk.put,ABlk.cs]at h⊢
  rw[Array.toList_setIfInBounds,h,evs_set]
 |row cs e c=>
  obtain⟨rest,i,h1,h2,h3⟩:=h
  simp only[ABlk.cs]at hn
  refine⟨rest,i,?_,h2,by simpa using h3⟩
  simp only[ABlk.cs]
  rw[Array.toList_setIfInBounds,h1,evs_set,List.set_append_left _ _ (by rw[evs_length];exact hn)]
 |map es=>exact h.elim
 |chan=>exact h.elim
 |vmap s n fs ws=>exact h.elim
 |pre lk s n fs ws cs e c=>simp[ABlk.cs]at hn
theorem wrote_agree{U:Nat->Prop}{ρ ρ':Env}(ha:Agree U ρ ρ')(l:List Value):∀{ws:List (IE×AV)},(∀p∈ws,p.1.In U∧p.2.In U)->wrote ρ' l ws=wrote ρ l ws
 |[],_=>rfl
 |p::ws,h=>by
  have h1:=wrote_agree ha l (ws:=ws) fun q hq=>h q (List.mem_cons_of_mem _ hq)
  show(wrote ρ' l ws).set _ _=(wrote ρ l ws).set _ _
  rw[h1,IE.ev_agree ha (h p (List.mem_cons_self ..)).1,AV.ev_agree ha _ (h p (List.mem_cons_self ..)).2]
theorem PreIs.agree{P:Program}{U:Nat->Prop}{ρ ρ':Env}(ha:Agree U ρ ρ'){s:Nat}{n:IE}{fs ws:List (IE×AV)}{e:TypeId}{i:TypeInfo}{pre:Array Value}(hn:n.In U)(hf:∀p∈fs,p.1.In U∧p.2.In U)(hw:∀p∈ws,p.1.In U∧p.2.In U)(h:PreIs P ρ s n fs ws e i pre):PreIs P ρ' s n fs ws e i pre:=
 ⟨by rw[ha.v];exact h.val,h.info,by rw[IE.ev_agree ha hn];exact h.size,fun p hp=>by rw[IE.ev_agree ha (hf p hp).1,AV.ev_agree ha _ (hf p hp).2];exact h.fs p hp,fun p hp=>by rw[IE.ev_agree ha (hw p hp).1];exact h.ws p hp⟩
theorem lentAt_lt{P:Program}{ρ:Env}{b:ABlk}{n m:Nat}(h:m<b.cs.length)(hl:b.lentAt P ρ n):b.isLent n=true:=by
 cases b<;>first|exact hl|(simp[ABlk.cs]at h)
theorem lentAt_put{P:Program}{ρ:Env}{b:ABlk}{m:Nat}(h:m<b.cs.length)(cs:List AV)(n:Nat)(P':Program)(ρ':Env):(b.put cs).lentAt P' ρ' n↔b.lentAt P ρ n:=by
 cases b<;>first|exact Iff.rfl|(simp[ABlk.cs]at h)
theorem lentAt_agree{P:Program}{U:Nat->Prop}{ρ ρ':Env}(A:Agree U ρ ρ'){b:ABlk}(hb:b.In U){n:Nat}:b.lentAt P ρ' n↔b.lentAt P ρ n:=by
 cases b with
 |pre lk s m fs ws cs e c=>simp only[ABlk.lentAt,IE.ev_agree A hb.1]
 |_=>exact Iff.rfl
theorem put_elem(b:ABlk)(cs:List AV):(b.put cs).elem=b.elem:=by cases b<;>rfl
theorem fits_agree{P:Program}{U:Nat->Prop}{ρ ρ':Env}(ha:Agree U ρ ρ'){b:ABlk}(hb:b.In U){arr:Array Value}(h:b.fits P ρ arr):b.fits P ρ' arr:=by
 cases b with
 |cells cs e=>simp only[ABlk.fits]at h⊢;rw[AV.evs_agree ha _ hb];exact h
 |lent cs e l=>simp only[ABlk.fits]at h⊢;rw[AV.evs_agree ha _ hb];exact h
 |row cs e c=>
  obtain⟨rest,i,h1,h2,h3⟩:=h
  exact⟨rest,i,by rw[AV.evs_agree ha _ hb.1];exact h1,h2,by rw[IE.ev_agree ha hb.2];exact h3⟩
 |map es=>exact h.elim
 |chan=>exact h.elim
 |vmap s n fs ws=>exact h.elim
 |pre lk s n fs ws cs e c=>
  obtain⟨pre,rest,i,h1,h2,h3⟩:=h
  obtain⟨b1,b2,b3,b4,b5⟩:=hb
  exact⟨pre,rest,i,h1.agree ha b1 b2 b3,by rw[wrote_agree ha _ b3,AV.evs_agree ha _ b4];exact h2,by rw[IE.ev_agree ha b5];exact h3⟩
theorem thing_agree{U:Nat->Prop}{ρ ρ':Env}(ha:Agree U ρ ρ'){b:ABlk}(hb:b.In U){o:Obj}(h:b.thing ρ o):b.thing ρ' o:=by
 cases b with
 |map es=>
  obtain⟨arr,clk,h1,h2⟩:=h
  refine⟨arr,clk,h1,h2.trans (List.map_congr_left fun p hp=>?_)⟩
  rw[AV.ev_agree ha _ (hb p hp).1,AV.ev_agree ha _ (hb p hp).2]
 |chan=>exact h
 |vmap s n fs ws=>
  obtain⟨arr,clk,E,h1,h2,h3,h4,h5⟩:=h
  obtain⟨b1,b2,b3⟩:=hb
  refine⟨arr,clk,E,h1,by rw[ha.v];exact h2,by rw[IE.ev_agree ha b1];exact h3,h4.trans ?_,fun p hp=>?_⟩
  ·congr 1
   refine List.map_congr_left fun p hp=>?_
   rw[AV.ev_agree ha _ (b3 p hp).1,AV.ev_agree ha _ (b3 p hp).2]
  ·obtain⟨k1,k2⟩:=h5 p hp
   obtain⟨c1,c2⟩:=b2 p hp
   unfold KeyIs
   rw[AA.ev_agree ha c1]
   refine⟨k1,?_⟩
   obtain⟨a,r⟩:=p
   cases r with
   |none=>exact k2
   |some v=>
    have c2':v.In U:=c2
    dsimp only at k2⊢
    rw[AV.ev_agree ha _ c2']
    exact k2
 |_=>exact h.elim
theorem is_agree{P:Program}{U:Nat->Prop}{ρ ρ':Env}(ha:Agree U ρ ρ'){b:ABlk}(hb:b.In U){o:Obj}(h:b.is P ρ o):b.is P ρ' o:=
 h.elim (fun⟨arr,h1,h2⟩=>.inl ⟨arr,h1,fits_agree ha hb h2⟩) fun h=>.inr (thing_agree ha hb h)
theorem isMem_lt{b:ABlk}{n:Nat}(h:n<b.cs.length):b.isMem=true:=by
 cases b<;>first|rfl|(simp[ABlk.cs]at h)
theorem isMem_get{b:ABlk}{n:Nat}{v:AV}(h:b.cs[n]?=some v):b.isMem=true:=isMem_lt (List.getElem?_eq_some_iff.1 h).1
theorem is_mem{P:Program}{ρ:Env}{b:ABlk}{o:Obj}(h:b.is P ρ o)(hm:b.isMem=true):∃arr,o=.cells arr b.elem (0,0)∧b.fits P ρ arr:=by
 rcases h with h|h
 ·exact h
 ·cases b with
  |map es=>cases hm
  |chan=>cases hm
  |vmap s n fs ws=>cases hm
  |_=>exact h.elim
theorem Rel.arr{K:Ctx}{ρ:Env}{h:AH}{w:World}(R:Rel K ρ h w){i:Nat}{b:ABlk}(hb:findB i h.hp=some b)(hm:b.isMem=true):∃arr,w.heap[ρ.b i]?=some (.cells arr b.elem (0,0))∧b.fits K.P ρ arr:=by
 obtain⟨o,h1,h2⟩:=R.blk i b hb
 obtain⟨arr,rfl,h3⟩:=is_mem h2 hm
 exact⟨arr,h1,h3⟩
section
variable {K:Ctx}{ρ:Env}{h:AH}{w:World}{U:Nat->Prop}
theorem Rel.at(R:Rel K ρ h w){w':World}(hh:w'.heap=w.heap):Rel K ρ h w':=
 ⟨fun i b hb=>by rw[hh];exact R.blk i b hb,R.own',R.inj,R.bs,R.is,fun p hp=>by have:=R.mem p hp;rw[show w'.cell? (p.1.ev ρ)=w.cell? (p.1.ev ρ)from by simp[World.cell?,hh]];exact this,by rw[hh];exact R.room,R.lent,by rw[hh];exact R.low⟩
theorem Rel.own{K:Ctx}{ρ:Env}{h:AH}{w:World}(R:Rel K ρ h w)(i:Nat)(b:ABlk)(hb:findB i h.hp=some b)(hc:b.isChan=false):K.own (ρ.b i):=
 (R.own' i b hb).elim id fun x=>by rw[hc]at x;cases x.1
theorem notChan_lt{b:ABlk}{n:Nat}(h:n<b.cs.length):b.isChan=false:=by cases b<;>first|rfl|(simp[ABlk.cs]at h)
theorem notChan_get{b:ABlk}{n:Nat}{v:AV}(h:b.cs[n]?=some v):b.isChan=false:=notChan_lt (List.getElem?_eq_some_iff.1 h).1
theorem baseOf_both(ρ:Env):∀(e:IE),(e.ev ρ).toNat=((baseOf e).1.ev ρ).toNat+(baseOf e).2∧∀c,e=.tn c->(c.ev ρ).toNat=((baseOf c).1.ev ρ).toNat+(baseOf c).2:=by
 intro e
 induction e with
 |plus a b iha ihb=>
  refine⟨?_,fun c h=>by cases h⟩
  cases a with
  |tn c=>
   cases b with
   |lit n=>
    cases n with
    |ofNat j=>
     have ih:=iha.2 c rfl
     simp only[baseOf,IE.ev]
     have:(((c.ev ρ).toNat:Int)+Int.ofNat j).toNat=(c.ev ρ).toNat+j:=by simp;omega
     rw[this,ih];omega
    |negSucc j=>simp[baseOf]
   |_=>simp[baseOf]
  |_=>simp[baseOf]
 |lit n=>exact⟨by cases n<;>simp[baseOf,IE.ev],fun c h=>by cases h⟩
 |tn a ih=>exact⟨by simp[baseOf],fun c h=>by cases h;exact ih.1⟩
 |_=>exact⟨by simp[baseOf],fun c h=>by cases h⟩
theorem baseOf_ev(ρ:Env)(e:IE):(e.ev ρ).toNat=((baseOf e).1.ev ρ).toNat+(baseOf e).2:=(baseOf_both ρ e).1
theorem sameAt_ev{a b:IE}(h:sameAt a b=true)(ρ:Env):(a.ev ρ).toNat=(b.ev ρ).toNat:=by
 unfold sameAt at h
 rw[Bool.and_eq_true]at h
 rw[baseOf_ev ρ a,baseOf_ev ρ b,IE.eqb_eq h.1,Nat.eq_of_beq_eq_true h.2]
theorem apartAt_ev{a b:IE}(h:apartAt a b=true)(ρ:Env):(a.ev ρ).toNat≠(b.ev ρ).toNat:=by
 unfold apartAt at h
 rw[Bool.and_eq_true]at h
 rw[baseOf_ev ρ a,baseOf_ev ρ b,IE.eqb_eq h.1]
 have h2:=h.2
 intro e
 have:(baseOf a).2=(baseOf b).2:=by omega
 rw[this]at h2
 simp at h2
theorem wrote_length(ρ:Env)(l:List Value):∀(ws:List (IE×AV)),(wrote ρ l ws).length=l.length
 |[]=>rfl
 |p::ws=>by show((wrote ρ l ws).set _ _).length=_;rw[List.length_set,wrote_length ρ l ws]
theorem getF_ok{P:Program}{ρ:Env}{s:Nat}{n:IE}{fs0 ws:List (IE×AV)}{e:TypeId}{i:TypeInfo}{pre:Array Value}(h:PreIs P ρ s n fs0 ws e i pre){a:IE}{v:AV}:∀{fs:List (IE×AV)},(∀p∈fs,p∈fs0)->getF a fs=some v->pre.toList[(a.ev ρ).toNat]?=some (v.ev ρ)
 |[],_,hv=>by cases hv
 |p::fs,hs,hv=>by
  unfold getF at hv
  split at hv
  ·rename_i hsame
   cases hv
   rw[sameAt_ev hsame ρ]
   simpa using h.fs p (hs p (List.mem_cons_self ..))
  ·exact getF_ok h (fun q hq=>hs q (List.mem_cons_of_mem _ hq)) hv
theorem getW_ok{P:Program}{ρ:Env}{s:Nat}{n:IE}{fs ws0:List (IE×AV)}{e:TypeId}{i:TypeInfo}{pre:Array Value}(h:PreIs P ρ s n fs ws0 e i pre){a:IE}{v:AV}:∀{ws:List (IE×AV)},(∀p∈ws,p∈ws0)->getW a fs ws=some v->(wrote ρ pre.toList ws)[(a.ev ρ).toNat]?=some (v.ev ρ)
 |[],_,hv=>getF_ok h (fun _ hp=>hp) hv
 |p::ws,hs,hv=>by
  unfold getW at hv
  show((wrote ρ pre.toList ws).set _ _)[_]?=_
  split at hv
  ·rename_i hsame
   cases hv
   rw[sameAt_ev hsame ρ,List.getElem?_set_self (by rw[wrote_length];simpa using h.ws p (hs p (List.mem_cons_self ..)))]
  ·split at hv
   ·rename_i hap
    rw[List.getElem?_set_ne (fun e=>apartAt_ev hap ρ e.symm)]
    exact getW_ok h (fun q hq=>hs q (List.mem_cons_of_mem _ hq)) hv
   ·cases hv
theorem getP_ok{P:Program}{ρ:Env}{b:ABlk}{arr:Array Value}(h:b.fits P ρ arr){a:IE}{v:AV}(hv:b.getP a=some v):arr[(a.ev ρ).toNat]?=some (v.ev ρ):=by
 cases b with
 |pre lk s n fs ws cs e c=>
  obtain⟨pre,rest,i,h1,h2,h3⟩:=h
  have h4:=getW_ok h1 (fun _ hp=>hp) hv
  rw[<-Array.getElem?_toList,h2,List.getElem?_append_left (List.getElem?_eq_some_iff.1 h4).1]
  exact h4
 |_=>cases hv
theorem getP_mem{b:ABlk}{a:IE}{v:AV}(hv:b.getP a=some v):b.isMem=true∧b.isChan=false:=by
 cases b<;>first|exact⟨rfl,rfl⟩|cases hv
theorem getF_in{U:Nat->Prop}{a:IE}{v:AV}:∀{fs:List (IE×AV)},(∀p∈fs,p.1.In U∧p.2.In U)->getF a fs=some v->v.In U
 |[],_,hv=>by cases hv
 |p::fs,hs,hv=>by
  unfold getF at hv
  split at hv
  ·cases hv;exact(hs p (List.mem_cons_self ..)).2
  ·exact getF_in (fun q hq=>hs q (List.mem_cons_of_mem _ hq)) hv
theorem getW_in{U:Nat->Prop}{a:IE}{v:AV}{fs:List (IE×AV)}(hf:∀p∈fs,p.1.In U∧p.2.In U):∀{ws:List (IE×AV)},(∀p∈ws,p.1.In U∧p.2.In U)->getW a fs ws=some v->v.In U
 |[],_,hv=>getF_in hf hv
 |p::ws,hs,hv=>by
  unfold getW at hv
  split at hv
  ·cases hv;exact(hs p (List.mem_cons_self ..)).2
  ·split at hv
   ·exact getW_in hf (fun q hq=>hs q (List.mem_cons_of_mem _ hq)) hv
   ·cases hv
theorem getP_in{U:Nat->Prop}{b:ABlk}(hb:b.In U){a:IE}{v:AV}(hv:b.getP a=some v):v.In U:=by
 cases b with
 |pre lk s n fs ws cs e c=>exact getW_in hb.2.1 hb.2.2.1 hv
 |_=>cases hv
theorem setP_ok{P:Program}{ρ:Env}{b b':ABlk}{arr:Array Value}(h:b.fits P ρ arr){a:IE}{v:AV}(hv:b.setP a v=some b'):b'.fits P ρ (arr.setIfInBounds (a.ev ρ).toNat (v.ev ρ))∧b'.elem=b.elem∧b'.isChan=false∧b.isMem=true∧(∀m,¬b.lentAt P ρ m)∧∃u,b.getP a=some u:=by
 cases b with
 |pre lk s n fs ws cs e c=>
  unfold ABlk.setP at hv
  dsimp only at hv
  split at hv
  ·rename_i u hu
   cases hv
   obtain⟨pre,rest,i,h1,h2,h3⟩:=h
   have h4:=getW_ok h1 (fun _ hp=>hp) hu
   have hlt:=(List.getElem?_eq_some_iff.1 h4).1
   refine⟨⟨pre,rest,i,⟨h1.val,h1.info,h1.size,h1.fs,fun p hp=>?_⟩,?_,by simpa using h3⟩,rfl,rfl,rfl,fun m hm=>by(cases hm.1),u,hu⟩
   ·rcases List.mem_cons.1 hp with rfl|hp
    ·rw[wrote_length]at hlt;simpa using hlt
    ·exact h1.ws p hp
   ·rw[Array.toList_setIfInBounds,h2,List.set_append_left _ _ hlt]
    rfl
  ·cases hv
 |_=>cases hv
theorem setP_in{U:Nat->Prop}{b b':ABlk}(hb:b.In U){a:IE}{v:AV}(ha:a.In U)(hi:v.In U)(hv:b.setP a v=some b'):b'.In U:=by
 cases b with
 |pre lk s n fs ws cs e c=>
  unfold ABlk.setP at hv
  dsimp only at hv
  split at hv
  ·cases hv
   exact⟨hb.1,hb.2.1,fun p hp=>(List.mem_cons.1 hp).elim (fun e=>e▸⟨ha,hi⟩) (hb.2.2.1 p),hb.2.2.2⟩
  ·cases hv
 |_=>cases hv
theorem load0_sound(R:Rel K ρ h w)(G:K.Good){a:AA}{v:AV}(hl:load0 K.O h a=.ok v):w.cell? (a.ev ρ)=some (v.ev ρ)∧∀s,K.Ev ⟨.cell (a.ev ρ),false,s⟩:=by
 have old:∀{v:AV},(match look AA.eqb a K.O.mem with|some v=>(Except.ok v:M AV)|none=>.error "load an unknown cell")=.ok v->w.cell? (a.ev ρ)=some (v.ev ρ)∧∀s,K.Ev ⟨.cell (a.ev ρ),false,s⟩:=by
  intro v hv
  split at hv
  ·rename_i u hu
   cases hv
   obtain⟨x,hx,he⟩:=look_some hu
   obtain rfl:=AA.eqb_eq he
   exact⟨(R.mem _ hx).2.1,(R.mem _ hx).2.2⟩
  ·cases hv
 obtain⟨blk,off⟩:=a
 unfold load0 at hl
 dsimp only at hl
 split at hl
 ·rename_i i n
  split at hl
  ·rename_i b hb
   split at hl
   ·rename_i u hu
    cases hl
    obtain⟨arr,ha,hf⟩:=R.arr hb (isMem_get hu)
    refine⟨?_,fun s=>G.rd _ _ (R.own _ _ hb (notChan_get hu))⟩
    rw[show AA.ev ρ ⟨.dyn i,.lit (.ofNat n)⟩=⟨ρ.b i,n,none⟩from rfl,cell?_of ha]
    exact fits_get hf hu
   ·cases hl
  ·exact old hl
 ·exact old hl
theorem load0_in(I:Ids K U h){a:AA}{v:AV}(hl:load0 K.O h a=.ok v):v.In U:=by
 have old:∀{v:AV},(match look AA.eqb a K.O.mem with|some v=>(Except.ok v:M AV)|none=>.error "load an unknown cell")=.ok v->v.In U:=by
  intro v hv
  split at hv
  ·rename_i u hu
   cases hv
   obtain⟨x,hx,he⟩:=look_some hu
   exact(I.orc.mem _ hx).2
  ·cases hv
 unfold load0 at hl
 dsimp only at hl
 split at hl
 ·split at hl
  ·rename_i b hb
   split at hl
   ·rename_i u hu
    cases hl
    have:=I.hp _ _ hb
    have hm:=List.mem_of_getElem? hu
    cases b with
    |cells cs e=>exact Ins_iff.1 this _ hm
    |lent cs e l=>exact Ins_iff.1 this _ hm
    |row cs e c=>exact Ins_iff.1 this.1 _ hm
    |map es=>cases hm
    |chan=>cases hm
    |vmap s n fs ws=>cases hm
    |pre lk s n fs ws cs e c=>cases hm
   ·cases hl
  ·exact old hl
 ·exact old hl
theorem load1_sound(R:Rel K ρ h w)(G:K.Good){a:AA}{v:AV}(hl:load1 K.O h a=.ok v):w.cell? (a.ev ρ)=some (v.ev ρ)∧∀s,K.Ev ⟨.cell (a.ev ρ),false,s⟩:=by
 unfold load1 at hl
 split at hl
 ·rename_i u hu
  cases hl
  exact load0_sound R G hu
 ·split at hl
  ·rename_i u hu
   cases hl
   obtain⟨blk,off⟩:=a
   unfold preAt? at hu
   dsimp only at hu
   split at hu
   ·rename_i i _
    split at hu
    ·rename_i b hb
     obtain⟨m1,m2⟩:=getP_mem hu
     obtain⟨arr,ha,hf⟩:=R.arr hb m1
     refine⟨?_,fun s=>G.rd _ _ (R.own _ _ hb m2)⟩
     rw[show AA.ev ρ ⟨.dyn i,off⟩=⟨ρ.b i,(off.ev ρ).toNat,none⟩from rfl,cell?_of ha]
     exact getP_ok hf hu
    ·cases hu
   ·cases hu
  ·cases hl
theorem load1_in(I:Ids K U h){a:AA}{v:AV}(hl:load1 K.O h a=.ok v):v.In U:=by
 unfold load1 at hl
 split at hl
 ·rename_i u hu
  cases hl
  exact load0_in I hu
 ·split at hl
  ·rename_i u hu
   cases hl
   unfold preAt? at hu
   split at hu
   ·split at hu
    ·rename_i b hb
     exact getP_in (I.hp _ _ hb) hu
    ·cases hu
   ·cases hu
  ·cases hl
theorem addN_ev(ρ:Env)(a:IE)(n:Nat):((addN a n).ev ρ).toNat=(a.ev ρ).toNat+n:=by
 unfold addN
 split
 ·simp[IE.ev];omega
 ·split
  ·rename_i h;subst h;simp
  ·simp only[IE.ev];simp;omega
theorem addN_in{a:IE}(n:Nat)(hi:a.In U):(addN a n).In U:=by
 unfold addN
 split
 ·trivial
 ·split
  ·exact hi
  ·exact⟨hi,trivial⟩
theorem AA.add_ev(ρ:Env)(a:AA)(n:Nat):(a.add n).ev ρ=(a.ev ρ).add n:=by
 simp only[AA.ev,AA.add,Addr.add,addN_ev]
 split
 ·rename_i h;subst h;simp
 ·rfl
theorem AA.add_in{a:AA}(n:Nat)(hi:a.In U):(a.add n).In U:=⟨hi.1,addN_in n hi.2⟩
theorem loadN_sound(R:Rel K ρ h w)(G:K.Good){E:Value->World->Prop}{a:AA}:∀{n j:Nat} {l:List AV} {acc:Array Value},loadN K.O h a n j=.ok l->
  ∀{Q:Array Value->World->Prop},Q (acc++(AV.evs ρ l).toArray) w->wq K.P K.Ev E (loadCellsFrom (a.ev ρ) j n acc) Q w:=by
 intro n
 induction n with
 |zero=>intro j l acc hl Q hq;simp[loadN]at hl;subst hl;simpa[loadCellsFrom,AV.evs] using hq
 |succ n ih=>
  intro j l acc hl Q hq
  simp only[loadN]at hl
  split at hl
  ·rename_i v hv
   split at hl
   ·rename_i l' hl'
    cases hl
    obtain⟨hc,he⟩:=load1_sound R G hv
    rw[AA.add_ev]at hc he
    simp only[loadCellsFrom,wq_bind]
    rw[wq_load]
    refine⟨_,hc,he _,ih hl' ?_⟩
    simpa[AV.evs] using hq
   ·cases hl
  ·cases hl
theorem loadN_in(I:Ids K U h){a:AA}:∀{n j:Nat} {l:List AV},loadN K.O h a n j=.ok l->AV.Ins U l:=by
 intro n
 induction n with
 |zero=>intro j l hl;simp[loadN]at hl;subst hl;trivial
 |succ n ih=>
  intro j l hl
  simp only[loadN]at hl
  split at hl
  ·rename_i v hv
   split at hl
   ·rename_i l' hl'
    cases hl
    exact⟨load1_in I hv,ih hl'⟩
   ·cases hl
  ·cases hl
theorem loadN_length{O:Orc}{a:AA}:∀{n j:Nat} {l:List AV},loadN O h a n j=.ok l->l.length=n:=by
 intro n
 induction n with
 |zero=>intro j l hl;simp[loadN]at hl;subst hl;rfl
 |succ n ih=>
  intro j l hl
  simp only[loadN]at hl
  split at hl
  ·split at hl
   ·rename_i l' hl'
    cases hl
    simp[ih hl']
   ·cases hl
  ·cases hl
theorem heap_setCell(w:World)(a:Addr)(v:Value)(n:Nat):(w.setCell a v).heap[n]?=if n=a.block then(w.heap[n]?).map (fun
   |.cells c elem frozen=>.cells (if a.spot.isSome then c else c.setIfInBounds a.off v) elem frozen
   |o=>o)else w.heap[n]?:=by
 simp only[World.setCell,Array.getElem?_modify]
 by_cases e:a.block=n
 ·subst e;rw[if_pos rfl,if_pos rfl];rfl
 ·rw[if_neg e,if_neg (fun x=>e x.symm)]
theorem size_setCell(w:World)(a:Addr)(v:Value):(w.setCell a v).heap.size=w.heap.size:=by simp[World.setCell]
theorem oneCell_ev{v:AV}(ho:v.oneCell?=true)(ρ:Env):(v.ev ρ).oneCell'=true:=by
 cases v<;>simp_all [AV.oneCell?,AV.ev,Value.oneCell']
theorem store0_sound(R:Rel K ρ h w)(G:K.Good){a:AA}{v:AV}{h':AH}(hs:store0 h a v=.ok h'):
  (v.ev ρ).oneCell'=true∧(∃u,w.cell? (a.ev ρ)=some u)∧w.frozen? (a.ev ρ)=false∧(∀s,K.Ev ⟨.cell (a.ev ρ),true,s⟩)∧Rel K ρ h' (w.setCell (a.ev ρ) (v.ev ρ))∧Keeps K.own w (w.setCell (a.ev ρ) (v.ev ρ))∧h'.nb=h.nb∧h'.lim=h.lim:=by
 obtain⟨blk,off⟩:=a
 unfold store0 at hs
 dsimp only at hs
 split at hs
 ·rename_i i n
  split at hs
  ·rename_i b hb
   split at hs
   ·rename_i hc
    cases hs
    simp only[Bool.and_eq_true,decide_eq_true_eq,Bool.not_eq_true']at hc
    obtain⟨⟨hlt,ho⟩,hnl⟩:=hc
    have hns:¬K.still (ρ.b i) n:=fun x=>by
     have:=lentAt_lt hlt (R.lent _ _ hb n x)
     rw[this]at hnl;cases hnl
    obtain⟨arr,ha,hf⟩:=R.arr hb (isMem_lt hlt)
    have hown:=R.own _ _ hb (notChan_lt hlt)
    have hev:AA.ev ρ ⟨.dyn i,.lit (.ofNat n)⟩=⟨ρ.b i,n,none⟩:=rfl
    rw[hev]
    obtain⟨u,hu⟩:∃u,b.cs[n]?=some u:=⟨_,List.getElem?_eq_getElem hlt⟩
    refine⟨oneCell_ev ho ρ,⟨_,(cell?_of ha).trans (fits_get hf hu)⟩,frozen?_of ha,fun s=>G.wr _ _ hown hns,?_,?_,rfl,rfl⟩
    ·refine⟨fun j c hj=>?_,fun j c hj=>?_,fun j k c d hj hk e=>?_,R.bs,R.is,fun p hp=>?_,fun m hm=>R.room m (by rw[size_setCell]at hm;exact hm),fun j c hj m hm=>?_,fun b m hm=>by rw[size_setCell];exact R.low b m hm⟩
     ·rw[findB_setB]at hj
      split at hj
      ·rename_i e;subst e
       rw[hb]at hj;cases hj
       refine⟨.cells (arr.setIfInBounds n (v.ev ρ)) b.elem (0,0),?_,.inl ⟨_,by rw[put_elem],fits_set hf hlt⟩⟩
       rw[heap_setCell,if_pos rfl,ha];rfl
      ·rename_i e
       obtain⟨arr',ha',hf'⟩:=R.blk _ _ hj
       refine⟨arr',?_,hf'⟩
       rw[heap_setCell,if_neg (fun x=>e (R.inj _ _ _ _ hj hb x)),ha']
     ·rw[findB_setB]at hj
      split at hj
      ·rename_i e;subst e;exact .inl hown
      ·exact R.own' _ _ hj
     ·rw[findB_setB]at hj hk
      split at hj<;>split at hk
      ·rename_i e1 e2;exact e1.trans e2.symm
      ·rename_i e1 e2;subst e1;exact R.inj _ _ _ _ hb hk e
      ·rename_i e1 e2;subst e2;exact R.inj _ _ _ _ hj hb e
      ·exact R.inj _ _ _ _ hj hk e
     ·obtain⟨m1,m2,m3⟩:=R.mem p hp
      refine⟨m1,?_,m3⟩
      have hne:(p.1.ev ρ).block≠ρ.b i:=fun x=>m1 (x▸hown)
      simp only[World.cell?]at m2⊢
      rw[heap_setCell,if_neg hne];exact m2
     ·rw[findB_setB]at hj
      split at hj
      ·rename_i e;subst e
       rw[hb]at hj;cases hj
       exact(lentAt_put hlt _ _ _ _).2 (R.lent _ _ hb m hm)
      ·exact R.lent _ _ hj m hm
    ·refine⟨fun m hm=>?_,by rw[size_setCell];exact Nat.le_refl _,rfl,rfl,rfl⟩
     rw[heap_setCell,if_neg (fun x=>hm (by rw[x];exact hown))]
   ·cases hs
  ·cases hs
 ·cases hs
theorem store0_ids(I:Ids K U h){a:AA}{v:AV}{h':AH}(hs:store0 h a v=.ok h')(hv:v.In U):Ids K U h':=by
 obtain⟨blk,off⟩:=a
 unfold store0 at hs
 dsimp only at hs
 split at hs
 ·split at hs
  ·rename_i b hb
   split at hs
   ·cases hs
    refine⟨fun j c hj=>?_,fun j hj=>I.keys j (by rw[keys_setB]at hj;exact hj),by rw[keys_setB];exact I.nodup,I.fresh,I.orc⟩
    rw[findB_setB]at hj
    split at hj
    ·rw[hb]at hj;cases hj
     have hbi:=I.hp _ _ hb
     have hset:∀(l:List AV) (n:Nat),AV.Ins U l->AV.Ins U (l.set n v):=fun l n hl=>Ins_iff.2 fun a ha=>by
      rcases List.mem_or_eq_of_mem_set ha with h'|rfl
      ·exact Ins_iff.1 hl _ h'
      ·exact hv
     cases b with
     |cells cs e=>exact hset _ _ hbi
     |lent cs e l=>exact hset _ _ hbi
     |row cs e c=>exact⟨hset _ _ hbi.1,hbi.2⟩
     |map es=>exact hbi
     |chan=>exact hbi
     |vmap s n fs ws=>exact hbi
     |pre lk s n fs ws cs e c=>exact hbi
    ·exact I.hp _ _ hj
   ·cases hs
  ·cases hs
 ·cases hs
theorem preSet_sound(R:Rel K ρ h w)(G:K.Good){a:AA}{v:AV}{h':AH}(hs:preSet? h a v=some h'):
  (v.ev ρ).oneCell'=true∧(∃u,w.cell? (a.ev ρ)=some u)∧w.frozen? (a.ev ρ)=false∧(∀s,K.Ev ⟨.cell (a.ev ρ),true,s⟩)∧Rel K ρ h' (w.setCell (a.ev ρ) (v.ev ρ))∧Keeps K.own w (w.setCell (a.ev ρ) (v.ev ρ))∧h'.nb=h.nb∧h'.lim=h.lim:=by
 obtain⟨blk,off⟩:=a
 unfold preSet? at hs
 dsimp only at hs
 split at hs
 ·rename_i i
  split at hs
  ·rename_i b hb
   split at hs
   ·rename_i b' hb'
    split at hs
    ·rename_i ho
     cases hs
     have hmem:b.isMem=true:=by cases b<;>first|rfl|cases hb'
     obtain⟨arr,ha,hf⟩:=R.arr hb hmem
     obtain⟨f1,f2,f3,f4,f5,u,hu⟩:=setP_ok hf hb'
     have hown:=R.own _ _ hb (getP_mem hu).2
     have hns:¬K.still (ρ.b i) (off.ev ρ).toNat:=fun x=>by
      exact f5 _ (R.lent _ _ hb _ x)
     have hev:AA.ev ρ ⟨.dyn i,off⟩=⟨ρ.b i,(off.ev ρ).toNat,none⟩:=rfl
     rw[hev]
     have hcell:=getP_ok hf hu
     generalize(off.ev ρ).toNat=n at*
     refine⟨oneCell_ev ho ρ,⟨_,(cell?_of ha).trans hcell⟩,frozen?_of ha,fun s=>G.wr _ _ hown hns,?_,?_,rfl,rfl⟩
     ·refine⟨fun j c hj=>?_,fun j c hj=>?_,fun j k c d hj hk e=>?_,R.bs,R.is,fun p hp=>?_,fun m hm=>R.room m (by rw[size_setCell]at hm;exact hm),fun j c hj m hm=>?_,fun b m hm=>by rw[size_setCell];exact R.low b m hm⟩
      ·rw[findB_setB]at hj
       split at hj
       ·rename_i e;subst e
        rw[hb]at hj;cases hj
        refine⟨.cells (arr.setIfInBounds n (v.ev ρ)) b'.elem (0,0),?_,.inl ⟨_,rfl,f1⟩⟩
        rw[heap_setCell,if_pos rfl,ha,f2];rfl
       ·rename_i e
        obtain⟨arr',ha',hf'⟩:=R.blk _ _ hj
        refine⟨arr',?_,hf'⟩
        rw[heap_setCell,if_neg (fun x=>e (R.inj _ _ _ _ hj hb x)),ha']
      ·rw[findB_setB]at hj
       split at hj
       ·rename_i e;subst e;exact .inl hown
       ·exact R.own' _ _ hj
      ·rw[findB_setB]at hj hk
       split at hj<;>split at hk
       ·rename_i e1 e2;exact e1.trans e2.symm
       ·rename_i e1 e2;subst e1;exact R.inj _ _ _ _ hb hk e
       ·rename_i e1 e2;subst e2;exact R.inj _ _ _ _ hj hb e
       ·exact R.inj _ _ _ _ hj hk e
      ·obtain⟨m1,m2,m3⟩:=R.mem p hp
       refine⟨m1,?_,m3⟩
       have hne:(p.1.ev ρ).block≠ρ.b i:=fun x=>m1 (x▸hown)
       simp only[World.cell?]at m2⊢
       rw[heap_setCell,if_neg hne];exact m2
      ·rw[findB_setB]at hj
       split at hj
       ·rename_i e;subst e
        rw[hb]at hj;cases hj
        exact absurd (R.lent _ _ hb m hm) (f5 m)
       ·exact R.lent _ _ hj m hm
     ·refine⟨fun m hm=>?_,by rw[size_setCell];exact Nat.le_refl _,rfl,rfl,rfl⟩
      rw[heap_setCell,if_neg (fun x=>hm (by rw[x];exact hown))]
    ·cases hs
   ·cases hs
  ·cases hs
 ·cases hs
theorem store1_sound(R:Rel K ρ h w)(G:K.Good){a:AA}{v:AV}{h':AH}(hs:store1 h a v=.ok h'):
  (v.ev ρ).oneCell'=true∧(∃u,w.cell? (a.ev ρ)=some u)∧w.frozen? (a.ev ρ)=false∧(∀s,K.Ev ⟨.cell (a.ev ρ),true,s⟩)∧Rel K ρ h' (w.setCell (a.ev ρ) (v.ev ρ))∧Keeps K.own w (w.setCell (a.ev ρ) (v.ev ρ))∧h'.nb=h.nb∧h'.lim=h.lim:=by
 unfold store1 at hs
 split at hs
 ·rename_i h1 hh
  cases hs
  exact store0_sound R G hh
 ·split at hs
  ·rename_i h1 hh
   cases hs
   exact preSet_sound R G hh
  ·cases hs
theorem store1_ids(I:Ids K U h){a:AA}{v:AV}{h':AH}(hs:store1 h a v=.ok h')(ha:a.In U)(hv:v.In U):Ids K U h':=by
 unfold store1 at hs
 split at hs
 ·rename_i h1 hh
  cases hs
  exact store0_ids I hh hv
 ·split at hs
  ·rename_i h1 hh
   cases hs
   unfold preSet? at hh
   split at hh
   ·rename_i i hi
    split at hh
    ·rename_i b hb
     split at hh
     ·rename_i b' hb'
      split at hh
      ·cases hh
       refine⟨fun j c hj=>?_,fun j hj=>I.keys j (by rw[keys_setB]at hj;exact hj),by rw[keys_setB];exact I.nodup,I.fresh,I.orc⟩
       rw[findB_setB]at hj
       split at hj
       ·rw[hb]at hj;cases hj
        exact setP_in (I.hp _ _ hb) ha.2 hv hb'
       ·exact I.hp _ _ hj
      ·cases hh
     ·cases hh
    ·cases hh
   ·cases hh
  ·cases hs
theorem storeN_sound(G:K.Good){E:Value->World->Prop}{a:AA}:∀{l:List AV} {j:Nat} {h h':AH} {w:World},Rel K ρ h w->storeN h a l j=.ok h'->
  ∀{Q:Unit->World->Prop},(∀w',Rel K ρ h' w'->Keeps K.own w w'->h'.nb=h.nb->h'.lim=h.lim->Q () w')->wq K.P K.Ev E (storeCells (a.ev ρ) (AV.evs ρ l) j) Q w:=by
 intro l
 induction l with
 |nil=>intro j h h' w R hs Q hq;simp[storeN]at hs;subst hs;exact hq w R (Keeps.refl _ _) rfl rfl
 |cons v l ih=>
  intro j h h' w R hs Q hq
  simp only[storeN]at hs
  split at hs
  ·rename_i h1 hh1
   obtain⟨s1,s2,s3,s4,s5,s6,s7,s8⟩:=store1_sound R G hh1
   rw[AA.add_ev]at s2 s3 s4 s5 s6
   simp only[AV.evs,storeCells,wq_bind]
   rw[wq_store]
   exact⟨s1,s2,s3,s4 _,ih s5 hs fun w' r1 r2 r3 r4=>hq w' r1 (s6.trans r2) (r3.trans s7) (r4.trans s8)⟩
  ·cases hs
theorem storeN_ids{a:AA}(ha:a.In U):∀{l:List AV} {j:Nat} {h h':AH},Ids K U h->storeN h a l j=.ok h'->AV.Ins U l->Ids K U h':=by
 intro l
 induction l with
 |nil=>intro j h h' I hs _;simp[storeN]at hs;subst hs;exact I
 |cons v l ih=>
  intro j h h' I hs hv
  simp only[storeN]at hs
  split at hs
  ·rename_i h1 hh1
   exact ih (store1_ids I hh1 (AA.add_in j ha) hv.1) hs hv.2
  ·cases hs
end
end
def Env.upd(ρ:Env)(n m:Nat)(c:Int):Env:={ρ with b:=fun x=>if x=n then m else ρ.b x,i:=fun x=>if x=n then c else ρ.i x}
def plus(U:Nat->Prop)(a b:Nat):Nat->Prop:=fun n=>U n∨(a≤n∧n<b)
theorem plus_sub{U:Nat->Prop}{a b:Nat}:∀n,U n->plus U a b n:=fun _ h=>.inl h
theorem agree_upd{U:Nat->Prop}{ρ:Env}{n m:Nat}{c:Int}(h:¬U n):Agree U ρ (ρ.upd n m c):=
 ⟨rfl,rfl,rfl,fun x hx=>by
  have:x≠n:=fun e=>h (e▸hx)
  simp[Env.upd,this],fun x hx=>by
  have:x≠n:=fun e=>h (e▸hx)
  simp[Env.upd,this],rfl⟩
section
variable {K:Ctx}{ρ:Env}{h:AH}{w:World}{U:Nat->Prop}
theorem Rel.agree(R:Rel K ρ h w)(I:Ids K U h){ρ':Env}(A:Agree U ρ ρ'):Rel K ρ' h w:=by
 have hk:∀i b,findB i h.hp=some b->ρ'.b i=ρ.b i:=fun i b hb=>A.b i (I.keys i (findB_key hb))
 refine⟨fun i b hb=>?_,fun i b hb=>by rw[hk i b hb];exact R.own' i b hb,fun i j b c hb hc e=>R.inj i j b c hb hc (by rw[hk i b hb,hk j c hc]at e;exact e),fun p hp=>?_,fun p hp=>?_,fun p hp=>?_,R.room,fun i b hb n hs=>(lentAt_agree A (I.hp i b hb)).2 (R.lent i b hb n (by rw[hk i b hb]at hs;exact hs)),R.low⟩
 ·obtain⟨arr,ha,hf⟩:=R.blk i b hb
  exact⟨arr,by rw[hk i b hb];exact ha,is_agree A (I.hp i b hb) hf⟩
 ·rw[BE.ev_agree A (I.orc.bs p hp)];exact R.bs p hp
 ·rw[IE.ev_agree A (I.orc.is p hp).1,IE.ev_agree A (I.orc.is p hp).2];exact R.is p hp
 ·rw[AA.ev_agree A (I.orc.mem p hp).1,AV.ev_agree A _ (I.orc.mem p hp).2];exact R.mem p hp
theorem Rel.insL(R:Rel K ρ h w)(I:Ids K U h)(hlt:h.nb<h.lim){m:Nat}{c:Int}{b:ABlk}{o:Obj}(hm:w.heap[m]?=some o)(hown:K.own m)
 (hne:∀j x,findB j h.hp=some x->ρ.b j≠m)(hst:∀n,K.still m n->b.lentAt K.P (ρ.upd h.nb m c) n)(hf:b.is K.P (ρ.upd h.nb m c) o):Rel K (ρ.upd h.nb m c) ⟨insB h.nb b h.hp,h.nb+1,h.lim⟩ w:=by
 have hnu:¬U h.nb:=I.fresh _ (Nat.le_refl _) hlt
 have hnk:h.nb∉Go.Proofs.Ytmobbajggkjpgaa.SX.keys h.hp:=fun hk=>hnu (I.keys _ hk)
 have R':=R.agree I (agree_upd (m:=m) (c:=c) hnu)
 have hb0:(ρ.upd h.nb m c).b h.nb=m:=by simp[Env.upd]
 have hbj:∀j x,findB j h.hp=some x->(ρ.upd h.nb m c).b j=ρ.b j:=fun j x hx=>(agree_upd (m:=m) (c:=c) hnu).b j (I.keys j (findB_key hx))
 refine⟨fun i x hx=>?_,fun i x hx=>?_,fun i j x y hx hy e=>?_,R'.bs,R'.is,R'.mem,R'.room,fun i x hx n hs=>?_,R'.low⟩
 ·rw[findB_insB _ _ _ _ hnk]at hx
  split at hx
  ·rename_i e;subst e;cases hx;rw[hb0];exact⟨o,hm,hf⟩
  ·exact R'.blk i x hx
 ·rw[findB_insB _ _ _ _ hnk]at hx
  split at hx
  ·rename_i e;subst e;cases hx;rw[hb0];exact .inl hown
  ·exact R'.own' i x hx
 ·rw[findB_insB _ _ _ _ hnk]at hx hy
  split at hx<;>split at hy
  ·rename_i e1 e2;exact e1.trans e2.symm
  ·rename_i e1 e2;subst e1;rw[hb0,hbj j y hy]at e;exact absurd e.symm (hne j y hy)
  ·rename_i e1 e2;subst e2;rw[hb0,hbj i x hx]at e;exact absurd e (hne i x hx)
  ·exact R'.inj i j x y hx hy e
 ·rw[findB_insB _ _ _ _ hnk]at hx
  split at hx
  ·rename_i e;subst e;cases hx;rw[hb0]at hs;exact hst n hs
  ·exact R'.lent i x hx n hs
theorem Rel.insO(R:Rel K ρ h w)(I:Ids K U h)(hlt:h.nb<h.lim){m:Nat}{c:Int}{b:ABlk}{o:Obj}(hm:w.heap[m]?=some o)(hown:K.own m)
 (hne:∀j x,findB j h.hp=some x->ρ.b j≠m)(hst:∀n,¬K.still m n)(hf:b.is K.P (ρ.upd h.nb m c) o):Rel K (ρ.upd h.nb m c) ⟨insB h.nb b h.hp,h.nb+1,h.lim⟩ w:=
 R.insL I hlt hm hown hne (fun n hs=>absurd hs (hst n)) hf
theorem Rel.ins(R:Rel K ρ h w)(I:Ids K U h)(hlt:h.nb<h.lim){m:Nat}{c:Int}{b:ABlk}{arr:Array Value}(hm:w.heap[m]?=some (.cells arr b.elem (0,0)))(hown:K.own m)
 (hne:∀j x,findB j h.hp=some x->ρ.b j≠m)(hst:∀n,¬K.still m n)(hf:b.fits K.P (ρ.upd h.nb m c) arr):Rel K (ρ.upd h.nb m c) ⟨insB h.nb b h.hp,h.nb+1,h.lim⟩ w:=
 R.insO I hlt hm hown hne hst (.inl ⟨arr,rfl,hf⟩)
theorem Ids.ins(I:Ids K U h)(hlt:h.nb<h.lim){b:ABlk}(hb:b.In (plus U h.nb (h.nb+1))):Ids K (plus U h.nb (h.nb+1)) ⟨insB h.nb b h.hp,h.nb+1,h.lim⟩:=by
 have hnu:¬U h.nb:=I.fresh _ (Nat.le_refl _) hlt
 have hnk:h.nb∉Go.Proofs.Ytmobbajggkjpgaa.SX.keys h.hp:=fun hk=>hnu (I.keys _ hk)
 refine⟨fun i x hx=>?_,fun i hi=>?_,?_,fun n h1 h2=>?_,I.orc.mono plus_sub⟩
 ·rw[findB_insB _ _ _ _ hnk]at hx
  split at hx
  ·cases hx;exact hb
  ·exact ABlk.In.mono plus_sub (I.hp i x hx)
 ·have:=(keys_insB h.nb b h.hp).mem_iff.1 hi
  rcases List.mem_cons.1 this with rfl|hm
  ·exact .inr ⟨Nat.le_refl _,Nat.lt_succ_self _⟩
  ·exact .inl (I.keys i hm)
 ·exact(keys_insB h.nb b h.hp).nodup_iff.2 (List.nodup_cons.2 ⟨hnk,I.nodup⟩)
 ·rintro(hu|⟨_,h3⟩)
  ·exact I.fresh n (by simp only at h1;omega) h2 hu
  ·simp only at h1;omega
theorem Rel.push(R:Rel K ρ h w)(o:Obj):Rel K ρ h {w with heap:=w.heap.push o}∧Keeps K.own w {w with heap:=w.heap.push o}:=by
 have hget:∀n,n<w.heap.size->(w.heap.push o)[n]?=w.heap[n]?:=fun n hn=>by rw[Array.getElem?_push_lt hn,Array.getElem?_eq_getElem hn]
 have hsz:(w.heap.push o).size=w.heap.size+1:=by simp
 refine⟨⟨fun i b hb=>?_,R.own',R.inj,R.bs,R.is,fun p hp=>?_,fun n hn=>R.room n (by simp only[hsz]at hn;omega),R.lent,fun b n hs=>by have:=R.low b n hs;simp only[hsz];omega⟩,⟨fun n hn=>?_,by simp only[hsz];omega,rfl,rfl,rfl⟩⟩
 ·obtain⟨arr,ha,hf⟩:=R.blk i b hb
  exact⟨arr,by show(w.heap.push o)[_]?=_;rw[hget _ (heap_lt ha)];exact ha,hf⟩
 ·obtain⟨m1,m2,m3⟩:=R.mem p hp
  refine⟨m1,?_,m3⟩
  have hlt:(p.1.ev ρ).block<w.heap.size:=by
   rcases Nat.lt_or_ge (p.1.ev ρ).block w.heap.size with h'|h'
   ·exact h'
   ·simp[World.cell?,Array.getElem?_eq_none h']at m2
  simp only[World.cell?]at m2⊢
  rw[hget _ hlt];exact m2
 ·show(w.heap.push o)[n]?=_
  rcases Nat.lt_or_ge n w.heap.size with h'|h'
  ·exact hget n h'
  ·exact absurd (R.room n h') hn
theorem Rel.new(R:Rel K ρ h w)(I:Ids K U h)(hlt:h.nb<h.lim){b:ABlk}{arr:Array Value}{c:Int}(hf:b.fits K.P (ρ.upd h.nb w.heap.size c) arr):
  Rel K (ρ.upd h.nb w.heap.size c) ⟨insB h.nb b h.hp,h.nb+1,h.lim⟩ {w with heap:=w.heap.push (.cells arr b.elem (0,0))}:=by
 obtain⟨R',_⟩:=R.push (.cells arr b.elem (0,0))
 refine R'.ins I hlt (by simp) (R.room _ (Nat.le_refl _)) (fun j x hx e=>?_) (fun n hs=>by have:=R.low _ n hs;omega) hf
 obtain⟨arr',ha,_⟩:=R.blk j x hx
 have:=heap_lt ha
 omega
theorem Rel.drop(R:Rel K ρ h w)(I:Ids K U h)(i:Nat):Rel K ρ {h with hp:=dropB i h.hp} w:=by
 have hs:∀j b,findB j (dropB i h.hp)=some b->findB j h.hp=some b:=fun j b hb=>by
  rw[findB_dropB _ _ _ I.nodup]at hb
  split at hb
  ·cases hb
  ·exact hb
 exact⟨fun j b hb=>R.blk j b (hs j b hb),fun j b hb=>R.own' j b (hs j b hb),fun j k b c hb hc e=>R.inj j k b c (hs j b hb) (hs k c hc) e,R.bs,R.is,R.mem,R.room,fun j b hb=>R.lent j b (hs j b hb),R.low⟩
theorem Ids.drop(I:Ids K U h)(i:Nat):Ids K U {h with hp:=dropB i h.hp}:=
 ⟨fun j b hb=>I.hp j b (by
  rw[findB_dropB _ _ _ I.nodup]at hb
  split at hb
  ·cases hb
  ·exact hb),fun j hj=>I.keys j ((keys_dropB_sub i h.hp).mem hj),(keys_dropB_sub i h.hp).nodup I.nodup,I.fresh,I.orc⟩
structure Grows(K:Ctx)(U:Nat->Prop)(h h':AH):Prop where
 nb:h.nb≤h'.nb
 lim:h'.lim=h.lim
 ids:Ids K (plus U h.nb h'.nb) h'
theorem plus_none{U:Nat->Prop}{a:Nat}:∀n,plus U a a n->U n:=fun n h=>h.elim id fun h=>by omega
theorem Ids.congr{U U':Nat->Prop}(I:Ids K U h)(h1:∀n,U n↔U' n):Ids K U' h:=
 ⟨fun i b hb=>ABlk.In.mono (fun n=>(h1 n).1) (I.hp i b hb),fun i hi=>(h1 i).1 (I.keys i hi),I.nodup,fun n a b c=>I.fresh n a b ((h1 n).2 c),I.orc.mono fun n=>(h1 n).1⟩
theorem Grows.refl(I:Ids K U h):Grows K U h h:=⟨Nat.le_refl _,rfl,I.congr fun n=>⟨.inl,plus_none n⟩⟩
theorem plus_plus{U:Nat->Prop}{a b c:Nat}(h1:a≤b)(h2:b≤c)(n:Nat):plus (plus U a b) b c n↔plus U a c n:=by
 unfold plus
 constructor
 ·rintro((h|h)|h)
  ·exact .inl h
  ·exact .inr ⟨h.1,by omega⟩
  ·exact .inr ⟨by omega,h.2⟩
 ·rintro(h|h)
  ·exact .inl (.inl h)
  ·by_cases e:n<b
   ·exact .inl (.inr ⟨h.1,e⟩)
   ·exact .inr ⟨by omega,h.2⟩
theorem Grows.trans{h' h'':AH}(g:Grows K U h h')(g':Grows K (plus U h.nb h'.nb) h' h''):Grows K U h h'':=
 ⟨Nat.le_trans g.nb g'.nb,g'.lim.trans g.lim,g'.ids.congr fun n=>plus_plus g.nb g'.nb n⟩
def After(K:Ctx)(U:Nat->Prop)(ρ:Env)(w:World)(h':AH)(Q:Env->Prop)(w':World):Prop:=
 ∃ρ',Agree U ρ ρ'∧Rel K ρ' h' w'∧Keeps K.own w w'∧Q ρ'
theorem After.same(R:Rel K ρ h w){Q:Env->Prop}(hq:Q ρ):After K U ρ w h Q w:=⟨ρ,Agree.refl _ _,R,Keeps.refl _ _,hq⟩
theorem alloc?_sound(R:Rel K ρ h w)(I:Ids K U h){b:ABlk}{v:AV}{h':AH}(ha:alloc? h b=.ok (v,h'))(hb:b.In U):
  (∃a,v=.ptr (some a))∧v.In (plus U h.nb h'.nb)∧Grows K U h h'∧∀arr,b.fits K.P ρ arr->
   After K U ρ w h' (fun ρ'=>v.ev ρ'=.pointer (some ⟨w.heap.size,0,none⟩)) {w with heap:=w.heap.push (.cells arr b.elem (0,0))}:=by
 obtain⟨hp,nb,lim⟩:=h
 simp only[alloc?]at ha
 split at ha
 ·rename_i hlt
  cases ha
  have hnu:¬U nb:=I.fresh _ (Nat.le_refl _) hlt
  refine⟨⟨_,rfl⟩,⟨.inr ⟨Nat.le_refl _,Nat.lt_succ_self _⟩,trivial⟩,⟨Nat.le_succ _,rfl,I.ins hlt (ABlk.In.mono plus_sub hb)⟩,fun arr hf=>?_⟩
  refine⟨ρ.upd nb w.heap.size 0,agree_upd hnu,R.new I hlt (fits_agree (agree_upd hnu) hb hf),(R.push _).2,?_⟩
  simp[AV.ev,AA.ev,BR.ev,IE.ev,Env.upd]
 ·cases ha
theorem allocSlice?_sound(R:Rel K ρ h w)(I:Ids K U h){b:ABlk}{l c:IE}{v:AV}{h':AH}(ha:allocSlice? h b l c=.ok (v,h'))(hb:b.In U)(hl:l.In U)(hc:c.In U):
  v.In (plus U h.nb h'.nb)∧Grows K U h h'∧∀arr,b.fits K.P ρ arr->
   After K U ρ w h' (fun ρ'=>v.ev ρ'=.slice (some ⟨w.heap.size,0,none⟩) (l.ev ρ).toNat (c.ev ρ).toNat) {w with heap:=w.heap.push (.cells arr b.elem (0,0))}:=by
 obtain⟨hp,nb,lim⟩:=h
 simp only[allocSlice?]at ha
 split at ha
 ·rename_i hlt
  cases ha
  have hnu:¬U nb:=I.fresh _ (Nat.le_refl _) hlt
  refine⟨⟨⟨.inr ⟨Nat.le_refl _,Nat.lt_succ_self _⟩,trivial⟩,IE.In.mono plus_sub hl,IE.In.mono plus_sub hc⟩,⟨Nat.le_succ _,rfl,I.ins hlt (ABlk.In.mono plus_sub hb)⟩,fun arr hf=>?_⟩
  refine⟨ρ.upd nb w.heap.size 0,agree_upd hnu,R.new I hlt (fits_agree (agree_upd hnu) hb hf),(R.push _).2,?_⟩
  simp only[AV.ev,IE.ev_agree (agree_upd hnu) hl,IE.ev_agree (agree_upd hnu) hc]
  simp[AA.ev,BR.ev,IE.ev,Env.upd]
 ·cases ha
end
section
theorem bind_ok{α β:Type}{x:M α}{f:α->M β}{b:β}:(x>>= f)=.ok b↔∃a,x=.ok a∧f a=.ok b:=by
 cases x with
 |ok a=>simp[bind,Except.bind]
 |error e=>simp[bind,Except.bind]
theorem pure_ok{α:Type}{a b:α}:(pure a:M α)=.ok b↔a=b:=by simp[pure,Except.pure]
theorem of1_ev(ρ:Env)(v:Value):(of1 v).ev ρ=v:=by
 unfold of1
 split<;>simp[AV.ev,BE.ev,IE.ev,AA.ev,BR.ev]
theorem of1_in{U:Nat->Prop}(v:Value):(of1 v).In U:=by
 unfold of1
 split<;>simp[AV.In,BE.In,IE.In,AA.In,BR.In,optIn]
theorem of1_evs(ρ:Env)(l:List Value):AV.evs ρ (l.map of1)=l:=by
 rw[evs_map,List.map_map]
 conv=>rhs;rw[<-List.map_id l]
 exact List.map_congr_left fun v _=>of1_ev ρ v
theorem of1_ins{U:Nat->Prop}(l:List Value):AV.Ins U (l.map of1):=Ins_iff.2 fun a ha=>by
 obtain⟨v,_,rfl⟩:=List.mem_map.1 ha;exact of1_in v
theorem ofIface_ev(ρ:Env)(v:Value):(ofIface v).ev ρ=v:=by
 unfold ofIface
 split
 ·simp[AV.ev,of1_ev]
 ·exact of1_ev ρ _
theorem ofIface_in{U:Nat->Prop}(v:Value):(ofIface v).In U:=by
 unfold ofIface
 split
 ·exact of1_in _
 ·exact of1_in _
theorem of2_ev(ρ:Env)(v:Value):(of2 v).ev ρ=v:=by
 unfold of2
 split
 ·simp[AV.ev,of1_evs]
 ·simp[AV.ev,of1_evs]
 ·exact ofIface_ev ρ _
theorem of2_in{U:Nat->Prop}(v:Value):(of2 v).In U:=by
 unfold of2
 split
 ·exact of1_ins _
 ·exact of1_ins _
 ·exact ofIface_in _
theorem ofValue_ev(ρ:Env)(v:Value):(ofValue v).ev ρ=v:=by
 unfold ofValue
 split
 ·simp only[AV.ev,evs_map,List.map_map]
  congr 1
  rename_i vs
  have:vs.toList.map (AV.ev ρ ∘ of2)=vs.toList:=by
   conv=>rhs;rw[<-List.map_id vs.toList]
   exact List.map_congr_left fun v _=>of2_ev ρ v
  rw[this]
 ·exact of2_ev ρ _
theorem ofValue_in{U:Nat->Prop}(v:Value):(ofValue v).In U:=by
 unfold ofValue
 split
 ·exact Ins_iff.2 fun a ha=>by obtain⟨v,_,rfl⟩:=List.mem_map.1 ha;exact of2_in v
 ·exact of2_in _
mutual
theorem val?_ev(ρ:Env):∀(a:AV) {v:Value},a.val?=some v->a.ev ρ=v
 |.bool b,v,h=>by cases b<;>simp_all [AV.val?,AV.ev,BE.ev]
 |.int k e,v,h=>by cases e<;>simp_all [AV.val?,AV.ev,IE.ev]
 |.str s,v,h=>by simp_all [AV.val?,AV.ev]
 |.ptr a,v,h=>by
  unfold AV.val? at h
  split at h<;>simp_all [AV.ev,AA.ev,BR.ev,IE.ev]
  all_goals first
   |(obtain⟨rfl,rfl⟩:=h;simp_all [AV.ev,AA.ev,BR.ev,IE.ev];done)
   |(rename_i hh;subst hh;simp[AA.ev,BR.ev,IE.ev];done)
   |skip
 |.slice a l c,v,h=>by
  unfold AV.val? at h
  split at h<;>simp_all [AV.ev,AA.ev,BR.ev,IE.ev]
  all_goals first
   |(obtain⟨rfl,rfl,rfl⟩:=‹_∧_∧_›;simp[IE.ev];done)
   |skip
 |.map r,v,h=>by cases r<;>simp_all [AV.val?,AV.ev]
 |.chan r,v,h=>by cases r<;>simp_all [AV.val?,AV.ev]
 |.func f x y,v,h=>by
  simp only[AV.val?]at h
  split at h
  ·rename_i x' y' hx hy
   simp only[AV.ev,vals?_evs ρ x hx,vals?_evs ρ y hy]
   simpa using h
  ·cases h
 |.nilFunc,v,h=>by simp_all [AV.val?,AV.ev]
 |.iface t u,v,h=>by
  simp only[AV.val?]at h
  split at h
  ·rename_i u' hu
   simp only[AV.ev,val?_ev ρ u hu]
   simpa using h
  ·cases h
 |.nilIface,v,h=>by simp_all [AV.val?,AV.ev]
 |.agg x,v,h=>by
  simp only[AV.val?]at h
  split at h
  ·rename_i u' hu
   simp only[AV.ev,vals?_evs ρ x hu]
   simpa using h
  ·cases h
 |.tuple x,v,h=>by
  simp only[AV.val?]at h
  split at h
  ·rename_i u' hu
   simp only[AV.ev,vals?_evs ρ x hu]
   simpa using h
  ·cases h
 |.opq i,v,h=>by simp[AV.val?]at h
 |.raw u,v,h=>by simp_all [AV.val?,AV.ev]
 |.ss e,v,h=>by simp[AV.val?]at h
theorem vals?_evs(ρ:Env):∀(l:List AV) {vs:List Value},AV.vals? l=some vs->AV.evs ρ l=vs
 |[],vs,h=>by simp_all [AV.vals?,AV.evs]
 |a::l,vs,h=>by
  simp only[AV.vals?]at h
  split at h
  ·rename_i v vs' hv hvs
   simp only[AV.evs,val?_ev ρ a hv,vals?_evs ρ l hvs]
   simpa using h
  ·cases h
end
section
variable {K:Ctx}{ρ:Env}{h:AH}{w:World}{U:Nat->Prop}
theorem fold_ev(ρ:Env)(e:IE):e.fold.ev ρ=e.ev ρ:=by
 unfold IE.fold
 split<;>simp[IE.ev,SE.ev]
theorem fold_in{e:IE}(hi:e.In U):e.fold.In U:=by
 unfold IE.fold
 split<;>first|trivial|exact hi
theorem int_ev(R:Rel K ρ h w)(e:IE):(K.O.int e).ev ρ=e.ev ρ:=by
 unfold Orc.int
 split
 ·rename_i n hn;rw[<-fold_ev ρ e,hn]
 ·rename_i hn
  cases hl:look IE.eqb e.fold K.O.is with
  |none=>simp[fold_ev]
  |some e'=>
   obtain⟨x,hx,he⟩:=look_some hl
   obtain rfl:=IE.eqb_eq he
   simp only[Option.getD_some]
   rw[<-R.is _ hx,fold_ev]
theorem int_in(I:Ids K U h){e:IE}(hi:e.In U):(K.O.int e).In U:=by
 unfold Orc.int
 split
 ·trivial
 ·cases hl:look IE.eqb e.fold K.O.is with
  |none=>exact fold_in hi
  |some e'=>
   obtain⟨x,hx,_⟩:=look_some hl
   exact(I.orc.is _ hx).2
theorem bfold_ev(ρ:Env)(b:BE):b.fold.ev ρ=b.ev ρ:=by
 unfold BE.fold
 split<;>simp[BE.ev,IE.ev,SE.ev]
theorem bfold_in{b:BE}(hi:b.In U):b.fold.In U:=by
 unfold BE.fold
 split<;>first|trivial|exact hi
theorem bool_ev(R:Rel K ρ h w)(b:BE):(K.O.bool b).ev ρ=b.ev ρ:=by
 unfold Orc.bool
 split
 ·rename_i n hn;rw[<-bfold_ev ρ b,hn]
 ·rename_i hn
  split
  ·rename_i v hv
   obtain⟨x,hx,he⟩:=look_some hv
   obtain rfl:=BE.eqb_eq he
   rw[<-bfold_ev ρ b,R.bs _ hx];rfl
  ·exact bfold_ev ρ b
theorem bool_in{b:BE}(hi:b.In U):(K.O.bool b).In U:=by
 unfold Orc.bool
 split
 ·trivial
 ·split
  ·trivial
  ·exact bfold_in hi
theorem bool_lit(R:Rel K ρ h w){b:BE}{t:Bool}(e:K.O.bool b=.lit t):b.ev ρ=t:=by
 rw[<-bool_ev R b,e];rfl
theorem dec_ev(R:Rel K ρ h w){b:BE}{t:Bool}(e:K.O.dec b=.ok t):b.ev ρ=t:=by
 unfold Orc.dec at e
 split at e
 ·rename_i v hv;cases e;exact bool_lit R hv
 ·cases e
theorem normI_ev(R:Rel K ρ h w)(v:AV):(normI K.O v).ev ρ=v.ev ρ:=by
 cases v<;>simp only[normI,AV.ev]
 rw[int_ev R]
theorem normI_in(I:Ids K U h){v:AV}(hv:v.In U):(normI K.O v).In U:=by
 cases v<;>first|exact hv|skip
 exact int_in I hv
theorem cells?_ev{v:AV}{cs:List AV}(hc:v.cells?=.ok cs)(ρ:Env):(v.ev ρ).cells=(AV.evs ρ cs).toArray:=by
 cases v<;>simp[AV.cells?]at hc<;>subst hc<;>simp[AV.ev,Value.cells,AV.evs]
theorem cells?_in{v:AV}{cs:List AV}(hc:v.cells?=.ok cs)(hi:v.In U):AV.Ins U cs:=by
 cases v<;>simp[AV.cells?]at hc<;>subst hc<;>first|exact hi|exact⟨hi,trivial⟩
theorem zero?_ok{P:Program}{t:TypeId}{z:AV}(h:zero? P t=.ok z):∃i v,P.info? t=some i∧i.zero=some v∧z=ofValue v:=by
 unfold zero? at h
 split at h
 ·rename_i i hi
  split at h
  ·rename_i v hv;cases h;exact⟨i,v,hi,hv,rfl⟩
  ·cases h
 ·cases h
theorem wq_zeroValue{P:Program}{Ev:Event->Prop}{E:Value->World->Prop}{t:TypeId}{z:AV}(hz:zero? P t=.ok z){Q:Value->World->Prop}{w:World}:wq P Ev E (zeroValue t) Q w↔Q (z.ev ρ) w:=by
 obtain⟨i,v,hi,hv,rfl⟩:=zero?_ok hz
 simp[zeroValue,wq_typeInfo hi,hv,ofValue_ev]
theorem zero?_in{P:Program}{t:TypeId}{z:AV}(hz:zero? P t=.ok z):z.In U:=by
 obtain⟨i,v,hi,hv,rfl⟩:=zero?_ok hz
 exact ofValue_in v
theorem wq_part{E:Value->World->Prop}{t:TypeId}{cs:List AV}{off:Nat}{v:AV}(hp:part? K.P t cs off=.ok v){Q:Value->World->Prop}{w:World}(hq:Q (v.ev ρ) w):
  wq K.P K.Ev E (part t (AV.evs ρ cs).toArray off) Q w:=by
 unfold part? at hp
 rw[bind_ok]at hp
 obtain⟨b,hb,hp⟩:=hp
 simp only[part,wq_bind,wq_isAgg hb]
 split at hp
 ·rename_i hb'
  rw[bind_ok]at hp
  obtain⟨n,hn,hp⟩:=hp
  split at hp
  ·rename_i hle
   cases hp
   rw[if_pos hb']
   simp only[wq_bind,wq_sizeOf hn,wq_pure]
   simp only[AV.ev]at hq
   have:(AV.evs ρ cs).toArray.extract off (off+n)=(AV.evs ρ ((cs.drop off).take n)).toArray:=by
    rw[evs_map,evs_map,List.extract_toArray]
    simp[List.extract_eq_take_drop,List.map_take,List.map_drop]
   rw[this];exact hq
  ·cases hp
 ·rename_i hb'
  rw[if_neg hb']
  split at hp
  ·rename_i u hu
   cases hp
   have:(AV.evs ρ cs).toArray[off]?=some (v.ev ρ):=by
    rw[List.getElem?_toArray,evs_get,hu];rfl
   rw[this];exact hq
  ·cases hp
theorem part?_in{P:Program}{t:TypeId}{cs:List AV}{off:Nat}{v:AV}(hp:part? P t cs off=.ok v)(hi:AV.Ins U cs):v.In U:=by
 unfold part? at hp
 rw[bind_ok]at hp
 obtain⟨b,hb,hp⟩:=hp
 split at hp
 ·rw[bind_ok]at hp
  obtain⟨n,hn,hp⟩:=hp
  split at hp
  ·cases hp
   exact Ins_iff.2 fun a ha=>Ins_iff.1 hi _ (List.mem_of_mem_drop (List.mem_of_mem_take ha))
  ·cases hp
 ·split at hp
  ·rename_i u hu;cases hp;exact Ins_iff.1 hi _ (List.mem_of_getElem? hu)
  ·cases hp
theorem wq_loadVar(R:Rel K ρ h w)(G:K.Good){E:Value->World->Prop}{t:TypeId}{a:AA}{v:AV}(hl:loadVar? K.P K.O h t a=.ok v){Q:Value->World->Prop}(hq:Q (v.ev ρ) w):
  wq K.P K.Ev E (loadVar t (a.ev ρ)) Q w:=by
 unfold loadVar? at hl
 rw[bind_ok]at hl
 obtain⟨b,hb,hl⟩:=hl
 simp only[loadVar,wq_bind,wq_isAgg hb]
 split at hl
 ·rename_i hb'
  simp only[bind_ok,pure_ok]at hl
  obtain⟨n,hn,l,hl,rfl⟩:=hl
  rw[if_pos hb']
  simp only[wq_bind,wq_sizeOf hn,loadCells]
  exact loadN_sound R G hl (by simpa[AV.ev] using hq)
 ·rename_i hb'
  rw[if_neg hb']
  obtain⟨h1,h2⟩:=load1_sound R G hl
  rw[wq_load]
  exact⟨_,h1,h2 _,hq⟩
theorem loadVar?_in(I:Ids K U h){t:TypeId}{a:AA}{v:AV}(hl:loadVar? K.P K.O h t a=.ok v):v.In U:=by
 unfold loadVar? at hl
 rw[bind_ok]at hl
 obtain⟨b,hb,hl⟩:=hl
 split at hl
 ·simp only[bind_ok,pure_ok]at hl
  obtain⟨n,hn,l,hl,rfl⟩:=hl
  exact loadN_in I hl
 ·exact load1_in I hl
theorem wq_storeVar(R:Rel K ρ h w)(G:K.Good){E:Value->World->Prop}{t:TypeId}{a:AA}{v:AV}{h':AH}(hs:storeVar? K.P h t a v=.ok h'){Q:Unit->World->Prop}
 (hq:∀w',Rel K ρ h' w'->Keeps K.own w w'->h'.nb=h.nb->h'.lim=h.lim->Q () w'):wq K.P K.Ev E (storeVar t (a.ev ρ) (v.ev ρ)) Q w:=by
 unfold storeVar? at hs
 simp only[bind_ok]at hs
 obtain⟨cs,hc,n,hn,hs⟩:=hs
 split at hs
 ·rename_i hlen
  have hcells:=cells?_ev hc ρ
  simp only[storeVar,wq_bind,wq_sizeOf hn,hcells]
  have hsz:(AV.evs ρ cs).toArray.size=n:=by simp[evs_length,hlen]
  rw[if_neg (by simpa using hsz)]
  exact storeN_sound G R hs hq
 ·cases hs
theorem storeVar?_ids(I:Ids K U h){t:TypeId}{a:AA}{v:AV}{h':AH}(hs:storeVar? K.P h t a v=.ok h')(ha:a.In U)(hv:v.In U):Ids K U h':=by
 unfold storeVar? at hs
 simp only[bind_ok]at hs
 obtain⟨cs,hc,n,hn,hs⟩:=hs
 split at hs
 ·exact storeN_ids ha I hs (cells?_in hc hv)
 ·cases hs
theorem row1_sound(R:Rel K ρ h w)(G:K.Good){i:Nat}{e:TypeId}{c:IE}(hb:findB i h.hp=some (.row [] e c)){n:Nat}{inf:TypeInfo}(hi:K.P.info? e=some inf)(hn:n<(c.ev ρ).toNat*inf.size)(v:Value):
  (∃u,w.cell? ⟨ρ.b i,n,none⟩=some u)∧w.frozen? ⟨ρ.b i,n,none⟩=false∧(∀s,K.Ev ⟨.cell ⟨ρ.b i,n,none⟩,true,s⟩)∧Rel K ρ h (w.setCell ⟨ρ.b i,n,none⟩ v)∧Keeps K.own w (w.setCell ⟨ρ.b i,n,none⟩ v):=by
 obtain⟨arr,ha,rest,inf',hf1,hf2,hf3⟩:=R.arr hb rfl
 obtain rfl:inf=inf':=by rw[hi]at hf2;exact Option.some.inj hf2
 have hlt:n<arr.size:=by rw[hf3];exact hn
 have hown:=R.own _ _ hb rfl
 have hns:¬K.still (ρ.b i) n:=fun x=>by have:=R.lent _ _ hb n x;cases this
 refine⟨⟨arr[n],by rw[cell?_of ha];simp[hlt]⟩,frozen?_of ha,fun s=>G.wr _ _ hown hns,?_,?_⟩
 ·refine⟨fun j b hj=>?_,R.own',R.inj,R.bs,R.is,fun p hp=>?_,fun m hm=>R.room m (by rw[size_setCell]at hm;exact hm),R.lent,fun b m hm=>by rw[size_setCell];exact R.low b m hm⟩
  ·by_cases ej:j=i
   ·subst ej
    rw[hb]at hj;cases hj
    refine⟨.cells (arr.setIfInBounds n v) e (0,0),?_,.inl ⟨_,rfl,(arr.setIfInBounds n v).toList,inf,(List.nil_append _).symm,hi,by simpa using hf3⟩⟩
    rw[heap_setCell,if_pos rfl,ha];rfl
   ·obtain⟨o,ho,hi'⟩:=R.blk _ _ hj
    exact⟨o,by rw[heap_setCell,if_neg (fun x=>ej (R.inj _ _ _ _ hj hb x)),ho],hi'⟩
  ·obtain⟨m1,m2,m3⟩:=R.mem p hp
   refine⟨m1,?_,m3⟩
   have hne:(p.1.ev ρ).block≠ρ.b i:=fun x=>m1 (x▸hown)
   simp only[World.cell?]at m2⊢
   rw[heap_setCell,if_neg hne];exact m2
 ·refine⟨fun m hm=>?_,by rw[size_setCell];exact Nat.le_refl _,rfl,rfl,rfl⟩
  rw[heap_setCell,if_neg (fun x=>hm (by rw[x];exact hown))]
theorem rowN_sound(G:K.Good){E:Value->World->Prop}{i:Nat}{e:TypeId}{c:IE}(hb:findB i h.hp=some (.row [] e c)){inf:TypeInfo}(hi:K.P.info? e=some inf){off:Nat}:
  ∀{l:List AV} {j:Nat} {w:World},Rel K ρ h w->oneCells l=true->off+j+l.length≤(c.ev ρ).toNat*inf.size->∀{Q:Unit->World->Prop},(∀w',Rel K ρ h w'->Keeps K.own w w'->Q () w')->
   wq K.P K.Ev E (storeCells ⟨ρ.b i,off,none⟩ (AV.evs ρ l) j) Q w:=by
 intro l
 induction l with
 |nil=>intro j w R _ _ Q hq;exact hq w R (Keeps.refl _ _)
 |cons v l ih=>
  intro j w R ho hle Q hq
  simp only[oneCells,Bool.and_eq_true]at ho
  simp only[List.length_cons]at hle
  obtain⟨s2,s3,s4,s5,s6⟩:=row1_sound R G hb hi (n:=off+j) (by omega) (v.ev ρ)
  have ea:(⟨ρ.b i,off,none⟩:Addr).add j=⟨ρ.b i,off+j,none⟩:=by
   by_cases hj:j=0
   ·subst hj;rfl
   ·simp[Addr.add,hj]
  simp only[AV.evs,storeCells,wq_bind]
  rw[wq_store,ea]
  exact⟨oneCell_ev ho.1 ρ,s2,s3,s4 _,ih s5 ho.2 (by omega) fun w' r1 r2=>hq w' r1 (s6.trans r2)⟩
theorem wq_storeRow(R:Rel K ρ h w)(G:K.Good){E:Value->World->Prop}{t:TypeId}{i:Nat}{off:IE}{v:AV}{h':AH}(hs:storeRow? K.P K.O h t i off v=.ok h'){Q:Unit->World->Prop}
 (hq:∀w',Rel K ρ h w'->Keeps K.own w w'->Q () w'):wq K.P K.Ev E (storeVar t ((⟨.dyn i,off⟩:AA).ev ρ) (v.ev ρ)) Q w∧h'=h:=by
 unfold storeRow? at hs
 simp only[bind_ok]at hs
 obtain⟨cs,hc,hs⟩:=hs
 split at hs
 ·rename_i e c hb
  simp only[bind_ok]at hs
  obtain⟨size,hsz,ok,hok,n,hn,hs⟩:=hs
  split at hs
  ·rename_i hh
   obtain⟨hlen,hone,rfl,h0⟩:=hh
   cases hs
   refine⟨?_,rfl⟩
   obtain⟨inf,hi,rfl⟩:=sizeOf?_ok hsz
   have hcells:=cells?_ev hc ρ
   simp only[storeVar,wq_bind,wq_sizeOf hn,hcells]
   have hs2:(AV.evs ρ cs).toArray.size=n:=by simp[evs_length,hlen]
   rw[if_neg (by simpa using hs2)]
   have hlt:((off.ev ρ).toNat:Int)+(Int.ofNat (cs.length-1))<((c.ev ρ).toNat:Int)*(Int.ofNat inf.size):=by
    have:=dec_ev R hok
    exact of_decide_eq_true this
   have hle:(off.ev ρ).toNat+0+cs.length≤(c.ev ρ).toNat*inf.size:=by
    have h2:(off.ev ρ).toNat+(cs.length-1)<(c.ev ρ).toNat*inf.size:=by
     have:=hlt
     simp only[Int.ofNat_eq_natCast]at this
     exact_mod_cast this
    omega
   show wq K.P K.Ev E (storeCells ⟨ρ.b i,(off.ev ρ).toNat,none⟩ (AV.evs ρ cs).toArray.toList 0) Q w
   simp only[List.toList_toArray]
   exact rowN_sound G hb hi R hone hle hq
  ·cases hs
 ·cases hs
theorem wq_storeS(R:Rel K ρ h w)(G:K.Good){E:Value->World->Prop}{t:TypeId}{a:AA}{v:AV}{h':AH}(hs:storeS? K.P K.O h t a v=.ok h'){Q:Unit->World->Prop}
 (hq:∀w',Rel K ρ h' w'->Keeps K.own w w'->Q () w'):wq K.P K.Ev E (storeVar t (a.ev ρ) (v.ev ρ)) Q w:=by
 unfold storeS? at hs
 split at hs
 ·split at hs
  ·have hh:h'=h:=by
    unfold storeRow? at hs
    simp only[bind_ok]at hs
    obtain⟨cs,hc,hs⟩:=hs
    split at hs
    ·simp only[bind_ok]at hs
     obtain⟨size,hsz,ok,hok,n,hn,hs⟩:=hs
     split at hs<;>cases hs
     rfl
    ·cases hs
   subst hh
   exact(wq_storeRow R G hs hq).1
  ·exact wq_storeVar R G hs fun w' a b _ _=>hq w' a b
 ·exact wq_storeVar R G hs fun w' a b _ _=>hq w' a b
end
end
section
variable {K:Ctx}{ρ:Env}{h:AH}{w:World}{U:Nat->Prop}
theorem wq_viewAt_own{E:Value->World->Prop}{n:Nat}{arr:Array Value}{e:TypeId}{f:Nat×Nat}(hn:w.heap[n]?=some (.cells arr e f)){Q:Option (Addr×TypeId)->World->Prop}(hq:Q none w):wq K.P K.Ev E (viewAt n) Q w:=by
 simp only[viewAt,wq_bind,wq_shape]
 have:(w.shape? n).isSome=true:=by simp[World.shape?,hn]
 rw[if_pos this];exact hq
theorem wq_noView_own{E:Value->World->Prop}{a:Addr}{arr:Array Value}{e:TypeId}{f:Nat×Nat}(hn:w.heap[a.block]?=some (.cells arr e f)){Q:Unit->World->Prop}(hq:Q () w):wq K.P K.Ev E (noView a) Q w:=by
 simp only[noView,wq_bind]
 exact wq_viewAt_own hn (by simpa using hq)
theorem wq_stringish_own{E:Value->World->Prop}{b o:Nat}{arr:Array Value}{e:TypeId}(hn:w.heap[b]?=some (.cells arr e (0,0))){Q:Bool->World->Prop}(hq:Q false w):wq K.P K.Ev E (stringish ⟨b,o,none⟩) Q w:=by
 simp only[stringish,wq_bind,wq_frozen,frozen?_of hn]
 simp only[Bool.false_eq_true,if_false,wq_bind,wq_shape,World.shape?,hn]
 have:w.frozen? ⟨b,arr.size,none⟩=false:=frozen?_of hn
 simp only[wq_frozen,this]
 exact hq
theorem wq_sameAddr(R:Rel K ρ h w){E:Value->World->Prop}{i j m n:Nat}{b c:ABlk}(hb:findB i h.hp=some b)(hc:findB j h.hp=some c)(mb:b.isMem=true)(mc:c.isMem=true)(hne:i≠j){Q:Bool->World->Prop}(hq:Q false w):
  wq K.P K.Ev E (sameAddr ⟨ρ.b i,m,none⟩ ⟨ρ.b j,n,none⟩) Q w:=by
 obtain⟨a1,h1,_⟩:=R.arr hb mb
 obtain⟨a2,h2,_⟩:=R.arr hc mc
 have hne':¬ρ.b i=ρ.b j:=fun e=>hne (R.inj i j b c hb hc e)
 have hbeq:(ρ.b i==ρ.b j)=false:=by simpa using hne'
 simp only[sameAddr,wq_bind,wq_ite]
 rw[if_neg (by simp[hne'])]
 simp only[wq_frozen,wq_bind,frozen?_of h1,wq_pure]
 simp only[wq_frozen,frozen?_of h2,Bool.false_and,Bool.false_eq_true,if_false,wq_bind,wq_pure]
 refine wq_noView_own h1 ?_
 refine wq_noView_own h2 ?_
 simp only[mayBeOne,wq_bind]
 refine wq_stringish_own h1 ?_
 refine wq_stringish_own h2 ?_
 simp only[Bool.false_and,Bool.or_false,wq_bind,wq_pure,Bool.false_eq_true,if_false]
 exact hq
theorem wq_sameAddr_eq{E:Value->World->Prop}{b m n:Nat}{Q:Bool->World->Prop}(hq:Q (m==n) w):wq K.P K.Ev E (sameAddr ⟨b,m,none⟩ ⟨b,n,none⟩) Q w:=by
 simp only[sameAddr,wq_ite,wq_bind]
 rw[if_pos (by simp)]
 have:((⟨b,m,none⟩:Addr)==⟨b,n,none⟩)=(m==n):=by
  by_cases e:m=n
  ·subst e;simp
  ·have h1:(m==n)=false:=by simpa using e
   rw[h1]
   rw[beq_eq_false_iff_ne]
   intro x;cases x;exact e rfl
 simp only[wq_pure]
 rw[this];exact hq
theorem eqAll?_in{P:Program}{eq:TypeId->AV->AV->M BE}(hi:∀t x y b,eq t x y=.ok b->x.In U->y.In U->b.In U){xs ys:List AV}(hx:AV.Ins U xs)(hy:AV.Ins U ys):∀{l:List Field} {b:BE},eqAll? P eq xs ys l=.ok b->b.In U:=by
 intro l
 induction l with
 |nil=>intro b he;cases he;trivial
 |cons f l ih=>
  intro b he
  unfold eqAll? at he
  split at he
  ·cases he
  ·rw[bind_ok]at he
   obtain⟨a,ha,he⟩:=he
   rw[bind_ok]at he
   obtain⟨c,hc,he⟩:=he
   rw[bind_ok]at he
   obtain⟨r,hr,he⟩:=he
   have:=hi _ _ _ _ hr (part?_in ha hx) (part?_in hc hy)
   split at he
   ·exact ih he
   ·cases he;trivial
   ·split at he
    ·cases he;exact this
    ·cases he
theorem eq?_in:∀{d:Nat} {t:TypeId} {x y:AV} {b:BE},eq? K.P K.O h d t x y=.ok b->x.In U->y.In U->b.In U:=by
 intro d
 induction d with
 |zero=>intro t x y b he;simp[eq?]at he
 |succ d ih=>
  intro t x y b he hx hy
  simp only[eq?]at he
  rw[bind_ok]at he
  obtain⟨D,hD,he⟩:=he
  split at he
  ·split at he<;>first|(rw[pure_ok]at he;subst he;trivial)|cases he
  ·split at he
   ·rw[pure_ok]at he;subst he;exact bool_in ⟨hx,hy⟩
   ·cases he
  ·rw[pure_ok]at he;subst he;trivial
  ·rw[pure_ok]at he;subst he;exact bool_in trivial
  ·rw[pure_ok]at he;subst he;exact bool_in trivial
  ·rw[pure_ok]at he;subst he;exact bool_in trivial
  ·rw[pure_ok]at he;subst he;trivial
  ·rw[pure_ok]at he;subst he;trivial
  ·rw[bind_ok]at he
   obtain⟨s,hs,he⟩:=he
   split at he
   ·cases he
   ·split at he
    ·split at he
     ·rw[pure_ok]at he;subst he;trivial
     ·split at he
      ·split at he<;>first|(rw[pure_ok]at he;subst he;trivial)|cases he
      ·cases he
    ·split at he<;>first|(rw[pure_ok]at he;subst he;trivial)|cases he
    ·cases he
  ·rw[pure_ok]at he;subst he;trivial
  ·rw[pure_ok]at he;subst he;trivial
  ·rw[pure_ok]at he;subst he;trivial
  ·split at he
   ·split at he
    ·split at he
     ·exact ih he hx hy
     ·cases he
    ·cases he
   ·rw[pure_ok]at he;subst he;trivial
  rotate_right 2
  ·split at he
   ·cases he
   ·exact eqAll?_in (fun _ _ _ _ h1 h2 h3=>ih h1 h2 h3) hx hy he
  ·cases he
  all_goals first
   |(rw[pure_ok]at he;subst he;trivial)
   |cases he
theorem wq_eqAll{E:Value->World->Prop}{D:Nat}{eq:TypeId->AV->AV->M BE}(hi:∀{t x y b},eq t x y=.ok b->∀{Q:Bool->World->Prop},Q (b.ev ρ) w->wq K.P K.Ev E (Op.equalIn D t (x.ev ρ) (y.ev ρ)) Q w){xs ys:List AV}:
  ∀{l:List Field} {b:BE},eqAll? K.P eq xs ys l=.ok b->∀{Q:Option Bool×Unit->World->Prop},Q (if b.ev ρ=true then(none,())else(some false,())) w->wq K.P K.Ev E (forIn l ((none,()):Option Bool×Unit) fun f _=>
       if f.name≠ "_" then do
        let a<-part f.type (AV.evs ρ xs).toArray f.offset
        let b<-part f.type (AV.evs ρ ys).toArray f.offset
        let c<-Op.equalIn D f.type a b
        if(!c)=true then pure (ForInStep.done (some false,()))else pure (ForInStep.yield (none,()))
       else pure (ForInStep.yield (none,()))) Q w:=by
 intro l
 induction l with
 |nil=>
  intro b he Q hq
  cases he
  simp only[List.forIn_nil,wq_pure]
  exact hq
 |cons f l ih=>
  intro b he Q hq
  unfold eqAll? at he
  split at he
  ·cases he
  ·rename_i hn
   rw[bind_ok]at he
   obtain⟨a,ha,he⟩:=he
   rw[bind_ok]at he
   obtain⟨c,hc,he⟩:=he
   rw[bind_ok]at he
   obtain⟨r,hr,he⟩:=he
   simp only[List.forIn_cons,wq_bind]
   rw[if_pos hn]
   simp only[wq_bind]
   refine wq_part ha (wq_part hc (hi hr ?_))
   split at he
   ·simp only[BE.ev,Bool.not_true,Bool.false_eq_true,if_false,wq_pure]
    exact ih he hq
   ·cases he
    simp only[BE.ev,Bool.not_false,if_true,wq_pure]at hq⊢
    exact hq
   ·split at he
    ·have e:=Except.ok.inj he
     rw[e]
     by_cases hb:b.ev ρ=true
     ·rw[if_pos hb]at hq
      simp only[hb,Bool.not_true,Bool.false_eq_true,if_false,wq_pure,List.forIn_nil]
      exact hq
     ·rw[if_neg hb]at hq
      have hb':b.ev ρ=false:=by simpa using hb
      simp only[hb',Bool.not_false,if_true,wq_pure]
      exact hq
    ·cases he
theorem seq_ev(a b:SE):(BE.seq false a b).ev ρ=(a.ev ρ==b.ev ρ):=by
 rw[beq_toListBytes]
 simp[BE.ev]
theorem wq_equalIn(R:Rel K ρ h w){E:Value->World->Prop}:∀{d D:Nat} {t:TypeId} {x y:AV} {b:BE},d≤D->eq? K.P K.O h d t x y=.ok b->∀{Q:Bool->World->Prop},Q (b.ev ρ) w->
  wq K.P K.Ev E (Op.equalIn D t (x.ev ρ) (y.ev ρ)) Q w:=by
 intro d
 induction d with
 |zero=>intro D t x y b _ he;simp[eq?]at he
 |succ d ih=>
  intro D t x y b hD he Q hq
  obtain⟨D,rfl⟩:∃D',D=D'+1:=⟨D-1,by omega⟩
  simp only[eq?]at he
  rw[bind_ok]at he
  obtain⟨T,hT,he⟩:=he
  have hU:=under?_ok hT
  simp only[Op.equalIn,wq_bind,wq_underlying hU]
  split at he
  ·
   rename_i a b'
   simp only[AV.ev]
   split at he
   ·rename_i t1 t2 e1 e2
    rw[pure_ok]at he;subst he
    rw[wq_pure,bool_lit R e1,bool_lit R e2];exact hq
   ·cases he
  ·
   simp only[AV.ev]
   split at he
   ·rename_i hk
    rw[pure_ok]at he;subst he
    rw[bool_ev R]at hq
    simp only[wq_ite,if_pos hk,wq_pure]
    exact hq
   ·cases he
  ·simp only[AV.ev];rw[pure_ok]at he;subst he;rw[wq_pure];exact hq
  ·simp only[AV.ev];rw[pure_ok]at he;subst he;rw[bool_ev R,seq_ev]at hq;rw[wq_pure];exact hq
  ·simp only[AV.ev];rw[pure_ok]at he;subst he;rw[bool_ev R,seq_ev]at hq;rw[wq_pure];exact hq
  ·simp only[AV.ev];rw[pure_ok]at he;subst he;rw[bool_ev R,seq_ev]at hq;rw[wq_pure];exact hq
  ·rw[pure_ok]at he;subst he
   rename_i b'
   cases b'<;>simpa[AV.ev,BE.ev] using hq
  ·rw[pure_ok]at he;subst he;simpa[AV.ev,BE.ev] using hq
  ·
   rename_i e a b'
   rw[bind_ok]at he
   obtain⟨s,hs,he⟩:=he
   split at he
   ·cases he
   ·rename_i hs0
    simp only[AV.ev,Option.map_some,wq_bind,wq_sizeOf hs]
    rw[if_pos hs0]
    split at he
    ·rename_i i m j n h1 h2 h3 h4
     have ea:a.ev ρ=⟨ρ.b i,m,none⟩:=by simp[AA.ev,h1,h2,BR.ev,IE.ev]
     have eb:b'.ev ρ=⟨ρ.b j,n,none⟩:=by simp[AA.ev,h3,h4,BR.ev,IE.ev]
     rw[ea,eb]
     split at he
     ·rename_i hij
      rw[pure_ok]at he;subst he
      have:i=j:=by simpa using hij
      subst this
      exact wq_sameAddr_eq hq
     ·rename_i hij
      have hne:i≠j:=by simpa using hij
      split at he
      ·rename_i hb hc
       split at he
       ·rename_i hm
        rw[Bool.and_eq_true]at hm
        rw[pure_ok]at he;subst he
        exact wq_sameAddr R hb hc hm.1 hm.2 hne hq
       ·cases he
      ·cases he
    ·rename_i i m j n h1 h2 h3 h4
     have ea:a.ev ρ=⟨i,m,none⟩:=by simp[AA.ev,h1,h2,BR.ev,IE.ev]
     have eb:b'.ev ρ=⟨j,n,none⟩:=by simp[AA.ev,h3,h4,BR.ev,IE.ev]
     rw[ea,eb]
     split at he
     ·rename_i hij
      rw[pure_ok]at he;subst he
      have:i=j:=by simpa using hij
      subst this
      exact wq_sameAddr_eq hq
     ·cases he
    ·cases he
  ·rw[pure_ok]at he;subst he;simpa[AV.ev,BE.ev] using hq
  ·rw[pure_ok]at he;subst he;simpa[AV.ev,BE.ev] using hq
  ·rw[pure_ok]at he;subst he;simpa[AV.ev,BE.ev] using hq
  ·
   rename_i tx vx ty vy
   simp only[AV.ev]
   split at he
   ·rename_i htt
    have:tx=ty:=by simpa using htt
    subst this
    split at he
    ·rename_i i hi
     split at he
     ·rename_i hcmp
      simp only[wq_ite,wq_bind,wq_typeInfo hi]
      rw[if_neg (by simp),if_neg (by simp[hcmp])]
      exact ih (by omega) he hq
     ·cases he
    ·cases he
   ·rename_i htt
    have:tx≠ty:=by simpa using htt
    rw[pure_ok]at he;subst he
    simp only[wq_ite]
    rw[if_pos this];exact hq
  ·rw[pure_ok]at he;subst he
   rename_i b' _ _
   cases b'<;>simpa[AV.ev,BE.ev] using hq
  ·rw[pure_ok]at he;subst he;simpa[AV.ev,BE.ev] using hq
  ·rw[pure_ok]at he;subst he
   rename_i b'
   cases b'<;>simpa[AV.ev,BE.ev] using hq
  ·rw[pure_ok]at he;subst he;simpa[AV.ev,BE.ev] using hq
  ·rw[pure_ok]at he;subst he;simpa[AV.ev,BE.ev] using hq
  ·rw[pure_ok]at he;subst he;simpa[AV.ev,BE.ev] using hq
  ·rw[pure_ok]at he;subst he;simpa[AV.ev,BE.ev] using hq
  ·rw[pure_ok]at he;subst he
   rename_i b'
   cases b'<;>simpa[AV.ev,BE.ev] using hq
  ·rw[pure_ok]at he;subst he;simpa[AV.ev,BE.ev] using hq
  ·rename_i fs xs ys
   split at he
   ·cases he
   ·rename_i hst
    simp only[AV.ev,wq_bind,wq_program]
    rw[if_neg hst]
    simp only[wq_bind]
    rw[<-Array.forIn_toList]
    refine wq_eqAll (fun h1 _ h2=>ih (by omega) h1 h2) he ?_
    by_cases hb:b.ev ρ=true
    ·rw[if_pos hb];rw[hb]at hq;exact hq
    ·rw[if_neg hb];rw[show b.ev ρ=false by simpa using hb]at hq;exact hq
  ·cases he
theorem wq_equal(R:Rel K ρ h w){E:Value->World->Prop}{t:TypeId}{x y:AV}{b:BE}(he:eq? K.P K.O h 8 t x y=.ok b){Q:Bool->World->Prop}(hq:Q (b.ev ρ) w):
 wq K.P K.Ev E (Op.equal t (x.ev ρ) (y.ev ρ)) Q w:=wq_equalIn R (by unfold Op.maxDepth;omega) he hq
theorem notB_ev{b c:BE}(hn:notB b=.ok c)(ρ:Env):c.ev ρ=!b.ev ρ:=by
 cases b with
 |lit t=>simp[notB]at hn;subst hn;rfl
 |var i=>simp[notB]at hn
 |cmp o a b=>
  cases o<;>simp[notB]at hn<;>subst hn<;>simp only[BE.ev,icmp]
  ·simp[bne]
  ·simp[bne]
  ·simp[decide_not.symm,Int.not_lt]
  ·simp[decide_not.symm,Int.not_le]
  ·simp[decide_not.symm,Int.not_lt]
  ·simp[decide_not.symm,Int.not_le]
 |seq n a b=>
  simp only[notB]at hn
  cases hn
  simp only[BE.ev]
  cases n<;>simp
theorem notB_in{b c:BE}(hn:notB b=.ok c)(hi:b.In U):c.In U:=by
 cases b with
 |lit t=>simp[notB]at hn;subst hn;trivial
 |var i=>simp[notB]at hn
 |cmp o a b=>cases o<;>simp[notB]at hn<;>subst hn<;>exact hi
 |seq n a b=>simp only[notB]at hn;cases hn;trivial
end
section
variable {K:Ctx}{ρ:Env}{h:AH}{w:World}{U:Nat->Prop}
theorem binOp_int(o:BinOp)(t:TypeId)(k:IntKind)(a b:Int)(ho:intArith? o=true):binOp o t (.int k a) (.int k b)=pure (.int k (iop o k a b)):=by
 cases o<;>simp_all [intArith?]<;>simp[binOp,iop,Op.intArith,Op.intBits]
theorem binOp_cmp(o:BinOp)(t:TypeId)(k:IntKind)(a b:Int)(ho:cmp? o=true):binOp o t (.int k a) (.int k b)=pure (.bool (icmp o a b)):=by
 cases o<;>simp_all [cmp?]<;>simp[binOp,icmp,Op.intCmp]
theorem binOp_eql(t:TypeId){x y:Value}(hx:(∃k n,x=.int k n)->¬∃k n,y=.int k n)(hs:(∃s,x=.string s)->¬∃s,y=.string s)(hf:∀k n,x≠.float k n)(hc:∀k n m,x≠.complex k n m):
  binOp .eql t x y=(do pure (.bool (<-Op.equal t x y))):=by
 cases x<;>first|exact absurd rfl (hf _ _)|exact absurd rfl (hc _ _ _)|skip
 all_goals cases y<;>first|rfl|exact absurd ⟨_,_,rfl⟩ (hx ⟨_,_,rfl⟩)|exact absurd ⟨_,rfl⟩ (hs ⟨_,rfl⟩)
theorem binOp_neq(t:TypeId){x y:Value}(hx:(∃k n,x=.int k n)->¬∃k n,y=.int k n)(hs:(∃s,x=.string s)->¬∃s,y=.string s)(hf:∀k n,x≠.float k n)(hc:∀k n m,x≠.complex k n m):
  binOp .neq t x y=(do pure (.bool (!(<-Op.equal t x y)))):=by
 cases x<;>first|exact absurd rfl (hf _ _)|exact absurd rfl (hc _ _ _)|skip
 all_goals cases y<;>first|rfl|exact absurd ⟨_,_,rfl⟩ (hx ⟨_,_,rfl⟩)|exact absurd ⟨_,rfl⟩ (hs ⟨_,rfl⟩)
theorem eq?_shape{d:Nat}{t:TypeId}{x y:AV}{b:BE}(he:eq? K.P K.O h d t x y=.ok b):(∀k n,x.ev ρ≠.float k n)∧(∀k n m,x.ev ρ≠.complex k n m)∧(((∃s,x=.str s)∨∃e,x=.ss e)∨∀s,x.ev ρ≠.string s)∧((∃k e,x=.int k e)∨∀k n,x.ev ρ≠.int k n)∧
  (((∃s,x=.str s)∨∃e,x=.ss e)->(∃s,y=.str s)∨∃e,y=.ss e)∧((∃k e,x=.int k e)->∃k e,y=.int k e):=by
 cases d with
 |zero=>simp[eq?]at he
 |succ d=>
  simp only[eq?]at he
  rw[bind_ok]at he
  obtain⟨T,hT,he⟩:=he
  split at he<;>first
   |(cases he;done)
   |(refine⟨?_,?_,?_,?_,?_,?_⟩<;>simp[AV.ev])
theorem stringOp_eql(a b:ByteArray):Op.stringOp .eql a b=pure (.bool (a.toList==b.toList)):=rfl
theorem stringOp_neq(a b:ByteArray):Op.stringOp .neq a b=pure (.bool !(a.toList==b.toList)):=rfl
theorem dec_neg(R:Rel K ρ h w){b:IE}{t1:Bool}(ht1:K.O.dec (.cmp .lss b (.lit 0))=.ok t1)(hn:¬t1=true):¬b.ev ρ<0:=by
 have h1:decide (b.ev ρ<0)=t1:=dec_ev R ht1
 intro hc
 exact hn (h1▸decide_eq_true hc)
theorem dec_zero(R:Rel K ρ h w){b:IE}{t1:Bool}(ht1:K.O.dec (.cmp .eql b (.lit 0))=.ok t1)(hn:¬t1=true):¬b.ev ρ=0:=by
 have h1:(b.ev ρ==0)=t1:=dec_ev R ht1
 intro hc
 exact hn (h1▸by simp[hc])
theorem sOp_ok(R:Rel K ρ h w){E:Value->World->Prop}{o:BinOp}{t:TypeId}{a b:SE}{v:AV}(he:sOp? K.O o a b=.ok v){Q:Value->World->Prop}(hq:Q (v.ev ρ) w):
  wq K.P K.Ev E (binOp o t (.string (a.ev ρ)) (.string (b.ev ρ))) Q w:=by
 unfold sOp? at he
 split at he
 ·cases he
  simp only[AV.ev,bool_ev R]at hq
  simp only[binOp]
  rw[stringOp_eql]
  simpa[BE.ev] using hq
 ·cases he
  simp only[AV.ev,bool_ev R]at hq
  simp only[binOp]
  rw[stringOp_neq]
  simpa[BE.ev] using hq
 ·split at he
  ·rename_i hd
   cases he
   have h1:decide (((a.ev ρ++b.ev ρ).size:Int)≤4611686018427387904)=true:=dec_ev R hd
   have h2:=of_decide_eq_true h1
   rw[ByteArray.size_append]at h2
   simp only[binOp,Op.stringOp,wq_ite]
   rw[if_neg (by simp only[IntKind.max,IntKind.bits,IntKind.signed];simp;omega)]
   exact hq
  ·cases he
  ·cases he
 ·cases he
theorem sOp_in{O:Orc}{o:BinOp}{a b:SE}{v:AV}(he:sOp? O o a b=.ok v):v.In U:=by
 unfold sOp? at he
 split at he
 ·cases he
  show BE.In U (O.bool _)
  unfold Orc.bool
  split
  ·trivial
  ·split<;>first|trivial|exact bfold_in trivial
 ·cases he
  show BE.In U (O.bool _)
  unfold Orc.bool
  split
  ·trivial
  ·split<;>first|trivial|exact bfold_in trivial
 ·split at he
  ·cases he;trivial
  ·cases he
  ·cases he
 ·cases he
theorem wq_binOp(R:Rel K ρ h w){E:Value->World->Prop}{o:BinOp}{t:TypeId}{x y v:AV}(he:binOp? K.P K.O h o t x y=.ok v){Q:Value->World->Prop}(hq:Q (v.ev ρ) w):
  wq K.P K.Ev E (binOp o t (x.ev ρ) (y.ev ρ)) Q w:=by
 unfold binOp? at he
 split at he
 ·
  rename_i k a k' b
  simp only[AV.ev]
  split at he
  ·
   simp only[bind_ok]at he
   obtain⟨t1,ht1,he⟩:=he
   split at he
   ·cases he
   ·rename_i hn
    rw[pure_ok]at he;subst he
    simp only[AV.ev,int_ev R]at hq
    simp only[binOp,Op.shift,wq_ite]
    rw[if_neg (dec_neg R ht1 hn)]
    exact hq
  ·simp only[bind_ok]at he
   obtain⟨t1,ht1,he⟩:=he
   split at he
   ·cases he
   ·rename_i hn
    rw[pure_ok]at he;subst he
    simp only[AV.ev,int_ev R]at hq
    simp only[binOp,Op.shift,wq_ite]
    rw[if_neg (dec_neg R ht1 hn)]
    exact hq
  ·split at he
   ·rename_i hk;subst hk
    simp only[bind_ok]at he
    obtain⟨t1,ht1,he⟩:=he
    split at he
    ·cases he
    ·rename_i hn
     rw[pure_ok]at he;subst he
     simp only[AV.ev,int_ev R]at hq
     simp only[binOp,Op.intDiv,wq_ite]
     rw[if_neg (by simp),if_neg (dec_zero R ht1 hn)]
     exact hq
   ·cases he
  ·split at he
   ·rename_i hk;subst hk
    simp only[bind_ok]at he
    obtain⟨t1,ht1,he⟩:=he
    split at he
    ·cases he
    ·rename_i hn
     rw[pure_ok]at he;subst he
     simp only[AV.ev,int_ev R]at hq
     simp only[binOp,Op.intDiv,wq_ite]
     rw[if_neg (by simp),if_neg (dec_zero R ht1 hn)]
     exact hq
   ·cases he
  ·split at he
   ·rename_i hk;subst hk
    split at he
    ·rename_i ho
     rw[pure_ok]at he;subst he
     simp only[AV.ev,int_ev R]at hq
     rw[binOp_int _ _ _ _ _ ho];exact hq
    ·split at he
     ·rename_i ho
      rw[pure_ok]at he;subst he
      simp only[AV.ev]at hq
      rw[bool_ev R]at hq
      rw[binOp_cmp _ _ _ _ _ ho];exact hq
     ·cases he
   ·cases he
 ·
  rename_i a b
  simp only[AV.ev]
  split at he
  ·rw[pure_ok]at he;subst he;simp only[binOp];rw[stringOp_eql];exact hq
  ·rw[pure_ok]at he;subst he;simp only[binOp];rw[stringOp_neq];exact hq
  ·split at he
   ·rename_i hle
    rw[pure_ok]at he;subst he
    simp only[binOp,Op.stringOp,wq_ite]
    rw[if_neg (by simp only[IntKind.max,IntKind.bits,IntKind.signed];simp;omega)]
    exact hq
   ·cases he
  ·cases he
 ·exact sOp_ok R he hq
 ·exact sOp_ok R he hq
 ·exact sOp_ok R he hq
 ·rename_i hni hns hn1 hn2 hn3
  have notS:∀{b:BE},eq? K.P K.O h 8 t x y=.ok b->(∃s,x.ev ρ=.string s)->¬∃s,y.ev ρ=.string s:=by
   intro b hb
   obtain⟨s1,s2,s3,s4,s5,s6⟩:=eq?_shape (ρ:=ρ) hb
   rintro⟨s,e⟩
   rcases s3 with h3|h3
   ·rcases h3 with⟨s',rfl⟩|⟨s',rfl⟩
    ·rcases s5 (.inl ⟨_,rfl⟩)with⟨s2,rfl⟩|⟨s2,rfl⟩
     ·exact absurd rfl (hns _ _ rfl)
     ·exact absurd rfl (hn3 _ _ rfl)
    ·rcases s5 (.inr ⟨_,rfl⟩)with⟨s2,rfl⟩|⟨s2,rfl⟩
     ·exact absurd rfl (hn2 _ _ rfl)
     ·exact absurd rfl (hn1 _ _ rfl)
   ·exact absurd e (h3 _)
  split at he
  ·simp only[bind_ok,pure_ok]at he
   obtain⟨b,hb,rfl⟩:=he
   obtain⟨s1,s2,s3,s4,s5,s6⟩:=eq?_shape (ρ:=ρ) hb
   have hs:=notS hb
   have hi:(∃k n,x.ev ρ=.int k n)->¬∃k n,y.ev ρ=.int k n:=by
    rintro⟨k,n,e⟩
    rcases s4 with⟨k',e',rfl⟩|h4
    ·obtain⟨k2,e2,rfl⟩:=s6 ⟨_,_,rfl⟩
     exact absurd rfl (hni _ _ _ _ rfl)
    ·exact absurd e (h4 _ _)
   rw[binOp_eql t hi hs s1 s2]
   simp only[wq_bind,wq_pure]
   exact wq_equal R hb hq
  ·simp only[bind_ok,pure_ok]at he
   obtain⟨b,hb,c,hc,rfl⟩:=he
   obtain⟨s1,s2,s3,s4,s5,s6⟩:=eq?_shape (ρ:=ρ) hb
   have hs:=notS hb
   have hi:(∃k n,x.ev ρ=.int k n)->¬∃k n,y.ev ρ=.int k n:=by
    rintro⟨k,n,e⟩
    rcases s4 with⟨k',e',rfl⟩|h4
    ·obtain⟨k2,e2,rfl⟩:=s6 ⟨_,_,rfl⟩
     exact absurd rfl (hni _ _ _ _ rfl)
    ·exact absurd e (h4 _ _)
   rw[binOp_neq t hi hs s1 s2]
   simp only[wq_bind,wq_pure]
   refine wq_equal R hb ?_
   simp only[AV.ev,notB_ev hc]at hq
   exact hq
  ·cases he
theorem binOp?_in(I:Ids K U h){o:BinOp}{t:TypeId}{x y v:AV}(he:binOp? K.P K.O h o t x y=.ok v)(hx:x.In U)(hy:y.In U):v.In U:=by
 unfold binOp? at he
 split at he
 ·split at he
  all_goals try (split at he)
  all_goals try (simp only[bind_ok]at he;obtain⟨t1,ht1,he⟩:=he)
  all_goals try (split at he)
  all_goals try (split at he)
  all_goals first
   |(cases he;done)
   |(rw[pure_ok]at he;subst he;first|exact int_in I ⟨hx,hy⟩|exact bool_in ⟨hx,hy⟩)
 ·split at he
  all_goals try (split at he)
  all_goals first
   |(cases he;done)
   |(rw[pure_ok]at he;subst he;trivial)
 ·exact sOp_in he
 ·exact sOp_in he
 ·exact sOp_in he
 ·split at he
  ·simp only[bind_ok,pure_ok]at he
   obtain⟨b,hb,rfl⟩:=he
   exact eq?_in hb hx hy
  ·simp only[bind_ok,pure_ok]at he
   obtain⟨b,hb,c,hc,rfl⟩:=he
   exact notB_in hc (eq?_in hb hx hy)
  ·cases he
theorem eqGuard_none{op:BinOp}(ho:¬(op=.eql∨op=.neq))(t:TypeId)(x y:Operand)(a b:Value):eqGuard op t x y a b=pure ():=by
 cases op<;>simp_all [eqGuard]
theorem wq_eqGuardIn_nil{E:Value->World->Prop}{t:TypeId}{ms:Array (String×TypeId)}(hm:K.P.underlying t=some (.interface ms))(hemp:ms.isEmpty=true){Q:Bool->World->Prop}(hq:Q false w):
  wq K.P K.Ev E (Op.eqGuardIn Op.maxDepth t .nilIface .nilIface) Q w:=by
 obtain⟨d,hd⟩:∃d,Op.maxDepth=d+1:=⟨9999,rfl⟩
 rw[hd]
 simp only[Op.eqGuardIn,wq_bind,wq_underlying hm,wq_pure,hemp,Bool.not_true]
 exact hq
theorem eqGuard_const{op:BinOp}(ho:op=.eql∨op=.neq)(t:TypeId)(x y:Operand)(hc:(isConst? x||isConst? y)=true):eqGuard op t x y .nilIface .nilIface=pure ():=by
 rcases ho with rfl|rfl<;>cases x<;>cases y<;>first
  |rfl
  |exact absurd (show false=true from hc) (by simp)
theorem eqGuard_nil{op:BinOp}(ho:op=.eql∨op=.neq)(t:TypeId)(x y:Operand)(hc:¬(isConst? x||isConst? y)=true):eqGuard op t x y .nilIface .nilIface=(do
  if<-Op.eqGuardIn Op.maxDepth t .nilIface .nilIface then unsupported (.noEntry "binop/eql: two nil values of an interface type with methods, neither of them the literal nil")):=by
 rcases ho with rfl|rfl<;>cases x<;>cases y<;>first
  |rfl
  |exact absurd rfl hc
theorem eqGuard_agg{op:BinOp}(ho:op=.eql∨op=.neq)(t:TypeId)(x y:Operand)(a b:Array Value):eqGuard op t x y (.agg a) (.agg b)=(do
  if !(<-program).eqGuardType (<-program).depth t then return
  if<-Op.eqGuardIn Op.maxDepth t (.agg a) (.agg b)then unsupported (.noEntry "binop/eql: two nil values of an interface type with methods, in a part of a struct or an array")):=by
 rcases ho with rfl|rfl<;>rfl
theorem eqGuard_other{op:BinOp}(t:TypeId)(x y:Operand){a b:Value}(h1:a=.nilIface->b≠.nilIface)(h2:(∃c,a=.agg c)->¬∃c,b=.agg c):eqGuard op t x y a b=pure ():=by
 cases op<;>first
  |rfl
  |(cases a<;>first
   |rfl
   |(cases b<;>first
    |rfl
    |exact absurd rfl (h1 rfl)
    |exact absurd ⟨_,rfl⟩ (h2 ⟨_,rfl⟩)))
theorem wq_eqGuard{E:Value->World->Prop}{op:BinOp}{t:TypeId}{x y:Operand}{a b:AV}(he:eqGuard? K.P op t x y a b=.ok ()){Q:Unit->World->Prop}(hq:Q () w):
  wq K.P K.Ev E (eqGuard op t x y (a.ev ρ) (b.ev ρ)) Q w:=by
 by_cases ho:op=.eql∨op=.neq
 ·have hh:(match a,b with
    |.nilIface,.nilIface=>if isConst? x||isConst? y then(Except.ok ():M Unit)else
     match K.P.underlying t with
     |some (.interface ms)=>if ms.isEmpty then .ok ()else .error " two nil values"
     |_=>.error " two nil values"
    |.agg _,.agg _=>if K.P.eqGuardType K.P.depth t then .error " structs with interface values" else .ok ()
    |.raw _,_=>.error " raw"
    |_,.raw _=>.error " raw"
    |.opq _,_=>.error " veiled"
    |_,.opq _=>.error " veiled"
    |_,_=>.ok ())=.ok ():=by rcases ho with rfl|rfl<;>exact he
  split at hh
  ·
   simp only[AV.ev]
   split at hh
   ·rename_i hc
    rw[eqGuard_const ho t x y hc];exact hq
   ·rename_i hc
    rw[eqGuard_nil ho t x y hc]
    split at hh
    ·rename_i ms hm
     split at hh
     ·rename_i hemp
      simp only[wq_bind]
      exact wq_eqGuardIn_nil hm hemp (by simpa using hq)
     ·cases hh
    ·cases hh
  ·simp only[AV.ev]
   rw[eqGuard_agg ho]
   split at hh
   ·cases hh
   ·rename_i hg
    simp only[wq_bind,wq_program,wq_ite]
    rw[if_pos (by simpa using hg)]
    exact hq
  all_goals try (cases hh;done)
  rename_i m1 m2 n1 n2 n3 n4
  rw[eqGuard_other]
  ·exact hq
  ·intro h1 h2
   cases a<;>simp only[AV.ev]at h1<;>first
    |(cases h1;done)
    |skip
   all_goals cases b<;>simp only[AV.ev]at h2<;>first
    |(cases h2;done)
    |simp_all
  ·rintro⟨c,h1⟩ ⟨c',h2⟩
   cases a<;>simp only[AV.ev]at h1<;>first
    |(cases h1;done)
    |skip
   all_goals cases b<;>simp only[AV.ev]at h2<;>first
    |(cases h2;done)
    |simp_all
 ·rw[eqGuard_none ho];exact hq
end
section
variable {K:Ctx}{ρ:Env}{h:AH}{w:World}{U:Nat->Prop}
theorem sureAddr?_ok{x:AV}{a:AA}(hs:sureAddr? x=.ok a):x=.ptr (some a):=by
 unfold sureAddr? at hs
 split at hs
 ·cases hs;rfl
 ·cases hs
theorem wq_fieldAt{E:Value->World->Prop}{s:TypeId}{x v:AV}{i:Nat}(he:fieldAddr? K.P s x i=.ok v){Q:Value->World->Prop}(hq:Q (v.ev ρ) w):wq K.P K.Ev E (Instr.fieldAt s (x.ev ρ) i) Q w:=by
 unfold fieldAddr? at he
 simp only[bind_ok]at he
 obtain⟨D,hD,he⟩:=he
 split at he
 ·rename_i fs
  split at he
  ·rename_i f hf
   simp only[bind_ok]at he
   obtain⟨a,ha,n,hn,he⟩:=he
   split at he
   ·cases he
   ·rename_i hn0
    rw[pure_ok]at he;subst he
    obtain rfl:=sureAddr?_ok ha
    simp only[Instr.fieldAt,wq_bind,wq_underlying (under?_ok hD),hf]
    simp only[AV.ev,Option.map_some,Instr.sureAddr,wq_pure,fieldPlace,wq_bind,wq_sizeOf hn]
    rw[if_neg hn0]
    simp only[AV.ev,Option.map_some,AA.add_ev]at hq
    exact hq
  ·cases he
 ·cases he
theorem fieldAddr?_in{P:Program}{s:TypeId}{x v:AV}{i:Nat}(he:fieldAddr? P s x i=.ok v)(hx:x.In U):v.In U:=by
 unfold fieldAddr? at he
 simp only[bind_ok]at he
 obtain⟨D,hD,he⟩:=he
 split at he
 ·split at he
  ·simp only[bind_ok]at he
   obtain⟨a,ha,n,hn,he⟩:=he
   split at he
   ·cases he
   ·rw[pure_ok]at he;subst he
    obtain rfl:=sureAddr?_ok ha
    exact AA.add_in _ hx
  ·cases he
 ·cases he
theorem timesN_ev(ρ:Env)(a:IE)(n:Nat):(timesN a n).ev ρ=(((a.ev ρ).toNat*n:Nat):Int):=by
 unfold timesN
 split
 ·simp[IE.ev]
 ·split
  ·rename_i h1;subst h1;simp[IE.ev]
  ·simp[IE.ev]
theorem timesN_in{a:IE}(n:Nat)(hi:a.In U):(timesN a n).In U:=by
 unfold timesN
 split
 ·trivial
 ·split
  ·exact hi
  ·exact⟨hi,trivial⟩
theorem AA.at_ev(ρ:Env)(a:AA)(i:IE)(size:Nat):(a.at i size).ev ρ=(a.ev ρ).add ((i.ev ρ).toNat*size):=by
 have ht:=timesN_ev ρ i size
 unfold AA.at
 split
 ·rename_i n hn
  rw[hn]at ht
  simp only[IE.ev]at ht
  rw[AA.add_ev]
  have:n=(i.ev ρ).toNat*size:=Int.ofNat.inj ht
  rw[this]
 ·rename_i hn
  split
  ·rename_i h0
   simp only[AA.ev,h0,IE.ev,ht,Addr.add]
   simp only[Int.toNat_natCast,Int.toNat_zero,Nat.zero_add]
   split
   ·rename_i hz;rw[hz]
   ·rfl
  ·simp only[AA.ev,IE.ev,ht,Addr.add]
   have:((((a.off.ev ρ).toNat:Int)+(((i.ev ρ).toNat*size:Nat):Int))).toNat=(a.off.ev ρ).toNat+(i.ev ρ).toNat*size:=by omega
   rw[this]
   split
   ·rename_i hz;rw[hz];simp
   ·rfl
theorem AA.at_in{a:AA}{i:IE}(size:Nat)(ha:a.In U)(hi:i.In U):(a.at i size).In U:=by
 unfold AA.at
 split
 ·exact AA.add_in _ ha
 ·split
  ·exact⟨ha.1,timesN_in _ hi⟩
  ·exact⟨ha.1,ha.2,timesN_in _ hi⟩
theorem index?_ok(R:Rel K ρ h w){i len:IE}(he:index? K.O i len=.ok ()):0≤i.ev ρ∧i.ev ρ<len.ev ρ:=by
 unfold index? at he
 simp only[bind_ok]at he
 obtain⟨t1,h1,he⟩:=he
 split at he
 ·rename_i e1
  simp only[bind_ok]at he
  obtain⟨t2,h2,he⟩:=he
  split at he
  ·rename_i e2
   subst e1;subst e2
   have a1:decide (0≤i.ev ρ)=true:=dec_ev R h1
   have a2:decide (i.ev ρ<len.ev ρ)=true:=dec_ev R h2
   exact⟨of_decide_eq_true a1,of_decide_eq_true a2⟩
  ·cases he
 ·cases he
theorem lenIE_ev(ρ:Env)(len:IE){n:Int}(hn:0≤n)(hl:n<(match len with|.lit n=>IE.lit n|l=>.tn l).ev ρ):n<((len.ev ρ).toNat:Int):=by
 cases len<;>simp only[IE.ev]at hl⊢<;>omega
theorem wq_indexAt(R:Rel K ρ h w){E:Value->World->Prop}{t:TypeId}{x i v:AV}(he:indexAddr? K.P K.O t x i=.ok v){Q:Value->World->Prop}(hq:Q (v.ev ρ) w):wq K.P K.Ev E (Instr.indexAt t (x.ev ρ) (i.ev ρ)) Q w:=by
 unfold indexAddr? at he
 split at he
 ·rename_i k i
  simp only[bind_ok]at he
  obtain⟨D,hD,he⟩:=he
  split at he
  ·rename_i elem a len cap
   simp only[bind_ok,pure_ok]at he
   obtain⟨_,hix,n,hn,rfl⟩:=he
   obtain⟨h1,h2⟩:=index?_ok R hix
   have h3:=lenIE_ev ρ len h1 h2
   simp only[AV.ev,Option.map_some,AA.at_ev]at hq
   simp only[Instr.indexAt,AV.ev,Option.map_some,asIntOf,wq_bind,wq_pure,wq_underlying (under?_ok hD)]
   simp only[wq_ite,wq_bind,wq_sizeOf hn,wq_pure]
   rw[if_pos ⟨h1,h3⟩]
   exact hq
  ·rename_i m elem a
   simp only[bind_ok,pure_ok]at he
   obtain⟨_,hix,n,hn,rfl⟩:=he
   obtain⟨h1,h2⟩:=index?_ok R hix
   have h3:i.ev ρ<(m:Int):=h2
   simp only[AV.ev,Option.map_some,AA.at_ev]at hq
   simp only[Instr.indexAt,AV.ev,Option.map_some,asIntOf,wq_bind,wq_pure,wq_underlying (under?_ok hD),Instr.sureAddr]
   simp only[wq_ite,wq_bind,wq_sizeOf hn,wq_pure]
   rw[if_pos ⟨h1,h3⟩]
   exact hq
  ·cases he
 ·cases he
theorem indexAddr?_in{P:Program}{O:Orc}{t:TypeId}{x i v:AV}(he:indexAddr? P O t x i=.ok v)(hx:x.In U)(hi:i.In U):v.In U:=by
 unfold indexAddr? at he
 split at he
 ·simp only[bind_ok]at he
  obtain⟨D,hD,he⟩:=he
  split at he
  ·simp only[bind_ok,pure_ok]at he
   obtain⟨_,hix,n,hn,rfl⟩:=he
   exact AA.at_in _ hx.1 hi
  ·simp only[bind_ok,pure_ok]at he
   obtain⟨_,hix,n,hn,rfl⟩:=he
   exact AA.at_in _ hx hi
  ·cases he
 ·cases he
theorem wq_field{E:Value->World->Prop}{t:TypeId}{x v:AV}{i:Nat}(he:field? K.P t x i=.ok v){Q:Value->World->Prop}(hq:Q (v.ev ρ) w):wq K.P K.Ev E (Instr.field t (x.ev ρ) i) Q w:=by
 unfold field? at he
 simp only[bind_ok]at he
 obtain⟨D,hD,he⟩:=he
 split at he
 ·rename_i fs cs
  split at he
  ·rename_i f hf
   simp only[Instr.field,wq_bind,wq_underlying (under?_ok hD),hf,AV.ev,asAgg,wq_pure]
   exact wq_part he hq
  ·cases he
 ·cases he
theorem field?_in{P:Program}{t:TypeId}{x v:AV}{i:Nat}(he:field? P t x i=.ok v)(hx:x.In U):v.In U:=by
 unfold field? at he
 simp only[bind_ok]at he
 obtain⟨D,hD,he⟩:=he
 split at he
 ·split at he
  ·exact part?_in he hx
  ·cases he
 ·cases he
theorem wq_index{E:Value->World->Prop}{t:TypeId}{x i v:AV}(he:indexOp? K.P t x i=.ok v){Q:Value->World->Prop}(hq:Q (v.ev ρ) w):wq K.P K.Ev E (Instr.index t (x.ev ρ) (i.ev ρ)) Q w:=by
 unfold indexOp? at he
 simp only[bind_ok]at he
 obtain⟨D,hD,he⟩:=he
 split at he
 ·rename_i n elem cs k i
  split at he
  ·rename_i hlt
   simp only[bind_ok]at he
   obtain⟨s,hs,he⟩:=he
   simp only[Instr.index,AV.ev,IE.ev,asIntOf,wq_bind,wq_pure,wq_underlying (under?_ok hD)]
   simp only[wq_ite,wq_bind,wq_sizeOf hs]
   rw[if_pos ⟨by simp,by simpa using hlt⟩]
   have:(Int.ofNat i).toNat=i:=rfl
   rw[this]
   exact wq_part he hq
  ·cases he
 ·rename_i s k i
  split at he
  ·rename_i b hb
   rw[pure_ok]at he;subst he
   simp only[Instr.index,AV.ev,IE.ev,asIntOf,wq_bind,wq_pure,wq_underlying (under?_ok hD)]
   have hlt:i<s.data.toList.length:=(List.getElem?_eq_some_iff.1 hb).1
   have:(if 0≤Int.ofNat i then s[(Int.ofNat i).toNat]? else none)=some b:=by
    rw[if_pos (by simp)]
    have e:(Int.ofNat i).toNat=i:=rfl
    rw[e]
    have hsz:i<s.size:=by simpa using hlt
    rw[getElem?_pos s i hsz]
    have h2:=(List.getElem?_eq_some_iff.1 hb).2
    rw[<-h2];rfl
   rw[this]
   simp only[AV.ev,IE.ev]at hq
   exact hq
  ·cases he
 ·cases he
theorem indexOp?_in{P:Program}{t:TypeId}{x i v:AV}(he:indexOp? P t x i=.ok v)(hx:x.In U):v.In U:=by
 unfold indexOp? at he
 simp only[bind_ok]at he
 obtain⟨D,hD,he⟩:=he
 split at he
 ·split at he
  ·simp only[bind_ok]at he
   obtain⟨s,hs,he⟩:=he
   exact part?_in he hx
  ·cases he
 ·split at he
  ·rw[pure_ok]at he;subst he;trivial
  ·cases he
 ·cases he
theorem litNat?_ok{e:IE}{n:Nat}(h:litNat? e=.ok n):e=.lit (.ofNat n):=by
 unfold litNat? at h
 split at h
 ·cases h;rfl
 ·cases h
theorem bound?_ok{v:Option AV}{d n:Nat}(h:bound? v d=.ok n):(v=none∧n=d)∨∃k,v=some (.int k (.lit (.ofNat n))):=by
 unfold bound? at h
 split at h
 ·cases h;exact .inl ⟨rfl,rfl⟩
 ·obtain rfl:=litNat?_ok h;exact .inr ⟨_,rfl⟩
 ·cases h
theorem wq_sliceBound{E:Value->World->Prop}{k:IntKind}{n y:Nat}{code:BoundsCode}(hle:n≤y){Q:Nat->World->Prop}(hq:Q n w):wq K.P K.Ev E (Instr.sliceBound (.int k (Int.ofNat n)) y code) Q w:=by
 simp only[Instr.sliceBound,asIntOf,wq_bind,wq_pure,wq_ite]
 rw[if_pos ⟨by simp,by simpa using hle⟩]
 exact hq
theorem high?_ok{hi mx:Option AV}{len n:Nat}(h:high? hi mx len=.ok n):bound? hi len=.ok n∧(hi=none->mx=none):=by
 unfold high? at h
 split at h
 ·cases h
 ·rename_i hn
  refine⟨h,fun e=>?_⟩
  subst e
  cases mx with
  |none=>rfl
  |some v=>exact absurd rfl (hn _ rfl)
theorem wq_sliceBounds{E:Value->World->Prop}{isS:Bool}{len cap:Nat}{lo hi mx:Option AV}{l h m:Nat}(he:bounds? len cap lo hi mx=.ok (l,h,m)){Q:Nat×Nat×Nat->World->Prop}(hq:Q (l,h,m) w):
  wq K.P K.Ev E (Instr.sliceBounds isS len cap (lo.map (AV.ev ρ)) (hi.map (AV.ev ρ)) (mx.map (AV.ev ρ))) Q w:=by
 unfold bounds? at he
 simp only[bind_ok]at he
 obtain⟨m',hm,h',hh,l',hl,he⟩:=he
 split at he
 ·rename_i hle
  rw[pure_ok]at he
  cases he
  obtain⟨hmc,hhm,hlh⟩:=hle
  obtain⟨hh2,hhm0⟩:=high?_ok hh
  have low:∀{code:BoundsCode},(match lo.map (AV.ev ρ)with|some v=>wq K.P K.Ev E (Instr.sliceBound v h code) (fun a w=>Q (a,h,m) w) w|none=>Q (0,h,m) w):=by
   intro code
   rcases bound?_ok hl with⟨rfl,rfl⟩|⟨k,rfl⟩
   ·exact hq
   ·simp only[Option.map_some,AV.ev,IE.ev]
    exact wq_sliceBound hlh hq
  rcases bound?_ok hm with⟨rfl,rfl⟩|⟨k,rfl⟩
  ·rcases bound?_ok hh2 with⟨rfl,rfl⟩|⟨k,rfl⟩
   ·simp only[Instr.sliceBounds,Option.map_none,wq_bind,wq_pure]
    have:=low (code:=if(none:Option Value).isSome then .slice3C else .sliceB)
    revert this
    cases lo<;>first|exact id|(simp only[Option.map_some,Option.map_none,wq_bind,wq_pure];exact id)
   ·simp only[Instr.sliceBounds,Option.map_none,Option.map_some,AV.ev,IE.ev,wq_bind,wq_pure]
    refine wq_sliceBound hhm ?_
    have:=low (code:=if(none:Option Value).isSome then .slice3C else .sliceB)
    revert this
    cases lo<;>first|exact id|(simp only[Option.map_some,Option.map_none,wq_bind,wq_pure];exact id)
  ·cases hi with
   |none=>exact absurd (hhm0 rfl) (by simp)
   |some hv=>
    rcases bound?_ok hh2 with⟨e,_⟩|⟨k2,e⟩
    ·cases e
    ·cases e
     simp only[Instr.sliceBounds,Option.map_some,AV.ev,IE.ev,wq_bind,wq_pure]
     refine wq_sliceBound hmc ?_
     refine wq_sliceBound hhm ?_
     have:=low (code:=if(some (Value.int k (Int.ofNat m))).isSome then .slice3C else .sliceB)
     revert this
     cases lo<;>first|exact id|(simp only[Option.map_some,Option.map_none,wq_bind,wq_pure];exact id)
 ·cases he
theorem map_add_ev(ρ:Env)(a:Option AA)(n:Nat):(a.map (·.add n)).map (AA.ev ρ)=(a.map (AA.ev ρ)).map (·.add n):=by
 cases a with
 |none=>rfl
 |some a=>simp[AA.add_ev]
theorem wq_sliceAt{E:Value->World->Prop}{t:TypeId}{x v:AV}{lo hi mx:Option AV}(he:sliceOp? K.P t x lo hi mx=.ok v){Q:Value->World->Prop}(hq:Q (v.ev ρ) w):
  wq K.P K.Ev E (Instr.sliceAt t (x.ev ρ) (lo.map (AV.ev ρ)) (hi.map (AV.ev ρ)) (mx.map (AV.ev ρ))) Q w:=by
 unfold sliceOp? at he
 simp only[bind_ok]at he
 obtain⟨D,hD,he⟩:=he
 have hU:=under?_ok hD
 split at he
 ·rename_i elem a len cap
  simp only[bind_ok]at he
  obtain⟨n,hn,⟨l,h',m⟩,hb,s,hs,he⟩:=he
  obtain rfl:=litNat?_ok hn
  rw[pure_ok]at he;subst he
  simp only[Instr.sliceAt,wq_bind,wq_underlying hU,Instr.slice,AV.ev,IE.ev]
  refine wq_sliceBounds hb ?_
  simp only[wq_bind,wq_sizeOf hs,wq_pure]
  simp only[AV.ev,IE.ev]at hq
  have e1:(Int.ofNat (h'-l)).toNat=h'-l:=rfl
  have e2:(Int.ofNat (m-l)).toNat=m-l:=rfl
  rw[e1,e2]at hq
  by_cases hml:m=l
  ·rw[if_pos hml]at hq⊢;exact hq
  ·rw[if_neg hml]at hq⊢;rw[map_add_ev]at hq;exact hq
 ·rename_i s
  split at he
  ·cases he
  ·simp only[bind_ok]at he
   obtain⟨⟨l,h',m⟩,hb,he⟩:=he
   rw[pure_ok]at he;subst he
   simp only[Instr.sliceAt,wq_bind,wq_underlying hU,Instr.slice,AV.ev,Option.map_none]
   simp only[Option.isSome_none,Bool.false_eq_true,if_false]
   have:=wq_sliceBounds (K:=K) (ρ:=ρ) (w:=w) (E:=E) (isS:=false) hb (Q:=fun r w=>Q (.string (s.extract r.1 r.2.1)) w) hq
   rw[wq_bind]
   exact this
 ·rename_i n elem a
  simp only[bind_ok]at he
  obtain⟨⟨l,h',m⟩,hb,s,hs,he⟩:=he
  rw[pure_ok]at he;subst he
  simp only[Instr.sliceAt,wq_bind,wq_underlying hU,AV.ev,Option.map_some,Instr.sureAddr,wq_pure]
  refine wq_sliceBounds hb ?_
  simp only[wq_bind,wq_sizeOf hs,wq_pure]
  simp only[AV.ev,IE.ev]at hq
  have e1:(Int.ofNat (h'-l)).toNat=h'-l:=rfl
  have e2:(Int.ofNat (m-l)).toNat=m-l:=rfl
  rw[e1,e2]at hq
  by_cases hml:m=l
  ·rw[if_pos hml]at hq⊢;exact hq
  ·rw[if_neg hml]at hq⊢;simp only[Option.map_some,AA.add_ev]at hq;exact hq
 ·cases he
theorem sliceOp?_in{P:Program}{t:TypeId}{x v:AV}{lo hi mx:Option AV}(he:sliceOp? P t x lo hi mx=.ok v)(hx:x.In U):v.In U:=by
 unfold sliceOp? at he
 simp only[bind_ok]at he
 obtain⟨D,hD,he⟩:=he
 split at he
 ·rename_i elem a len cap
  simp only[bind_ok]at he
  obtain⟨n,hn,⟨l,h',m⟩,hb,s,hs,he⟩:=he
  rw[pure_ok]at he;subst he
  refine⟨?_,trivial,trivial⟩
  split
  ·exact hx.1
  ·cases a with
   |none=>trivial
   |some a=>exact AA.add_in _ hx.1
 ·split at he
  ·cases he
  ·simp only[bind_ok]at he
   obtain⟨⟨l,h',m⟩,hb,he⟩:=he
   rw[pure_ok]at he;subst he;trivial
 ·rename_i n elem a
  simp only[bind_ok]at he
  obtain⟨⟨l,h',m⟩,hb,s,hs,he⟩:=he
  rw[pure_ok]at he;subst he
  refine⟨?_,trivial,trivial⟩
  split
  ·exact hx
  ·exact AA.add_in _ hx
 ·cases he
end
end Go.Proofs.Ytmobbajggkjpgaa.SX
