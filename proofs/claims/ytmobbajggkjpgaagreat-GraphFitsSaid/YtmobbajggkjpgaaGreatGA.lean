/-
  A symbolic run of the model, proved sound, and the walk of the code: a text of its parts. Conditions: none.
-/
import GoSem.Step
import Derived.Orders
import Derived.Conc.Own5
import Derived.Laws.Sem
import Derived.Conc.Events
import Derived.Laws.StructEq
set_option linter.unusedSectionVars false
set_option maxRecDepth 100000
set_option linter.unusedVariables false
set_option linter.unusedSimpArgs false
namespace Go.Proofs.YtmobbajggkjpgaaGreat.SX
open _root_.List renaming getElem?_eq_getElem->aa,mem_cons_of_mem->af,mem_cons->ai,mem_cons_self->aj,getElem?_eq_some_iff->ak,length_append->an,mem_of_getElem?->az,length_cons->aC,getElem?_append_left->aK,map_cons->aU,mem_map->bf,map_congr_left->bh
open _root_.Bool renaming and_eq_true->aq,false_eq_true->aH
open _root_.Option.some renaming inj->au
open _root_.Option renaming map_some->av,map_none->aM
open _root_.Nat renaming le_trans->ax,le_refl->ay,zero_add->aF,eq_of_beq_eq_true->aJ
open _root_.Array renaming getElem?_eq_getElem->aS,getElem?_toList->aY
def zK(want:Array (String×TypeId))(got:Array Method):Bool:=want.toList.any fun x=>!got.any fun m=>m.name==x.1&&m.sig==x.2
theorem wN{l:List String}(h:l≠[]):∃s,Instr.least l=some s:=by
 cases l with
 |nil=>exact absurd rfl h
 |cons s r=>exact⟨_,rfl⟩
theorem sD{want:Array (String×TypeId)}{got:Array Method}(h:zK want got=false):Instr.missingMethod want got=none:=by
 have:want.toList.filter (fun(x:String×TypeId)=>!got.any fun m=>m.name==x.1&&m.sig==x.2)=[]:=by apply List.filter_eq_nil_iff.2;intro x hx;have:=List.any_eq_false.1 h x hx;exact this
 unfold Instr.missingMethod;simp only[this];rfl
theorem JA{E9:List String}(p:String->Bool)(f:String->String)(UZ:E9≠[]):∃m,(match E9.partition p with|(E_,exported)=>(Instr.least exported <|> Instr.least (E_.map f)))=some m:=by
 rw[List.partition_eq_filter_filter];dsimp only;by_cases hx:E9.filter (not ∘ p)=[]
 ·rw[hx];have:E9.filter p≠[]:=by
   intro hy;obtain⟨s,hs⟩:=List.exists_mem_of_ne_nil _ UZ;have a:=List.filter_eq_nil_iff.1 hx s hs;have b:=List.filter_eq_nil_iff.1 hy s hs;simp at a b;simp[b]at a
  obtain⟨m,h2⟩:=wN (l:=(E9.filter p).map f) (by simpa using this);exact⟨m,by rw[h2];rfl⟩
 ·obtain⟨m,h2⟩:=wN hx;exact⟨m,by rw[h2];rfl⟩
theorem sE{want:Array (String×TypeId)}{got:Array Method}(h:zK want got=true):∃m,Instr.missingMethod want got=some m:=by
 have hne:want.toList.filter (fun(x:String×TypeId)=>!got.any fun m=>m.name==x.1&&m.sig==x.2)≠[]:=by obtain⟨x,hx,hp⟩:=List.any_eq_true.1 h;intro he;have:=List.filter_eq_nil_iff.1 he x hx;exact this hp
 unfold Instr.missingMethod;generalize hm:(want.toList.filter (fun(x:String×TypeId)=>!got.any fun m=>m.name==x.1&&m.sig==x.2)).map (·.1)=E9;have UZ:E9≠[]:=by rw[<-hm];simpa using hne
 exact JA _ _ UZ
theorem za(want:Array (String×TypeId))(got:Array Method):(Instr.missingMethod want got).isNone=!zK want got:=by
 cases h:zK want got with
 |false=>rw[sD h];rfl
 |true=>obtain⟨m,hm⟩:=sE h;rw[hm];rfl
def pg(T V:TypeId):Sem Bool:=do
 Extern.Rtype.noPackMethods "a method set held against an interface's list" V
 Extern.Rtype.noPackMethods "a method set held against an interface's list" T
 match(<-Extern.Rtype.under T).2.desc,(<-Extern.Rtype.under V).2.desc with
 |.interface want,.interface got=>pure (want.all got.contains)
 |.interface want,_=>pure (!zK want (<-typeInfo V).methods)
 |_,_=>pure false
theorem wO:pg=Extern.Rtype.implements:=by funext T V;unfold pg Extern.Rtype.implements;simp only[za];rfl
noncomputable section
inductive SE where
 |lit(s:ByteArray)
 |var(i:Nat)
 |cat(a b:SE)
def SE.fe:SE->SE->Bool
 |.lit a,.lit b=>decide (a.data=b.data)
 |.var a,.var b=>a==b
 |.cat a b,.cat a' b'=>a.fe a'&&b.fe b'
 |_,_=>false
inductive IE where
 |lit(n:Int)
 |var(i:Nat)
 |op(o:BinOp)(k:IntKind)(a b:IE)
 |conv(k:IntKind)(a:IE)
 |plus(a b:IE)
 |times(a b:IE)
 |tn(a:IE)
 |jH(a:SE)
def IE.fe:IE->IE->Bool
 |.lit a,.lit b=>a==b
 |.var a,.var b=>a==b
 |.op o k a b,.op o' k' a' b'=>decide (o=o')&&decide (k=k')&&a.fe a'&&b.fe b'
 |.conv k a,.conv k' a'=>decide (k=k')&&a.fe a'
 |.plus a b,.plus a' b'=>a.fe a'&&b.fe b'
 |.times a b,.times a' b'=>a.fe a'&&b.fe b'
 |.tn a,.tn a'=>a.fe a'
 |.jH a,.jH a'=>a.fe a'
 |_,_=>false
def iz(o:BinOp)(k:IntKind)(x y:Int):Int:=
 match o with
 |.add=>k.wrap (x+y)
 |.sub=>k.wrap (x-y)
 |.mul=>k.wrap (x*y)
 |.quo=>k.wrap (x.tdiv y)
 |.rem=>x.tmod y
 |.and=>k.wrap ((BitVec.ofInt k.bits x&&& BitVec.ofInt k.bits y).toNat:Int)
 |.or=>k.wrap ((BitVec.ofInt k.bits x ||| BitVec.ofInt k.bits y).toNat:Int)
 |.xor=>k.wrap ((BitVec.ofInt k.bits x ^^^ BitVec.ofInt k.bits y).toNat:Int)
 |.andNot=>k.wrap ((BitVec.ofInt k.bits x&&& ~~~(BitVec.ofInt k.bits y)).toNat:Int)
 |.shl=>k.wrap (x*2 ^ (min y.toNat k.bits))
 |.shr=>x.fdiv (2 ^ (min y.toNat k.bits))
 |_=>0
inductive BE where
 |lit(b:Bool)
 |var(i:Nat)
 |cmp(o:BinOp)(a b:IE)
 |seq(n:Bool)(a b:SE)
def BE.fe:BE->BE->Bool
 |.lit a,.lit b=>a==b
 |.var a,.var b=>a==b
 |.cmp o a b,.cmp o' a' b'=>decide (o=o')&&a.fe a'&&b.fe b'
 |.seq n a b,.seq n' a' b'=>n==n'&&a.fe a'&&b.fe b'
 |_,_=>false
def Ci(o:BinOp)(x y:Int):Bool:=
 match o with
 |.eql=>x==y
 |.neq=>x != y
 |.lss=>decide (x<y)
 |.leq=>decide (x≤y)
 |.gtr=>decide (x>y)
 |.geq=>decide (x≥y)
 |_=>false
inductive BR where
 |rF(g:Nat)
 |dyn(i:Nat)
def BR.fe:BR->BR->Bool
 |.rF a,.rF b=>a==b
 |.dyn a,.dyn b=>a==b
 |_,_=>false
structure AA where
 blk:BR
 off:IE
def AA.fe(a b:AA):Bool:=a.blk.fe b.blk&&a.off.fe b.off
inductive AV where
 |bool(b:BE)
 |int(k:IntKind)(e:IE)
 |str(s:ByteArray)
 |ptr(a:Option AA)
 |slice(a:Option AA)(len cap:IE)
 |map(r:Option BR)
 |chan(r:Option BR)
 |func(fn:Fn)(first captured:List AV)
 |nilFunc
 |iface(t:TypeId)(v:AV)
 |nilIface
 |agg(cs:List AV)
 |tuple(vs:List AV)
 |bF(i:Nat)
 |raw(v:Value)
 |ss(e:SE)
def rG{α:Type}(f:α->α->Bool):Option α->Option α->Bool
 |none,none=>true
 |some a,some b=>f a b
 |_,_=>false
mutual
def AV.fe:AV->AV->Bool
 |.bool a,.bool b=>a.fe b
 |.int k a,.int k' b=>decide (k=k')&&a.fe b
 |.str a,.str b=>decide (a.data=b.data)
 |.ptr a,.ptr b=>rG AA.fe a b
 |.slice a l c,.slice a' l' c'=>rG AA.fe a a'&&l.fe l'&&c.fe c'
 |.map a,.map b=>rG BR.fe a b
 |.chan a,.chan b=>rG BR.fe a b
 |.func f x y,.func f' x' y'=>decide (f=f')&&AV.vR x x'&&AV.vR y y'
 |.nilFunc,.nilFunc=>true
 |.iface t v,.iface t' v'=>t==t'&&v.fe v'
 |.nilIface,.nilIface=>true
 |.agg x,.agg y=>AV.vR x y
 |.tuple x,.tuple y=>AV.vR x y
 |.bF i,.bF j=>i==j
 |.ss a,.ss b=>a.fe b
 |_,_=>false
def AV.vR:List AV->List AV->Bool
 |[],[]=>true
 |a::x,b::y=>a.fe b&&AV.vR x y
 |_,_=>false
end
inductive TT where
 |leaf
 |node(v:AV)(l r:TT)
def cL:AV:=.tuple []
def TT.get(t:TT):Nat->AV:=
 TT.rec (fun _=>cL) (fun v _ _ gl gr n=>Nat.rec v (fun m _=>Bool.rec (gl (m / 2)) (gr (m / 2)) (Nat.beq (m % 2) 0)) n) t
def TT.set(v:AV)(f:Nat):TT->Nat->TT:=
 Nat.rec (fun t _=>t) (fun _ ih t n=>
  TT.rec (Nat.rec (.node v .leaf .leaf) (fun m _=>Bool.rec (.node cL (ih .leaf (m / 2)) .leaf) (.node cL .leaf (ih .leaf (m / 2))) (Nat.beq (m % 2) 0)) n)
   (fun u l r _ _=>Nat.rec (.node v l r) (fun m _=>Bool.rec (.node u (ih l (m / 2)) r) (.node u l (ih r (m / 2))) (Nat.beq (m % 2) 0)) n) t) f
def TT.fe:TT->TT->Bool
 |.leaf,.leaf=>true
 |.node v l r,.node v' l' r'=>v.fe v'&&l.fe l'&&r.fe r'
 |_,_=>false
def TT.fill:List AV->Nat->TT->TT
 |[],_,t=>t
 |v::l,n,t=>TT.fill l (n+1) (t.set v 16 n)
structure dN where
 bs:List (BE×Bool):=[]
 is:List (IE×IE):=[]
 mem:List (AA×AV):=[]
 fns:List FuncId:=[]
 ext:List (FuncId×(Array Value->Sem Value)):=[]
 afa:List FuncId:=[]
 ap8:List (FuncId×Bool):=[]
abbrev M:=Except String
def look{α β:Type}(eq:α->α->Bool)(a:α)(l:List (α×β)):Option β:=List.rec none (fun p _ ih=>Bool.rec ih (some p.2) (eq a p.1)) l
def IE.fold:IE->IE
 |.op o k (.lit a) (.lit b)=>.lit (iz o k a b)
 |.conv k (.lit a)=>.lit (k.wrap a)
 |.plus (.lit a) (.lit b)=>.lit (a+b)
 |.times (.lit a) (.lit b)=>.lit (a*b)
 |.tn (.lit a)=>.lit a.toNat
 |.jH (.lit s)=>.lit (.ofNat s.size)
 |e=>e
def dN.int(O:dN)(e:IE):IE:=
 match e.fold with
 |.lit n=>.lit n
 |e=>(look IE.fe e O.is).getD e
def BE.fold:BE->BE
 |.cmp o (.lit a) (.lit b)=>.lit (Ci o a b)
 |.seq n (.lit a) (.lit b)=>.lit ((a.toList==b.toList) != n)
 |b=>b
def dN.bool(O:dN)(b:BE):BE:=
 match b.fold with
 |.lit n=>.lit n
 |b=>match look BE.fe b O.bs with
  |some v=>.lit v
  |none=>b
def dN.dec(O:dN)(b:BE):M Bool:=
 match O.bool b with
 |.lit v=>.ok v
 |_=>.error "a test is open"
inductive bQ where
 |cells(cs:List AV)(elem:TypeId)
 |row(cs:List AV)(elem:TypeId)(cap:IE)
 |gp(cs:List AV)(elem:TypeId)(ls:List Nat)
 |map(es:List (AV×AV))
 |chan
 |jI(s:Nat)(n:IE)(fs:List (AA×Option AV))(ws:List (AV×AV))
 |pre(lk:Bool)(s:Nat)(n:IE)(fs ws:List (IE×AV))(cs:List AV)(elem:TypeId)(cap:IE)
structure AH where
 hp:List (Nat×bQ)
 nb:Nat
 lim:Nat
def cG(i:Nat)(l:List (Nat×bQ)):Option bQ:=List.rec none (fun p _ ih=>Bool.rec ih (some p.2) (Nat.beq i p.1)) l
def wP(i:Nat)(b:bQ)(l:List (Nat×bQ)):List (Nat×bQ):=List.rec [] (fun p t ih=>Bool.rec (p::ih) ((p.1,b)::t) (Nat.beq i p.1)) l
def jw(i:Nat)(l:List (Nat×bQ)):List (Nat×bQ):=List.rec [] (fun p t ih=>Bool.rec (p::ih) t (Nat.beq i p.1)) l
def rH(i:Nat)(b:bQ)(l:List (Nat×bQ)):List (Nat×bQ):=List.rec [(i,b)] (fun p t ih=>Bool.rec (p::ih) ((i,b)::p::t) (Nat.ble (p.1+1) i)) l
def alloc?(h:AH)(b:bQ):M (AV×AH):=
 match h with
 |⟨hp,nb,lim⟩=>if nb<lim then .ok (.ptr (some ⟨.dyn nb,.lit 0⟩),⟨rH nb b hp,nb+1,lim⟩)else .error "new numbers"
def allocO?(h:AH)(b:bQ)(mk:BR->AV):M (AV×AH):=
 match h with
 |⟨hp,nb,lim⟩=>if nb<lim then .ok (mk (.dyn nb),⟨rH nb b hp,nb+1,lim⟩)else .error "new numbers"
def allocSlice?(h:AH)(b:bQ)(len cap:IE):M (AV×AH):=
 match h with
 |⟨hp,nb,lim⟩=>if nb<lim then .ok (.slice (some ⟨.dyn nb,.lit 0⟩) len cap,⟨rH nb b hp,nb+1,lim⟩)else .error "new numbers"
def allocRow?(h:AH)(old:Option Nat)(cs:List AV)(elem:TypeId)(len:Nat):M (AV×AH):=
 match h with
 |⟨hp,nb,lim⟩=>if nb<lim then
   .ok (.slice (some ⟨.dyn nb,.lit 0⟩) (.lit (.ofNat len)) (.var nb),⟨rH nb (.row cs elem (.var nb)) (match old with|some i=>jw i hp|none=>hp),nb+1,lim⟩)
  else .error "new numbers"
def Qo:Value->AV
 |.bool b=>.bool (.lit b)
 |.int k n=>.int k (.lit n)
 |.string s=>.str s
 |.pointer none=>.ptr none
 |.pointer (some ⟨b,o,none⟩)=>.ptr (some ⟨.rF b,.lit o⟩)
 |.slice none l c=>.slice none (.lit l) (.lit c)
 |.map none=>.map none
 |.chan none=>.chan none
 |.nilFunc=>.nilFunc
 |.nilIface=>.nilIface
 |v=>.raw v
def sF:Value->AV
 |.iface t v=>.iface t (Qo v)
 |v=>Qo v
def U1:Value->AV
 |.agg cs=>.agg (cs.toList.map Qo)
 |.iface t (.agg cs)=>.iface t (.agg (cs.toList.map Qo))
 |v=>sF v
def ofValue:Value->AV
 |.tuple vs=>.tuple (vs.toList.map U1)
 |v=>U1 v
mutual
def AV.val?:AV->Option Value
 |.bool (.lit b)=>some (.bool b)
 |.int k (.lit n)=>some (.int k n)
 |.str s=>some (.string s)
 |.ptr none=>some (.pointer none)
 |.ptr (some ⟨.rF g,.lit (.ofNat o)⟩)=>some (.pointer (some ⟨g,o,none⟩))
 |.slice none (.lit (.ofNat l)) (.lit (.ofNat c))=>some (.slice none l c)
 |.map none=>some (.map none)
 |.chan none=>some (.chan none)
 |.func f x y=>match AV.vals? x,AV.vals? y with
  |some x,some y=>some (.func f x.toArray y.toArray)
  |_,_=>none
 |.nilFunc=>some .nilFunc
 |.iface t v=>match v.val? with
  |some v=>some (.iface t v)
  |none=>none
 |.nilIface=>some .nilIface
 |.agg x=>match AV.vals? x with
  |some x=>some (.agg x.toArray)
  |none=>none
 |.tuple x=>match AV.vals? x with
  |some x=>some (.tuple x.toArray)
  |none=>none
 |.raw v=>some v
 |_=>none
def AV.vals?:List AV->Option (List Value)
 |[]=>some []
 |a::l=>match a.val?,AV.vals? l with
  |some a,some l=>some (a::l)
  |_,_=>none
end
def gd{α:Type}(P:Program):Sem α->Option α
 |.pure a=>some a
 |.program k=>gd P (k P)
 |_=>none
def AV.cells?:AV->M (List AV)
 |.agg cs=>.ok cs
 |.raw _=>.error "cells of a raw value"
 |.bF _=>.error "cells of a veiled value"
 |v=>.ok [v]
def AV.oneCell?:AV->Bool
 |.agg _|.tuple _|.raw _|.bF _=>false
 |_=>true
def zb(a:IE)(n:Nat):IE:=
 match a with
 |.lit (.ofNat m)=>.lit (.ofNat (m+n))
 |_=>if n=0 then a else .plus (.tn a) (.lit (.ofNat n))
def AA.add(a:AA)(n:Nat):AA:={a with off:=zb a.off n}
def bQ.cs:bQ->List AV
 |.cells cs _=>cs
 |.row cs _ _=>cs
 |.gp cs _ _=>cs
 |.map _=>[]
 |.chan=>[]
 |.jI _ _ _ _=>[]
 |.pre _ _ _ _ _ _ _ _=>[]
def fI:IE->IE×Nat
 |.plus a b=>match a,b with
  |.tn c,.lit (.ofNat j)=>((fI c).1,(fI c).2+j)
  |a,b=>(.plus a b,0)
 |.lit n=>match n with
  |.ofNat j=>(.lit 0,j)
  |n=>(.lit n,0)
 |e=>(e,0)
def sameAt(a b:IE):Bool:=(fI a).1.fe (fI b).1&&Nat.beq (fI a).2 (fI b).2
def Bg(a b:IE):Bool:=(fI a).1.fe (fI b).1&&!(Nat.beq (fI a).2 (fI b).2)
def JB(a:IE):List (IE×AV)->Option AV
 |[]=>none
 |p::l=>match sameAt a p.1 with
  |true=>some p.2
  |false=>JB a l
def Fb(a:IE)(fs:List (IE×AV)):List (IE×AV)->Option AV
 |[]=>JB a fs
 |p::l=>match sameAt a p.1 with
  |true=>some p.2
  |false=>match Bg a p.1 with
   |true=>Fb a fs l
   |false=>none
def bQ.LW(a:IE):bQ->Option AV
 |.pre _ _ _ fs ws _ _ _=>Fb a fs ws
 |_=>none
def bQ.LX(a:IE)(v:AV):bQ->Option bQ
 |.pre lk s n fs ws cs e c=>match lk,Fb a fs ws with
  |false,some _=>some (.pre false s n fs ((a,v)::ws) cs e c)
  |_,_=>none
 |_=>none
def bQ.isChan:bQ->Bool
 |.chan=>true
 |_=>false
def bQ.nS:bQ->Bool
 |.map _=>false
 |.chan=>false
 |.jI _ _ _ _=>false
 |_=>true
def bQ.put(b:bQ)(cs:List AV):bQ:=
 match b with
 |.cells _ e=>.cells cs e
 |.row _ e c=>.row cs e c
 |.gp _ e l=>.gp cs e l
 |.map es=>.map es
 |.chan=>.chan
 |.jI s n fs ws=>.jI s n fs ws
 |.pre lk s n fs ws cs e c=>.pre lk s n fs ws cs e c
def bQ.rI(b:bQ)(n:Nat):Bool:=
 match b with
 |.gp _ _ ls=>ls.contains n
 |.chan=>true
 |_=>false
def zL(O:dN)(h:AH)(a:AA):M AV:=
 let old:M AV:=match look AA.fe a O.mem with
  |some v=>.ok v
  |none=>.error "load an unknown cell"
 match a.blk,a.off with
 |.dyn i,.lit (.ofNat n)=>
  match cG i h.hp with
  |some b=>match b.cs[n]? with
   |some v=>.ok v
   |none=>.error "load out of the block"
  |none=>old
 |_,_=>old
def preAt?(h:AH)(a:AA):Option AV:=
 match a.blk with
 |.dyn i=>match cG i h.hp with
  |some b=>b.LW a.off
  |none=>none
 |_=>none
def sG(O:dN)(h:AH)(a:AA):M AV:=
 match zL O h a with
 |.ok v=>.ok v
 |.error e=>match preAt? h a with
  |some v=>.ok v
  |none=>.error e
def kW(O:dN)(h:AH)(a:AA):Nat->Nat->M (List AV)
 |0,_=>.ok []
 |n+1,j=>match sG O h (a.add j)with
  |.ok v=>match kW O h a n (j+1)with
   |.ok l=>.ok (v::l)
   |.error e=>.error e
  |.error e=>.error e
def oz(h:AH)(a:AA)(v:AV):M AH:=
 match a.blk,a.off with
 |.dyn i,.lit (.ofNat n)=>
  match cG i h.hp with
  |some b=>
   if n<b.cs.length&&v.oneCell?&&!(b.rI n)then .ok {h with hp:=wP i (b.put (b.cs.set n v)) h.hp}
   else .error "store out of the block or no cells value"
  |none=>.error "store not an own block"
 |_,_=>.error "store not an own block"
def preSet?(h:AH)(a:AA)(v:AV):Option AH:=
 match a.blk with
 |.dyn i=>match cG i h.hp with
  |some b=>match b.LX a.off v with
   |some b'=>match v.oneCell? with
    |true=>some {h with hp:=wP i b' h.hp}
    |false=>none
   |none=>none
  |none=>none
 |_=>none
def gT(h:AH)(a:AA)(v:AV):M AH:=
 match oz h a v with
 |.ok h=>.ok h
 |.error e=>match preSet? h a v with
  |some h=>.ok h
  |none=>.error e
def kF(h:AH)(a:AA):List AV->Nat->M AH
 |[],_=>.ok h
 |v::l,j=>match gT h (a.add j) v with
  |.ok h=>kF h a l (j+1)
  |.error e=>.error e
def isAgg?(P:Program)(t:TypeId):M Bool:=
 match P.underlying t with
 |some (.struct _)|some (.array _ _)=>.ok true
 |some _=>.ok false
 |none=>.error "no such type"
def bytesOf?(P:Program)(t:TypeId):M Nat:=
 match P.info? t with
 |some i=>.ok i.bytes
 |none=>.error "no such type"
def sizeOf?(P:Program)(t:TypeId):M Nat:=
 match P.info? t with
 |some i=>.ok i.size
 |none=>.error "no such type"
def zero?(P:Program)(t:TypeId):M AV:=
 match P.info? t with
 |some i=>match i.zero with
  |some v=>.ok (ofValue v)
  |none=>.error "no zero value"
 |none=>.error "no such type"
def under?(P:Program)(t:TypeId):M TypeDesc:=
 match P.underlying t with
 |some d=>.ok d
 |none=>.error "no such type"
def loadVar?(P:Program)(O:dN)(h:AH)(t:TypeId)(a:AA):M AV:=do
 if<-isAgg? P t then
  let l<-kW O h a (<-sizeOf? P t) 0
  pure (.agg l)
 else sG O h a
def storeVar?(P:Program)(h:AH)(t:TypeId)(a:AA)(v:AV):M AH:=do
 let cs<-v.cells?
 if cs.length=(<-sizeOf? P t)then kF h a cs 0 else .error "storeVar size"
def part?(P:Program)(t:TypeId)(cs:List AV)(off:Nat):M AV:=do
 if<-isAgg? P t then
  let n<-sizeOf? P t
  if off+n≤cs.length then pure (.agg ((cs.drop off).take n))else .error "part size"
 else match cs[off]? with
  |some v=>.ok v
  |none=>.error "part no such cell"
inductive jE where
 |fn(fn:Fn)(captured:List AV)
 |builtin(b:Builtin)(argTypes:Array TypeId)(type:TypeId)(consts:Array Bool)
structure AD where
 target:jE
 args:List AV
inductive AN where
 |value(v:AV)
 |skip
 |enter(f:FuncId)(args:List AV)
 |defer(d:AD)
 |recover
 |panic(v:AV)
def kX(r:M AV)(h:AH):M (AN×AH):=
 match r with
 |.ok v=>.ok (.value v,h)
 |.error e=>.error e
def kR(r:M (AV×AH)):M (AN×AH):=
 match r with
 |.ok (v,h)=>.ok (.value v,h)
 |.error e=>.error e
def wQ(r:M AH):M (AN×AH):=
 match r with
 |.ok h=>.ok (.skip,h)
 |.error e=>.error e
def sureAddr?:AV->M AA
 |.ptr (some a)=>.ok a
 |_=>.error "an address expected"
def litNat?:IE->M Nat
 |.lit (.ofNat n)=>.ok n
 |_=>.error "a literal count expected"
def setAt(l:List AV)(off:Nat):List AV->List AV
 |[]=>l
 |v::vs=>setAt (l.set off v) (off+1) vs
def fill?(place:Nat->Option (Nat×Nat))(cells:List AV):List (Nat×AV)->M (List AV)
 |[]=>.ok cells
 |(i,v)::rest=>
  match place i with
  |none=>.error "fill no such place"
  |some (off,size)=>match v.cells? with
   |.ok cs=>if cs.length=size∧off+cs.length≤cells.length then fill? place (setAt cells off cs) rest else .error "fill size"
   |.error e=>.error e
def Cj(n:Nat)(l:List AV):List AV:=
 match n with
 |0=>[]
 |n+1=>l++Cj n l
def eqAll?(P:Program)(eq:TypeId->AV->AV->M BE)(xs ys:List AV):List Field->M BE
 |[]=>.ok (.lit true)
 |f::l=>do
  if f.name= "_" then .error " a blank field" else
  let a<-part? P f.type xs f.offset;let b<-part? P f.type ys f.offset
  match<-eq f.type a b with
  |.lit true=>eqAll? P eq xs ys l
  |.lit false=>.ok (.lit false)
  |c=>match l with
   |[]=>.ok c
   |_=>.error " an open field"
def eq?(P:Program)(O:dN)(h:AH):Nat->TypeId->AV->AV->M BE
 |0,_,_,_=>.error " depth"
 |d+1,t,x,y=>do
  match<-under? P t,x,y with
  |.bool,.bool a,.bool b=>match O.bool a,O.bool b with
   |.lit a,.lit b=>pure (.lit (a==b))
   |_,_=>.error " an open truth value"
  |.int _,.int k a,.int k' b=>if k=k' then pure (O.bool (.cmp .eql a b))else .error " kinds"
  |.string,.str a,.str b=>pure (.lit (a==b))
  |.string,.ss a,.ss b=>pure (O.bool (.seq false a b))
  |.string,.ss a,.str b=>pure (O.bool (.seq false a (.lit b)))
  |.string,.str a,.ss b=>pure (O.bool (.seq false (.lit a) b))
  |.pointer _,.ptr none,.ptr b=>pure (.lit b.isNone)
  |.pointer _,.ptr (some _),.ptr none=>pure (.lit false)
  |.pointer e,.ptr (some a),.ptr (some b)=>do
   if(<-sizeOf? P e)=0 then .error " pointers to nothing" else
   match a.blk,a.off,b.blk,b.off with
   |.dyn i,.lit (.ofNat m),.dyn j,.lit (.ofNat n)=>
    if i==j then pure (.lit (m==n))
    else match cG i h.hp,cG j h.hp with
     |some b,some c=>if b.nS&&c.nS then pure (.lit false)else .error " pointers to objects"
     |_,_=>.error " pointers to unknown blocks"
   |.rF i,.lit (.ofNat m),.rF j,.lit (.ofNat n)=>
    if i==j then pure (.lit (m==n))else .error " pointers to two variables"
   |_,_,_,_=>.error " pointers"
  |.interface _,.nilIface,.nilIface=>pure (.lit true)
  |.interface _,.nilIface,.iface _ _=>pure (.lit false)
  |.interface _,.iface _ _,.nilIface=>pure (.lit false)
  |.interface _,.iface tx vx,.iface ty vy=>
   if tx==ty then
    match P.info? tx with
    |some i=>if i.comparable then eq? P O h d tx vx vy else .error " uncomparable"
    |none=>.error " type"
   else pure (.lit false)
  |.slice _,.slice none _ _,.slice b _ _=>pure (.lit b.isNone)
  |.slice _,.slice (some _) _ _,.slice none _ _=>pure (.lit false)
  |.map _ _,.map none,.map b=>pure (.lit b.isNone)
  |.map _ _,.map (some _),.map none=>pure (.lit false)
  |.func _ _ _,.nilFunc,.nilFunc=>pure (.lit true)
  |.func _ _ _,.nilFunc,.func _ _ _=>pure (.lit false)
  |.func _ _ _,.func _ _ _,.nilFunc=>pure (.lit false)
  |.chan _ _,.chan none,.chan b=>pure (.lit b.isNone)
  |.chan _ _,.chan (some _),.chan none=>pure (.lit false)
  |.struct fs,.agg xs,.agg ys=>if P.stoodInHeld t then .error " a struct that stands in" else eqAll? P (eq? P O h d) xs ys fs.toList
  |_,_,_=>.error " the operands"
def vS:BE->M BE
 |.lit b=>.ok (.lit (!b))
 |.cmp .eql a b=>.ok (.cmp .neq a b)
 |.cmp .neq a b=>.ok (.cmp .eql a b)
 |.cmp .lss a b=>.ok (.cmp .geq a b)
 |.cmp .geq a b=>.ok (.cmp .lss a b)
 |.cmp .gtr a b=>.ok (.cmp .leq a b)
 |.cmp .leq a b=>.ok (.cmp .gtr a b)
 |.seq n a b=>.ok (.seq (!n) a b)
 |_=>.error "not of an open truth value"
def isConst?:Operand->Bool
 |.const _=>true
 |_=>false
def eqGuard?(P:Program)(op:BinOp)(t:TypeId)(x y:Operand)(a b:AV):M Unit:=
 match op with
 |.eql|.neq=>
  match a,b with
  |.nilIface,.nilIface=>if isConst? x||isConst? y then .ok ()else
   match P.underlying t with
   |some (.interface ms)=>if ms.isEmpty then .ok ()else .error " two nil values"
   |_=>.error " two nil values"
  |.agg _,.agg _=>if P.eqGuardType P.depth t then .error " structs with interface values" else .ok ()
  |.raw _,_=>.error " raw"
  |_,.raw _=>.error " raw"
  |.bF _,_=>.error " veiled"
  |_,.bF _=>.error " veiled"
  |_,_=>.ok ()
 |_=>.ok ()
def intArith?(o:BinOp):Bool:=
 match o with
 |.add|.sub|.mul|.and|.or|.xor|.andNot=>true
 |_=>false
def cmp?(o:BinOp):Bool:=
 match o with
 |.eql|.neq|.lss|.leq|.gtr|.geq=>true
 |_=>false
def sOp?(O:dN)(o:BinOp)(a b:SE):M AV:=
 match o with
 |.eql=>.ok (.bool (O.bool (.seq false a b)))
 |.neq=>.ok (.bool (O.bool (.seq true a b)))
 |.add=>match O.dec (.cmp .leq (.jH (.cat a b)) (.lit 4611686018427387904))with
  |.ok true=>.ok (.ss (.cat a b))
  |.ok false=>.error "binOp long"
  |.error e=>.error e
 |_=>.error "binOp strings"
def binOp?(P:Program)(O:dN)(h:AH)(o:BinOp)(t:TypeId)(x y:AV):M AV:=do
 match x,y with
 |.int k a,.int k' b=>
  match o with
  |.shl|.shr=>if<-O.dec (.cmp .lss b (.lit 0))then .error "shift negative" else pure (.int k (O.int (.op o k a b)))
  |.quo|.rem=>if k=k' then(if<-O.dec (.cmp .eql b (.lit 0))then .error "division by nought" else pure (.int k (O.int (.op o k a b))))else .error "kinds"
  |_=>if k=k' then(if intArith? o then pure (.int k (O.int (.op o k a b)))else if cmp? o then pure (.bool (O.bool (.cmp o a b)))else .error "binOp int")else .error "kinds"
 |.str a,.str b=>match o with
  |.eql=>pure (.bool (.lit (a.toList==b.toList)))
  |.neq=>pure (.bool (.lit (!(a.toList==b.toList))))
  |.add=>if a.size+b.size≤1048576 then pure (.str (a++b))else .error "binOp long"
  |_=>.error "binOp strings"
 |.ss a,.ss b=>sOp? O o a b
 |.ss a,.str b=>sOp? O o a (.lit b)
 |.str a,.ss b=>sOp? O o (.lit a) b
 |x,y=>match o with
  |.eql=>do
   let b<-eq? P O h 8 t x y
   pure (.bool b)
  |.neq=>do
   let b<-eq? P O h 8 t x y;let c<-vS b
   pure (.bool c)
  |_=>.error "binOp these operands"
def index?(O:dN)(i len:IE):M Unit:=do
 if<-O.dec (.cmp .leq (.lit 0) i)then(if<-O.dec (.cmp .lss i len)then pure ()else .error "index beyond")else .error "index below"
def wR(a:IE)(n:Nat):IE:=
 match a with
 |.lit (.ofNat m)=>.lit (.ofNat (m*n))
 |_=>if n=1 then .tn a else .times (.tn a) (.lit (.ofNat n))
def AA.at(a:AA)(i:IE)(size:Nat):AA:=
 match wR i size with
 |.lit (.ofNat n)=>a.add n
 |e=>match a.off with
  |.lit 0=>{a with off:=e}
  |off=>{a with off:=.plus (.tn off) e}
def appArgs?(O:dN)(h:AH)(size:Nat)(x:AV):M (Nat×List AV):=
 match x with
 |.slice none n _=>match n with
  |.lit (.ofNat 0)=>.ok (0,[])
  |_=>.error "append nil"
 |.slice (some b) n _=>do
  let n<-litNat? n;let l<-kW O h b (n*size) 0
  pure (n,l)
 |.str t=>if size=1 then .ok (t.size,t.data.toList.map fun c=>AV.int .u8 (.lit c.toNat))else .error "append string"
 |_=>.error "append what"
def appFit?(h:AH)(base:Option AA)(sLen n cap size:Nat)(new:List AV):M (AV×AH):=
 match base with
 |some a=>do
  let h<-kF h (a.add (sLen*size)) new 0
  pure (.slice base (.lit (.ofNat (sLen+n))) (.lit (.ofNat cap)),h)
 |none=>if n=0 then pure (.slice none (.lit (.ofNat sLen)) (.lit (.ofNat cap)),h)else .error "append nil with room"
def appOld?(O:dN)(h:AH)(base:Option AA)(sLen size:Nat):M (List AV):=
 match base with
 |none=>if sLen=0 then .ok []else .error "append nil"
 |some a=>kW O h a (sLen*size) 0
def appGrow?(O:dN)(h:AH)(base:Option AA)(sLen n size:Nat)(new:List AV)(elem:TypeId):M (AV×AH):=do
 let old<-appOld? O h base sLen size
 allocRow? h none (old++new) elem (sLen+n)
def appRow?(h:AH)(base:Option AA)(sl c:IE)(sLen n size:Nat)(new:List AV)(elem:TypeId):M (AV×AH):=
 match base with
 |some a=>match a.blk,a.off with
  |.dyn i,.lit (.ofNat 0)=>match cG i h.hp with
   |some (.row cs e c')=>
    if e=elem∧c.fe c'=true∧sLen*size≤cs.length then
     (if n=0 then pure (.slice base sl c,h)else allocRow? h (some i) (cs.take (sLen*size)++new) elem (sLen+n))
    else .error "append row"
   |_=>.error "append no row"
  |_,_=>.error "append open"
 |none=>.error "append open"
def iZ(n:IE)(k:Nat):IE:=match k with
 |0=>n
 |k=>.plus (.tn n) (.lit (.ofNat k))
def allocPre?(h:AH)(old:Nat)(lk:Bool)(s:Nat)(n:IE)(fs ws:List (IE×AV))(cs:List AV)(elem:TypeId)(len:IE):M (AV×AH):=
 match h with
 |⟨hp,nb,lim⟩=>if nb<lim then
   .ok (.slice (some ⟨.dyn nb,.lit 0⟩) len (.var nb),⟨rH nb (.pre lk s n fs ws cs elem (.var nb)) (jw old hp),nb+1,lim⟩)
  else .error "new numbers"
def preOk?(O:dN)(m sl c c':IE)(e elem:TypeId)(size n:Nat)(cs:List AV):Bool:=
 decide (e=elem)&&c.fe c'&&Nat.beq (cs.length / size*size) cs.length&&sl.fe (iZ m (cs.length / size))&&
  (match O.dec (.cmp .leq (.plus (.tn sl) (.lit (.ofNat n))) (.lit 1048576))with
  |.ok b=>b
  |.error _=>false)
def appPre?(O:dN)(h:AH)(base:Option AA)(sl c:IE)(n size:Nat)(new:List AV)(elem:TypeId):M (AV×AH):=
 match base with
 |some a=>match a.blk,a.off with
  |.dyn i,.lit (.ofNat 0)=>match cG i h.hp with
   |some (.pre lk s m fs ws cs e c')=>match preOk? O m sl c c' e elem size n cs with
    |true=>match n with
     |0=>pure (.slice base sl c,h)
     |n=>allocPre? h i lk s m fs ws (cs++new) elem (iZ m (cs.length / size+n))
    |false=>.error "append veiled"
   |_=>.error "append no veiled list"
  |_,_=>.error "append open"
 |none=>.error "append open"
def append?(P:Program)(h:AH)(argTypes:Array TypeId)(s x:AV)(O:dN):M (AV×AH):=do
 match argTypes[0]?,argTypes[1]? with
 |some sType,some xType=>do
  let X<-under? P xType
  match X with
  |.int _=>.error "append make"
  |_=>match<-under? P sType with
   |.slice elem=>do
    let size<-sizeOf? P elem;let z<-zero? P elem;let zc<-z.cells?;let bytes<-bytesOf? P elem
    if zc.length=size∧0<size∧0<bytes∧bytes≤1024 then do
     let(n,new)<-appArgs? O h size x
     if new.all (·.oneCell?)then
      match s with
      |.slice base sl sc=>match sl with
       |.lit _=>do
        let sLen<-litNat? sl
        if sLen+n≤1048576 then
         match sc with
         |.lit (.ofNat cap)=>if sLen+n≤cap then appFit? h base sLen n cap size new else appGrow? O h base sLen n size new elem
         |c=>appRow? h base sl c sLen n size new elem
        else .error "append long"
       |sl=>appPre? O h base sl sc n size new elem
      |_=>.error "append no slice"
     else .error "append cells"
    else .error "append element"
   |_=>.error "append type"
 |_,_=>.error "append types"
def lenOf?(P:Program)(h:AH)(t:TypeId)(x:AV):M IE:=do
 match<-under? P t,x with
 |.string,.str s=>pure (.lit (.ofNat s.size))
 |.string,.ss e=>pure (.jH e)
 |.array n _,_=>pure (.lit (.ofNat n))
 |.slice _,.slice _ n _=>pure (.tn n)
 |.slice _,.raw (.slice _ n _)=>pure (.lit (.ofNat n))
 |.map _ _,.map none=>pure (.lit 0)
 |.chan _ _,.chan none=>pure (.lit 0)
 |.map _ _,.map (some (.dyn i))=>match cG i h.hp with
  |some (.map es)=>pure (.lit (.ofNat es.length))
  |some (.jI _ n _ ws)=>match ws with
   |[]=>pure (.tn n)
   |_=>.error "len a veiled map"
  |_=>.error "len map"
 |_,_=>.error "len"
def makeChan?(P:Program)(h:AH)(t:TypeId)(s:AV):M (AV×AH):=
 match s,P.underlying t with
 |.int _ (.lit (.ofNat 0)),some (.chan _ elem)=>match P.info? elem with
  |some _=>allocO? h .chan fun r=>.chan (some r)
  |none=>.error "makeChan"
 |_,_=>.error "makeChan"
def makeMap?(h:AH)(r:Option AV):M (AV×AH):=
 match r with
 |none=>allocO? h (.map []) fun r=>.map (some r)
 |some _=>.error "makeMap"
def findA?(P:Program)(O:dN)(h:AH)(key:TypeId)(k:AV):List (AV×AV)->M (Option AV)
 |[]=>.ok none
 |(a,v)::l=>match eq? P O h 8 key k a with
  |.ok (.lit true)=>.ok (some v)
  |.ok (.lit false)=>findA? P O h key k l
  |.ok _=>.error "a maps key open"
  |.error e=>.error e
def entries?(h:AH)(x:AV):M (List (AV×AV)):=
 match x with
 |.map none=>.ok []
 |.map (some (.dyn i))=>match cG i h.hp with
  |some (.map es)=>.ok es
  |_=>.error "map"
 |_=>.error "map"
def keyOk?(P:Program)(key:TypeId):Bool:=
 match P.underlying key with
 |some (.pointer _)=>true
 |some .string=>true
 |some (.int _)=>true
 |_=>false
def Ho(a:AA):List (AA×Option AV)->Option (Option AV)
 |[]=>none
 |p::l=>match a.fe p.1 with
  |true=>some p.2
  |false=>Ho a l
def keySize?(P:Program)(key:TypeId):Bool:=
 match P.underlying key with
 |some (.pointer e)=>match sizeOf? P e with
  |.ok n=>!(Nat.beq n 0)
  |.error _=>false
 |_=>false
def lookV?(P:Program)(h:AH)(key:TypeId)(x k:AV):Option (Option AV):=
 match x with
 |.map (some (.dyn i))=>match cG i h.hp with
  |some (.jI _ _ fs ws)=>match ws,k,keySize? P key with
   |[],.ptr (some a),true=>Ho a fs
   |_,_,_=>none
  |_=>none
 |_=>none
def lookup?(P:Program)(O:dN)(h:AH)(t:TypeId)(x k:AV)(commaOk:Bool):M AV:=
 match P.underlying t with
 |some (.map key elem)=>match lookV? P h key x k with
  |some r=>(match r with
   |some v=>.ok (if commaOk then .tuple [v,.bool (.lit true)]else v)
   |none=>match zero? P elem with
    |.ok z=>.ok (if commaOk then .tuple [z,.bool (.lit false)]else z)
    |.error e=>.error e)
  |none=>if keyOk? P key then(match entries? h x with
  |.ok es=>match findA? P O h key k es with
   |.ok (some v)=>.ok (if commaOk then .tuple [v,.bool (.lit true)]else v)
   |.ok none=>match zero? P elem with
    |.ok z=>.ok (if commaOk then .tuple [z,.bool (.lit false)]else z)
    |.error e=>.error e
   |.error e=>.error e
  |.error e=>.error e)else .error "lookup key"
 |_=>.error "lookup"
def mapUpdate?(P:Program)(O:dN)(h:AH)(t:TypeId)(x k v:AV):M AH:=
 match P.underlying t,x with
 |some (.map key _),.map (some (.dyn i))=>match cG i h.hp with
  |some (.map es)=>if keyOk? P key then(match findA? P O h key k es with
   |.ok none=>.ok {h with hp:=wP i (.map (es++[(k,v)])) h.hp}
   |.ok (some _)=>.error "mapUpdate a key that is there"
   |.error e=>.error e)else .error "mapUpdate key"
  |some (.jI s n fs ws)=>(match lookV? P h key x k with
   |some none=>.ok {h with hp:=wP i (.jI s n fs (ws++[(k,v)])) h.hp}
   |_=>.error "mapUpdate a veiled map")
  |_=>.error "mapUpdate"
 |_,_=>.error "mapUpdate"
def minMax?(O:dN)(mx:Bool):AV->List AV->M AV
 |x,[]=>.ok x
 |.int k x,.int k' y::l=>do
  if k=k' then
   let less<-O.dec (if mx then .cmp .lss x y else .cmp .lss y x)
   minMax? O mx (.int k (if less then y else x)) l
  else .error "min kinds"
 |_,_=>.error "min"
def copyTo?(h:AH)(base:Option AA)(new:List AV)(n:Nat):M (AV×AH):=
 match base with
 |some a=>match kF h a new 0 with
  |.ok h=>.ok (.int .i64 (.lit (.ofNat n)),h)
  |.error e=>.error e
 |none=>.ok (.int .i64 (.lit (.ofNat n)),h)
def copyFrom?(O:dN)(h:AH)(sb:Option AA)(n:Nat):M (List AV):=
 match sb with
 |some a=>kW O h a n 0
 |none=>.ok []
def copy?(P:Program)(O:dN)(h:AH)(argTypes:Array TypeId)(d s:AV):M (AV×AH):=do
 match argTypes[0]? with
 |some dType=>match<-under? P dType with
  |.slice elem=>do
   let size<-sizeOf? P elem
   match d,s with
   |.slice base dl _,.slice sb sl _=>do
    let m<-litNat? sl;let n<-litNat? dl;let new<-copyFrom? O h sb (Nat.min m n*size)
    copyTo? h base new (Nat.min m n)
   |_,_=>.error "copy what"
  |_=>.error "copy type"
 |none=>.error "copy"
def builtin?(P:Program)(O:dN)(h:AH)(b:Builtin)(argTypes:Array TypeId)(args:List AV):M (AN×AH):=
 match b,args with
 |.len,[x]=>match argTypes[0]? with
  |some t=>match lenOf? P h t x with
   |.ok e=>.ok (.value (.int .i64 (O.int e)),h)
   |.error e=>.error e
  |none=>.error "len"
 |.cap,[.slice _ _ c]=>match argTypes[0]? with
  |some t=>match under? P t with
   |.ok (.slice _)=>.ok (.value (.int .i64 (O.int (.tn c))),h)
   |_=>.error "cap"
  |none=>.error "cap"
 |.append,[s,x]=>kR (append? P h argTypes s x O)
 |.copy,[d,s]=>kR (copy? P O h argTypes d s)
 |.min,x::l=>kX (minMax? O false x l) h
 |.max,x::l=>kX (minMax? O true x l) h
 |.recover,[]=>.ok (.recover,h)
 |.panic,[.iface t v]=>.ok (.panic (.iface t v),h)
 |_,_=>.error "builtin"
def handle?(P:Program):AV->Option TypeId
 |.ptr (some ⟨.rF b,.lit (.ofNat o)⟩)=>if b==P.globals.size then some o else none
 |_=>none
def invokeFn?(P:Program)(O:dN)(ext:AH->FuncId->List AV->M (AV×AH))(h:AH)(f:FuncId)(args:List AV):M (AN×AH):=
 if O.fns.contains f then .ok (.enter f args,h)else
 match look (fun a b=>a==b) f O.ext with
 |some e=>match AV.vals? args with
  |some vs=>match gd P (e vs.toArray)with
   |some v=>.ok (.value (ofValue v),h)
   |none=>match ext h f args with
    |.ok (v,h)=>.ok (.value v,h)
    |.error e=>.error e
  |none=>match ext h f args with
   |.ok (v,h)=>.ok (.value v,h)
   |.error e=>.error e
 |none=>match ext h f args with
  |.ok (v,h)=>.ok (.value v,h)
  |.error e=>.error e
def method?(P:Program)(t:TypeId)(v:AV)(name:String):M (FuncId×AV):=
 match P.info? t with
 |none=>.error "method type"
 |some i=>match i.methods.find? (·.name==name)with
  |none=>.error "method none"
  |some m=>if m.path.isEmpty then
    match m.func with
    |some (f,true)=>match P.underlying t with
     |some (.pointer _)=>.ok (f,v)
     |_=>.error "method row"
    |some (f,false)=>match P.underlying t with
     |some (.pointer _)=>.error "method through a pointer"
     |some _=>.ok (f,v)
     |none=>.error "method row"
    |none=>.error "method row"
   else match v.val? with
    |some u=>match gd P (method (P.types.size+Made.depth) t u name)with
     |some (f,r)=>.ok (f,ofValue r)
     |none=>.error "method promoted"
    |none=>.error "method promoted"
def invoke?(P:Program)(O:dN)(ext:AH->FuncId->List AV->M (AV×AH))(h:AH)(d:AD):M (AN×AH):=
 match d.target with
 |.builtin b argTypes _ _=>builtin? P O h b argTypes d.args
 |.fn (.func f) captured=>invokeFn? P O ext h f (d.args++captured)
 |.fn (.method name) _=>
  match d.args with
  |.iface t v::args=>match method? P t v name with
   |.ok (f,r)=>invokeFn? P O ext h f (r::args)
   |.error e=>.error e
  |_=>.error "invoke receiver"
 |.fn _ _=>.error "invoke what"
def resolve?(ρ:Operand->AV)(c:Call)(type:TypeId):M AD:=
 let args:=c.args.toList.map ρ
 match c.callee with
 |.builtin b=>.ok {target:=.builtin b c.argTypes type (c.args.map fun|.const _=>true|_=>false),args}
 |.invoke recv name=>.ok {target:=.fn (.method name) [],args:=ρ recv::args}
 |.value f=>match ρ f with
  |.func fn first captured=>.ok {target:=.fn fn captured,args:=first++args}
  |_=>.error "call no function"
def zeros?(P:Program)(elem:TypeId)(size n:Nat):M (List AV):=
 if n*size=0 then .ok []else do
  let z<-zero? P elem;let zc<-z.cells?
  if zc.length=size then pure (Cj n zc)else .error "zeros size"
def makeSlice?(P:Program)(h:AH)(t:TypeId)(l c:AV):M (AV×AH):=do
 match<-under? P t with
 |.slice elem=>match l,c with
  |.int _ l,.int _ c=>do
   let l<-litNat? l;let c<-litNat? c;let size<-sizeOf? P elem;let bytes<-bytesOf? P elem
   if l≤c∧c≤1048576∧bytes≤65536 then do
    let cells<-zeros? P elem size c
    allocSlice? h (.cells cells elem) (.lit (.ofNat l)) (.lit (.ofNat c))
   else .error "makeSlice size"
  |_,_=>.error "makeSlice"
 |_=>.error "makeSlice type"
def Z1(O:dN)(c:IE):M Bool:=
 match O.dec (.cmp .gtr c (.lit 1048576))with
 |.ok b=>.ok b
 |.error _=>O.dec (.cmp .gtr c (.lit 4294967296))
def makeRow?(P:Program)(O:dN)(h:AH)(t:TypeId)(l c:AV):M (AV×AH):=do
 match<-under? P t with
 |.slice elem=>match l,c with
  |.int _ l,.int _ c=>do
   let _<-zero? P elem;let _<-sizeOf? P elem;let bytes<-bytesOf? P elem;let neg<-O.dec (.cmp .lss c (.lit 0));let big<-Z1 O c
   if IE.fe l c∧neg=false∧big=false∧bytes≤65536 then allocSlice? h (.row [] elem c) c c
   else .error "makeRow size"
  |_,_=>.error "makeRow"
 |_=>.error "makeRow type"
def makeSliceS?(P:Program)(O:dN)(h:AH)(t:TypeId)(l c:AV):M (AV×AH):=
 match c with
 |.int _ (.lit _)=>makeSlice? P h t l c
 |_=>makeRow? P O h t l c
def sH:List AV->Bool
 |[]=>true
 |v::l=>v.oneCell?&&sH l
def storeRow?(P:Program)(O:dN)(h:AH)(t:TypeId)(i:Nat)(off:IE)(v:AV):M AH:=do
 let cs<-v.cells?
 match cG i h.hp with
 |some (.row [] e c)=>do
  let size<-sizeOf? P e;let ok<-O.dec (.cmp .lss (.plus (.tn off) (.lit (.ofNat (cs.length-1)))) (.times (.tn c) (.lit (.ofNat size))))
  if cs.length=(<-sizeOf? P t)∧sH cs=true∧ok=true∧cs.length≠0 then .ok h else .error "store an open place"
 |_=>.error "store an open place no such array"
def storeS?(P:Program)(O:dN)(h:AH)(t:TypeId)(a:AA)(v:AV):M AH:=
 match a with
 |⟨.dyn i,off⟩=>match cG i h.hp with
  |some (.row [] _ _)=>storeRow? P O h t i off v
  |_=>storeVar? P h t a v
 |_=>storeVar? P h t a v
def bound?(v:Option AV)(d:Nat):M Nat:=
 match v with
 |none=>.ok d
 |some (.int _ e)=>litNat? e
 |some _=>.error "slice bound"
def high?(hi mx:Option AV)(len:Nat):M Nat:=
 match hi,mx with
 |none,some _=>.error "slice max without high"
 |hi,_=>bound? hi len
def bounds?(len cap:Nat)(lo hi mx:Option AV):M (Nat×Nat×Nat):=do
 let m<-bound? mx cap;let h<-high? hi mx len;let l<-bound? lo 0
 if m≤cap∧h≤m∧l≤h then pure (l,h,m)else .error "slice out of bounds"
def sliceOp?(P:Program)(t:TypeId)(x:AV)(lo hi mx:Option AV):M AV:=do
 match<-under? P t,x with
 |.slice elem,.slice a len (.lit (.ofNat cap))=>do
  let len<-litNat? len;let(l,h,m)<-bounds? len cap lo hi mx;let size<-sizeOf? P elem
  pure (.slice (if m=l then a else a.map (·.add (l*size))) (.lit (.ofNat (h-l))) (.lit (.ofNat (m-l))))
 |.string,.str s=>do
  match mx with
  |some _=>.error "slice string"
  |none=>do
   let(l,h,_)<-bounds? s.size s.size lo hi none
   pure (.str (s.extract l h))
 |.array n elem,.ptr (some a)=>do
  let(l,h,m)<-bounds? n n lo hi mx;let size<-sizeOf? P elem
  pure (.slice (some (if m=l then a else a.add (l*size))) (.lit (.ofNat (h-l))) (.lit (.ofNat (m-l))))
 |_,_=>.error "slice"
def fieldAddr?(P:Program)(s:TypeId)(x:AV)(i:Nat):M AV:=do
 match<-under? P s with
 |.struct fs=>match fs[i]? with
  |some f=>do
   let a<-sureAddr? x
   if(<-sizeOf? P f.type)=0 then .error "fieldAddr empty" else pure (.ptr (some (a.add f.offset)))
  |none=>.error "fieldAddr"
 |_=>.error "fieldAddr type"
def indexAddr?(P:Program)(O:dN)(t:TypeId)(x i:AV):M AV:=do
 match i with
 |.int _ i=>match<-under? P t,x with
  |.slice elem,.slice (some a) len _=>do
   index? O i (match len with|.lit n=>.lit n|l=>.tn l)
   pure (.ptr (some (a.at i (<-sizeOf? P elem))))
  |.array n elem,.ptr (some a)=>do
   index? O i (.lit (.ofNat n))
   pure (.ptr (some (a.at i (<-sizeOf? P elem))))
  |_,_=>.error "indexAddr"
 |_=>.error "indexAddr index"
def indexOp?(P:Program)(t:TypeId)(x i:AV):M AV:=do
 match<-under? P t,x,i with
 |.array n elem,.agg cs,.int _ (.lit (.ofNat i))=>if i<n then part? P elem cs (i*(<-sizeOf? P elem))else .error "index beyond"
 |.string,.str s,.int _ (.lit (.ofNat i))=>match s.data.toList[i]? with
  |some b=>pure (.int .u8 (.lit b.toNat))
  |none=>.error "index beyond"
 |_,_,_=>.error "index"
def typeAssert?(P:Program)(x:AV)(asserted:TypeId)(commaOk:Bool):M AV:=do
 let holds (v:AV):M AV:=pure (if commaOk then .tuple [v,.bool (.lit true)]else v);let cJ:M AV:=do if commaOk then pure (.tuple [<-zero? P asserted,.bool (.lit false)])else .error "typeAssert fails"
 match<-under? P asserted,x with
 |.interface _,.nilIface=>cJ
 |.interface want,.iface t v=>match P.info? t with
  |some i=>match zK want i.methods with
   |false=>holds (.iface t v)
   |true=>cJ
  |none=>.error "typeAssert type"
 |_,.nilIface=>cJ
 |_,.iface t v=>if t=asserted then holds v else cJ
 |_,_=>.error "typeAssert"
def build?(P:Program)(t:TypeId)(parts:List (Nat×AV)):M AV:=do
 let zero<-(<-zero? P t).cells?
 match<-under? P t with
 |.struct fs=>do
  let places<-fs.toList.mapM fun f=>do pure (f.offset,<-sizeOf? P f.type)
  pure (.agg (<-fill? (places[·]?) zero parts))
 |.array _ elem=>do
  let size<-sizeOf? P elem
  pure (.agg (<-fill? (fun i=>some (i*size,size)) zero parts))
 |_=>.error "build"
def buildSlice?(P:Program)(h:AH)(t:TypeId)(len:Nat)(parts:List (Nat×AV)):M (AV×AH):=do
 match<-under? P t with
 |.slice elem=>do
  let size<-sizeOf? P elem
  if len*size>65536 then .error "buildSlice long" else
  let z<-zeros? P elem size len;let cells<-fill? (fun i=>some (i*size,size)) z parts
  allocSlice? h (.cells cells elem) (.lit (.ofNat len)) (.lit (.ofNat len))
 |_=>.error "buildSlice"
def field?(P:Program)(t:TypeId)(x:AV)(i:Nat):M AV:=do
 match<-under? P t,x with
 |.struct fs,.agg cs=>match fs[i]? with
  |some f=>part? P f.type cs f.offset
  |none=>.error "field"
 |_,_=>.error "field"
def convert?(P:Program)(O:dN)(h:AH)(src dst:TypeId)(x:AV):M AV:=do
 match<-under? P src,<-under? P dst,x with
 |_,.int k,.int _ e=>pure (.int k (O.int (.conv k e)))
 |_,.string,.str s=>pure (.str s)
 |.pointer t,.unsafePointer,.ptr (some ⟨.dyn i,.lit (.ofNat n)⟩)=>
  match cG i h.hp with
  |some b=>do
   if n<b.cs.length∧(<-sizeOf? P t)≠0 then pure (.ptr (some ⟨.dyn i,.lit (.ofNat n)⟩))else .error "convert pointer"
  |none=>.error "convert pointer"
 |_,_,_=>.error "convert"
def oQ(O:dN)(v:AV):AV:=
 match v with
 |.int k e=>.int k (O.int e)
 |v=>v
def op?(P:Program)(O:dN)(ext:AH->FuncId->List AV->M (AV×AH))(h:AH)(ρ:Operand->AV)(o:Oper):M (AN×AH):=
 match o.op with
 |.move x|.assign x=>.ok (.value (ρ x),h)
 |.pick c a b=>match ρ c with
  |.bool t=>match O.bool t with
   |.lit t=>.ok (.value (if t then ρ a else ρ b),h)
   |_=>.error "pick an open test"
  |_=>.error "pick"
 |.alloc elem=>match zero? P elem with
  |.ok z=>match z.cells? with
   |.ok cs=>kR (alloc? h (.cells cs elem))
   |.error e=>.error e
  |.error e=>.error e
 |.box elem x=>match(ρ x).cells? with
  |.ok cs=>kR (alloc? h (.cells cs elem))
  |.error e=>.error e
 |.build t parts=>kX (build? P t (parts.toList.map fun(i,x)=>(i,ρ x))) h
 |.buildSlice t len parts=>kR (buildSlice? P h t len (parts.toList.map fun(i,x)=>(i,ρ x)))
 |.load t a=>match sureAddr? (ρ a)with
  |.ok a=>kX (loadVar? P O h t a) h
  |.error e=>.error e
 |.store t a x=>match sureAddr? (ρ a)with
  |.ok a=>wQ (storeS? P O h t a (ρ x))
  |.error e=>.error e
 |.nilCheck x=>match ρ x with
  |.ptr (some a)=>.ok (.value (.ptr (some a)),h)
  |.iface t v=>.ok (.value (.iface t v),h)
  |.func (.func f) a b=>.ok (.value (.func (.func f) a b),h)
  |_=>.error "nilCheck"
 |.binOp op t x y _=>match eqGuard? P op t x y (ρ x) (ρ y)with
  |.ok _=>kX (binOp? P O h op t (ρ x) (ρ y)) h
  |.error e=>.error e
 |.unOp .not _ x=>match ρ x with
  |.bool b=>match vS b with
   |.ok b=>.ok (.value (.bool (O.bool b)),h)
   |.error e=>.error e
  |_=>.error "not"
 |.unOp .neg _ x=>match ρ x with
  |.int k e=>.ok (.value (.int k (O.int (.op .sub k (.lit 0) e))),h)
  |_=>.error "neg"
 |.convert src dst x=>kX (convert? P O h src dst (ρ x)) h
 |.makeInterface t x=>match P.underlying t with
  |some (.interface _)=>.error "makeInterface"
  |some _=>.ok (.value (.iface t (ρ x)),h)
  |none=>.error "makeInterface"
 |.makeFunc fn first captured=>.ok (.value (.func fn (first.toList.map ρ) (captured.toList.map ρ)),h)
 |.makeSlice t l c=>kR (makeSliceS? P O h t (oQ O (ρ l)) (oQ O (ρ c)))
 |.slice t x lo hi mx=>kX (sliceOp? P t (ρ x) (lo.map fun x=>oQ O (ρ x)) (hi.map fun x=>oQ O (ρ x)) (mx.map fun x=>oQ O (ρ x))) h
 |.fieldAddr s x f=>kX (fieldAddr? P s (ρ x) f) h
 |.field t x f=>kX (field? P t (ρ x) f) h
 |.indexAddr t x ix=>kX (indexAddr? P O t (ρ x) (oQ O (ρ ix))) h
 |.index t x ix=>kX (indexOp? P t (ρ x) (oQ O (ρ ix))) h
 |.typeAssert x _ asserted ok=>kX (typeAssert? P (ρ x) asserted ok) h
 |.extract t ix=>match ρ t with
  |.tuple vs=>match vs[ix]? with
   |some v=>.ok (.value v,h)
   |none=>.error "extract"
  |_=>.error "extract"
 |.call c=>match resolve? ρ c o.type with
  |.ok d=>invoke? P O ext h d
  |.error e=>.error e
 |.defer c=>match resolve? ρ c o.type with
  |.ok d=>.ok (.defer d,h)
  |.error e=>.error e
 |.panic x=>match ρ x with
  |.iface t v=>.ok (.panic (.iface t v),h)
  |_=>.error "panic"
 |.makeChan t s=>kR (makeChan? P h t (ρ s))
 |.makeMap _ r=>kR (makeMap? h (r.map ρ))
 |.lookup t x k ok=>kX (lookup? P O h t (ρ x) (ρ k) ok) h
 |.mapUpdate t m k x=>wQ (mapUpdate? P O h t (ρ m) (ρ k) (ρ x))
 |.insert t m k x=>wQ (mapUpdate? P O h t (ρ m) (ρ k) (ρ x))
 |_=>.error "this operation"
inductive gU where
 |run
 |returning
 |panicking(chain:List (AV×Bool))
structure bW where
 fn:FuncId
 nt:Nat
 tmps:TT
 todo:List Item
 defers:List AD
 mode:gU
 kind:CallKind
structure ee where
 cur:bW
 callers:List bW
 h:AH
def kY(tmps:TT):Operand->AV
 |.tmp t=>tmps.get t
 |.const v=>ofValue v
 |.global g=>.ptr (some ⟨.rF g,.lit 0⟩)
 |.func f=>.func (.func f) [] []
def bT(P:Program)(f:FuncId)(args:List AV)(kind:CallKind):M bW:=
 match P.funcs[f]? with
 |some fn=>match fn.body with
  |some c=>if args.length≤fn.ntmps∧fn.ntmps≤60000 then .ok {fn:=f,nt:=fn.ntmps,tmps:=TT.fill args 0 .leaf,todo:=[.code c],defers:=[],mode:=.run,kind}else .error "enter temporaries"
  |none=>.error "enter no body"
 |none=>.error "enter no function"
def jx(nt:Nat)(tmps:TT)(dst:Option Tmp)(v:AV):TT:=
 match dst with
 |some d=>match Nat.ble (d+1) nt with
  |true=>tmps.set v 16 d
  |false=>tmps
 |none=>tmps
def pq(O:dN)(ops:Array Oper)(tmps:TT)(j:Nat):M (Option Bool):=
 match(ops[j]?).bind (·.dst)with
 |none=>.error "a guard without a place"
 |some d=>match tmps.get d with
  |.bool b=>match O.bool b with
   |.lit b=>.ok (some b)
   |_=>.error "a guard is open"
  |.tuple _=>.ok none
  |_=>.error "a guard"
def gN(O:dN)(ops:Array Oper)(tmps:TT)(o:Oper):M Bool:=
 match o.guard with
 |none=>.ok true
 |some (j,want)=>match pq O ops tmps j with
  |.ok y=>.ok (y==some want)
  |.error e=>.error e
def ig(fr:bW)(v:AV):M bW:=
 match fr with
 |⟨fn,nt,tmps,.inRegion ops (i::rest)::k,defers,.run,kind⟩=>.ok ⟨fn,nt,jx nt tmps ((ops[i]?).bind (·.dst)) v,.inRegion ops rest::k,defers,.run,kind⟩
 |_=>.error "finish"
def pz(fr:bW)(vs:List (AV×Bool)):bW:=
 match fr with
 |⟨fn,nt,tmps,todo,defers,.panicking chain,kind⟩=>⟨fn,nt,tmps,todo,defers,.panicking (vs++chain),kind⟩
 |⟨fn,nt,tmps,todo,defers,_,kind⟩=>⟨fn,nt,tmps,todo,defers,.panicking vs,kind⟩
def wS(kind:CallKind)(callers:List bW):M (Option (AV×List bW)):=
 match kind with
 |.normal=>.ok none
 |.deferred=>match callers with
  |[]=>.error "recover no caller"
  |⟨fn,nt,tmps,todo,defers,mode,kind⟩::rest=>match mode with
   |.panicking ((v,false)::older)=>.ok (some (v,⟨fn,nt,tmps,todo,defers,.panicking ((v,true)::older),kind⟩::rest))
   |_=>.ok none
 |_=>.error "recover kind"
inductive AE where
 |returned(v:AV)
 |panicked(chain:List (AV×Bool))
def pE(P:Program)(O:dN)(h:AH)(tmps:TT):ResultVar->M AV
 |.tmp t=>.ok (tmps.get t)
 |.cell a t=>match tmps.get a with
  |.ptr (some a)=>loadVar? P O h t a
  |_=>.error "result"
def i_(P:Program)(O:dN)(h:AH)(tmps:TT):List ResultVar->M (List AV)
 |[]=>.ok []
 |r::l=>match pE P O h tmps r with
  |.ok v=>match i_ P O h tmps l with
   |.ok vs=>.ok (v::vs)
   |.error e=>.error e
  |.error e=>.error e
def results?(P:Program)(O:dN)(h:AH)(fn:FuncId)(tmps:TT):M AV:=
 match P.funcs[fn]? with
 |some fn=>match i_ P O h tmps fn.results.toList with
  |.ok [v]=>.ok v
  |.ok vs=>.ok (.tuple vs)
  |.error e=>.error e
 |none=>.error "results no function"
abbrev Ext:=AH->FuncId->List AV->M (AV×AH)
inductive AR where
 |on(tmps:TT)(h:AH)
 |panic(tmps:TT)(chain:List (AV×Bool))(h:AH)
def jJ(P:Program)(O:dN)(ext:Ext)(call:FuncId->List AV->AH->M (AE×AH))(nt:Nat)(ops:Array Oper)(i:Nat)(tmps:TT)(h:AH):M AR:=
 match ops[i]? with
 |none=>.error "region no operation"
 |some o=>match gN O ops tmps o with
  |.error e=>.error e
  |.ok false=>.ok (.on (jx nt tmps o.dst cL) h)
  |.ok true=>match op? P O ext h (kY tmps) o with
   |.error e=>.error e
   |.ok (.value v,h)=>.ok (.on (jx nt tmps o.dst v) h)
   |.ok (.skip,h)=>.ok (.on (jx nt tmps o.dst cL) h)
   |.ok (.enter f args,h)=>match call f args h with
    |.ok (.returned v,h)=>.ok (.on (jx nt tmps o.dst v) h)
    |.ok (.panicked chain,h)=>.ok (.panic tmps chain h)
    |.error e=>.error e
   |.ok (.panic v,h)=>.ok (.panic tmps [(v,false)] h)
   |.ok _=>.error "region this operation"
def l7:List (AV×AV)->List (AV×AV)->Bool
 |[],[]=>true
 |(a,b)::l,(c,d)::m=>a.fe c&&b.fe d&&l7 l m
 |_,_=>false
def l8:List (IE×AV)->List (IE×AV)->Bool
 |[],[]=>true
 |(a,b)::l,(c,d)::m=>a.fe c&&b.fe d&&l8 l m
 |_,_=>false
def lU:List (AA×Option AV)->List (AA×Option AV)->Bool
 |[],[]=>true
 |(a,b)::l,(c,d)::m=>a.fe c&&rG AV.fe b d&&lU l m
 |_,_=>false
def bQ.fe:bQ->bQ->Bool
 |.map a,.map b=>l7 a b
 |.chan,.chan=>true
 |.jI s n f w,.jI s' n' f' w'=>Nat.beq s s'&&n.fe n'&&lU f f'&&l7 w w'
 |.cells a e,.cells b e'=>AV.vR a b&&e==e'
 |.row a e c,.row b e' c'=>AV.vR a b&&e==e'&&c.fe c'
 |.gp a e l,.gp b e' l'=>AV.vR a b&&e==e'&&decide (l=l')
 |.pre l s n f w a e c,.pre l' s' n' f' w' b e' c'=>(l==l')&&Nat.beq s s'&&n.fe n'&&l8 f f'&&l8 w w'&&AV.vR a b&&e==e'&&c.fe c'
 |_,_=>false
def wT:List (Nat×bQ)->List (Nat×bQ)->Bool
 |[],[]=>true
 |(i,a)::l,(j,b)::m=>Nat.beq i j&&a.fe b&&wT l m
 |_,_=>false
def qj(s:List Nat)(o:Oper):Bool:=o.after.all fun e=>!Region.binds .any e||s.contains e.on
def cH(ops:Array Oper)(s:List Nat):List Nat:=
 (List.range ops.size).filter fun i=>!s.contains i&&(match ops[i]? with|some o=>qj s o|none=>false)
abbrev Hp:=List (List Nat×TT×AH)
def sI(a b:List Nat):Bool:=a.all b.contains&&b.all a.contains
def wU(s:List Nat)(tmps:TT)(h:AH):Hp->M Hp
 |[]=>.ok [(s,tmps,h)]
 |(s',t',h')::l=>
  if sI s s' then(if tmps.fe t'&&wT h.hp h'.hp then .ok ((s',t',h')::l)else .error "region the order matters")
  else match wU s tmps h l with
   |.ok l=>.ok ((s',t',h')::l)
   |.error e=>.error e
def iE(h0:AH):Nat:=(h0.lim-h0.nb) / 65536
def l9(h0:AH)(i:Nat)(h:AH):AH:=
 match h with
 |⟨hp,_,_⟩=>⟨hp,h0.nb+i*iE h0,h0.nb+(i+1)*iE h0⟩
def jN(h0:AH)(n:Nat)(h:AH):AH:=
 match h with
 |⟨hp,_,_⟩=>⟨hp,h0.nb+n*iE h0,h0.lim⟩
def ql(P:Program)(O:dN)(ext:Ext)(call:FuncId->List AV->AH->M (AE×AH))(nt:Nat)(ops:Array Oper)(h0:AH)(s:List Nat)(tmps:TT)(h:AH):List Nat->Hp->M Hp
 |[],l=>.ok l
 |i::r,l=>
  match jJ P O ext call nt ops i tmps (l9 h0 i h)with
  |.error e=>.error e
  |.ok (.panic _ _ _)=>.error "region a panic beside others"
  |.ok (.on t' h')=>if h'.nb≤h'.lim then(match wU (i::s) t' h' l with
   |.ok l=>ql P O ext call nt ops h0 s tmps h r l
   |.error e=>.error e)else .error "region numbers"
def sJ(P:Program)(O:dN)(ext:Ext)(call:FuncId->List AV->AH->M (AE×AH))(nt:Nat)(ops:Array Oper)(h0:AH):Hp->Hp->M Hp
 |[],l=>.ok l
 |(s,t,h)::r,l=>if(cH ops s).isEmpty then .error "region none is ready" else match ql P O ext call nt ops h0 s t h (cH ops s) l with
  |.ok l=>sJ P O ext call nt ops h0 r l
  |.error e=>.error e
def m6(P:Program)(O:dN)(ext:Ext)(call:FuncId->List AV->AH->M (AE×AH))(nt:Nat)(ops:Array Oper):Nat->Option AH->Hp->M AR
 |0,_,_=>.error "region levels"
 |n+1,fork,l=>
  match l,fork with
  |[(s,t,h)],some h0=>m6 P O ext call nt ops n none [(s,t,jN h0 ops.size h)]
  |[(s,t,h)],none=>match cH ops s with
   |[]=>.ok (.on t h)
   |[i]=>match jJ P O ext call nt ops i t h with
    |.error e=>.error e
    |.ok (.panic t' c h')=>.ok (.panic t' c h')
    |.ok (.on t' h')=>m6 P O ext call nt ops n none [(i::s,t',h')]
   |r=>match ql P O ext call nt ops h s t h r []with
    |.ok l=>m6 P O ext call nt ops n (some h) l
    |.error e=>.error e
  |l,some h0=>match sJ P O ext call nt ops h0 l []with
   |.ok l=>m6 P O ext call nt ops n (some h0) l
   |.error e=>.error e
  |_,none=>.error "region levels"
def jV(o:Oper):Bool:=
 match o.op with
 |.move _|.assign _|.pick _ _ _|.build _ _|.load _ _|.nilCheck _|.binOp _ _ _ _ _|.unOp _ _ _|.convert _ _ _|.makeInterface _ _|.makeFunc _ _ _|.slice _ _ _ _ _|.fieldAddr _ _ _|.field _ _ _|.indexAddr _ _ _|.index _ _ _
 |.typeAssert _ _ _ _|.extract _ _=>true
 |_=>false
def LY(i:Nat):Nat:=Nat.pow 2 i
def o6(m i:Nat):Bool:=!(Nat.beq (Nat.land m (LY i)) 0)
def zd(m i:Nat):Nat:=Nat.lor m (LY i)
def iA:List Edge->Nat
 |[]=>0
 |e::l=>match Region.binds .any e with
  |true=>zd (iA l) e.on
  |false=>iA l
abbrev Info:=Nat×Oper×Nat×Bool
def nT:Nat->List Oper->List Info
 |_,[]=>[]
 |i,o::l=>(i,o,iA o.after.toList,jV o)::nT (i+1) l
def cZ(ops:Array Oper):List Info:=nT 0 ops.toList
def vT(m:Nat)(x:Info):Bool:=!(o6 m x.1)&&Nat.beq (Nat.land x.2.2.1 m) x.2.2.1
def jW(ops:Array Oper)(infos:List Info):Bool:=
 infos.all fun x=>match x.2.2.2,x.2.1.dst with
  |true,some d=>infos.all fun y=>!((y.2.1.looksAt ops).contains d)||o6 y.2.2.1 x.1
  |_,_=>true
def oR(P:Program)(O:dN)(ext:Ext)(nt:Nat)(ops:Array Oper)(h:AH):List Info->List Nat->Nat->TT->M (List Nat×Nat×TT)
 |[],s,m,t=>.ok (s,m,t)
 |x::r,s,m,t=>match x.2.2.2&&vT m x with
  |false=>oR P O ext nt ops h r s m t
  |true=>match gN O ops t x.2.1 with
   |.error e=>.error e
   |.ok false=>oR P O ext nt ops h r (x.1::s) (zd m x.1) (jx nt t x.2.1.dst cL)
   |.ok true=>match op? P O ext h (kY t) x.2.1 with
    |.ok (.value v,_)=>oR P O ext nt ops h r (x.1::s) (zd m x.1) (jx nt t x.2.1.dst v)
    |.ok _=>.error "region a quiet operation"
    |.error e=>.error e
def Hq(nt:Nat)(t:TT)(dst:Option Tmp)(v:AV):Bool:=
 match dst with
 |some d=>match Nat.ble (d+1) nt with
  |true=>(t.get d).fe v
  |false=>true
 |none=>true
def pF(P:Program)(O:dN)(ext:Ext)(nt:Nat)(ops:Array Oper)(m:Nat)(t:TT)(h:AH):List Info->Bool
 |[]=>true
 |x::r=>(match x.2.2.2&&o6 m x.1 with
  |false=>true
  |true=>match gN O ops t x.2.1 with
   |.error _=>false
   |.ok false=>Hq nt t x.2.1.dst cL
   |.ok true=>match op? P O ext h (kY t) x.2.1 with
    |.ok (.value v,_)=>Hq nt t x.2.1.dst v
    |_=>false)&&pF P O ext nt ops m t h r
abbrev qG:=List (List Nat×Nat×TT×AH)
def sK(s:List Nat)(m:Nat)(t:TT)(h:AH):qG->M qG
 |[]=>.ok [(s,m,t,h)]
 |(s',m',t',h')::l=>match Nat.beq m m' with
  |true=>if t.fe t'&&wT h.hp h'.hp then .ok ((s',m',t',h')::l)else .error "region the order matters"
  |false=>match sK s m t h l with
   |.ok l=>.ok ((s',m',t',h')::l)
   |.error e=>.error e
def bare(h:AH):AH:=⟨h.hp,0,0⟩
def Qv(P:Program)(O:dN)(ext:Ext)(call:FuncId->List AV->AH->M (AE×AH))(nt:Nat)(ops:Array Oper)(infos:List Info)(s:List Nat)(m:Nat)(t:TT)(h:AH)(i:Nat):M (List Nat×Nat×TT×AH):=
 match jJ P O ext call nt ops i t h with
 |.error e=>.error e
 |.ok (.panic _ _ _)=>.error "region a panic beside others"
 |.ok (.on t1 h1)=>match oR P O ext nt ops (bare h1) infos (i::s) (zd m i) t1 with
  |.error e=>.error e
  |.ok (s2,m2,t2)=>.ok (s2,m2,t2,h1)
def nU(P:Program)(O:dN)(ext:Ext)(call:FuncId->List AV->AH->M (AE×AH))(nt:Nat)(ops:Array Oper)(infos:List Info)(h0:AH)(s:List Nat)(m:Nat)(t:TT)(h:AH):List Info->qG->M qG
 |[],l=>.ok l
 |x::r,l=>match Qv P O ext call nt ops infos s m t (l9 h0 x.1 h) x.1 with
  |.error e=>.error e
  |.ok (s2,m2,t2,h1)=>if h1.nb≤h1.lim then(match sK s2 m2 t2 h1 l with
   |.ok l=>nU P O ext call nt ops infos h0 s m t h r l
   |.error e=>.error e)else .error "region numbers"
def pG(P:Program)(O:dN)(ext:Ext)(call:FuncId->List AV->AH->M (AE×AH))(nt:Nat)(ops:Array Oper)(infos:List Info)(h0:AH):qG->qG->M qG
 |[],l=>.ok l
 |(s,m,t,h)::r,l=>match infos.filter (vT m)with
  |[]=>.error "region none is ready"
  |js=>match nU P O ext call nt ops infos h0 s m t h js l with
   |.ok l=>pG P O ext call nt ops infos h0 r l
   |.error e=>.error e
def sL(m:Nat):List Info->Nat
 |[]=>0
 |x::r=>match !x.2.2.2&&o6 m x.1 with
  |true=>Nat.lor x.2.2.1 (sL m r)
  |false=>sL m r
def JC(infos:List Info)(m:Nat):Nat:=Nat.land m (Nat.xor m (sL m infos))
def settled(P:Program)(O:dN)(ext:Ext)(nt:Nat)(ops:Array Oper)(infos:List Info)(m:Nat)(t:TT)(h:AH):Bool:=
 (infos.all fun x=>!(x.2.2.2&&vT m x))&&pF P O ext nt ops (JC infos m) t (bare h) infos
def kZ(P:Program)(O:dN)(ext:Ext)(call:FuncId->List AV->AH->M (AE×AH))(nt:Nat)(ops:Array Oper)(infos:List Info):Nat->Option AH->qG->M AR
 |0,_,_=>.error "region levels"
 |n+1,fork,l=>
  match l.all fun e=>settled P O ext nt ops infos e.2.1 e.2.2.1 e.2.2.2 with
  |false=>.error "region not settled"
  |true=>match l,fork with
   |[(s,m,t,h)],some h0=>kZ P O ext call nt ops infos n none [(s,m,t,jN h0 ops.size h)]
   |[(s,m,t,h)],none=>match infos.filter (vT m)with
    |[]=>.ok (.on t h)
    |[x]=>match Qv P O ext call nt ops infos s m t h x.1 with
     |.error e=>.error e
     |.ok e=>kZ P O ext call nt ops infos n none [e]
    |js=>match nU P O ext call nt ops infos h s m t h js []with
     |.ok l=>kZ P O ext call nt ops infos n (some h) l
     |.error e=>.error e
   |l,some h0=>match pG P O ext call nt ops infos h0 l []with
    |.ok l=>kZ P O ext call nt ops infos n (some h0) l
    |.error e=>.error e
   |_,none=>.error "region levels"
def LZ(P:Program)(O:dN)(ext:Ext)(call:FuncId->List AV->AH->M (AE×AH))(nt:Nat)(ops:Array Oper)(infos:List Info)(tmps:TT)(h:AH):M AR:=
 match oR P O ext nt ops (bare h) infos [] 0 tmps with
 |.error e=>.error e
 |.ok (s,m,t)=>kZ P O ext call nt ops infos (2*ops.size+2) none [(s,m,t,h)]
def sM(P:Program)(O:dN)(ext:Ext)(call:FuncId->List AV->AH->M (AE×AH))(nt:Nat)(ops:Array Oper)(tmps:TT)(h:AH):M AR:=
 if ops.size≤65536 then m6 P O ext call nt ops (2*ops.size+2) none [([],tmps,h)]else .error "region size"
def drawn(P:Program)(O:dN)(ext:Ext)(call:FuncId->List AV->AH->M (AE×AH))(nt:Nat)(ops:Array Oper)(tmps:TT)(h:AH):M AR:=
 match Nat.ble ops.size 65536&&jW ops (cZ ops)with
 |false=>sM P O ext call nt ops tmps h
 |true=>match LZ P O ext call nt ops (cZ ops) tmps h with
  |.ok r=>.ok r
  |.error _=>sM P O ext call nt ops tmps h
def Qw(o:Oper):Bool:=
 match o.op with
 |.call _|.go _|.send _ _|.recv _ _ _|.defer _=>true
 |_=>false
def nG:List Info->Nat->Nat
 |[],m=>m
 |x::r,m=>match o6 (nG r m) x.1 with
  |true=>Nat.lor (nG r m) x.2.2.1
  |false=>nG r m
def Fc(P:Program)(O:dN)(ext:Ext)(nt:Nat)(ops:Array Oper)(infos:List Info)(tmps:TT)(h:AH):Option (Nat×TT):=
 match infos.filter fun x=>!x.2.2.2 with
 |[x]=>match Qw x.2.1&&(Nat.ble ops.size 65536&&jW ops infos)with
  |false=>none
  |true=>match oR P O ext nt ops (bare h) infos [] 0 tmps with
   |.error _=>none
   |.ok (_,m,t)=>match vT m x&&(infos.all fun y=>Nat.beq y.1 x.1||(o6 m y.1&&o6 (nG infos x.2.2.1) y.1))&&pF P O ext nt ops m t (bare h) infos with
    |true=>some (x.1,t)
    |false=>none
 |_=>none
def upon(P:Program)(fr:bW)(callers:List bW)(n:AN)(h:AH):M ee:=
 match n with
 |.value v=>match ig fr v with
  |.ok fr=>.ok ⟨fr,callers,h⟩
  |.error e=>.error e
 |.skip=>match ig fr cL with
  |.ok fr=>.ok ⟨fr,callers,h⟩
  |.error e=>.error e
 |.enter f args=>match bT P f args .normal with
  |.ok fr'=>.ok ⟨fr',fr::callers,h⟩
  |.error e=>.error e
 |.defer d=>match fr with
  |⟨fn,nt,tmps,todo,defers,mode,kind⟩=>match ig ⟨fn,nt,tmps,todo,d::defers,mode,kind⟩ cL with
   |.ok fr=>.ok ⟨fr,callers,h⟩
   |.error e=>.error e
 |.recover=>match wS fr.kind callers with
  |.error e=>.error e
  |.ok (some (v,callers))=>match ig fr v with
   |.ok fr=>.ok ⟨fr,callers,h⟩
   |.error e=>.error e
  |.ok none=>match ig fr .nilIface with
   |.ok fr=>.ok ⟨fr,callers,h⟩
   |.error e=>.error e
 |.panic v=>.ok ⟨pz fr [(v,false)],callers,h⟩
def tagged:CallKind->Bool
 |.wrapped=>true
 |_=>false
def nV(kind:CallKind)(n:AN):Bool:=
 match tagged kind with
 |false=>true
 |true=>match n with
  |.defer _=>false
  |.recover=>false
  |_=>true
def summed(O:dN)(n:AN):Bool:=
 match n with
 |.enter f _=>O.afa.contains f
 |_=>false
def exec?(P:Program)(O:dN)(ext:Ext)(call:FuncId->List AV->AH->M (AE×AH))(fn:FuncId)(nt:Nat)(tmps:TT)(todo:List Item)(defers:List AD)(kind:CallKind)(callers:List bW)(h:AH):M ee:=
 match todo with
 |[]=>match tagged kind with
  |true=>.error "marked the end"
  |false=>.ok ⟨⟨fn,nt,tmps,[],defers,.returning,kind⟩,callers,h⟩
 |.inRegion ops is::k=>match is with
  |[]=>.ok ⟨⟨fn,nt,tmps,k,defers,.run,kind⟩,callers,h⟩
  |i::rest=>match ops[i]? with
   |none=>.error "region no operation"
   |some o=>match gN O ops tmps o with
    |.error e=>.error e
    |.ok false=>.ok ⟨⟨fn,nt,jx nt tmps o.dst cL,.inRegion ops rest::k,defers,.run,kind⟩,callers,h⟩
    |.ok true=>match op? P O ext h (kY tmps) o with
     |.error e=>.error e
     |.ok (n,h')=>match nV kind n with
      |false=>.error "marked this operation"
      |true=>match summed O n with
       |false=>upon P ⟨fn,nt,tmps,.inRegion ops (i::rest)::k,defers,.run,kind⟩ callers n h'
       |true=>match jJ P O ext call nt ops i tmps h with
        |.ok (.on t h')=>.ok ⟨⟨fn,nt,t,.inRegion ops rest::k,defers,.run,kind⟩,callers,h'⟩
        |.ok (.panic t ch h')=>.ok ⟨⟨fn,nt,t,.inRegion ops (i::rest)::k,defers,.panicking ch,kind⟩,callers,h'⟩
        |.error e=>.error e
 |.inBlock _::k=>.ok ⟨⟨fn,nt,tmps,k,defers,.run,kind⟩,callers,h⟩
 |.inScope _::k=>.ok ⟨⟨fn,nt,tmps,k,defers,.run,kind⟩,callers,h⟩
 |.inLoop body::k=>.ok ⟨⟨fn,nt,tmps,.code body::.inLoop body::k,defers,.run,kind⟩,callers,h⟩
 |.code c::k=>match c with
  |.ret=>match tagged kind with
   |true=>.error "marked return"
   |false=>.ok ⟨⟨fn,nt,tmps,.code .ret::k,defers,.returning,kind⟩,callers,h⟩
  |.skip=>.ok ⟨⟨fn,nt,tmps,k,defers,.run,kind⟩,callers,h⟩
  |.label _=>.ok ⟨⟨fn,nt,tmps,k,defers,.run,kind⟩,callers,h⟩
  |.seq a b=>.ok ⟨⟨fn,nt,tmps,.code a::.code b::k,defers,.run,kind⟩,callers,h⟩
  |.cond x thn els=>match kY tmps x with
   |.bool b=>match O.bool b with
    |.lit true=>.ok ⟨⟨fn,nt,tmps,.code thn::k,defers,.run,kind⟩,callers,h⟩
    |.lit false=>.ok ⟨⟨fn,nt,tmps,.code els::k,defers,.run,kind⟩,callers,h⟩
    |_=>.error "if an open test"
   |_=>.error "if"
  |.block id body=>.ok ⟨⟨fn,nt,tmps,.code body::.inBlock id::k,defers,.run,kind⟩,callers,h⟩
  |.loop body=>.ok ⟨⟨fn,nt,tmps,.code body::.inLoop body::k,defers,.run,kind⟩,callers,h⟩
  |.scope body=>.ok ⟨⟨fn,nt,tmps,.code body::.inScope body::k,defers,.run,kind⟩,callers,h⟩
  |.exit id=>match exitTo id k with
   |some k=>.ok ⟨⟨fn,nt,tmps,k,defers,.run,kind⟩,callers,h⟩
   |none=>.error "exit"
  |.goto l=>match gotoIn l k with
   |some k=>.ok ⟨⟨fn,nt,tmps,k,defers,.run,kind⟩,callers,h⟩
   |none=>.error "goto"
  |.region _ ops draw=>match draw with
   |false=>.ok ⟨⟨fn,nt,tmps,.inRegion ops (List.range ops.size)::k,defers,.run,kind⟩,callers,h⟩
   |true=>match Fc P O ext nt ops (cZ ops) tmps h with
    |some (j,t)=>.ok ⟨⟨fn,nt,t,.inRegion ops [j]::k,defers,.run,kind⟩,callers,h⟩
    |none=>match drawn P O ext call nt ops tmps h with
     |.ok (.on t h)=>.ok ⟨⟨fn,nt,t,k,defers,.run,kind⟩,callers,h⟩
     |.ok (.panic t ch h)=>.ok ⟨⟨fn,nt,t,k,defers,.panicking ch,kind⟩,callers,h⟩
     |.error e=>.error e
  |_=>.error "this code"
 |_=>.error "this item"
def defer?(P:Program)(O:dN)(ext:Ext)(fn:FuncId)(nt:Nat)(tmps:TT)(todo:List Item)(d:AD)(ds:List AD)(mode:gU)(kind:CallKind)(callers:List bW)(h:AH):M ee:=
 match invoke? P O ext h d with
 |.ok (.enter f args,h)=>match bT P f args .deferred with
  |.ok fr'=>.ok ⟨fr',⟨fn,nt,tmps,todo,ds,mode,kind⟩::callers,h⟩
  |.error e=>.error e
 |.ok (.value _,h)=>.ok ⟨⟨fn,nt,tmps,todo,ds,mode,kind⟩,callers,h⟩
 |.ok _=>.error "a deferred call"
 |.error e=>.error e
def wV(caller:bW):bW:=
 match caller with
 |⟨fn,nt,tmps,todo,defers,.panicking ((_,true)::_),kind⟩=>⟨fn,nt,tmps,todo,defers,.returning,kind⟩
 |fr=>fr
def step?(P:Program)(O:dN)(ext:Ext)(call:FuncId->List AV->AH->M (AE×AH))(c:ee):M (ee⊕(AE×AH)):=
 match c with
 |⟨⟨fn,nt,tmps,todo,defers,mode,kind⟩,callers,h⟩=>match mode with
  |.run=>match exec? P O ext call fn nt tmps todo defers kind callers h with
    |.ok c=>.ok (.inl c)
    |.error e=>.error e
  |.returning=>match tagged kind with
   |true=>.error "marked unwinding"
   |false=>match defers with
    |d::ds=>match defer? P O ext fn nt tmps todo d ds .returning kind callers h with
     |.ok c=>.ok (.inl c)
     |.error e=>.error e
    |[]=>match results? P O h fn tmps with
     |.error e=>.error e
     |.ok v=>match callers with
      |[]=>match kind with
       |.normal=>.ok (.inr (.returned v,h))
       |_=>.error "return kind"
      |caller::rest=>match kind with
       |.normal=>match ig caller v with
        |.ok caller=>.ok (.inl ⟨caller,rest,h⟩)
        |.error e=>.error e
       |.deferred=>.ok (.inl ⟨wV caller,rest,h⟩)
       |_=>.error "return kind"
  |.panicking chain=>match tagged kind with
   |true=>.error "marked unwinding"
   |false=>match defers with
    |d::ds=>match defer? P O ext fn nt tmps todo d ds (.panicking chain) kind callers h with
     |.ok c=>.ok (.inl c)
     |.error e=>.error e
    |[]=>match callers with
     |[]=>.ok (.inr (.panicked chain,h))
     |caller::rest=>.ok (.inl ⟨pz caller chain,rest,h⟩)
abbrev qH:=FuncId->List AV->AH->Option (M (AE×AH))
def L3:qH:=fun _ _ _=>none
def run?(P:Program)(O:dN)(ext:Ext)(sum:qH)(n:Nat):ee->M (AE×AH):=
 Nat.rec (fun _=>.error "fuel") (fun _ ih c=>
  match step? P O ext (fun f args h=>match sum f args h with
   |some r=>r
   |none=>match bT P f args .normal with
    |.ok fr=>ih ⟨fr,[],h⟩
    |.error e=>.error e) c with
  |.ok (.inl c)=>ih c
  |.ok (.inr r)=>.ok r
  |.error e=>.error e) n
end
noncomputable section
inductive XE where
 |ld(k:IntKind)|st|sw(k:IntKind)|cas(k:IntKind)|add(k:IntKind)
 |acquire|release|releaseMerge|quiet
 |typeOf|valueOf|L4|SQ|Z2|vType
def kind?(P:Program)(t:TypeId):M Nat:=
 match gd P (Extern.Rtype.kind t)with
 |some k=>.ok k
 |none=>.error "kind"
def mkV?(P:Program)(t:TypeId)(a:AA)(flags:Nat):M AV:=do
 pure (.agg [.ptr (some ⟨.rF P.globals.size,.lit (.ofNat t)⟩),.ptr (some a),.int .u64 (.lit (.ofNat ((<-kind? P t)+128+flags)))])
def partsV?(P:Program)(x:AV):M (TypeId×AA×Nat):=
 match x with
 |.agg [h,.ptr (some a),.int .u64 (.lit (.ofNat f))]=>match handle? P h with
  |some t=>if f=0||P.packed t then .error "Value nought" else .ok (t,a,f)
  |none=>.error "Value handle"
 |_=>.error "Value"
def Hr(P:Program)(s:Sem Bool):M Bool:=
 match gd P s with
 |some b=>.ok b
 |none=>.error "pureB"
def elemT?(P:Program)(t:TypeId):M TypeId:=
 match gd P (Extern.Rtype.elem? t)with
 |some (some e)=>.ok e
 |_=>.error "elem"
def unpackV?(P:Program)(h:AH)(x:AV):M (AV×AH):=do
 match x with
 |.iface t v=>do
  let cs<-v.cells?;let(x,h)<-alloc? h (.cells cs t)
  match x with
  |.ptr (some a)=>do
   let r<-mkV? P t a 0
   pure (r,h)
  |_=>.error "unpack"
 |.nilIface=>pure (.agg [.ptr none,.ptr none,.int .u64 (.lit 0)],h)
 |_=>.error "unpack"
def qL(O:dN)(h:AH)(a:AA)(k:IntKind):M IE:=do
 match<-sG O h a with
 |.int k' e=>if k=k' then pure e else .error "atomic"
 |_=>.error "atomic"
def isNil?:AV->M Bool
 |.chan none|.nilFunc|.nilIface|.map none|.ptr none|.slice none _ _=>.ok true
 |.chan (some _)|.func ..|.iface ..|.map (some _)|.ptr (some _)|.slice (some _) _ _=>.ok false
 |_=>.error "IsNil"
def xIsNil?(P:Program)(O:dN)(h:AH)(x:AV):M (AV×AH):=do
 let(t,a,fl)<-partsV? P x
 if[18,19,20,21,22,23,26].contains (fl % 32)then do
  let v<-loadVar? P O h t a;let b<-isNil? v
  pure (.bool (.lit b),h)
 else .error "IsNil kind"
def xElem?(P:Program)(O:dN)(h:AH)(x:AV):M (AV×AH):=do
 let(t,a,fl)<-partsV? P x;let v<-loadVar? P O h t a
 if fl % 32=22 then do
  let e<-elemT? P t
  match v with
  |.ptr none=>pure (.agg [.ptr none,.ptr none,.int .u64 (.lit 0)],h)
  |.ptr (some p)=>do
   pure (<-mkV? P e p 256,h)
  |_=>.error "Elem"
 else if fl % 32=20 then do
  let _<-(match gd P (Extern.Rtype.elem? t)with|some e=>.ok e|none=>.error "Elem" :M (Option TypeId))
  unpackV? P h v
 else .error "Elem kind"
def setVal?(P:Program)(dst src:TypeId)(val:AV):M AV:=
 match Hr P (Extern.Rtype.directlyAssignable dst src)with
 |.error e=>.error e
 |.ok true=>.ok val
 |.ok false=>match Hr P (pg dst src)with
  |.ok true=>match kind? P src with
   |.ok k=>if k=20 then(match val with
    |.iface t v=>.ok (.iface t v)
    |_=>.error "Set nil")else .ok (.iface src val)
   |.error e=>.error e
  |.ok false=>.error "Set type"
  |.error e=>.error e
def xSet?(P:Program)(O:dN)(h:AH)(v x:AV):M (AV×AH):=do
 let(dst,a,fl)<-partsV? P v;let(src,b,_)<-partsV? P x
 if fl / 256 % 2=0 then .error "Set" else
 let val<-loadVar? P O h src b;let val<-setVal? P dst src val;let h<-storeVar? P h dst a val
 pure (cL,h)
def ext?(P:Program)(O:dN)(Qp:List (FuncId×XE)):Ext:=fun h f args=>
 match look (fun a b=>a==b) f Qp with
 |none=>.error "no entry"
 |some x=>match x,args with
  |.ld k,[.ptr (some a)]=>do
   let e<-qL O h a k
   pure (.int k e,h)
  |.st,[.ptr (some a),v]=>do
   let h<-gT h a v
   pure (cL,h)
  |.sw k,[.ptr (some a),v]=>do
   let e<-qL O h a k;let h<-gT h a v
   pure (.int k e,h)
  |.cas k,[.ptr (some a),.int _ old,v]=>do
   let e<-qL O h a k;let b<-O.dec (.cmp .eql e old);let h2<-gT h a v
   pure (.bool (.lit b),if b then h2 else h)
  |.add k,[.ptr (some a),.int _ d]=>do
   let e<-qL O h a k;let h<-gT h a (.int k (O.int (.op .add k e d)))
   pure (.int k (O.int (.op .add k e d)),h)
  |.acquire,[.ptr (some _)]=>pure (cL,h)
  |.release,[.ptr (some _)]=>pure (cL,h)
  |.releaseMerge,[.ptr (some _)]=>pure (cL,h)
  |.quiet,_=>pure (cL,h)
  |.typeOf,[.iface t _]=>match gd P (Extern.ReflectliteType.toType t)with
   |some v=>pure (ofValue v,h)
   |none=>.error "toType"
  |.typeOf,[.nilIface]=>pure (.nilIface,h)
  |.valueOf,[x]=>unpackV? P h x
  |.vType,[x]=>do
   let(t,_,_)<-partsV? P x
   match gd P (Extern.ReflectliteType.toType t)with
   |some v=>pure (ofValue v,h)
   |none=>.error "toType"
  |.L4,[x]=>xIsNil? P O h x
  |.SQ,[x]=>xElem? P O h x
  |.Z2,[v,x]=>xSet? P O h v x
  |_,_=>.error "entry arguments"
end
structure Env where
 i:Nat->Int
 p:Nat->Bool
 v:Nat->Value
 b:Nat->Nat
 bt:Option Nat×List Deferred:=(none,[])
 s:Nat->ByteArray:=fun _=>⟨#[]⟩
def SE.ev(ρ:Env):SE->ByteArray
 |.lit s=>s
 |.var i=>ρ.s i
 |.cat a b=>a.ev ρ++b.ev ρ
def IE.ev(ρ:Env):IE->Int
 |.lit n=>n
 |.var i=>ρ.i i
 |.op o k a b=>iz o k (a.ev ρ) (b.ev ρ)
 |.conv k a=>k.wrap (a.ev ρ)
 |.plus a b=>a.ev ρ+b.ev ρ
 |.times a b=>a.ev ρ*b.ev ρ
 |.tn a=>((a.ev ρ).toNat:Int)
 |.jH a=>((a.ev ρ).size:Int)
def BE.ev(ρ:Env):BE->Bool
 |.lit b=>b
 |.var i=>ρ.p i
 |.cmp o a b=>Ci o (a.ev ρ) (b.ev ρ)
 |.seq n a b=>(((a.ev ρ).toList==(b.ev ρ).toList) != n)
def BR.ev(ρ:Env):BR->Nat
 |.rF g=>g
 |.dyn i=>ρ.b i
def AA.ev(ρ:Env)(a:AA):Addr:=⟨a.blk.ev ρ,(a.off.ev ρ).toNat,none⟩
mutual
def AV.ev(ρ:Env):AV->Value
 |.bool b=>.bool (b.ev ρ)
 |.int k e=>.int k (e.ev ρ)
 |.str s=>.string s
 |.ptr a=>.pointer (a.map (AA.ev ρ))
 |.slice a l c=>.slice (a.map (AA.ev ρ)) (l.ev ρ).toNat (c.ev ρ).toNat
 |.map r=>.map (r.map (BR.ev ρ))
 |.chan r=>.chan (r.map (BR.ev ρ))
 |.func f x y=>.func f (AV.evs ρ x).toArray (AV.evs ρ y).toArray
 |.nilFunc=>.nilFunc
 |.iface t v=>.iface t (v.ev ρ)
 |.nilIface=>.nilIface
 |.agg x=>.agg (AV.evs ρ x).toArray
 |.tuple x=>.tuple (AV.evs ρ x).toArray
 |.bF i=>ρ.v i
 |.raw v=>v
 |.ss e=>.string (e.ev ρ)
def AV.evs(ρ:Env):List AV->List Value
 |[]=>[]
 |a::x=>a.ev ρ::AV.evs ρ x
end
theorem ja(ρ:Env):∀l,AV.evs ρ l=l.map (AV.ev ρ)
 |[]=>by simp[AV.evs]
 |a::l=>by simp[AV.evs,ja ρ l]
theorem SE.cM:∀{a b:SE},a.fe b=true->a=b:=by
 intro a
 induction a with
 |lit s=>intro b h;cases b<;>simp_all [SE.fe];rename_i t;cases s;cases t;simp_all
 |var i=>intro b h;cases b<;>simp_all [SE.fe]
 |cat x y U2 U3=>intro b h;cases b<;>simp_all [SE.fe];exact⟨U2 h.1,U3 h.2⟩
theorem IE.cM:∀{a b:IE},a.fe b=true->a=b:=by
 intro a
 induction a with
 |lit n=>intro b h;cases b<;>simp_all [IE.fe]
 |var n=>intro b h;cases b<;>simp_all [IE.fe]
 |op o k x y U2 U3=>intro b h;cases b<;>simp_all [IE.fe];exact⟨U2 h.1.2,U3 h.2⟩
 |conv k x ih=>intro b h;cases b<;>simp_all [IE.fe];exact ih h.2
 |plus x y U2 U3=>intro b h;cases b<;>simp_all [IE.fe];exact⟨U2 h.1,U3 h.2⟩
 |times x y U2 U3=>intro b h;cases b<;>simp_all [IE.fe];exact⟨U2 h.1,U3 h.2⟩
 |tn x ih=>intro b h;cases b<;>simp_all [IE.fe];exact ih h
 |jH x=>intro b h;cases b<;>simp_all [IE.fe];exact SE.cM h
theorem BE.cM:∀{a b:BE},a.fe b=true->a=b:=by
 intro a b h;cases a<;>cases b<;>simp_all [BE.fe]
 ·exact⟨IE.cM h.1.2,IE.cM h.2⟩
 ·exact⟨SE.cM h.1.2,SE.cM h.2⟩
theorem BR.cM:∀{a b:BR},a.fe b=true->a=b:=by intro a b h;cases a<;>cases b<;>simp_all [BR.fe]
theorem AA.cM:∀{a b:AA},a.fe b=true->a=b:=by intro a b h;obtain⟨x,y⟩:=a;obtain⟨x',y'⟩:=b;simp[AA.fe]at h;simp[BR.cM h.1,IE.cM h.2]
theorem nX{α:Type}{f:α->α->Bool}(hf:∀{a b},f a b=true->a=b):∀{a b:Option α},rG f a b=true->a=b:=by intro a b h;cases a<;>cases b<;>simp_all [rG];exact hf h
mutual
theorem AV.cM:∀(a b:AV),a.fe b=true->a=b
 |.bool x,b,h=>by cases b<;>simp_all [AV.fe];exact BE.cM h
 |.int k x,b,h=>by cases b<;>simp_all [AV.fe];exact IE.cM h.2
 |.str s,b,h=>by cases b<;>simp_all [AV.fe];rename_i t;cases s;cases t;simp_all
 |.ptr a,b,h=>by cases b<;>simp_all [AV.fe];exact nX AA.cM h
 |.slice a l c,b,h=>by cases b<;>simp_all [AV.fe];exact⟨nX AA.cM h.1.1,IE.cM h.1.2,IE.cM h.2⟩
 |.map a,b,h=>by cases b<;>simp_all [AV.fe];exact nX BR.cM h
 |.chan a,b,h=>by cases b<;>simp_all [AV.fe];exact nX BR.cM h
 |.func f x y,b,h=>by cases b<;>simp_all [AV.fe];exact⟨AV.lI _ _ h.1.2,AV.lI _ _ h.2⟩
 |.nilFunc,b,h=>by cases b<;>simp_all [AV.fe]
 |.iface t v,b,h=>by cases b<;>simp_all [AV.fe];exact AV.cM _ _ h.2
 |.nilIface,b,h=>by cases b<;>simp_all [AV.fe]
 |.agg x,b,h=>by cases b<;>simp_all [AV.fe];exact AV.lI _ _ h
 |.tuple x,b,h=>by cases b<;>simp_all [AV.fe];exact AV.lI _ _ h
 |.bF i,b,h=>by cases b<;>simp_all [AV.fe]
 |.raw v,b,h=>by cases b<;>simp_all [AV.fe]
 |.ss e,b,h=>by cases b<;>simp_all [AV.fe];exact SE.cM h
theorem AV.lI:∀(a b:List AV),AV.vR a b=true->a=b
 |[],b,h=>by cases b<;>simp_all [AV.vR]
 |a::x,b,h=>by cases b<;>simp_all [AV.vR];exact⟨AV.cM _ _ h.1,AV.lI _ _ h.2⟩
end
theorem TT.cM:∀{a b:TT},a.fe b=true->a=b:=by
 intro a
 induction a with
 |leaf=>intro b h;cases b<;>simp_all [TT.fe]
 |node v l r ihl ihr=>intro b h;cases b<;>simp_all [TT.fe];exact⟨AV.cM _ _ h.1.1,ihl h.1.2,ihr h.2⟩
theorem uZ:∀{a b:List (AV×AV)},l7 a b=true->a=b:=by
 intro a
 induction a with
 |nil=>intro b h;cases b with
  |nil=>rfl
  |cons x l=>simp[l7]at h
 |cons x l ih=>intro b h;cases b with
  |nil=>simp[l7]at h
  |cons y m=>obtain⟨x1,x2⟩:=x;obtain⟨y1,y2⟩:=y;simp only[l7,aq]at h;rw[AV.cM _ _ h.1.1,AV.cM _ _ h.1.2,ih h.2]
theorem u0:∀{a b:List (IE×AV)},l8 a b=true->a=b:=by
 intro a
 induction a with
 |nil=>intro b h;cases b with
  |nil=>rfl
  |cons x l=>simp[l8]at h
 |cons x l ih=>intro b h;cases b with
  |nil=>simp[l8]at h
  |cons y m=>obtain⟨x1,x2⟩:=x;obtain⟨y1,y2⟩:=y;simp only[l8,aq]at h;rw[IE.cM h.1.1,AV.cM _ _ h.1.2,ih h.2]
theorem Bh:∀{a b:List (AA×Option AV)},lU a b=true->a=b:=by
 intro a
 induction a with
 |nil=>intro b h;cases b with
  |nil=>rfl
  |cons x l=>simp[lU]at h
 |cons x l ih=>intro b h;cases b with
  |nil=>simp[lU]at h
  |cons y m=>obtain⟨x1,x2⟩:=x;obtain⟨y1,y2⟩:=y;simp only[lU,aq]at h;rw[AA.cM h.1.1,nX (fun h=>AV.cM _ _ h) h.1.2,ih h.2]
theorem bQ.cM:∀{a b:bQ},a.fe b=true->a=b:=by
 intro a b h;cases a<;>cases b<;>simp_all [bQ.fe]
 ·exact AV.lI _ _ h.1
 ·exact⟨AV.lI _ _ h.1.1,IE.cM h.2⟩
 ·exact AV.lI _ _ h.1.1
 ·exact uZ h
 ·obtain⟨⟨⟨h1,h2⟩,h3⟩,h4⟩:=h;exact⟨IE.cM h2,Bh h3,uZ h4⟩
 ·obtain⟨⟨⟨⟨⟨⟨h1,h2⟩,h3⟩,h4⟩,h5⟩,h6⟩,h7⟩:=h;exact⟨IE.cM h2,u0 h3,u0 h4,AV.lI _ _ h5,IE.cM h7⟩
theorem Ck:∀{a b:List (Nat×bQ)},wT a b=true->a=b:=by
 intro a
 induction a with
 |nil=>intro b h;cases b<;>simp_all [wT]
 |cons p l ih=>
  intro b h;cases b with
  |nil=>simp[wT]at h
  |cons q m=>obtain⟨i,x⟩:=p;obtain⟨j,y⟩:=q;simp[wT,Nat.beq_eq]at h;obtain⟨⟨rfl,h2⟩,h3⟩:=h;rw[bQ.cM h2,ih h3]
@[simp] theorem TT.Z3(n:Nat):TT.leaf.get n=cL:=rfl
@[simp] theorem TT.Qq(v:AV)(l r:TT):(TT.node v l r).get 0=v:=rfl
theorem TT.iB(v:AV)(l r:TT)(m:Nat):(TT.node v l r).get (m+1)=if m % 2=0 then r.get (m / 2)else l.get (m / 2):=by
 show(Bool.rec (motive:=fun _=>AV) (l.get (m / 2)) (r.get (m / 2)) (Nat.beq (m % 2) 0))=_;by_cases h:m % 2=0
 ·simp[h]
 ·simp only[if_neg h];have:Nat.beq (m % 2) 0=false:=by
   cases hb:Nat.beq (m % 2) 0 with
   |false=>rfl
   |true=>exact absurd (aJ hb) h
  rw[this]
theorem TT.rJ(v:AV)(f:Nat):TT.set v (f+1) .leaf 0=.node v .leaf .leaf:=rfl
theorem TT.rK(v u:AV)(f:Nat)(l r:TT):TT.set v (f+1) (.node u l r) 0=.node v l r:=rfl
theorem Hs(m:Nat)(h:¬m % 2=0):Nat.beq (m % 2) 0=false:=by
 cases hb:Nat.beq (m % 2) 0 with
 |false=>rfl
 |true=>exact absurd (aJ hb) h
theorem TT.rL(v:AV)(f m:Nat):TT.set v (f+1) .leaf (m+1)=if m % 2=0 then .node cL .leaf (TT.set v f .leaf (m / 2))else .node cL (TT.set v f .leaf (m / 2)) .leaf:=by
 show Bool.rec (motive:=fun _=>TT) (TT.node cL (TT.set v f .leaf (m / 2)) .leaf) (TT.node cL .leaf (TT.set v f .leaf (m / 2))) (Nat.beq (m % 2) 0)=_;by_cases h:m % 2=0
 ·simp[h]
 ·rw[Hs m h,if_neg h]
theorem TT.rM(v u:AV)(f m:Nat)(l r:TT):TT.set v (f+1) (.node u l r) (m+1)=if m % 2=0 then .node u l (TT.set v f r (m / 2))else .node u (TT.set v f l (m / 2)) r:=by
 show Bool.rec (motive:=fun _=>TT) (TT.node u (TT.set v f l (m / 2)) r) (TT.node u l (TT.set v f r (m / 2))) (Nat.beq (m % 2) 0)=_;by_cases h:m % 2=0
 ·simp[h]
 ·rw[Hs m h,if_neg h]
theorem TT.sN(v:AV):∀(f:Nat) (t:TT) (n m:Nat),n+1<2 ^ f->(TT.set v f t n).get m=if m=n then v else t.get m:=by
 intro f
 induction f with
 |zero=>intro t n m h;simp at h
 |succ f ih=>
  intro t n m h;have ap9:2 ^ (f+1)=2*2 ^ f:=by rw[Nat.pow_succ,Nat.mul_comm]
  cases t with
  |leaf=>
   cases n with
   |zero=>
    rw[TT.rJ];cases m with
    |zero=>simp
    |succ m=>simp[TT.iB]
   |succ n=>
    have h':n / 2+1<2 ^ f:=by omega
    rw[TT.rL];cases m with
    |zero=>split<;>simp
    |succ m=>
     split<;>rename_i hn<;>rw[TT.iB]<;>split<;>rename_i hm
     ·rw[ih _ _ _ h'];by_cases e:m=n
      ·subst e;simp
      ·have:¬m / 2=n / 2:=by omega
       simp[this,e]
     ·have:¬m=n:=by omega
      simp[this]
     ·have:¬m=n:=by omega
      simp[this]
     ·rw[ih _ _ _ h'];by_cases e:m=n
      ·subst e;simp
      ·have:¬m / 2=n / 2:=by omega
       simp[this,e]
  |node u l r=>
   cases n with
   |zero=>
    rw[TT.rK];cases m with
    |zero=>simp
    |succ m=>simp[TT.iB]
   |succ n=>
    have h':n / 2+1<2 ^ f:=by omega
    rw[TT.rM];cases m with
    |zero=>split<;>simp
    |succ m=>
     split<;>rename_i hn<;>rw[TT.iB,TT.iB]<;>split<;>rename_i hm
     ·rw[ih _ _ _ h'];by_cases e:m=n
      ·subst e;simp
      ·have:¬m / 2=n / 2:=by omega
       simp[this,e]
     ·have:¬m=n:=by omega
      simp[this]
     ·have:¬m=n:=by omega
      simp[this]
     ·rw[ih _ _ _ h'];by_cases e:m=n
      ·subst e;simp
      ·have:¬m / 2=n / 2:=by omega
       simp[this,e]
theorem TT.sO:∀(l:List AV) (n:Nat) (t:TT) (m:Nat),n+l.length≤60000->(TT.fill l n t).get m=if n≤m∧m<n+l.length then l.getD (m-n) cL else t.get m:=by
 intro l
 induction l with
 |nil=>intro n t m _;simp[TT.fill];intro h;omega
 |cons v l ih=>
  intro n t m h;simp only[aC]at h;rw[TT.fill,ih (n+1) _ m (by omega),TT.sN v 16 t n m (by omega)];by_cases h1:n+1≤m∧m<n+1+l.length
  ·rw[if_pos h1,if_pos (by simp only[aC];omega)];have:m-n=(m-(n+1))+1:=by omega
   rw[this];simp
  ·rw[if_neg h1];by_cases h2:m=n
   ·subst h2;simp
   ·rw[if_neg h2,if_neg (by simp only[aC];omega)]
theorem qm(i:Nat):cG i []=none:=rfl
theorem dZ(i j:Nat)(b:bQ)(l:List (Nat×bQ)):cG i ((j,b)::l)=if i=j then some b else cG i l:=by
 show Bool.rec (motive:=fun _=>Option bQ) (cG i l) (some b) (Nat.beq i j)=_;by_cases h:i=j
 ·subst h;simp
 ·have:Nat.beq i j=false:=by
   cases hb:Nat.beq i j with
   |false=>rfl
   |true=>exact absurd (aJ hb) h
  rw[this,if_neg h]
theorem zM(i j:Nat)(b c:bQ)(l:List (Nat×bQ)):wP i b ((j,c)::l)=if i=j then(j,b)::l else(j,c)::wP i b l:=by
 show Bool.rec (motive:=fun _=>List (Nat×bQ)) ((j,c)::wP i b l) ((j,b)::l) (Nat.beq i j)=_;by_cases h:i=j
 ·subst h;simp
 ·have:Nat.beq i j=false:=by
   cases hb:Nat.beq i j with
   |false=>rfl
   |true=>exact absurd (aJ hb) h
  rw[this,if_neg h]
theorem wW(i j:Nat)(c:bQ)(l:List (Nat×bQ)):jw i ((j,c)::l)=if i=j then l else(j,c)::jw i l:=by
 show Bool.rec (motive:=fun _=>List (Nat×bQ)) ((j,c)::jw i l) l (Nat.beq i j)=_;by_cases h:i=j
 ·subst h;simp
 ·have:Nat.beq i j=false:=by
   cases hb:Nat.beq i j with
   |false=>rfl
   |true=>exact absurd (aJ hb) h
  rw[this,if_neg h]
theorem zN(i j:Nat)(b c:bQ)(l:List (Nat×bQ)):rH i b ((j,c)::l)=if j<i then(i,b)::(j,c)::l else(j,c)::rH i b l:=by
 show Bool.rec (motive:=fun _=>List (Nat×bQ)) ((j,c)::rH i b l) ((i,b)::(j,c)::l) (Nat.ble (j+1) i)=_;by_cases h:j<i
 ·have:Nat.ble (j+1) i=true:=Nat.ble_eq_true_of_le h;rw[this,if_pos h]
 ·have:Nat.ble (j+1) i=false:=by
   cases hb:Nat.ble (j+1) i with
   |false=>rfl
   |true=>exact absurd (Nat.le_of_ble_eq_true hb) h
  rw[this,if_neg h]
def keys(l:List (Nat×bQ)):List Nat:=l.map (·.1)
theorem dF(i j:Nat)(b:bQ):∀l,cG j (wP i b l)=if j=i then(cG i l).map (fun _=>b)else cG j l
 |[]=>by simp[wP,qm]
 |(k,c)::l=>by
  rw[zM];split
  ·rename_i h;subst h;rw[dZ,dZ,dZ];split
   ·rename_i h;subst h;simp
   ·rename_i h;simp
  ·rename_i h;rw[dZ,dF i j b l,dZ,dZ,if_neg h];by_cases e:j=k
   ·subst e;rw[if_pos rfl,if_neg (fun e=>h e.symm)];simp
   ·simp[e]
theorem wX{i:Nat}:∀{l:List (Nat×bQ)},i∉keys l->cG i l=none
 |[],_=>rfl
 |(j,b)::l,h=>by simp[keys]at h;rw[dZ,if_neg h.1];exact wX (by simp[keys];exact h.2)
theorem qn{i:Nat}{b:bQ}:∀{l:List (Nat×bQ)},cG i l=some b->i∈keys l
 |[],h=>by simp[qm]at h
 |(j,c)::l,h=>by
  rw[dZ]at h;split at h
  ·rename_i e;subst e;simp[keys]
  ·have:=qn h;simp[keys]at this⊢;exact .inr this
theorem kG(i j:Nat)(b:bQ):∀l,i∉keys l->cG j (rH i b l)=if j=i then some b else cG j l
 |[],_=>by show cG j [(i,b)]=_;rw[dZ,qm]
 |(k,c)::l,h=>by
  simp[keys]at h;rw[zN];split
  ·rw[dZ]
  ·rw[dZ,kG i j b l (by simp[keys];exact h.2),dZ];by_cases e:j=k
   ·subst e;rw[if_pos rfl,if_neg (fun e=>h.1 e.symm),if_pos rfl]
   ·rw[if_neg e,if_neg e]
theorem um(i:Nat)(b:bQ):∀l,(keys (rH i b l)).Perm (i::keys l)
 |[]=>by show(keys [(i,b)]).Perm _;simp[keys]
 |(k,c)::l=>by
  rw[zN];split
  ·simp[keys]
  ·have:=um i b l;simp only[keys,aU]at this⊢;exact(List.Perm.cons k this).trans (List.Perm.swap i k _)
theorem jb(i:Nat)(b:bQ):∀l,keys (wP i b l)=keys l
 |[]=>rfl
 |(k,c)::l=>by
  rw[zM];split
  ·simp[keys]
  ·have:=jb i b l;simp only[keys,aU]at this⊢;rw[this]
theorem iL(i j:Nat):∀l,(keys l).Nodup->cG j (jw i l)=if j=i then none else cG j l
 |[],_=>by simp[jw,qm]
 |(k,c)::l,h=>by
  simp only[keys,aU,List.nodup_cons]at h;rw[wW];split
  ·rename_i e;subst e;rw[dZ];split
   ·rename_i e;subst e;exact wX h.1
   ·rfl
  ·rename_i e;rw[dZ,iL i j l h.2,dZ];by_cases e':j=k
   ·subst e';rw[if_pos rfl,if_neg (fun x=>e x.symm),if_pos rfl]
   ·rw[if_neg e',if_neg e']
theorem l_(i:Nat):∀l,(keys (jw i l)).Sublist (keys l)
 |[]=>List.Sublist.refl _
 |(k,c)::l=>by
  rw[wW];split
  ·simp[keys]
  ·have:=l_ i l;simp only[keys,aU]at this⊢;exact this.cons_cons k
theorem jc{α β:Type}{eq:α->α->Bool}{a:α}{y:β}:∀{l:List (α×β)},look eq a l=some y->∃x,(x,y)∈l∧eq a x=true
 |[],h=>by simp[look]at h
 |(x,z)::l,h=>by
  have h':(Bool.rec (look eq a l) (some z) (eq a x):Option β)=some y:=h;cases e:eq a x with
  |true=>rw[e]at h';simp at h';subst h';exact⟨x,by simp,e⟩
  |false=>rw[e]at h';obtain⟨x',hm,he⟩:=jc (l:=l) h';exact⟨x',af _ hm,he⟩
def wq{α:Type}(P:Program)(Ev:Event->Prop)(E:Value->World->Prop):Sem α->(α->World->Prop)->World->Prop
 |.pure a,Q,w=>Q a w
 |.load m a k,Q,w=>∃v,w.cell? a=some v∧Ev ⟨.cell a,false,m==.atomic⟩∧wq P Ev E (k v) Q w
 |.store m a v k,Q,w=>v.oneCell'=true∧(∃u,w.cell? a=some u)∧w.frozen? a=false∧Ev ⟨.cell a,true,m==.atomic⟩∧wq P Ev E k Q (w.setCell a v)
 |.new o k,Q,w=>wq P Ev E (k w.heap.size) Q {w with heap:=w.heap.push o}
 |.shape r k,Q,w=>wq P Ev E (k (w.shape? r)) Q w
 |.freeze _ _ _,_,_=>False
 |.frozen a k,Q,w=>wq P Ev E (k (w.frozen? a)) Q w
 |.getObj r k,Q,w=>∃o,w.heap[r]?=some o∧(∀c e f,o≠.cells c e f)∧Ev ⟨.obj r,false,o.isChan⟩∧wq P Ev E (k o) Q w
 |.setObj r o k,Q,w=>(∃o',w.heap[r]?=some o'∧∀c e f,o'≠.cells c e f)∧Ev ⟨.obj r,true,o.isChan⟩∧wq P Ev E k Q {w with heap:=w.heap.setIfInBounds r o}
 |.choose q k,Q,w=>if q.forced then wq P Ev E (k 0) Q w else ∀n,wq P Ev E (k (q.cut n)) Q {w with drawn:=w.drawn+1}
 |.sys _ _,_,_=>False
 |.program k,Q,w=>wq P Ev E (k P) Q w
 |.mark m k,Q,w=>Ev ⟨.mark m,false,true⟩∧wq P Ev E k Q w
 |.halt (.panic v),_,w=>E v w
 |.halt _,_,_=>False
def _root_.Go.Result.goes{α:Type}(Q:α->World->Prop)(E:Value->World->Prop):Result α->Prop
 |.ok a w=>Q a w
 |.halt (.panic v) w=>E v w
 |.halt _ _=>False
section
variable {α β:Type}{P:Program}{Ev:Event->Prop}{E:Value->World->Prop}
theorem L5(s:Sem α):∀{Q:α->World->Prop} {w:World} (es:Array Event),wq P Ev E s Q w->(∀e∈es,Ev e)->(s.runT P w es).1.goes Q E∧∀e∈(s.runT P w es).2,Ev e:=by
 have push:∀(es:Array Event) (x:Event),(∀e∈es,Ev e)->Ev x->∀e∈es.push x,Ev e:=fun es x h hx e he=>by
  rcases Array.mem_push.1 he with h'|rfl
  ·exact h _ h'
  ·exact hx
 induction s with
 |pure a=>intro Q w es h he;exact⟨h,he⟩
 |load m a k ih=>intro Q w es h he;obtain⟨v,hc,hv,hk⟩:=h;simp only[Sem.runT,hc];exact ih v _ hk (push _ _ he hv)
 |store m a v k ih=>
  intro Q w es h he;obtain⟨h1,⟨u,hu⟩,hf,hv,hk⟩:=h;cases v<;>first
   |(simp[Value.oneCell']at h1;done)
   |(simp only[Sem.runT,hu,hf,aH,if_false];exact ih _ hk (push _ _ he hv))
 |new o k ih=>intro Q w es h he;simp only[Sem.runT];exact ih _ _ h he
 |shape r k ih=>intro Q w es h he;simp only[Sem.runT];exact ih _ _ h he
 |freeze a n k ih=>intro Q w es h he;exact h.elim
 |frozen a k ih=>intro Q w es h he;simp only[Sem.runT];exact ih _ _ h he
 |getObj r k ih=>
  intro Q w es h he;obtain⟨o,ho,hn,hv,hk⟩:=h;simp only[Sem.runT,ho];cases o<;>first
   |exact absurd rfl (hn _ _ _)
   |exact ih _ _ hk (push _ _ he hv)
 |setObj r o k ih=>
  intro Q w es h he;obtain⟨⟨o',ho,hn⟩,hv,hk⟩:=h;simp only[Sem.runT,ho];cases o'<;>first
   |exact absurd rfl (hn _ _ _)
   |exact ih _ hk (push _ _ he hv)
 |choose q k ih=>
  intro Q w es h he;simp only[wq]at h;simp only[Sem.runT];split at h
  ·rename_i hq;rw[if_pos hq];exact ih _ _ h he
  ·rename_i hq;rw[if_neg hq];exact ih _ _ (h _) he
 |sys c k ih=>intro Q w es h he;exact h.elim
 |program k ih=>intro Q w es h he;simp only[Sem.runT];exact ih _ _ h he
 |mark m k ih=>intro Q w es h he;simp only[Sem.runT];exact ih _ h.2 (push _ _ he h.1)
 |halt x=>
  intro Q w es h he;cases x<;>first
   |exact⟨h,he⟩
   |exact(show False from h).elim
theorem me{s:Sem α}{Q:α->World->Prop}{w:World}(h:wq P Ev E s Q w):(s.run P w).goes Q E∧∀e∈s.events P w #[],Ev e:=by have:=L5 s #[] h (by simp);rw[Sem.runT_fst]at this;exact this
theorem Cm(x:Sem α)(f:α->Sem β){Q:β->World->Prop}:∀{w:World},wq P Ev E (x.bind f) Q w↔wq P Ev E x (fun a w=>wq P Ev E (f a) Q w) w:=by
 induction x with
 |pure a=>intro w;exact Iff.rfl
 |load m a k ih=>intro w;simp only[Sem.bind,wq,ih]
 |store m a v k ih=>intro w;simp only[Sem.bind,wq,ih]
 |new o k ih=>intro w;simp only[Sem.bind,wq,ih]
 |shape r k ih=>intro w;simp only[Sem.bind,wq,ih]
 |freeze a n k ih=>intro w;simp only[Sem.bind,wq]
 |frozen a k ih=>intro w;simp only[Sem.bind,wq,ih]
 |getObj r k ih=>intro w;simp only[Sem.bind,wq,ih]
 |setObj r o k ih=>intro w;simp only[Sem.bind,wq,ih]
 |choose q k ih=>intro w;simp only[Sem.bind,wq,ih]
 |sys c k ih=>intro w;simp only[Sem.bind,wq]
 |program k ih=>intro w;simp only[Sem.bind,wq,ih]
 |mark m k ih=>intro w;simp only[Sem.bind,wq,ih]
 |halt h=>intro w;cases h<;>simp only[Sem.bind,wq]
@[simp] theorem bH(x:Sem α)(f:α->Sem β){Q:β->World->Prop}{w:World}:wq P Ev E (x>>= f) Q w↔wq P Ev E x (fun a w=>wq P Ev E (f a) Q w) w:=Cm x f
@[simp] theorem L6(x:Sem α)(f:α->β){Q:β->World->Prop}{w:World}:wq P Ev E (f<$>x) Q w↔wq P Ev E x (fun a w=>Q (f a) w) w:=Cm x _
@[simp] theorem bI(a:α){Q:α->World->Prop}{w:World}:wq P Ev E (Pure.pure a) Q w↔Q a w:=Iff.rfl
@[simp] theorem Z4(a:α){Q:α->World->Prop}{w:World}:wq P Ev E (Sem.pure a) Q w↔Q a w:=Iff.rfl
@[simp] theorem iM{Q:Program->World->Prop}{w:World}:wq P Ev E program Q w↔Q P w:=Iff.rfl
@[simp] theorem jO(o:Obj){Q:Nat->World->Prop}{w:World}:wq P Ev E (newObj o) Q w↔Q w.heap.size {w with heap:=w.heap.push o}:=Iff.rfl
@[simp] theorem sP(r:Nat){Q:Option (TypeId×Nat)->World->Prop}{w:World}:wq P Ev E (shape r) Q w↔Q (w.shape? r) w:=Iff.rfl
@[simp] theorem nY(a:Addr){Q:Bool->World->Prop}{w:World}:wq P Ev E (frozen a) Q w↔Q (w.frozen? a) w:=Iff.rfl
@[simp] theorem oA(m:Mark){Q:Unit->World->Prop}{w:World}:wq P Ev E (mark m) Q w↔Ev ⟨.mark m,false,true⟩∧Q () w:=Iff.rfl
@[simp] theorem Fe(v:Value){Q:α->World->Prop}{w:World}:wq P Ev E (goPanic v) Q w↔E v w:=Iff.rfl
theorem v_(a:Addr)(m:Mode){Q:Value->World->Prop}{w:World}:wq P Ev E (load a m) Q w↔∃v,w.cell? a=some v∧Ev ⟨.cell a,false,m==.atomic⟩∧Q v w:=Iff.rfl
theorem pH(a:Addr)(v:Value)(m:Mode){Q:Unit->World->Prop}{w:World}:
 wq P Ev E (store a v m) Q w↔v.oneCell'=true∧(∃u,w.cell? a=some u)∧w.frozen? a=false∧Ev ⟨.cell a,true,m==.atomic⟩∧Q () (w.setCell a v):=Iff.rfl
theorem uo(q:Question){Q:Nat->World->Prop}{w:World}:wq P Ev E (choose q) Q w↔if q.forced then Q 0 w else ∀n,Q (q.cut n) {w with drawn:=w.drawn+1}:=Iff.rfl
@[simp] theorem gq(c:Prop)[Decidable c](x y:Sem α){Q:α->World->Prop}{w:World}:wq P Ev E (if c then x else y) Q w↔if c then wq P Ev E x Q w else wq P Ev E y Q w:=by split<;>exact Iff.rfl
theorem Qx{s:Sem α}{Q Q':α->World->Prop}{E':Value->World->Prop}(hE:∀v w,E v w->E' v w)(hQ:∀a w,Q a w->Q' a w):∀{w:World},wq P Ev E s Q w->wq P Ev E' s Q' w:=by
 induction s with
 |pure a=>intro w h;exact hQ _ _ h
 |load m a k ih=>intro w h;obtain⟨v,h1,h2,h3⟩:=h;exact⟨v,h1,h2,ih _ h3⟩
 |store m a v k ih=>intro w h;obtain⟨h1,h2,h3,h4,h5⟩:=h;exact⟨h1,h2,h3,h4,ih h5⟩
 |new o k ih=>intro w h;exact ih _ h
 |shape r k ih=>intro w h;exact ih _ h
 |freeze a n k ih=>intro w h;exact h
 |frozen a k ih=>intro w h;exact ih _ h
 |getObj r k ih=>intro w h;obtain⟨o,h1,h2,h3,h4⟩:=h;exact⟨o,h1,h2,h3,ih _ h4⟩
 |setObj r o k ih=>intro w h;obtain⟨h1,h2,h3⟩:=h;exact⟨h1,h2,ih h3⟩
 |choose q k ih=>
  intro w h;simp only[wq]at h⊢;split
  ·rename_i hq;rw[if_pos hq]at h;exact ih _ h
  ·rename_i hq;rw[if_neg hq]at h;exact fun n=>ih _ (h n)
 |sys c k ih=>intro w h;exact h
 |program k ih=>intro w h;exact ih _ h
 |mark m k ih=>intro w h;exact⟨h.1,ih h.2⟩
 |halt h=>intro w hh;cases h<;>first|exact hE _ _ hh|exact hh
theorem dP{t:TypeId}{i:TypeInfo}(h:P.info? t=some i){Q:TypeInfo->World->Prop}{w:World}:wq P Ev E (typeInfo t) Q w↔Q i w:=by simp[typeInfo,h]
theorem bM{t:TypeId}{d:TypeDesc}(h:P.underlying t=some d){Q:TypeDesc->World->Prop}{w:World}:wq P Ev E (underlying t) Q w↔Q d w:=by simp[underlying,h]
theorem gu{s:Sem α}:∀{a:α},gd P s=some a->∀{Q:α->World->Prop} {w:World},Q a w->wq P Ev E s Q w:=by
 induction s with
 |pure b=>intro a h Q w hq;simp[gd]at h;subst h;exact hq
 |program k ih=>intro a h Q w hq;exact ih P h hq
 |_=>intro a h;simp[gd]at h
end
theorem mg{P:Program}{t:TypeId}{n:Nat}(h:sizeOf? P t=.ok n):∃i,P.info? t=some i∧i.size=n:=by
 unfold sizeOf? at h;split at h
 ·rename_i i hi;exact⟨i,hi,by simpa using h⟩
 ·cases h
theorem c8{P:Program}{t:TypeId}{d:TypeDesc}(h:under? P t=.ok d):P.underlying t=some d:=by
 unfold under? at h;split at h
 ·rename_i i hi;rw[hi];simpa using h
 ·cases h
theorem c9{P:Program}{Ev:Event->Prop}{E:Value->World->Prop}{t:TypeId}{n:Nat}(h:sizeOf? P t=.ok n){Q:Nat->World->Prop}{w:World}:wq P Ev E (sizeOf t) Q w↔Q n w:=by obtain⟨i,hi,rfl⟩:=mg h;simp[sizeOf,dP hi]
theorem Cn{P:Program}{Ev:Event->Prop}{E:Value->World->Prop}{t:TypeId}{b:Bool}(h:isAgg? P t=.ok b){Q:Bool->World->Prop}{w:World}:wq P Ev E (isAgg t) Q w↔Q b w:=by
 unfold isAgg? at h;split at h
 ·rename_i hu;cases h;simp[isAgg,bM hu]
 ·rename_i hu;cases h;simp[isAgg,bM hu]
 ·rename_i d h1 h2 hu;cases h;simp only[isAgg,bH,bM hu];cases d<;>first
   |exact absurd hu (h1 _)
   |exact absurd hu (h2 _ _)
   |exact Iff.rfl
 ·cases h
section
def IE.In(U:Nat->Prop):IE->Prop
 |.lit _=>True
 |.var i=>U i
 |.op _ _ a b=>a.In U∧b.In U
 |.conv _ a=>a.In U
 |.plus a b=>a.In U∧b.In U
 |.times a b=>a.In U∧b.In U
 |.tn a=>a.In U
 |.jH _=>True
def BE.In(U:Nat->Prop):BE->Prop
 |.lit _=>True
 |.var _=>True
 |.cmp _ a b=>a.In U∧b.In U
 |.seq _ _ _=>True
def BR.In(U:Nat->Prop):BR->Prop
 |.rF _=>True
 |.dyn i=>U i
def AA.In(U:Nat->Prop)(a:AA):Prop:=a.blk.In U∧a.off.In U
def lz{α:Type}(f:α->Prop):Option α->Prop
 |none=>True
 |some a=>f a
mutual
def AV.In(U:Nat->Prop):AV->Prop
 |.bool b=>b.In U
 |.int _ e=>e.In U
 |.ptr a=>lz (AA.In U) a
 |.slice a l c=>lz (AA.In U) a∧l.In U∧c.In U
 |.map r=>lz (BR.In U) r
 |.chan r=>lz (BR.In U) r
 |.func _ x y=>AV.Ins U x∧AV.Ins U y
 |.iface _ v=>v.In U
 |.agg x=>AV.Ins U x
 |.tuple x=>AV.Ins U x
 |.str _=>True
 |.nilFunc=>True
 |.nilIface=>True
 |.bF _=>True
 |.raw _=>True
 |.ss _=>True
def AV.Ins(U:Nat->Prop):List AV->Prop
 |[]=>True
 |a::x=>a.In U∧AV.Ins U x
end
def bQ.In(U:Nat->Prop):bQ->Prop
 |.cells cs _=>AV.Ins U cs
 |.row cs _ c=>AV.Ins U cs∧c.In U
 |.gp cs _ _=>AV.Ins U cs
 |.map es=>∀p∈es,p.1.In U∧p.2.In U
 |.chan=>True
 |.jI _ n fs ws=>n.In U∧(∀p∈fs,p.1.In U∧lz (AV.In U) p.2)∧∀p∈ws,p.1.In U∧p.2.In U
 |.pre _ _ n fs ws cs _ c=>n.In U∧(∀p∈fs,p.1.In U∧p.2.In U)∧(∀p∈ws,p.1.In U∧p.2.In U)∧AV.Ins U cs∧c.In U
def TT.In(U:Nat->Prop)(t:TT):Prop:=∀n,(t.get n).In U
structure dN.In(U:Nat->Prop)(O:dN):Prop where
 bs:∀p∈O.bs,p.1.In U
 is:∀p∈O.is,p.1.In U∧p.2.In U
 mem:∀p∈O.mem,p.1.In U∧p.2.In U
theorem cW{U:Nat->Prop}:∀{l:List AV},AV.Ins U l↔∀a∈l,a.In U
 |[]=>by simp[AV.Ins]
 |a::l=>by simp[AV.Ins,cW (l:=l)]
structure cz(U:Nat->Prop)(ρ ρ':Env):Prop where
 p:ρ'.p=ρ.p
 v:ρ'.v=ρ.v
 bt:ρ'.bt=ρ.bt
 i:∀n,U n->ρ'.i n=ρ.i n
 b:∀n,U n->ρ'.b n=ρ.b n
 s:ρ'.s=ρ.s
theorem cz.ii{U:Nat->Prop}{ρ ρ':Env}(A:cz U ρ ρ')(n:Nat)(h:U n:=by decide):ρ'.i n=ρ.i n:=A.i n h
theorem cz.bb{U:Nat->Prop}{ρ ρ':Env}(A:cz U ρ ρ')(n:Nat)(h:U n:=by decide):ρ'.b n=ρ.b n:=A.b n h
theorem cz.refl(U:Nat->Prop)(ρ:Env):cz U ρ ρ:=⟨rfl,rfl,rfl,fun _ _=>rfl,fun _ _=>rfl,rfl⟩
theorem cz.trans{U U':Nat->Prop}{ρ ρ' ze:Env}(h:cz U ρ ρ')(h':cz U' ρ' ze)(hs:∀n,U n->U' n):cz U ρ ze:=
 ⟨h'.p.trans h.p,h'.v.trans h.v,h'.bt.trans h.bt,fun n hn=>(h'.i n (hs n hn)).trans (h.i n hn),fun n hn=>(h'.b n (hs n hn)).trans (h.b n hn),h'.s.trans h.s⟩
theorem cz.mono{U U':Nat->Prop}{ρ ρ':Env}(h:cz U' ρ ρ')(hs:∀n,U n->U' n):cz U ρ ρ':=
 ⟨h.p,h.v,h.bt,fun n hn=>h.i n (hs n hn),fun n hn=>h.b n (hs n hn),h.s⟩
section
variable {U:Nat->Prop}{ρ ρ':Env}
theorem SE.bZ(h:cz U ρ ρ'){e:SE}:e.ev ρ'=e.ev ρ:=by
 induction e with
 |lit s=>rfl
 |var i=>simp only[SE.ev,h.s]
 |cat a b wY y9=>simp only[SE.ev,wY,y9]
theorem IE.bZ(h:cz U ρ ρ'):∀{e:IE},e.In U->e.ev ρ'=e.ev ρ:=by
 intro e
 induction e with
 |lit n=>intro _;rfl
 |var i=>intro hi;exact h.i i hi
 |op o k a b wY y9=>intro hi;simp only[IE.ev];rw[wY hi.1,y9 hi.2]
 |conv k a ih=>intro hi;simp only[IE.ev];rw[ih hi]
 |plus a b wY y9=>intro hi;simp only[IE.ev];rw[wY hi.1,y9 hi.2]
 |times a b wY y9=>intro hi;simp only[IE.ev];rw[wY hi.1,y9 hi.2]
 |tn a ih=>intro hi;simp only[IE.ev];rw[ih hi]
 |jH a=>intro _;simp only[IE.ev];rw[SE.bZ h]
theorem BE.bZ(h:cz U ρ ρ'){e:BE}(hi:e.In U):e.ev ρ'=e.ev ρ:=by
 cases e with
 |lit b=>rfl
 |var i=>simp[BE.ev,h.p]
 |cmp o a b=>simp only[BE.ev];rw[IE.bZ h hi.1,IE.bZ h hi.2]
 |seq n a b=>simp only[BE.ev];rw[SE.bZ h,SE.bZ h]
theorem BR.bZ(h:cz U ρ ρ'){e:BR}(hi:e.In U):e.ev ρ'=e.ev ρ:=by
 cases e with
 |rF g=>rfl
 |dyn i=>exact h.b i hi
theorem AA.bZ(h:cz U ρ ρ'){e:AA}(hi:e.In U):e.ev ρ'=e.ev ρ:=by simp only[AA.ev,BR.bZ h hi.1,IE.bZ h hi.2]
theorem qo{α β:Type}{f g:α->β}{I:α->Prop}(hf:∀{a},I a->f a=g a):∀{o:Option α},lz I o->o.map f=o.map g
 |none,_=>rfl
 |some a,h=>by simp[hf h]
mutual
theorem AV.bZ(h:cz U ρ ρ'):∀(a:AV),a.In U->a.ev ρ'=a.ev ρ
 |.bool b,hi=>by simp only[AV.ev,BE.bZ h hi]
 |.int k e,hi=>by simp only[AV.ev,IE.bZ h hi]
 |.str s,_=>rfl
 |.ptr a,hi=>by simp only[AV.ev];rw[qo (fun x=>AA.bZ h x) hi]
 |.slice a l c,hi=>by simp only[AV.ev];rw[qo (fun x=>AA.bZ h x) hi.1,IE.bZ h hi.2.1,IE.bZ h hi.2.2]
 |.map r,hi=>by simp only[AV.ev];rw[qo (fun x=>BR.bZ h x) hi]
 |.chan r,hi=>by simp only[AV.ev];rw[qo (fun x=>BR.bZ h x) hi]
 |.func f x y,hi=>by simp only[AV.ev];rw[AV.fG h x hi.1,AV.fG h y hi.2]
 |.nilFunc,_=>rfl
 |.iface t v,hi=>by simp only[AV.ev];rw[AV.bZ h v hi]
 |.nilIface,_=>rfl
 |.agg x,hi=>by simp only[AV.ev];rw[AV.fG h x hi]
 |.tuple x,hi=>by simp only[AV.ev];rw[AV.fG h x hi]
 |.bF i,_=>by simp only[AV.ev,h.v]
 |.raw v,_=>rfl
 |.ss e,_=>by simp only[AV.ev];rw[SE.bZ h]
theorem AV.fG(h:cz U ρ ρ'):∀(l:List AV),AV.Ins U l->AV.evs ρ' l=AV.evs ρ l
 |[],_=>rfl
 |a::l,hi=>by simp only[AV.evs];rw[AV.bZ h a hi.1,AV.fG h l hi.2]
end
end
section
variable {U U':Nat->Prop}(hs:∀n,U n->U' n)
 include hs
theorem IE.In.mono:∀{e:IE},e.In U->e.In U':=by
 intro e
 induction e with
 |lit n=>intro _;trivial
 |var i=>exact hs i
 |op o k a b wY y9=>exact fun h=>⟨wY h.1,y9 h.2⟩
 |conv k a ih=>exact ih
 |plus a b wY y9=>exact fun h=>⟨wY h.1,y9 h.2⟩
 |times a b wY y9=>exact fun h=>⟨wY h.1,y9 h.2⟩
 |tn a ih=>exact ih
 |jH a=>exact fun _=>trivial
theorem BE.In.mono{e:BE}(h:e.In U):e.In U':=by
 cases e with
 |cmp o a b=>exact⟨IE.In.mono hs h.1,IE.In.mono hs h.2⟩
 |_=>trivial
theorem BR.In.mono{e:BR}(h:e.In U):e.In U':=by
 cases e with
 |rF g=>trivial
 |dyn i=>exact hs i h
theorem AA.In.mono{e:AA}(h:e.In U):e.In U':=⟨BR.In.mono hs h.1,IE.In.mono hs h.2⟩
theorem lz.mono{α:Type}{f g:α->Prop}(hf:∀{a},f a->g a):∀{o:Option α},lz f o->lz g o
 |none,_=>trivial
 |some _,h=>hf h
mutual
theorem AV.In.mono:∀(a:AV),a.In U->a.In U'
 |.bool _,h=>BE.In.mono hs h
 |.int _ _,h=>IE.In.mono hs h
 |.str _,_=>trivial
 |.ptr _,h=>lz.mono hs (fun x=>AA.In.mono hs x) h
 |.slice _ _ _,h=>⟨lz.mono hs (fun x=>AA.In.mono hs x) h.1,IE.In.mono hs h.2.1,IE.In.mono hs h.2.2⟩
 |.map _,h=>lz.mono hs (fun x=>BR.In.mono hs x) h
 |.chan _,h=>lz.mono hs (fun x=>BR.In.mono hs x) h
 |.func _ x y,h=>⟨AV.Ins.mono x h.1,AV.Ins.mono y h.2⟩
 |.nilFunc,_=>trivial
 |.iface _ v,h=>AV.In.mono v h
 |.nilIface,_=>trivial
 |.agg x,h=>AV.Ins.mono x h
 |.tuple x,h=>AV.Ins.mono x h
 |.bF _,_=>trivial
 |.raw _,_=>trivial
 |.ss _,_=>trivial
theorem AV.Ins.mono:∀(l:List AV),AV.Ins U l->AV.Ins U' l
 |[],_=>trivial
 |a::l,h=>⟨AV.In.mono a h.1,AV.Ins.mono l h.2⟩
end
theorem bQ.In.mono{b:bQ}(h:b.In U):b.In U':=by
 cases b with
 |cells cs e=>exact AV.Ins.mono hs _ h
 |row cs e c=>exact⟨AV.Ins.mono hs _ h.1,IE.In.mono hs h.2⟩
 |gp cs e l=>exact AV.Ins.mono hs _ h
 |map es=>exact fun p hp=>⟨AV.In.mono hs _ (h p hp).1,AV.In.mono hs _ (h p hp).2⟩
 |chan=>trivial
 |jI s n fs ws=>exact⟨IE.In.mono hs h.1,fun p hp=>⟨AA.In.mono hs (h.2.1 p hp).1,lz.mono hs (fun x=>AV.In.mono hs _ x) (h.2.1 p hp).2⟩,fun p hp=>⟨AV.In.mono hs _ (h.2.2 p hp).1,AV.In.mono hs _ (h.2.2 p hp).2⟩⟩
 |pre lk s n fs ws cs e c=>exact⟨IE.In.mono hs h.1,fun p hp=>⟨IE.In.mono hs (h.2.1 p hp).1,AV.In.mono hs _ (h.2.1 p hp).2⟩,fun p hp=>⟨IE.In.mono hs (h.2.2.1 p hp).1,AV.In.mono hs _ (h.2.2.1 p hp).2⟩,AV.Ins.mono hs _ h.2.2.2.1,IE.In.mono hs h.2.2.2.2⟩
theorem TT.In.mono{t:TT}(h:t.In U):t.In U':=fun n=>AV.In.mono hs _ (h n)
theorem dN.In.mono{O:dN}(h:O.In U):O.In U':=
 ⟨fun p hp=>BE.In.mono hs (h.bs p hp),fun p hp=>⟨IE.In.mono hs (h.is p hp).1,IE.In.mono hs (h.is p hp).2⟩,fun p hp=>⟨AA.In.mono hs (h.mem p hp).1,AV.In.mono hs _ (h.mem p hp).2⟩⟩
end
structure Ctx where
 P:Program
 O:dN
 own:Nat->Prop
 Ev:Event->Prop
 lock:Prop
 still:Nat->Nat->Prop
def L7:Mark->Bool
 |.acquire _|.release _|.releaseMerge _|.extern _|.noRoom=>true
 |_=>false
structure Ctx.Good(K:Ctx):Prop where
 rd:∀a s,K.own a.block->K.Ev ⟨.cell a,false,s⟩
 wr:∀a s,K.own a.block->¬K.still a.block a.off->K.Ev ⟨.cell a,true,s⟩
 Qy:∀b n s,K.still b n->¬K.Ev ⟨.cell ⟨b,n,none⟩,true,s⟩
 ext:∀m,L7 m=true->K.Ev ⟨.mark m,false,true⟩
 noRoom:K.Ev ⟨.mark .noRoom,false,true⟩
 lock:K.lock->∀m,K.Ev ⟨.mark m,false,true⟩
 obj:∀r wr s,K.own r->K.Ev ⟨.obj r,wr,s⟩
def bQ.elem:bQ->TypeId
 |.cells _ e=>e
 |.row _ e _=>e
 |.gp _ e _=>e
 |.map _=>0
 |.chan=>0
 |.jI _ _ _ _=>0
 |.pre _ _ _ _ _ _ e _=>e
def wrote(ρ:Env)(l:List Value)(ws:List (IE×AV)):List Value:=ws.foldr (fun p l=>l.set (p.1.ev ρ).toNat (p.2.ev ρ)) l
structure wZ(P:Program)(ρ:Env)(s:Nat)(n:IE)(fs ws:List (IE×AV))(e:TypeId)(i:TypeInfo)(pre:Array Value):Prop where
 val:ρ.v s=.agg pre
 info:P.info? e=some i
 size:pre.size=(n.ev ρ).toNat*i.size
 fs:∀p∈fs,pre[(p.1.ev ρ).toNat]?=some (p.2.ev ρ)
 ws:∀p∈ws,(p.1.ev ρ).toNat<pre.size
def bQ.fits(P:Program)(ρ:Env):bQ->Array Value->Prop
 |.cells cs _,arr=>arr.toList=AV.evs ρ cs
 |.gp cs _ _,arr=>arr.toList=AV.evs ρ cs
 |.row cs e c,arr=>∃rest i,arr.toList=AV.evs ρ cs++rest∧P.info? e=some i∧arr.size=(c.ev ρ).toNat*i.size
 |.map _,_=>False
 |.chan,_=>False
 |.jI _ _ _ _,_=>False
 |.pre _ s n fs ws cs e c,arr=>∃pre rest i,wZ P ρ s n fs ws e i pre∧arr.toList=wrote ρ pre.toList ws++(AV.evs ρ cs++rest)∧arr.size=(c.ev ρ).toNat*i.size
def L8(E:List (Value×Value)):Value:=.agg (E.map fun p=>Value.agg #[p.1,p.2]).toArray
def sQ(ρ:Env)(E:List (Value×Value))(a:AA)(r:Option AV):Prop:=
 (∀q∈E,∃off,q.1=.pointer (some ⟨(a.ev ρ).block,off,none⟩))∧match r with
  |some v=>∃E1 E2,E=E1++(.pointer (some (a.ev ρ)),v.ev ρ)::E2∧∀q∈E1,q.1≠.pointer (some (a.ev ρ))
  |none=>∀q∈E,q.1≠.pointer (some (a.ev ρ))
def bQ.L9(ρ:Env):bQ->Obj->Prop
 |.map es,o=>∃arr nH,o=.map arr nH∧arr.toList.map (fun e=>(e.key,e.val))=es.map fun p=>(p.1.ev ρ,p.2.ev ρ)
 |.chan,o=>∃k,o=.chan 0 #[] false k k false
 |.jI s n fs ws,o=>∃arr nH E,o=.map arr nH∧ρ.v s=L8 E∧E.length=(n.ev ρ).toNat∧arr.toList.map (fun e=>(e.key,e.val))=E++ws.map (fun p=>(p.1.ev ρ,p.2.ev ρ))∧∀p∈fs,sQ ρ E p.1 p.2
 |_,_=>False
def bQ.is(P:Program)(ρ:Env)(b:bQ)(o:Obj):Prop:=(∃arr,o=.cells arr b.elem (0,0)∧b.fits P ρ arr)∨b.L9 ρ o
def bQ.lp(P:Program)(ρ:Env):bQ->Nat->Prop
 |.pre lk _ m _ _ _ e _,n=>lk=true∧∃i,P.info? e=some i∧n<(m.ev ρ).toNat*i.size
 |b,n=>b.rI n=true
structure Rel(K:Ctx)(ρ:Env)(h:AH)(w:World):Prop where
 blk:∀i b,cG i h.hp=some b->∃o,w.heap[ρ.b i]?=some o∧b.is K.P ρ o
 rN:∀i b,cG i h.hp=some b->K.own (ρ.b i)∨(b.isChan=true∧K.still (ρ.b i) 0)
 inj:∀i j b c,cG i h.hp=some b->cG j h.hp=some c->ρ.b i=ρ.b j->i=j
 bs:∀p∈K.O.bs,p.1.ev ρ=p.2
 is:∀p∈K.O.is,p.1.ev ρ=p.2.ev ρ
 mem:∀p∈K.O.mem,¬K.own (p.1.ev ρ).block∧w.cell? (p.1.ev ρ)=some (p.2.ev ρ)∧∀s,K.Ev ⟨.cell (p.1.ev ρ),false,s⟩
 room:∀n,w.heap.size≤n->K.own n
 gp:∀i b,cG i h.hp=some b->∀n,K.still (ρ.b i) n->b.lp K.P ρ n
 low:∀b n,K.still b n->b<w.heap.size
structure gf(K:Ctx)(U:Nat->Prop)(h:AH):Prop where
 hp:∀i b,cG i h.hp=some b->b.In U
 keys:∀i∈keys h.hp,U i
 nodup:(Go.Proofs.YtmobbajggkjpgaaGreat.SX.keys h.hp).Nodup
 fresh:∀n,h.nb≤n->n<h.lim->¬U n
 Co:K.O.In U
structure bU(own:Nat->Prop)(w w':World):Prop where
 heap:∀n,¬own n->w'.heap[n]?=w.heap[n]?
 size:w.heap.size≤w'.heap.size
 tape:w'.tape=w.tape
 os:w'.os=w.os
 output:w'.output=w.output
theorem bU.refl(own:Nat->Prop)(w:World):bU own w w:=⟨fun _ _=>rfl,ay _,rfl,rfl,rfl⟩
theorem bU.trans{own:Nat->Prop}{w w' w'':World}(h:bU own w w')(h':bU own w' w''):bU own w w'':=
 ⟨fun n hn=>(h'.heap n hn).trans (h.heap n hn),ax h.size h'.size,h'.tape.trans h.tape,h'.os.trans h.os,h'.output.trans h.output⟩
theorem jF{w:World}{n:Nat}{o:Obj}(h:w.heap[n]?=some o):n<w.heap.size:=by
 rcases Nat.lt_or_ge n w.heap.size with h'|h'
 ·exact h'
 ·simp[Array.getElem?_eq_none h']at h
theorem iN{w:World}{b o:Nat}{arr:Array Value}{e:TypeId}{f:Nat×Nat}(h:w.heap[b]?=some (.cells arr e f)):w.cell? ⟨b,o,none⟩=arr[o]?:=by simp[World.cell?,h]
theorem gv{w:World}{b o:Nat}{arr:Array Value}{e:TypeId}(h:w.heap[b]?=some (.cells arr e (0,0))):w.frozen? ⟨b,o,none⟩=false:=by simp[World.frozen?,h]
theorem m7(ρ:Env)(l:List AV)(n:Nat):(AV.evs ρ l)[n]?=(l[n]?).map (AV.ev ρ):=by rw[ja];simp
theorem cO(ρ:Env)(l:List AV):(AV.evs ρ l).length=l.length:=by rw[ja];simp
theorem jK(ρ:Env)(l m:List AV):AV.evs ρ (l++m)=AV.evs ρ l++AV.evs ρ m:=by simp[ja]
theorem we(ρ:Env)(l:List AV)(n:Nat)(v:AV):AV.evs ρ (l.set n v)=(AV.evs ρ l).set n (v.ev ρ):=by simp[ja,List.map_set]
theorem w_{P:Program}{ρ:Env}{b:bQ}{arr:Array Value}(h:b.fits P ρ arr){n:Nat}{v:AV}(hn:b.cs[n]?=some v):arr[n]?=some (v.ev ρ):=by
 have hlt:n<b.cs.length:=(ak.1 hn).1;cases b with
 |cells cs e=>simp only[bQ.fits]at h;rw[<-aY,h,m7];simp only[bQ.cs]at hn;rw[hn];rfl
 |gp cs e l=>simp only[bQ.fits]at h;rw[<-aY,h,m7];simp only[bQ.cs]at hn;rw[hn];rfl
 |row cs e c=>obtain⟨rest,i,h1,h2,h3⟩:=h;simp only[bQ.cs]at hn hlt;rw[<-aY,h1,aK (by rw[cO];exact hlt),m7,hn];rfl
 |map es=>exact h.elim
 |chan=>exact h.elim
 |jI s n fs ws=>exact h.elim
 |pre lk s n fs ws cs e c=>simp[bQ.cs]at hlt
theorem L_{P:Program}{ρ:Env}{b:bQ}{arr:Array Value}(h:b.fits P ρ arr){n:Nat}{v:AV}(hn:n<b.cs.length):(b.put (b.cs.set n v)).fits P ρ (arr.setIfInBounds n (v.ev ρ)):=by
 cases b with
 |cells cs e=>simp only[bQ.fits,bQ.put,bQ.cs]at h⊢;rw[Array.toList_setIfInBounds,h,we]
 |gp cs e l=>simp only[bQ.fits,bQ.put,bQ.cs]at h⊢;rw[Array.toList_setIfInBounds,h,we]
 |row cs e c=>obtain⟨rest,i,h1,h2,h3⟩:=h;simp only[bQ.cs]at hn;refine⟨rest,i,?_,h2,by simpa using h3⟩;simp only[bQ.cs];rw[Array.toList_setIfInBounds,h1,we,List.set_append_left _ _ (by rw[cO];exact hn)]
 |map es=>exact h.elim
 |chan=>exact h.elim
 |jI s n fs ws=>exact h.elim
 |pre lk s n fs ws cs e c=>simp[bQ.cs]at hn
theorem pI{U:Nat->Prop}{ρ ρ':Env}(ha:cz U ρ ρ')(l:List Value):∀{ws:List (IE×AV)},(∀p∈ws,p.1.In U∧p.2.In U)->wrote ρ' l ws=wrote ρ l ws
 |[],_=>rfl
 |p::ws,h=>by have h1:=pI ha l (ws:=ws) fun q hq=>h q (af _ hq);show(wrote ρ' l ws).set _ _=(wrote ρ l ws).set _ _;rw[h1,IE.bZ ha (h p (aj ..)).1,AV.bZ ha _ (h p (aj ..)).2]
theorem wZ.agree{P:Program}{U:Nat->Prop}{ρ ρ':Env}(ha:cz U ρ ρ'){s:Nat}{n:IE}{fs ws:List (IE×AV)}{e:TypeId}{i:TypeInfo}{pre:Array Value}(hn:n.In U)(hf:∀p∈fs,p.1.In U∧p.2.In U)(hw:∀p∈ws,p.1.In U∧p.2.In U)(h:wZ P ρ s n fs ws e i pre):wZ P ρ' s n fs ws e i pre:=
 ⟨by rw[ha.v];exact h.val,h.info,by rw[IE.bZ ha hn];exact h.size,fun p hp=>by rw[IE.bZ ha (hf p hp).1,AV.bZ ha _ (hf p hp).2];exact h.fs p hp,fun p hp=>by rw[IE.bZ ha (hw p hp).1];exact h.ws p hp⟩
theorem JD{P:Program}{ρ:Env}{b:bQ}{n m:Nat}(h:m<b.cs.length)(hl:b.lp P ρ n):b.rI n=true:=by cases b<;>first|exact hl|(simp[bQ.cs]at h)
theorem Ff{P:Program}{ρ:Env}{b:bQ}{m:Nat}(h:m<b.cs.length)(cs:List AV)(n:Nat)(P':Program)(ρ':Env):(b.put cs).lp P' ρ' n↔b.lp P ρ n:=by cases b<;>first|exact Iff.rfl|(simp[bQ.cs]at h)
theorem Bi{P:Program}{U:Nat->Prop}{ρ ρ':Env}(A:cz U ρ ρ'){b:bQ}(hb:b.In U){n:Nat}:b.lp P ρ' n↔b.lp P ρ n:=by
 cases b with
 |pre lk s m fs ws cs e c=>simp only[bQ.lp,IE.bZ A hb.1]
 |_=>exact Iff.rfl
theorem Ma(b:bQ)(cs:List AV):(b.put cs).elem=b.elem:=by cases b<;>rfl
theorem rO{P:Program}{U:Nat->Prop}{ρ ρ':Env}(ha:cz U ρ ρ'){b:bQ}(hb:b.In U){arr:Array Value}(h:b.fits P ρ arr):b.fits P ρ' arr:=by
 cases b with
 |cells cs e=>simp only[bQ.fits]at h⊢;rw[AV.fG ha _ hb];exact h
 |gp cs e l=>simp only[bQ.fits]at h⊢;rw[AV.fG ha _ hb];exact h
 |row cs e c=>obtain⟨rest,i,h1,h2,h3⟩:=h;exact⟨rest,i,by rw[AV.fG ha _ hb.1];exact h1,h2,by rw[IE.bZ ha hb.2];exact h3⟩
 |map es=>exact h.elim
 |chan=>exact h.elim
 |jI s n fs ws=>exact h.elim
 |pre lk s n fs ws cs e c=>obtain⟨pre,rest,i,h1,h2,h3⟩:=h;obtain⟨b1,b2,b3,b4,b5⟩:=hb;exact⟨pre,rest,i,h1.agree ha b1 b2 b3,by rw[pI ha _ b3,AV.fG ha _ b4];exact h2,by rw[IE.bZ ha b5];exact h3⟩
theorem Cp{U:Nat->Prop}{ρ ρ':Env}(ha:cz U ρ ρ'){b:bQ}(hb:b.In U){o:Obj}(h:b.L9 ρ o):b.L9 ρ' o:=by
 cases b with
 |map es=>obtain⟨arr,nH,h1,h2⟩:=h;refine⟨arr,nH,h1,h2.trans (bh fun p hp=>?_)⟩;rw[AV.bZ ha _ (hb p hp).1,AV.bZ ha _ (hb p hp).2]
 |chan=>exact h
 |jI s n fs ws=>
  obtain⟨arr,nH,E,h1,h2,h3,h4,h5⟩:=h;obtain⟨b1,b2,b3⟩:=hb;refine⟨arr,nH,E,h1,by rw[ha.v];exact h2,by rw[IE.bZ ha b1];exact h3,h4.trans ?_,fun p hp=>?_⟩
  ·congr 1;refine bh fun p hp=>?_;rw[AV.bZ ha _ (b3 p hp).1,AV.bZ ha _ (b3 p hp).2]
  ·obtain⟨k1,k2⟩:=h5 p hp;obtain⟨c1,c2⟩:=b2 p hp;unfold sQ;rw[AA.bZ ha c1];refine⟨k1,?_⟩;obtain⟨a,r⟩:=p;cases r with
   |none=>exact k2
   |some v=>have c2':v.In U:=c2;dsimp only at k2⊢;rw[AV.bZ ha _ c2'];exact k2
 |_=>exact h.elim
theorem Cq{P:Program}{U:Nat->Prop}{ρ ρ':Env}(ha:cz U ρ ρ'){b:bQ}(hb:b.In U){o:Obj}(h:b.is P ρ o):b.is P ρ' o:=
 h.elim (fun⟨arr,h1,h2⟩=>.inl ⟨arr,h1,rO ha hb h2⟩) fun h=>.inr (Cp ha hb h)
theorem sR{b:bQ}{n:Nat}(h:n<b.cs.length):b.nS=true:=by cases b<;>first|rfl|(simp[bQ.cs]at h)
theorem JE{b:bQ}{n:Nat}{v:AV}(h:b.cs[n]?=some v):b.nS=true:=sR (ak.1 h).1
theorem U4{P:Program}{ρ:Env}{b:bQ}{o:Obj}(h:b.is P ρ o)(hm:b.nS=true):∃arr,o=.cells arr b.elem (0,0)∧b.fits P ρ arr:=by
 rcases h with h|h
 ·exact h
 ·cases b with
  |map es=>cases hm
  |chan=>cases hm
  |jI s n fs ws=>cases hm
  |_=>exact h.elim
theorem Rel.arr{K:Ctx}{ρ:Env}{h:AH}{w:World}(R:Rel K ρ h w){i:Nat}{b:bQ}(hb:cG i h.hp=some b)(hm:b.nS=true):∃arr,w.heap[ρ.b i]?=some (.cells arr b.elem (0,0))∧b.fits K.P ρ arr:=by obtain⟨o,h1,h2⟩:=R.blk i b hb;obtain⟨arr,rfl,h3⟩:=U4 h2 hm;exact⟨arr,h1,h3⟩
section
variable {K:Ctx}{ρ:Env}{h:AH}{w:World}{U:Nat->Prop}
theorem Rel.at(R:Rel K ρ h w){w':World}(hh:w'.heap=w.heap):Rel K ρ h w':=
 ⟨fun i b hb=>by rw[hh];exact R.blk i b hb,R.rN,R.inj,R.bs,R.is,fun p hp=>by have:=R.mem p hp;rw[show w'.cell? (p.1.ev ρ)=w.cell? (p.1.ev ρ)from by simp[World.cell?,hh]];exact this,by rw[hh];exact R.room,R.gp,by rw[hh];exact R.low⟩
theorem Rel.own{K:Ctx}{ρ:Env}{h:AH}{w:World}(R:Rel K ρ h w)(i:Nat)(b:bQ)(hb:cG i h.hp=some b)(hc:b.isChan=false):K.own (ρ.b i):=
 (R.rN i b hb).elim id fun x=>by rw[hc]at x;cases x.1
theorem xb{b:bQ}{n:Nat}(h:n<b.cs.length):b.isChan=false:=by cases b<;>first|rfl|(simp[bQ.cs]at h)
theorem Cr{b:bQ}{n:Nat}{v:AV}(h:b.cs[n]?=some v):b.isChan=false:=xb (ak.1 h).1
theorem Cs(ρ:Env):∀(e:IE),(e.ev ρ).toNat=((fI e).1.ev ρ).toNat+(fI e).2∧∀c,e=.tn c->(c.ev ρ).toNat=((fI c).1.ev ρ).toNat+(fI c).2:=by
 intro e
 induction e with
 |plus a b wY y9=>
  refine⟨?_,fun c h=>by cases h⟩;cases a with
  |tn c=>
   cases b with
   |lit n=>
    cases n with
    |ofNat j=>
     have ih:=wY.2 c rfl;simp only[fI,IE.ev];have:(((c.ev ρ).toNat:Int)+Int.ofNat j).toNat=(c.ev ρ).toNat+j:=by simp;omega
     rw[this,ih];omega
    |negSucc j=>simp[fI]
   |_=>simp[fI]
  |_=>simp[fI]
 |lit n=>exact⟨by cases n<;>simp[fI,IE.ev],fun c h=>by cases h⟩
 |tn a ih=>exact⟨by simp[fI],fun c h=>by cases h;exact ih.1⟩
 |_=>exact⟨by simp[fI],fun c h=>by cases h⟩
theorem qp(ρ:Env)(e:IE):(e.ev ρ).toNat=((fI e).1.ev ρ).toNat+(fI e).2:=(Cs ρ e).1
theorem zO{a b:IE}(h:sameAt a b=true)(ρ:Env):(a.ev ρ).toNat=(b.ev ρ).toNat:=by unfold sameAt at h;rw[aq]at h;rw[qp ρ a,qp ρ b,IE.cM h.1,aJ h.2]
theorem Fg{a b:IE}(h:Bg a b=true)(ρ:Env):(a.ev ρ).toNat≠(b.ev ρ).toNat:=by
 unfold Bg at h;rw[aq]at h;rw[qp ρ a,qp ρ b,IE.cM h.1];have h2:=h.2;intro e;have:(fI a).2=(fI b).2:=by omega
 rw[this]at h2;simp at h2
theorem lJ(ρ:Env)(l:List Value):∀(ws:List (IE×AV)),(wrote ρ l ws).length=l.length
 |[]=>rfl
 |p::ws=>by show((wrote ρ l ws).set _ _).length=_;rw[List.length_set,lJ ρ l ws]
theorem Ht{P:Program}{ρ:Env}{s:Nat}{n:IE}{fs0 ws:List (IE×AV)}{e:TypeId}{i:TypeInfo}{pre:Array Value}(h:wZ P ρ s n fs0 ws e i pre){a:IE}{v:AV}:∀{fs:List (IE×AV)},(∀p∈fs,p∈fs0)->JB a fs=some v->pre.toList[(a.ev ρ).toNat]?=some (v.ev ρ)
 |[],_,hv=>by cases hv
 |p::fs,hs,hv=>by
  unfold JB at hv;split at hv
  ·rename_i hsame;cases hv;rw[zO hsame ρ];simpa using h.fs p (hs p (aj ..))
  ·exact Ht h (fun q hq=>hs q (af _ hq)) hv
theorem Bj{P:Program}{ρ:Env}{s:Nat}{n:IE}{fs ws0:List (IE×AV)}{e:TypeId}{i:TypeInfo}{pre:Array Value}(h:wZ P ρ s n fs ws0 e i pre){a:IE}{v:AV}:∀{ws:List (IE×AV)},(∀p∈ws,p∈ws0)->Fb a fs ws=some v->(wrote ρ pre.toList ws)[(a.ev ρ).toNat]?=some (v.ev ρ)
 |[],_,hv=>Ht h (fun _ hp=>hp) hv
 |p::ws,hs,hv=>by
  unfold Fb at hv;show((wrote ρ pre.toList ws).set _ _)[_]?=_;split at hv
  ·rename_i hsame;cases hv;rw[zO hsame ρ,List.getElem?_set_self (by rw[lJ];simpa using h.ws p (hs p (aj ..)))]
  ·split at hv
   ·rename_i hap;rw[List.getElem?_set_ne (fun e=>Fg hap ρ e.symm)];exact Bj h (fun q hq=>hs q (af _ hq)) hv
   ·cases hv
theorem Hu{P:Program}{ρ:Env}{b:bQ}{arr:Array Value}(h:b.fits P ρ arr){a:IE}{v:AV}(hv:b.LW a=some v):arr[(a.ev ρ).toNat]?=some (v.ev ρ):=by
 cases b with
 |pre lk s n fs ws cs e c=>obtain⟨pre,rest,i,h1,h2,h3⟩:=h;have h4:=Bj h1 (fun _ hp=>hp) hv;rw[<-aY,h2,aK (ak.1 h4).1];exact h4
 |_=>cases hv
theorem Ct{b:bQ}{a:IE}{v:AV}(hv:b.LW a=some v):b.nS=true∧b.isChan=false:=by cases b<;>first|exact⟨rfl,rfl⟩|cases hv
theorem Hv{U:Nat->Prop}{a:IE}{v:AV}:∀{fs:List (IE×AV)},(∀p∈fs,p.1.In U∧p.2.In U)->JB a fs=some v->v.In U
 |[],_,hv=>by cases hv
 |p::fs,hs,hv=>by
  unfold JB at hv;split at hv
  ·cases hv;exact(hs p (aj ..)).2
  ·exact Hv (fun q hq=>hs q (af _ hq)) hv
theorem Hw{U:Nat->Prop}{a:IE}{v:AV}{fs:List (IE×AV)}(hf:∀p∈fs,p.1.In U∧p.2.In U):∀{ws:List (IE×AV)},(∀p∈ws,p.1.In U∧p.2.In U)->Fb a fs ws=some v->v.In U
 |[],_,hv=>Hv hf hv
 |p::ws,hs,hv=>by
  unfold Fb at hv;split at hv
  ·cases hv;exact(hs p (aj ..)).2
  ·split at hv
   ·exact Hw hf (fun q hq=>hs q (af _ hq)) hv
   ·cases hv
theorem Qz{U:Nat->Prop}{b:bQ}(hb:b.In U){a:IE}{v:AV}(hv:b.LW a=some v):v.In U:=by
 cases b with
 |pre lk s n fs ws cs e c=>exact Hw hb.2.1 hb.2.2.1 hv
 |_=>cases hv
theorem QA{P:Program}{ρ:Env}{b b':bQ}{arr:Array Value}(h:b.fits P ρ arr){a:IE}{v:AV}(hv:b.LX a v=some b'):b'.fits P ρ (arr.setIfInBounds (a.ev ρ).toNat (v.ev ρ))∧b'.elem=b.elem∧b'.isChan=false∧b.nS=true∧(∀m,¬b.lp P ρ m)∧∃u,b.LW a=some u:=by
 cases b with
 |pre lk s n fs ws cs e c=>
  unfold bQ.LX at hv;dsimp only at hv;split at hv
  ·rename_i u hu;cases hv;obtain⟨pre,rest,i,h1,h2,h3⟩:=h;have h4:=Bj h1 (fun _ hp=>hp) hu;have hlt:=(ak.1 h4).1;refine⟨⟨pre,rest,i,⟨h1.val,h1.info,h1.size,h1.fs,fun p hp=>?_⟩,?_,by simpa using h3⟩,rfl,rfl,rfl,fun m hm=>by(cases hm.1),u,hu⟩
   ·rcases ai.1 hp with rfl|hp
    ·rw[lJ]at hlt;simpa using hlt
    ·exact h1.ws p hp
   ·rw[Array.toList_setIfInBounds,h2,List.set_append_left _ _ hlt];rfl
  ·cases hv
 |_=>cases hv
theorem QB{U:Nat->Prop}{b b':bQ}(hb:b.In U){a:IE}{v:AV}(ha:a.In U)(hi:v.In U)(hv:b.LX a v=some b'):b'.In U:=by
 cases b with
 |pre lk s n fs ws cs e c=>
  unfold bQ.LX at hv;dsimp only at hv;split at hv
  ·cases hv;exact⟨hb.1,hb.2.1,fun p hp=>(ai.1 hp).elim (fun e=>e▸⟨ha,hi⟩) (hb.2.2.1 p),hb.2.2.2⟩
  ·cases hv
 |_=>cases hv
theorem Cu(R:Rel K ρ h w)(G:K.Good){a:AA}{v:AV}(hl:zL K.O h a=.ok v):w.cell? (a.ev ρ)=some (v.ev ρ)∧∀s,K.Ev ⟨.cell (a.ev ρ),false,s⟩:=by
 have old:∀{v:AV},(match look AA.fe a K.O.mem with|some v=>(Except.ok v:M AV)|none=>.error "load an unknown cell")=.ok v->w.cell? (a.ev ρ)=some (v.ev ρ)∧∀s,K.Ev ⟨.cell (a.ev ρ),false,s⟩:=by
  intro v hv;split at hv
  ·rename_i u hu;cases hv;obtain⟨x,hx,he⟩:=jc hu;obtain rfl:=AA.cM he;exact⟨(R.mem _ hx).2.1,(R.mem _ hx).2.2⟩
  ·cases hv
 obtain⟨blk,off⟩:=a;unfold zL at hl;dsimp only at hl;split at hl
 ·rename_i i n;split at hl
  ·rename_i b hb;split at hl
   ·rename_i u hu;cases hl;obtain⟨arr,ha,hf⟩:=R.arr hb (JE hu);refine⟨?_,fun s=>G.rd _ _ (R.own _ _ hb (Cr hu))⟩;rw[show AA.ev ρ ⟨.dyn i,.lit (.ofNat n)⟩=⟨ρ.b i,n,none⟩from rfl,iN ha];exact w_ hf hu
   ·cases hl
  ·exact old hl
 ·exact old hl
theorem Mb(I:gf K U h){a:AA}{v:AV}(hl:zL K.O h a=.ok v):v.In U:=by
 have old:∀{v:AV},(match look AA.fe a K.O.mem with|some v=>(Except.ok v:M AV)|none=>.error "load an unknown cell")=.ok v->v.In U:=by
  intro v hv;split at hv
  ·rename_i u hu;cases hv;obtain⟨x,hx,he⟩:=jc hu;exact(I.Co.mem _ hx).2
  ·cases hv
 unfold zL at hl;dsimp only at hl;split at hl
 ·split at hl
  ·rename_i b hb;split at hl
   ·rename_i u hu;cases hl;have:=I.hp _ _ hb;have hm:=az hu;cases b with
    |cells cs e=>exact cW.1 this _ hm
    |gp cs e l=>exact cW.1 this _ hm
    |row cs e c=>exact cW.1 this.1 _ hm
    |map es=>cases hm
    |chan=>cases hm
    |jI s n fs ws=>cases hm
    |pre lk s n fs ws cs e c=>cases hm
   ·cases hl
  ·exact old hl
 ·exact old hl
theorem pJ(R:Rel K ρ h w)(G:K.Good){a:AA}{v:AV}(hl:sG K.O h a=.ok v):w.cell? (a.ev ρ)=some (v.ev ρ)∧∀s,K.Ev ⟨.cell (a.ev ρ),false,s⟩:=by
 unfold sG at hl;split at hl
 ·rename_i u hu;cases hl;exact Cu R G hu
 ·split at hl
  ·rename_i u hu;cases hl;obtain⟨blk,off⟩:=a;unfold preAt? at hu;dsimp only at hu;split at hu
   ·rename_i i _;split at hu
    ·rename_i b hb;obtain⟨m1,m2⟩:=Ct hu;obtain⟨arr,ha,hf⟩:=R.arr hb m1;refine⟨?_,fun s=>G.rd _ _ (R.own _ _ hb m2)⟩;rw[show AA.ev ρ ⟨.dyn i,off⟩=⟨ρ.b i,(off.ev ρ).toNat,none⟩from rfl,iN ha];exact Hu hf hu
    ·cases hu
   ·cases hu
  ·cases hl
theorem xd(I:gf K U h){a:AA}{v:AV}(hl:sG K.O h a=.ok v):v.In U:=by
 unfold sG at hl;split at hl
 ·rename_i u hu;cases hl;exact Mb I hu
 ·split at hl
  ·rename_i u hu;cases hl;unfold preAt? at hu;split at hu
   ·split at hu
    ·rename_i b hb;exact Qz (I.hp _ _ hb) hu
    ·cases hu
   ·cases hu
  ·cases hl
theorem QC(ρ:Env)(a:IE)(n:Nat):((zb a n).ev ρ).toNat=(a.ev ρ).toNat+n:=by
 unfold zb;split
 ·simp[IE.ev];omega
 ·split
  ·rename_i h;subst h;simp
  ·simp only[IE.ev];simp;omega
theorem QD{a:IE}(n:Nat)(hi:a.In U):(zb a n).In U:=by
 unfold zb;split
 ·trivial
 ·split
  ·exact hi
  ·exact⟨hi,trivial⟩
theorem AA.rP(ρ:Env)(a:AA)(n:Nat):(a.add n).ev ρ=(a.ev ρ).add n:=by
 simp only[AA.ev,AA.add,Addr.add,QC];split
 ·rename_i h;subst h;simp
 ·rfl
theorem AA.uq{a:AA}(n:Nat)(hi:a.In U):(a.add n).In U:=⟨hi.1,QD n hi.2⟩
theorem k6(R:Rel K ρ h w)(G:K.Good){E:Value->World->Prop}{a:AA}:∀{n j:Nat} {l:List AV} {acc:Array Value},kW K.O h a n j=.ok l->
  ∀{Q:Array Value->World->Prop},Q (acc++(AV.evs ρ l).toArray) w->wq K.P K.Ev E (loadCellsFrom (a.ev ρ) j n acc) Q w:=by
 intro n
 induction n with
 |zero=>intro j l acc hl Q hq;simp[kW]at hl;subst hl;simpa[loadCellsFrom,AV.evs] using hq
 |succ n ih=>
  intro j l acc hl Q hq;simp only[kW]at hl;split at hl
  ·rename_i v hv;split at hl
   ·rename_i l' hl';cases hl;obtain⟨hc,he⟩:=pJ R G hv;rw[AA.rP]at hc he;simp only[loadCellsFrom,bH];rw[v_];refine⟨_,hc,he _,ih hl' ?_⟩;simpa[AV.evs] using hq
   ·cases hl
  ·cases hl
theorem sS(I:gf K U h){a:AA}:∀{n j:Nat} {l:List AV},kW K.O h a n j=.ok l->AV.Ins U l:=by
 intro n
 induction n with
 |zero=>intro j l hl;simp[kW]at hl;subst hl;trivial
 |succ n ih=>
  intro j l hl;simp only[kW]at hl;split at hl
  ·rename_i v hv;split at hl
   ·rename_i l' hl';cases hl;exact⟨xd I hv,ih hl'⟩
   ·cases hl
  ·cases hl
theorem sU{O:dN}{a:AA}:∀{n j:Nat} {l:List AV},kW O h a n j=.ok l->l.length=n:=by
 intro n
 induction n with
 |zero=>intro j l hl;simp[kW]at hl;subst hl;rfl
 |succ n ih=>
  intro j l hl;simp only[kW]at hl;split at hl
  ·split at hl
   ·rename_i l' hl';cases hl;simp[ih hl']
   ·cases hl
  ·cases hl
theorem heap_setCell(w:World)(a:Addr)(v:Value)(n:Nat):(w.setCell a v).heap[n]?=if n=a.block then(w.heap[n]?).map (fun
   |.cells c elem frozen=>.cells (if a.spot.isSome then c else c.setIfInBounds a.off v) elem frozen
   |o=>o)else w.heap[n]?:=by
 simp only[World.setCell,Array.getElem?_modify];by_cases e:a.block=n
 ·subst e;rw[if_pos rfl,if_pos rfl];rfl
 ·rw[if_neg e,if_neg (fun x=>e x.symm)]
theorem size_setCell(w:World)(a:Addr)(v:Value):(w.setCell a v).heap.size=w.heap.size:=by simp[World.setCell]
theorem oB{v:AV}(ho:v.oneCell?=true)(ρ:Env):(v.ev ρ).oneCell'=true:=by cases v<;>simp_all [AV.oneCell?,AV.ev,Value.oneCell']
theorem Bl(R:Rel K ρ h w)(G:K.Good){a:AA}{v:AV}{h':AH}(hs:oz h a v=.ok h'):
  (v.ev ρ).oneCell'=true∧(∃u,w.cell? (a.ev ρ)=some u)∧w.frozen? (a.ev ρ)=false∧(∀s,K.Ev ⟨.cell (a.ev ρ),true,s⟩)∧Rel K ρ h' (w.setCell (a.ev ρ) (v.ev ρ))∧bU K.own w (w.setCell (a.ev ρ) (v.ev ρ))∧h'.nb=h.nb∧h'.lim=h.lim:=by
 obtain⟨blk,off⟩:=a;unfold oz at hs;dsimp only at hs;split at hs
 ·rename_i i n;split at hs
  ·rename_i b hb;split at hs
   ·rename_i hc;cases hs;simp only[aq,decide_eq_true_eq,Bool.not_eq_true']at hc;obtain⟨⟨hlt,ho⟩,hnl⟩:=hc;have Cv:¬K.still (ρ.b i) n:=fun x=>by
     have:=JD hlt (R.gp _ _ hb n x);rw[this]at hnl;cases hnl
    obtain⟨arr,ha,hf⟩:=R.arr hb (sR hlt);have hown:=R.own _ _ hb (xb hlt);have hev:AA.ev ρ ⟨.dyn i,.lit (.ofNat n)⟩=⟨ρ.b i,n,none⟩:=rfl;rw[hev];obtain⟨u,hu⟩:∃u,b.cs[n]?=some u:=⟨_,aa hlt⟩;refine⟨oB ho ρ,⟨_,(iN ha).trans (w_ hf hu)⟩,gv ha,fun s=>G.wr _ _ hown Cv,?_,?_,rfl,rfl⟩
    ·refine⟨fun j c hj=>?_,fun j c hj=>?_,fun j k c d hj hk e=>?_,R.bs,R.is,fun p hp=>?_,fun m hm=>R.room m (by rw[size_setCell]at hm;exact hm),fun j c hj m hm=>?_,fun b m hm=>by rw[size_setCell];exact R.low b m hm⟩
     ·rw[dF]at hj;split at hj
      ·rename_i e;subst e;rw[hb]at hj;cases hj;refine⟨.cells (arr.setIfInBounds n (v.ev ρ)) b.elem (0,0),?_,.inl ⟨_,by rw[Ma],L_ hf hlt⟩⟩;rw[heap_setCell,if_pos rfl,ha];rfl
      ·rename_i e;obtain⟨gx,ha',hf'⟩:=R.blk _ _ hj;refine⟨gx,?_,hf'⟩;rw[heap_setCell,if_neg (fun x=>e (R.inj _ _ _ _ hj hb x)),ha']
     ·rw[dF]at hj;split at hj
      ·rename_i e;subst e;exact .inl hown
      ·exact R.rN _ _ hj
     ·rw[dF]at hj hk;split at hj<;>split at hk
      ·rename_i e1 e2;exact e1.trans e2.symm
      ·rename_i e1 e2;subst e1;exact R.inj _ _ _ _ hb hk e
      ·rename_i e1 e2;subst e2;exact R.inj _ _ _ _ hj hb e
      ·exact R.inj _ _ _ _ hj hk e
     ·obtain⟨m1,m2,m3⟩:=R.mem p hp;refine⟨m1,?_,m3⟩;have hne:(p.1.ev ρ).block≠ρ.b i:=fun x=>m1 (x▸hown);simp only[World.cell?]at m2⊢;rw[heap_setCell,if_neg hne];exact m2
     ·rw[dF]at hj;split at hj
      ·rename_i e;subst e;rw[hb]at hj;cases hj;exact(Ff hlt _ _ _ _).2 (R.gp _ _ hb m hm)
      ·exact R.gp _ _ hj m hm
    ·refine⟨fun m hm=>?_,by rw[size_setCell];exact ay _,rfl,rfl,rfl⟩;rw[heap_setCell,if_neg (fun x=>hm (by rw[x];exact hown))]
   ·cases hs
  ·cases hs
 ·cases hs
theorem Fh(I:gf K U h){a:AA}{v:AV}{h':AH}(hs:oz h a v=.ok h')(hv:v.In U):gf K U h':=by
 obtain⟨blk,off⟩:=a;unfold oz at hs;dsimp only at hs;split at hs
 ·split at hs
  ·rename_i b hb;split at hs
   ·cases hs;refine⟨fun j c hj=>?_,fun j hj=>I.keys j (by rw[jb]at hj;exact hj),by rw[jb];exact I.nodup,I.fresh,I.Co⟩;rw[dF]at hj;split at hj
    ·rw[hb]at hj;cases hj;have Ce:=I.hp _ _ hb;have JF:∀(l:List AV) (n:Nat),AV.Ins U l->AV.Ins U (l.set n v):=fun l n hl=>cW.2 fun a ha=>by
      rcases List.mem_or_eq_of_mem_set ha with h'|rfl
      ·exact cW.1 hl _ h'
      ·exact hv
     cases b with
     |cells cs e=>exact JF _ _ Ce
     |gp cs e l=>exact JF _ _ Ce
     |row cs e c=>exact⟨JF _ _ Ce.1,Ce.2⟩
     |map es=>exact Ce
     |chan=>exact Ce
     |jI s n fs ws=>exact Ce
     |pre lk s n fs ws cs e c=>exact Ce
    ·exact I.hp _ _ hj
   ·cases hs
  ·cases hs
 ·cases hs
theorem Bm(R:Rel K ρ h w)(G:K.Good){a:AA}{v:AV}{h':AH}(hs:preSet? h a v=some h'):
  (v.ev ρ).oneCell'=true∧(∃u,w.cell? (a.ev ρ)=some u)∧w.frozen? (a.ev ρ)=false∧(∀s,K.Ev ⟨.cell (a.ev ρ),true,s⟩)∧Rel K ρ h' (w.setCell (a.ev ρ) (v.ev ρ))∧bU K.own w (w.setCell (a.ev ρ) (v.ev ρ))∧h'.nb=h.nb∧h'.lim=h.lim:=by
 obtain⟨blk,off⟩:=a;unfold preSet? at hs;dsimp only at hs;split at hs
 ·rename_i i;split at hs
  ·rename_i b hb;split at hs
   ·rename_i b' hb';split at hs
    ·rename_i ho;cases hs;have hmem:b.nS=true:=by cases b<;>first|rfl|cases hb'
     obtain⟨arr,ha,hf⟩:=R.arr hb hmem;obtain⟨f1,f2,f3,f4,f5,u,hu⟩:=QA hf hb';have hown:=R.own _ _ hb (Ct hu).2;have Cv:¬K.still (ρ.b i) (off.ev ρ).toNat:=fun x=>by exact f5 _ (R.gp _ _ hb _ x)
     have hev:AA.ev ρ ⟨.dyn i,off⟩=⟨ρ.b i,(off.ev ρ).toNat,none⟩:=rfl;rw[hev];have hcell:=Hu hf hu;generalize(off.ev ρ).toNat=n at*;refine⟨oB ho ρ,⟨_,(iN ha).trans hcell⟩,gv ha,fun s=>G.wr _ _ hown Cv,?_,?_,rfl,rfl⟩
     ·refine⟨fun j c hj=>?_,fun j c hj=>?_,fun j k c d hj hk e=>?_,R.bs,R.is,fun p hp=>?_,fun m hm=>R.room m (by rw[size_setCell]at hm;exact hm),fun j c hj m hm=>?_,fun b m hm=>by rw[size_setCell];exact R.low b m hm⟩
      ·rw[dF]at hj;split at hj
       ·rename_i e;subst e;rw[hb]at hj;cases hj;refine⟨.cells (arr.setIfInBounds n (v.ev ρ)) b'.elem (0,0),?_,.inl ⟨_,rfl,f1⟩⟩;rw[heap_setCell,if_pos rfl,ha,f2];rfl
       ·rename_i e;obtain⟨gx,ha',hf'⟩:=R.blk _ _ hj;refine⟨gx,?_,hf'⟩;rw[heap_setCell,if_neg (fun x=>e (R.inj _ _ _ _ hj hb x)),ha']
      ·rw[dF]at hj;split at hj
       ·rename_i e;subst e;exact .inl hown
       ·exact R.rN _ _ hj
      ·rw[dF]at hj hk;split at hj<;>split at hk
       ·rename_i e1 e2;exact e1.trans e2.symm
       ·rename_i e1 e2;subst e1;exact R.inj _ _ _ _ hb hk e
       ·rename_i e1 e2;subst e2;exact R.inj _ _ _ _ hj hb e
       ·exact R.inj _ _ _ _ hj hk e
      ·obtain⟨m1,m2,m3⟩:=R.mem p hp;refine⟨m1,?_,m3⟩;have hne:(p.1.ev ρ).block≠ρ.b i:=fun x=>m1 (x▸hown);simp only[World.cell?]at m2⊢;rw[heap_setCell,if_neg hne];exact m2
      ·rw[dF]at hj;split at hj
       ·rename_i e;subst e;rw[hb]at hj;cases hj;exact absurd (R.gp _ _ hb m hm) (f5 m)
       ·exact R.gp _ _ hj m hm
     ·refine⟨fun m hm=>?_,by rw[size_setCell];exact ay _,rfl,rfl,rfl⟩;rw[heap_setCell,if_neg (fun x=>hm (by rw[x];exact hown))]
    ·cases hs
   ·cases hs
  ·cases hs
 ·cases hs
theorem ij(R:Rel K ρ h w)(G:K.Good){a:AA}{v:AV}{h':AH}(hs:gT h a v=.ok h'):
  (v.ev ρ).oneCell'=true∧(∃u,w.cell? (a.ev ρ)=some u)∧w.frozen? (a.ev ρ)=false∧(∀s,K.Ev ⟨.cell (a.ev ρ),true,s⟩)∧Rel K ρ h' (w.setCell (a.ev ρ) (v.ev ρ))∧bU K.own w (w.setCell (a.ev ρ) (v.ev ρ))∧h'.nb=h.nb∧h'.lim=h.lim:=by
 unfold gT at hs;split at hs
 ·rename_i h1 hh;cases hs;exact Bl R G hh
 ·split at hs
  ·rename_i h1 hh;cases hs;exact Bm R G hh
  ·cases hs
theorem xe(I:gf K U h){a:AA}{v:AV}{h':AH}(hs:gT h a v=.ok h')(ha:a.In U)(hv:v.In U):gf K U h':=by
 unfold gT at hs;split at hs
 ·rename_i h1 hh;cases hs;exact Fh I hh hv
 ·split at hs
  ·rename_i h1 hh;cases hs;unfold preSet? at hh;split at hh
   ·rename_i i hi;split at hh
    ·rename_i b hb;split at hh
     ·rename_i b' hb';split at hh
      ·cases hh;refine⟨fun j c hj=>?_,fun j hj=>I.keys j (by rw[jb]at hj;exact hj),by rw[jb];exact I.nodup,I.fresh,I.Co⟩;rw[dF]at hj;split at hj
       ·rw[hb]at hj;cases hj;exact QB (I.hp _ _ hb) ha.2 hv hb'
       ·exact I.hp _ _ hj
      ·cases hh
     ·cases hh
    ·cases hh
   ·cases hh
  ·cases hs
theorem oC(G:K.Good){E:Value->World->Prop}{a:AA}:∀{l:List AV} {j:Nat} {h h':AH} {w:World},Rel K ρ h w->kF h a l j=.ok h'->
  ∀{Q:Unit->World->Prop},(∀w',Rel K ρ h' w'->bU K.own w w'->h'.nb=h.nb->h'.lim=h.lim->Q () w')->wq K.P K.Ev E (storeCells (a.ev ρ) (AV.evs ρ l) j) Q w:=by
 intro l
 induction l with
 |nil=>intro j h h' w R hs Q hq;simp[kF]at hs;subst hs;exact hq w R (bU.refl _ _) rfl rfl
 |cons v l ih=>
  intro j h h' w R hs Q hq;simp only[kF]at hs;split at hs
  ·rename_i h1 Z5;obtain⟨s1,s2,s3,s4,s5,s6,s7,s8⟩:=ij R G Z5;rw[AA.rP]at s2 s3 s4 s5 s6;simp only[AV.evs,storeCells,bH];rw[pH];exact⟨s1,s2,s3,s4 _,ih s5 hs fun w' r1 r2 r3 r4=>hq w' r1 (s6.trans r2) (r3.trans s7) (r4.trans s8)⟩
  ·cases hs
theorem rQ{a:AA}(ha:a.In U):∀{l:List AV} {j:Nat} {h h':AH},gf K U h->kF h a l j=.ok h'->AV.Ins U l->gf K U h':=by
 intro l
 induction l with
 |nil=>intro j h h' I hs _;simp[kF]at hs;subst hs;exact I
 |cons v l ih=>
  intro j h h' I hs hv;simp only[kF]at hs;split at hs
  ·rename_i h1 Z5;exact ih (xe I Z5 (AA.uq j ha) hv.1) hs hv.2
  ·cases hs
end
end
def Env.upd(ρ:Env)(n m:Nat)(c:Int):Env:={ρ with b:=fun x=>if x=n then m else ρ.b x,i:=fun x=>if x=n then c else ρ.i x}
def plus(U:Nat->Prop)(a b:Nat):Nat->Prop:=fun n=>U n∨(a≤n∧n<b)
theorem ck{U:Nat->Prop}{a b:Nat}:∀n,U n->plus U a b n:=fun _ h=>.inl h
theorem fR{U:Nat->Prop}{ρ:Env}{n m:Nat}{c:Int}(h:¬U n):cz U ρ (ρ.upd n m c):=
 ⟨rfl,rfl,rfl,fun x hx=>by
  have:x≠n:=fun e=>h (e▸hx);simp[Env.upd,this],fun x hx=>by
  have:x≠n:=fun e=>h (e▸hx);simp[Env.upd,this],rfl⟩
section
variable {K:Ctx}{ρ:Env}{h:AH}{w:World}{U:Nat->Prop}
theorem Rel.agree(R:Rel K ρ h w)(I:gf K U h){ρ':Env}(A:cz U ρ ρ'):Rel K ρ' h w:=by
 have hk:∀i b,cG i h.hp=some b->ρ'.b i=ρ.b i:=fun i b hb=>A.b i (I.keys i (qn hb));refine⟨fun i b hb=>?_,fun i b hb=>by rw[hk i b hb];exact R.rN i b hb,fun i j b c hb hc e=>R.inj i j b c hb hc (by rw[hk i b hb,hk j c hc]at e;exact e),fun p hp=>?_,fun p hp=>?_,fun p hp=>?_,R.room,fun i b hb n hs=>(Bi A (I.hp i b hb)).2 (R.gp i b hb n (by rw[hk i b hb]at hs;exact hs)),R.low⟩
 ·obtain⟨arr,ha,hf⟩:=R.blk i b hb;exact⟨arr,by rw[hk i b hb];exact ha,Cq A (I.hp i b hb) hf⟩
 ·rw[BE.bZ A (I.Co.bs p hp)];exact R.bs p hp
 ·rw[IE.bZ A (I.Co.is p hp).1,IE.bZ A (I.Co.is p hp).2];exact R.is p hp
 ·rw[AA.bZ A (I.Co.mem p hp).1,AV.bZ A _ (I.Co.mem p hp).2];exact R.mem p hp
theorem Rel.Z6(R:Rel K ρ h w)(I:gf K U h)(hlt:h.nb<h.lim){m:Nat}{c:Int}{b:bQ}{o:Obj}(hm:w.heap[m]?=some o)(hown:K.own m)
 (hne:∀j x,cG j h.hp=some x->ρ.b j≠m)(hst:∀n,K.still m n->b.lp K.P (ρ.upd h.nb m c) n)(hf:b.is K.P (ρ.upd h.nb m c) o):Rel K (ρ.upd h.nb m c) ⟨rH h.nb b h.hp,h.nb+1,h.lim⟩ w:=by
 have zf:¬U h.nb:=I.fresh _ (ay _) hlt;have hnk:h.nb∉Go.Proofs.YtmobbajggkjpgaaGreat.SX.keys h.hp:=fun hk=>zf (I.keys _ hk);have R':=R.agree I (fR (m:=m) (c:=c) zf);have hb0:(ρ.upd h.nb m c).b h.nb=m:=by simp[Env.upd]
 have hbj:∀j x,cG j h.hp=some x->(ρ.upd h.nb m c).b j=ρ.b j:=fun j x hx=>(fR (m:=m) (c:=c) zf).b j (I.keys j (qn hx));refine⟨fun i x hx=>?_,fun i x hx=>?_,fun i j x y hx hy e=>?_,R'.bs,R'.is,R'.mem,R'.room,fun i x hx n hs=>?_,R'.low⟩
 ·rw[kG _ _ _ _ hnk]at hx;split at hx
  ·rename_i e;subst e;cases hx;rw[hb0];exact⟨o,hm,hf⟩
  ·exact R'.blk i x hx
 ·rw[kG _ _ _ _ hnk]at hx;split at hx
  ·rename_i e;subst e;cases hx;rw[hb0];exact .inl hown
  ·exact R'.rN i x hx
 ·rw[kG _ _ _ _ hnk]at hx hy;split at hx<;>split at hy
  ·rename_i e1 e2;exact e1.trans e2.symm
  ·rename_i e1 e2;subst e1;rw[hb0,hbj j y hy]at e;exact absurd e.symm (hne j y hy)
  ·rename_i e1 e2;subst e2;rw[hb0,hbj i x hx]at e;exact absurd e (hne i x hx)
  ·exact R'.inj i j x y hx hy e
 ·rw[kG _ _ _ _ hnk]at hx;split at hx
  ·rename_i e;subst e;cases hx;rw[hb0]at hs;exact hst n hs
  ·exact R'.gp i x hx n hs
theorem Rel.Z7(R:Rel K ρ h w)(I:gf K U h)(hlt:h.nb<h.lim){m:Nat}{c:Int}{b:bQ}{o:Obj}(hm:w.heap[m]?=some o)(hown:K.own m)
 (hne:∀j x,cG j h.hp=some x->ρ.b j≠m)(hst:∀n,¬K.still m n)(hf:b.is K.P (ρ.upd h.nb m c) o):Rel K (ρ.upd h.nb m c) ⟨rH h.nb b h.hp,h.nb+1,h.lim⟩ w:=
 R.Z6 I hlt hm hown hne (fun n hs=>absurd hs (hst n)) hf
theorem Rel.ins(R:Rel K ρ h w)(I:gf K U h)(hlt:h.nb<h.lim){m:Nat}{c:Int}{b:bQ}{arr:Array Value}(hm:w.heap[m]?=some (.cells arr b.elem (0,0)))(hown:K.own m)
 (hne:∀j x,cG j h.hp=some x->ρ.b j≠m)(hst:∀n,¬K.still m n)(hf:b.fits K.P (ρ.upd h.nb m c) arr):Rel K (ρ.upd h.nb m c) ⟨rH h.nb b h.hp,h.nb+1,h.lim⟩ w:=
 R.Z7 I hlt hm hown hne hst (.inl ⟨arr,rfl,hf⟩)
theorem gf.ins(I:gf K U h)(hlt:h.nb<h.lim){b:bQ}(hb:b.In (plus U h.nb (h.nb+1))):gf K (plus U h.nb (h.nb+1)) ⟨rH h.nb b h.hp,h.nb+1,h.lim⟩:=by
 have zf:¬U h.nb:=I.fresh _ (ay _) hlt;have hnk:h.nb∉Go.Proofs.YtmobbajggkjpgaaGreat.SX.keys h.hp:=fun hk=>zf (I.keys _ hk);refine⟨fun i x hx=>?_,fun i hi=>?_,?_,fun n h1 h2=>?_,I.Co.mono ck⟩
 ·rw[kG _ _ _ _ hnk]at hx;split at hx
  ·cases hx;exact hb
  ·exact bQ.In.mono ck (I.hp i x hx)
 ·have:=(um h.nb b h.hp).mem_iff.1 hi;rcases ai.1 this with rfl|hm
  ·exact .inr ⟨ay _,Nat.lt_succ_self _⟩
  ·exact .inl (I.keys i hm)
 ·exact(um h.nb b h.hp).nodup_iff.2 (List.nodup_cons.2 ⟨hnk,I.nodup⟩)
 ·rintro(hu|⟨_,h3⟩)
  ·exact I.fresh n (by simp only at h1;omega) h2 hu
  ·simp only at h1;omega
theorem Rel.push(R:Rel K ρ h w)(o:Obj):Rel K ρ h {w with heap:=w.heap.push o}∧bU K.own w {w with heap:=w.heap.push o}:=by
 have U5:∀n,n<w.heap.size->(w.heap.push o)[n]?=w.heap[n]?:=fun n hn=>by rw[Array.getElem?_push_lt hn,aS hn]
 have hsz:(w.heap.push o).size=w.heap.size+1:=by simp
 refine⟨⟨fun i b hb=>?_,R.rN,R.inj,R.bs,R.is,fun p hp=>?_,fun n hn=>R.room n (by simp only[hsz]at hn;omega),R.gp,fun b n hs=>by have:=R.low b n hs;simp only[hsz];omega⟩,⟨fun n hn=>?_,by simp only[hsz];omega,rfl,rfl,rfl⟩⟩
 ·obtain⟨arr,ha,hf⟩:=R.blk i b hb;exact⟨arr,by show(w.heap.push o)[_]?=_;rw[U5 _ (jF ha)];exact ha,hf⟩
 ·obtain⟨m1,m2,m3⟩:=R.mem p hp;refine⟨m1,?_,m3⟩;have hlt:(p.1.ev ρ).block<w.heap.size:=by
   rcases Nat.lt_or_ge (p.1.ev ρ).block w.heap.size with h'|h'
   ·exact h'
   ·simp[World.cell?,Array.getElem?_eq_none h']at m2
  simp only[World.cell?]at m2⊢;rw[U5 _ hlt];exact m2
 ·show(w.heap.push o)[n]?=_;rcases Nat.lt_or_ge n w.heap.size with h'|h'
  ·exact U5 n h'
  ·exact absurd (R.room n h') hn
theorem Rel.new(R:Rel K ρ h w)(I:gf K U h)(hlt:h.nb<h.lim){b:bQ}{arr:Array Value}{c:Int}(hf:b.fits K.P (ρ.upd h.nb w.heap.size c) arr):
  Rel K (ρ.upd h.nb w.heap.size c) ⟨rH h.nb b h.hp,h.nb+1,h.lim⟩ {w with heap:=w.heap.push (.cells arr b.elem (0,0))}:=by
 obtain⟨R',_⟩:=R.push (.cells arr b.elem (0,0));refine R'.ins I hlt (by simp) (R.room _ (ay _)) (fun j x hx e=>?_) (fun n hs=>by have:=R.low _ n hs;omega) hf;obtain⟨gx,ha,_⟩:=R.blk j x hx;have:=jF ha;omega
theorem Rel.drop(R:Rel K ρ h w)(I:gf K U h)(i:Nat):Rel K ρ {h with hp:=jw i h.hp} w:=by
 have hs:∀j b,cG j (jw i h.hp)=some b->cG j h.hp=some b:=fun j b hb=>by
  rw[iL _ _ _ I.nodup]at hb;split at hb
  ·cases hb
  ·exact hb
 exact⟨fun j b hb=>R.blk j b (hs j b hb),fun j b hb=>R.rN j b (hs j b hb),fun j k b c hb hc e=>R.inj j k b c (hs j b hb) (hs k c hc) e,R.bs,R.is,R.mem,R.room,fun j b hb=>R.gp j b (hs j b hb),R.low⟩
theorem gf.drop(I:gf K U h)(i:Nat):gf K U {h with hp:=jw i h.hp}:=
 ⟨fun j b hb=>I.hp j b (by
  rw[iL _ _ _ I.nodup]at hb;split at hb
  ·cases hb
  ·exact hb),fun j hj=>I.keys j ((l_ i h.hp).mem hj),(l_ i h.hp).nodup I.nodup,I.fresh,I.Co⟩
structure dg(K:Ctx)(U:Nat->Prop)(h h':AH):Prop where
 nb:h.nb≤h'.nb
 lim:h'.lim=h.lim
 ids:gf K (plus U h.nb h'.nb) h'
theorem qq{U:Nat->Prop}{a:Nat}:∀n,plus U a a n->U n:=fun n h=>h.elim id fun h=>by omega
theorem gf.congr{U U':Nat->Prop}(I:gf K U h)(h1:∀n,U n↔U' n):gf K U' h:=
 ⟨fun i b hb=>bQ.In.mono (fun n=>(h1 n).1) (I.hp i b hb),fun i hi=>(h1 i).1 (I.keys i hi),I.nodup,fun n a b c=>I.fresh n a b ((h1 n).2 c),I.Co.mono fun n=>(h1 n).1⟩
theorem dg.refl(I:gf K U h):dg K U h h:=⟨ay _,rfl,I.congr fun n=>⟨.inl,qq n⟩⟩
theorem lV{U:Nat->Prop}{a b c:Nat}(h1:a≤b)(h2:b≤c)(n:Nat):plus (plus U a b) b c n↔plus U a c n:=by
 unfold plus;constructor
 ·rintro((h|h)|h)
  ·exact .inl h
  ·exact .inr ⟨h.1,by omega⟩
  ·exact .inr ⟨by omega,h.2⟩
 ·rintro(h|h)
  ·exact .inl (.inl h)
  ·by_cases e:n<b
   ·exact .inl (.inr ⟨h.1,e⟩)
   ·exact .inr ⟨by omega,h.2⟩
theorem dg.trans{h' h'':AH}(g:dg K U h h')(g':dg K (plus U h.nb h'.nb) h' h''):dg K U h h'':=
 ⟨ax g.nb g'.nb,g'.lim.trans g.lim,g'.ids.congr fun n=>lV g.nb g'.nb n⟩
def After(K:Ctx)(U:Nat->Prop)(ρ:Env)(w:World)(h':AH)(Q:Env->Prop)(w':World):Prop:=
 ∃ρ',cz U ρ ρ'∧Rel K ρ' h' w'∧bU K.own w w'∧Q ρ'
theorem After.same(R:Rel K ρ h w){Q:Env->Prop}(hq:Q ρ):After K U ρ w h Q w:=⟨ρ,cz.refl _ _,R,bU.refl _ _,hq⟩
theorem oD(R:Rel K ρ h w)(I:gf K U h){b:bQ}{v:AV}{h':AH}(ha:alloc? h b=.ok (v,h'))(hb:b.In U):
  (∃a,v=.ptr (some a))∧v.In (plus U h.nb h'.nb)∧dg K U h h'∧∀arr,b.fits K.P ρ arr->
   After K U ρ w h' (fun ρ'=>v.ev ρ'=.pointer (some ⟨w.heap.size,0,none⟩)) {w with heap:=w.heap.push (.cells arr b.elem (0,0))}:=by
 obtain⟨hp,nb,lim⟩:=h;simp only[alloc?]at ha;split at ha
 ·rename_i hlt;cases ha;have zf:¬U nb:=I.fresh _ (ay _) hlt;refine⟨⟨_,rfl⟩,⟨.inr ⟨ay _,Nat.lt_succ_self _⟩,trivial⟩,⟨Nat.le_succ _,rfl,I.ins hlt (bQ.In.mono ck hb)⟩,fun arr hf=>?_⟩;refine⟨ρ.upd nb w.heap.size 0,fR zf,R.new I hlt (rO (fR zf) hb hf),(R.push _).2,?_⟩;simp[AV.ev,AA.ev,BR.ev,IE.ev,Env.upd]
 ·cases ha
theorem jX(R:Rel K ρ h w)(I:gf K U h){b:bQ}{l c:IE}{v:AV}{h':AH}(ha:allocSlice? h b l c=.ok (v,h'))(hb:b.In U)(hl:l.In U)(hc:c.In U):
  v.In (plus U h.nb h'.nb)∧dg K U h h'∧∀arr,b.fits K.P ρ arr->
   After K U ρ w h' (fun ρ'=>v.ev ρ'=.slice (some ⟨w.heap.size,0,none⟩) (l.ev ρ).toNat (c.ev ρ).toNat) {w with heap:=w.heap.push (.cells arr b.elem (0,0))}:=by
 obtain⟨hp,nb,lim⟩:=h;simp only[allocSlice?]at ha;split at ha
 ·rename_i hlt;cases ha;have zf:¬U nb:=I.fresh _ (ay _) hlt;refine⟨⟨⟨.inr ⟨ay _,Nat.lt_succ_self _⟩,trivial⟩,IE.In.mono ck hl,IE.In.mono ck hc⟩,⟨Nat.le_succ _,rfl,I.ins hlt (bQ.In.mono ck hb)⟩,fun arr hf=>?_⟩;refine⟨ρ.upd nb w.heap.size 0,fR zf,R.new I hlt (rO (fR zf) hb hf),(R.push _).2,?_⟩;simp only[AV.ev,IE.bZ (fR zf) hl,IE.bZ (fR zf) hc];simp[AA.ev,BR.ev,IE.ev,Env.upd]
 ·cases ha
end
section
theorem bJ{α β:Type}{x:M α}{f:α->M β}{b:β}:(x>>= f)=.ok b↔∃a,x=.ok a∧f a=.ok b:=by
 cases x with
 |ok a=>simp[bind,Except.bind]
 |error e=>simp[bind,Except.bind]
theorem bL{α:Type}{a b:α}:(pure a:M α)=.ok b↔a=b:=by simp[pure,Except.pure]
theorem Fi(ρ:Env)(v:Value):(Qo v).ev ρ=v:=by unfold Qo;split<;>simp[AV.ev,BE.ev,IE.ev,AA.ev,BR.ev]
theorem Fj{U:Nat->Prop}(v:Value):(Qo v).In U:=by unfold Qo;split<;>simp[AV.In,BE.In,IE.In,AA.In,BR.In,lz]
theorem Hx(ρ:Env)(l:List Value):AV.evs ρ (l.map Qo)=l:=by
 rw[ja,List.map_map]
 conv=>rhs;rw[<-List.map_id l]
 exact bh fun v _=>Fi ρ v
theorem Hy{U:Nat->Prop}(l:List Value):AV.Ins U (l.map Qo):=cW.2 fun a ha=>by obtain⟨v,_,rfl⟩:=bf.1 ha;exact Fj v
theorem Fo(ρ:Env)(v:Value):(sF v).ev ρ=v:=by
 unfold sF;split
 ·simp[AV.ev,Fi]
 ·exact Fi ρ _
theorem Fp{U:Nat->Prop}(v:Value):(sF v).In U:=by
 unfold sF;split
 ·exact Fj _
 ·exact Fj _
theorem Mc(ρ:Env)(v:Value):(U1 v).ev ρ=v:=by
 unfold U1;split
 ·simp[AV.ev,Hx]
 ·simp[AV.ev,Hx]
 ·exact Fo ρ _
theorem Me{U:Nat->Prop}(v:Value):(U1 v).In U:=by
 unfold U1;split
 ·exact Hy _
 ·exact Hy _
 ·exact Fp _
theorem mh(ρ:Env)(v:Value):(ofValue v).ev ρ=v:=by
 unfold ofValue;split
 ·simp only[AV.ev,ja,List.map_map];congr 1;rename_i vs;have:vs.toList.map (AV.ev ρ ∘ U1)=vs.toList:=by
   conv=>rhs;rw[<-List.map_id vs.toList]
   exact bh fun v _=>Mc ρ v
  rw[this]
 ·exact Mc ρ _
theorem mj{U:Nat->Prop}(v:Value):(ofValue v).In U:=by
 unfold ofValue;split
 ·exact cW.2 fun a ha=>by obtain⟨v,_,rfl⟩:=bf.1 ha;exact Me v
 ·exact Me _
mutual
theorem Bn(ρ:Env):∀(a:AV) {v:Value},a.val?=some v->a.ev ρ=v
 |.bool b,v,h=>by cases b<;>simp_all [AV.val?,AV.ev,BE.ev]
 |.int k e,v,h=>by cases e<;>simp_all [AV.val?,AV.ev,IE.ev]
 |.str s,v,h=>by simp_all [AV.val?,AV.ev]
 |.ptr a,v,h=>by
  unfold AV.val? at h;split at h<;>simp_all [AV.ev,AA.ev,BR.ev,IE.ev]
  all_goals first
   |(obtain⟨rfl,rfl⟩:=h;simp_all [AV.ev,AA.ev,BR.ev,IE.ev];done)
   |(rename_i hh;subst hh;simp[AA.ev,BR.ev,IE.ev];done)
   |skip
 |.slice a l c,v,h=>by
  unfold AV.val? at h;split at h<;>simp_all [AV.ev,AA.ev,BR.ev,IE.ev]
  all_goals first
   |(obtain⟨rfl,rfl,rfl⟩:=‹_∧_∧_›;simp[IE.ev];done)
   |skip
 |.map r,v,h=>by cases r<;>simp_all [AV.val?,AV.ev]
 |.chan r,v,h=>by cases r<;>simp_all [AV.val?,AV.ev]
 |.func f x y,v,h=>by
  simp only[AV.val?]at h;split at h
  ·rename_i x' y' hx hy;simp only[AV.ev,lW ρ x hx,lW ρ y hy];simpa using h
  ·cases h
 |.nilFunc,v,h=>by simp_all [AV.val?,AV.ev]
 |.iface t u,v,h=>by
  simp only[AV.val?]at h;split at h
  ·rename_i u' hu;simp only[AV.ev,Bn ρ u hu];simpa using h
  ·cases h
 |.nilIface,v,h=>by simp_all [AV.val?,AV.ev]
 |.agg x,v,h=>by
  simp only[AV.val?]at h;split at h
  ·rename_i u' hu;simp only[AV.ev,lW ρ x hu];simpa using h
  ·cases h
 |.tuple x,v,h=>by
  simp only[AV.val?]at h;split at h
  ·rename_i u' hu;simp only[AV.ev,lW ρ x hu];simpa using h
  ·cases h
 |.bF i,v,h=>by simp[AV.val?]at h
 |.raw u,v,h=>by simp_all [AV.val?,AV.ev]
 |.ss e,v,h=>by simp[AV.val?]at h
theorem lW(ρ:Env):∀(l:List AV) {vs:List Value},AV.vals? l=some vs->AV.evs ρ l=vs
 |[],vs,h=>by simp_all [AV.vals?,AV.evs]
 |a::l,vs,h=>by
  simp only[AV.vals?]at h;split at h
  ·rename_i v vs' hv hvs;simp only[AV.evs,Bn ρ a hv,lW ρ l hvs];simpa using h
  ·cases h
end
section
variable {K:Ctx}{ρ:Env}{h:AH}{w:World}{U:Nat->Prop}
theorem Bo(ρ:Env)(e:IE):e.fold.ev ρ=e.ev ρ:=by unfold IE.fold;split<;>simp[IE.ev,SE.ev]
theorem QE{e:IE}(hi:e.In U):e.fold.In U:=by unfold IE.fold;split<;>first|trivial|exact hi
theorem mq(R:Rel K ρ h w)(e:IE):(K.O.int e).ev ρ=e.ev ρ:=by
 unfold dN.int;split
 ·rename_i n hn;rw[<-Bo ρ e,hn]
 ·rename_i hn;cases hl:look IE.fe e.fold K.O.is with
  |none=>simp[Bo]
  |some e'=>obtain⟨x,hx,he⟩:=jc hl;obtain rfl:=IE.cM he;simp only[Option.getD_some];rw[<-R.is _ hx,Bo]
theorem rR(I:gf K U h){e:IE}(hi:e.In U):(K.O.int e).In U:=by
 unfold dN.int;split
 ·trivial
 ·cases hl:look IE.fe e.fold K.O.is with
  |none=>exact QE hi
  |some e'=>obtain⟨x,hx,_⟩:=jc hl;exact(I.Co.is _ hx).2
theorem xg(ρ:Env)(b:BE):b.fold.ev ρ=b.ev ρ:=by unfold BE.fold;split<;>simp[BE.ev,IE.ev,SE.ev]
theorem xh{b:BE}(hi:b.In U):b.fold.In U:=by unfold BE.fold;split<;>first|trivial|exact hi
theorem lK(R:Rel K ρ h w)(b:BE):(K.O.bool b).ev ρ=b.ev ρ:=by
 unfold dN.bool;split
 ·rename_i n hn;rw[<-xg ρ b,hn]
 ·rename_i hn;split
  ·rename_i v hv;obtain⟨x,hx,he⟩:=jc hv;obtain rfl:=BE.cM he;rw[<-xg ρ b,R.bs _ hx];rfl
  ·exact xg ρ b
theorem qs{b:BE}(hi:b.In U):(K.O.bool b).In U:=by
 unfold dN.bool;split
 ·trivial
 ·split
  ·trivial
  ·exact xh hi
theorem jY(R:Rel K ρ h w){b:BE}{t:Bool}(e:K.O.bool b=.lit t):b.ev ρ=t:=by rw[<-lK R b,e];rfl
theorem lq(R:Rel K ρ h w){b:BE}{t:Bool}(e:K.O.dec b=.ok t):b.ev ρ=t:=by
 unfold dN.dec at e;split at e
 ·rename_i v hv;cases e;exact jY R hv
 ·cases e
theorem pK(R:Rel K ρ h w)(v:AV):(oQ K.O v).ev ρ=v.ev ρ:=by cases v<;>simp only[oQ,AV.ev];rw[mq R]
theorem Cw(I:gf K U h){v:AV}(hv:v.In U):(oQ K.O v).In U:=by
 cases v<;>first|exact hv|skip
 exact rR I hv
theorem gW{v:AV}{cs:List AV}(hc:v.cells?=.ok cs)(ρ:Env):(v.ev ρ).cells=(AV.evs ρ cs).toArray:=by cases v<;>simp[AV.cells?]at hc<;>subst hc<;>simp[AV.ev,Value.cells,AV.evs]
theorem kH{v:AV}{cs:List AV}(hc:v.cells?=.ok cs)(hi:v.In U):AV.Ins U cs:=by cases v<;>simp[AV.cells?]at hc<;>subst hc<;>first|exact hi|exact⟨hi,trivial⟩
theorem Cx{P:Program}{t:TypeId}{z:AV}(h:zero? P t=.ok z):∃i v,P.info? t=some i∧i.zero=some v∧z=ofValue v:=by
 unfold zero? at h;split at h
 ·rename_i i hi;split at h
  ·rename_i v hv;cases h;exact⟨i,v,hi,hv,rfl⟩
  ·cases h
 ·cases h
theorem ef{P:Program}{Ev:Event->Prop}{E:Value->World->Prop}{t:TypeId}{z:AV}(hz:zero? P t=.ok z){Q:Value->World->Prop}{w:World}:wq P Ev E (zeroValue t) Q w↔Q (z.ev ρ) w:=by obtain⟨i,v,hi,hv,rfl⟩:=Cx hz;simp[zeroValue,dP hi,hv,mh]
theorem nZ{P:Program}{t:TypeId}{z:AV}(hz:zero? P t=.ok z):z.In U:=by obtain⟨i,v,hi,hv,rfl⟩:=Cx hz;exact mj v
theorem wh{E:Value->World->Prop}{t:TypeId}{cs:List AV}{off:Nat}{v:AV}(hp:part? K.P t cs off=.ok v){Q:Value->World->Prop}{w:World}(hq:Q (v.ev ρ) w):
  wq K.P K.Ev E (part t (AV.evs ρ cs).toArray off) Q w:=by
 unfold part? at hp;rw[bJ]at hp;obtain⟨b,hb,hp⟩:=hp;simp only[part,bH,Cn hb];split at hp
 ·rename_i hb';rw[bJ]at hp;obtain⟨n,hn,hp⟩:=hp;split at hp
  ·rename_i hle;cases hp;rw[if_pos hb'];simp only[bH,c9 hn,bI];simp only[AV.ev]at hq;have:(AV.evs ρ cs).toArray.extract off (off+n)=(AV.evs ρ ((cs.drop off).take n)).toArray:=by
    rw[ja,ja,List.extract_toArray];simp[List.extract_eq_take_drop,List.map_take,List.map_drop]
   rw[this];exact hq
  ·cases hp
 ·rename_i hb';rw[if_neg hb'];split at hp
  ·rename_i u hu;cases hp;have:(AV.evs ρ cs).toArray[off]?=some (v.ev ρ):=by
    rw[List.getElem?_toArray,m7,hu];rfl
   rw[this];exact hq
  ·cases hp
theorem sV{P:Program}{t:TypeId}{cs:List AV}{off:Nat}{v:AV}(hp:part? P t cs off=.ok v)(hi:AV.Ins U cs):v.In U:=by
 unfold part? at hp;rw[bJ]at hp;obtain⟨b,hb,hp⟩:=hp;split at hp
 ·rw[bJ]at hp;obtain⟨n,hn,hp⟩:=hp;split at hp
  ·cases hp;exact cW.2 fun a ha=>cW.1 hi _ (List.mem_of_mem_drop (List.mem_of_mem_take ha))
  ·cases hp
 ·split at hp
  ·rename_i u hu;cases hp;exact cW.1 hi _ (az hu)
  ·cases hp
theorem kI(R:Rel K ρ h w)(G:K.Good){E:Value->World->Prop}{t:TypeId}{a:AA}{v:AV}(hl:loadVar? K.P K.O h t a=.ok v){Q:Value->World->Prop}(hq:Q (v.ev ρ) w):
  wq K.P K.Ev E (loadVar t (a.ev ρ)) Q w:=by
 unfold loadVar? at hl;rw[bJ]at hl;obtain⟨b,hb,hl⟩:=hl;simp only[loadVar,bH,Cn hb];split at hl
 ·rename_i hb';simp only[bJ,bL]at hl;obtain⟨n,hn,l,hl,rfl⟩:=hl;rw[if_pos hb'];simp only[bH,c9 hn,loadCells];exact k6 R G hl (by simpa[AV.ev] using hq)
 ·rename_i hb';rw[if_neg hb'];obtain⟨h1,h2⟩:=pJ R G hl;rw[v_];exact⟨_,h1,h2 _,hq⟩
theorem m8(I:gf K U h){t:TypeId}{a:AA}{v:AV}(hl:loadVar? K.P K.O h t a=.ok v):v.In U:=by
 unfold loadVar? at hl;rw[bJ]at hl;obtain⟨b,hb,hl⟩:=hl;split at hl
 ·simp only[bJ,bL]at hl;obtain⟨n,hn,l,hl,rfl⟩:=hl;exact sS I hl
 ·exact xd I hl
theorem m9(R:Rel K ρ h w)(G:K.Good){E:Value->World->Prop}{t:TypeId}{a:AA}{v:AV}{h':AH}(hs:storeVar? K.P h t a v=.ok h'){Q:Unit->World->Prop}
 (hq:∀w',Rel K ρ h' w'->bU K.own w w'->h'.nb=h.nb->h'.lim=h.lim->Q () w'):wq K.P K.Ev E (storeVar t (a.ev ρ) (v.ev ρ)) Q w:=by
 unfold storeVar? at hs;simp only[bJ]at hs;obtain⟨cs,hc,n,hn,hs⟩:=hs;split at hs
 ·rename_i hlen;have hcells:=gW hc ρ;simp only[storeVar,bH,c9 hn,hcells];have hsz:(AV.evs ρ cs).toArray.size=n:=by simp[cO,hlen]
  rw[if_neg (by simpa using hsz)];exact oC G R hs hq
 ·cases hs
theorem qM(I:gf K U h){t:TypeId}{a:AA}{v:AV}{h':AH}(hs:storeVar? K.P h t a v=.ok h')(ha:a.In U)(hv:v.In U):gf K U h':=by
 unfold storeVar? at hs;simp only[bJ]at hs;obtain⟨cs,hc,n,hn,hs⟩:=hs;split at hs
 ·exact rQ ha I hs (kH hc hv)
 ·cases hs
theorem Fq(R:Rel K ρ h w)(G:K.Good){i:Nat}{e:TypeId}{c:IE}(hb:cG i h.hp=some (.row [] e c)){n:Nat}{inf:TypeInfo}(hi:K.P.info? e=some inf)(hn:n<(c.ev ρ).toNat*inf.size)(v:Value):
  (∃u,w.cell? ⟨ρ.b i,n,none⟩=some u)∧w.frozen? ⟨ρ.b i,n,none⟩=false∧(∀s,K.Ev ⟨.cell ⟨ρ.b i,n,none⟩,true,s⟩)∧Rel K ρ h (w.setCell ⟨ρ.b i,n,none⟩ v)∧bU K.own w (w.setCell ⟨ρ.b i,n,none⟩ v):=by
 obtain⟨arr,ha,rest,afb,Z8,JG,Qr⟩:=R.arr hb rfl;obtain rfl:inf=afb:=by rw[hi]at JG;exact au JG
 have hlt:n<arr.size:=by rw[Qr];exact hn
 have hown:=R.own _ _ hb rfl;have Cv:¬K.still (ρ.b i) n:=fun x=>by have:=R.gp _ _ hb n x;cases this
 refine⟨⟨arr[n],by rw[iN ha];simp[hlt]⟩,gv ha,fun s=>G.wr _ _ hown Cv,?_,?_⟩
 ·refine⟨fun j b hj=>?_,R.rN,R.inj,R.bs,R.is,fun p hp=>?_,fun m hm=>R.room m (by rw[size_setCell]at hm;exact hm),R.gp,fun b m hm=>by rw[size_setCell];exact R.low b m hm⟩
  ·by_cases ej:j=i
   ·subst ej;rw[hb]at hj;cases hj;refine⟨.cells (arr.setIfInBounds n v) e (0,0),?_,.inl ⟨_,rfl,(arr.setIfInBounds n v).toList,inf,(List.nil_append _).symm,hi,by simpa using Qr⟩⟩;rw[heap_setCell,if_pos rfl,ha];rfl
   ·obtain⟨o,ho,hi'⟩:=R.blk _ _ hj;exact⟨o,by rw[heap_setCell,if_neg (fun x=>ej (R.inj _ _ _ _ hj hb x)),ho],hi'⟩
  ·obtain⟨m1,m2,m3⟩:=R.mem p hp;refine⟨m1,?_,m3⟩;have hne:(p.1.ev ρ).block≠ρ.b i:=fun x=>m1 (x▸hown);simp only[World.cell?]at m2⊢;rw[heap_setCell,if_neg hne];exact m2
 ·refine⟨fun m hm=>?_,by rw[size_setCell];exact ay _,rfl,rfl,rfl⟩;rw[heap_setCell,if_neg (fun x=>hm (by rw[x];exact hown))]
theorem Fs(G:K.Good){E:Value->World->Prop}{i:Nat}{e:TypeId}{c:IE}(hb:cG i h.hp=some (.row [] e c)){inf:TypeInfo}(hi:K.P.info? e=some inf){off:Nat}:
  ∀{l:List AV} {j:Nat} {w:World},Rel K ρ h w->sH l=true->off+j+l.length≤(c.ev ρ).toNat*inf.size->∀{Q:Unit->World->Prop},(∀w',Rel K ρ h w'->bU K.own w w'->Q () w')->
   wq K.P K.Ev E (storeCells ⟨ρ.b i,off,none⟩ (AV.evs ρ l) j) Q w:=by
 intro l
 induction l with
 |nil=>intro j w R _ _ Q hq;exact hq w R (bU.refl _ _)
 |cons v l ih=>
  intro j w R ho hle Q hq;simp only[sH,aq]at ho;simp only[aC]at hle;obtain⟨s2,s3,s4,s5,s6⟩:=Fq R G hb hi (n:=off+j) (by omega) (v.ev ρ);have ea:(⟨ρ.b i,off,none⟩:Addr).add j=⟨ρ.b i,off+j,none⟩:=by
   by_cases hj:j=0
   ·subst hj;rfl
   ·simp[Addr.add,hj]
  simp only[AV.evs,storeCells,bH];rw[pH,ea];exact⟨oB ho.1 ρ,s2,s3,s4 _,ih s5 ho.2 (by omega) fun w' r1 r2=>hq w' r1 (s6.trans r2)⟩
theorem Cy(R:Rel K ρ h w)(G:K.Good){E:Value->World->Prop}{t:TypeId}{i:Nat}{off:IE}{v:AV}{h':AH}(hs:storeRow? K.P K.O h t i off v=.ok h'){Q:Unit->World->Prop}
 (hq:∀w',Rel K ρ h w'->bU K.own w w'->Q () w'):wq K.P K.Ev E (storeVar t ((⟨.dyn i,off⟩:AA).ev ρ) (v.ev ρ)) Q w∧h'=h:=by
 unfold storeRow? at hs;simp only[bJ]at hs;obtain⟨cs,hc,hs⟩:=hs;split at hs
 ·rename_i e c hb;simp only[bJ]at hs;obtain⟨size,hsz,ok,hok,n,hn,hs⟩:=hs;split at hs
  ·rename_i hh;obtain⟨hlen,hone,rfl,h0⟩:=hh;cases hs;refine⟨?_,rfl⟩;obtain⟨inf,hi,rfl⟩:=mg hsz;have hcells:=gW hc ρ;simp only[storeVar,bH,c9 hn,hcells];have hs2:(AV.evs ρ cs).toArray.size=n:=by simp[cO,hlen]
   rw[if_neg (by simpa using hs2)];have hlt:((off.ev ρ).toNat:Int)+(Int.ofNat (cs.length-1))<((c.ev ρ).toNat:Int)*(Int.ofNat inf.size):=by have:=lq R hok;exact of_decide_eq_true this
   have hle:(off.ev ρ).toNat+0+cs.length≤(c.ev ρ).toNat*inf.size:=by
    have h2:(off.ev ρ).toNat+(cs.length-1)<(c.ev ρ).toNat*inf.size:=by
     have:=hlt;simp only[Int.ofNat_eq_natCast]at this
     exact_mod_cast this
    omega
   show wq K.P K.Ev E (storeCells ⟨ρ.b i,(off.ev ρ).toNat,none⟩ (AV.evs ρ cs).toArray.toList 0) Q w;simp only[List.toList_toArray];exact Fs G hb hi R hone hle hq
  ·cases hs
 ·cases hs
theorem JH(R:Rel K ρ h w)(G:K.Good){E:Value->World->Prop}{t:TypeId}{a:AA}{v:AV}{h':AH}(hs:storeS? K.P K.O h t a v=.ok h'){Q:Unit->World->Prop}
 (hq:∀w',Rel K ρ h' w'->bU K.own w w'->Q () w'):wq K.P K.Ev E (storeVar t (a.ev ρ) (v.ev ρ)) Q w:=by
 unfold storeS? at hs;split at hs
 ·split at hs
  ·have hh:h'=h:=by
    unfold storeRow? at hs;simp only[bJ]at hs;obtain⟨cs,hc,hs⟩:=hs;split at hs
    ·simp only[bJ]at hs;obtain⟨size,hsz,ok,hok,n,hn,hs⟩:=hs;split at hs<;>cases hs;rfl
    ·cases hs
   subst hh;exact(Cy R G hs hq).1
  ·exact m9 R G hs fun w' a b _ _=>hq w' a b
 ·exact m9 R G hs fun w' a b _ _=>hq w' a b
end
end
section
variable {K:Ctx}{ρ:Env}{h:AH}{w:World}{U:Nat->Prop}
theorem qN{E:Value->World->Prop}{n:Nat}{arr:Array Value}{e:TypeId}{f:Nat×Nat}(hn:w.heap[n]?=some (.cells arr e f)){Q:Option (Addr×TypeId)->World->Prop}(hq:Q none w):wq K.P K.Ev E (viewAt n) Q w:=by
 simp only[viewAt,bH,sP];have:(w.shape? n).isSome=true:=by simp[World.shape?,hn]
 rw[if_pos this];exact hq
theorem qO{E:Value->World->Prop}{a:Addr}{arr:Array Value}{e:TypeId}{f:Nat×Nat}(hn:w.heap[a.block]?=some (.cells arr e f)){Q:Unit->World->Prop}(hq:Q () w):wq K.P K.Ev E (noView a) Q w:=by simp only[noView,bH];exact qN hn (by simpa using hq)
theorem n5{E:Value->World->Prop}{b o:Nat}{arr:Array Value}{e:TypeId}(hn:w.heap[b]?=some (.cells arr e (0,0))){Q:Bool->World->Prop}(hq:Q false w):wq K.P K.Ev E (stringish ⟨b,o,none⟩) Q w:=by simp only[stringish,bH,nY,gv hn];simp only[aH,if_false,bH,sP,World.shape?,hn];have:w.frozen? ⟨b,arr.size,none⟩=false:=gv hn;simp only[nY,this];exact hq
theorem Cz(R:Rel K ρ h w){E:Value->World->Prop}{i j m n:Nat}{b c:bQ}(hb:cG i h.hp=some b)(hc:cG j h.hp=some c)(mb:b.nS=true)(mc:c.nS=true)(hne:i≠j){Q:Bool->World->Prop}(hq:Q false w):
  wq K.P K.Ev E (sameAddr ⟨ρ.b i,m,none⟩ ⟨ρ.b j,n,none⟩) Q w:=by
 obtain⟨a1,h1,_⟩:=R.arr hb mb;obtain⟨a2,h2,_⟩:=R.arr hc mc;have hne':¬ρ.b i=ρ.b j:=fun e=>hne (R.inj i j b c hb hc e);have aqa:(ρ.b i==ρ.b j)=false:=by simpa using hne'
 simp only[sameAddr,bH,gq];rw[if_neg (by simp[hne'])];simp only[nY,bH,gv h1,bI];simp only[nY,gv h2,Bool.false_and,aH,if_false,bH,bI];refine qO h1 ?_;refine qO h2 ?_;simp only[mayBeOne,bH];refine n5 h1 ?_;refine n5 h2 ?_;simp only[Bool.false_and,Bool.or_false,bH,bI,aH,if_false];exact hq
theorem mu{E:Value->World->Prop}{b m n:Nat}{Q:Bool->World->Prop}(hq:Q (m==n) w):wq K.P K.Ev E (sameAddr ⟨b,m,none⟩ ⟨b,n,none⟩) Q w:=by
 simp only[sameAddr,gq,bH];rw[if_pos (by simp)];have:((⟨b,m,none⟩:Addr)==⟨b,n,none⟩)=(m==n):=by
  by_cases e:m=n
  ·subst e;simp
  ·have h1:(m==n)=false:=by simpa using e
   rw[h1];rw[beq_eq_false_iff_ne];intro x;cases x;exact e rfl
 simp only[bI];rw[this];exact hq
theorem JI{P:Program}{eq:TypeId->AV->AV->M BE}(hi:∀t x y b,eq t x y=.ok b->x.In U->y.In U->b.In U){xs ys:List AV}(hx:AV.Ins U xs)(hy:AV.Ins U ys):∀{l:List Field} {b:BE},eqAll? P eq xs ys l=.ok b->b.In U:=by
 intro l
 induction l with
 |nil=>intro b he;cases he;trivial
 |cons f l ih=>
  intro b he;unfold eqAll? at he;split at he
  ·cases he
  ·rw[bJ]at he;obtain⟨a,ha,he⟩:=he;rw[bJ]at he;obtain⟨c,hc,he⟩:=he;rw[bJ]at he;obtain⟨r,hr,he⟩:=he;have:=hi _ _ _ _ hr (sV ha hx) (sV hc hy);split at he
   ·exact ih he
   ·cases he;trivial
   ·split at he
    ·cases he;exact this
    ·cases he
theorem Mf:∀{d:Nat} {t:TypeId} {x y:AV} {b:BE},eq? K.P K.O h d t x y=.ok b->x.In U->y.In U->b.In U:=by
 intro d
 induction d with
 |zero=>intro t x y b he;simp[eq?]at he
 |succ d ih=>
  intro t x y b he hx hy;simp only[eq?]at he;rw[bJ]at he;obtain⟨D,hD,he⟩:=he;split at he
  ·split at he<;>first|(rw[bL]at he;subst he;trivial)|cases he
  ·split at he
   ·rw[bL]at he;subst he;exact qs ⟨hx,hy⟩
   ·cases he
  ·rw[bL]at he;subst he;trivial
  ·rw[bL]at he;subst he;exact qs trivial
  ·rw[bL]at he;subst he;exact qs trivial
  ·rw[bL]at he;subst he;exact qs trivial
  ·rw[bL]at he;subst he;trivial
  ·rw[bL]at he;subst he;trivial
  ·rw[bJ]at he;obtain⟨s,hs,he⟩:=he;split at he
   ·cases he
   ·split at he
    ·split at he
     ·rw[bL]at he;subst he;trivial
     ·split at he
      ·split at he<;>first|(rw[bL]at he;subst he;trivial)|cases he
      ·cases he
    ·split at he<;>first|(rw[bL]at he;subst he;trivial)|cases he
    ·cases he
  ·rw[bL]at he;subst he;trivial
  ·rw[bL]at he;subst he;trivial
  ·rw[bL]at he;subst he;trivial
  ·split at he
   ·split at he
    ·split at he
     ·exact ih he hx hy
     ·cases he
    ·cases he
   ·rw[bL]at he;subst he;trivial
  rotate_right 2
  ·split at he
   ·cases he
   ·exact JI (fun _ _ _ _ h1 h2 h3=>ih h1 h2 h3) hx hy he
  ·cases he
  all_goals first
   |(rw[bL]at he;subst he;trivial)
   |cases he
theorem Mg{E:Value->World->Prop}{D:Nat}{eq:TypeId->AV->AV->M BE}(hi:∀{t x y b},eq t x y=.ok b->∀{Q:Bool->World->Prop},Q (b.ev ρ) w->wq K.P K.Ev E (Op.equalIn D t (x.ev ρ) (y.ev ρ)) Q w){xs ys:List AV}:
  ∀{l:List Field} {b:BE},eqAll? K.P eq xs ys l=.ok b->∀{Q:Option Bool×Unit->World->Prop},Q (if b.ev ρ=true then(none,())else(some false,())) w->wq K.P K.Ev E (forIn l ((none,()):Option Bool×Unit) fun f _=>
       if f.name≠ "_" then do
        let a<-part f.type (AV.evs ρ xs).toArray f.offset;let b<-part f.type (AV.evs ρ ys).toArray f.offset;let c<-Op.equalIn D f.type a b
        if(!c)=true then pure (ForInStep.done (some false,()))else pure (ForInStep.yield (none,()))
       else pure (ForInStep.yield (none,()))) Q w:=by
 intro l
 induction l with
 |nil=>intro b he Q hq;cases he;simp only[List.forIn_nil,bI];exact hq
 |cons f l ih=>
  intro b he Q hq;unfold eqAll? at he;split at he
  ·cases he
  ·rename_i hn;rw[bJ]at he;obtain⟨a,ha,he⟩:=he;rw[bJ]at he;obtain⟨c,hc,he⟩:=he;rw[bJ]at he;obtain⟨r,hr,he⟩:=he;simp only[List.forIn_cons,bH];rw[if_pos hn];simp only[bH];refine wh ha (wh hc (hi hr ?_));split at he
   ·simp only[BE.ev,Bool.not_true,aH,if_false,bI];exact ih he hq
   ·cases he;simp only[BE.ev,Bool.not_false,if_true,bI]at hq⊢;exact hq
   ·split at he
    ·have e:=Except.ok.inj he;rw[e];by_cases hb:b.ev ρ=true
     ·rw[if_pos hb]at hq;simp only[hb,Bool.not_true,aH,if_false,bI,List.forIn_nil];exact hq
     ·rw[if_neg hb]at hq;have hb':b.ev ρ=false:=by simpa using hb
      simp only[hb',Bool.not_false,if_true,bI];exact hq
    ·cases he
theorem xj(a b:SE):(BE.seq false a b).ev ρ=(a.ev ρ==b.ev ρ):=by rw[beq_toListBytes];simp[BE.ev]
theorem Ft(R:Rel K ρ h w){E:Value->World->Prop}:∀{d D:Nat} {t:TypeId} {x y:AV} {b:BE},d≤D->eq? K.P K.O h d t x y=.ok b->∀{Q:Bool->World->Prop},Q (b.ev ρ) w->
  wq K.P K.Ev E (Op.equalIn D t (x.ev ρ) (y.ev ρ)) Q w:=by
 intro d
 induction d with
 |zero=>intro D t x y b _ he;simp[eq?]at he
 |succ d ih=>
  intro D t x y b hD he Q hq;obtain⟨D,rfl⟩:∃D',D=D'+1:=⟨D-1,by omega⟩;simp only[eq?]at he;rw[bJ]at he;obtain⟨T,hT,he⟩:=he;have hU:=c8 hT;simp only[Op.equalIn,bH,bM hU];split at he
  ·
   rename_i a b';simp only[AV.ev];split at he
   ·rename_i t1 t2 e1 e2;rw[bL]at he;subst he;rw[bI,jY R e1,jY R e2];exact hq
   ·cases he
  ·
   simp only[AV.ev];split at he
   ·rename_i hk;rw[bL]at he;subst he;rw[lK R]at hq;simp only[gq,if_pos hk,bI];exact hq
   ·cases he
  ·simp only[AV.ev];rw[bL]at he;subst he;rw[bI];exact hq
  ·simp only[AV.ev];rw[bL]at he;subst he;rw[lK R,xj]at hq;rw[bI];exact hq
  ·simp only[AV.ev];rw[bL]at he;subst he;rw[lK R,xj]at hq;rw[bI];exact hq
  ·simp only[AV.ev];rw[bL]at he;subst he;rw[lK R,xj]at hq;rw[bI];exact hq
  ·rw[bL]at he;subst he;rename_i b';cases b'<;>simpa[AV.ev,BE.ev] using hq
  ·rw[bL]at he;subst he;simpa[AV.ev,BE.ev] using hq
  ·
   rename_i e a b';rw[bJ]at he;obtain⟨s,hs,he⟩:=he;split at he
   ·cases he
   ·rename_i hs0;simp only[AV.ev,av,bH,c9 hs];rw[if_pos hs0];split at he
    ·rename_i i m j n h1 h2 h3 h4;have ea:a.ev ρ=⟨ρ.b i,m,none⟩:=by simp[AA.ev,h1,h2,BR.ev,IE.ev]
     have eb:b'.ev ρ=⟨ρ.b j,n,none⟩:=by simp[AA.ev,h3,h4,BR.ev,IE.ev]
     rw[ea,eb];split at he
     ·rename_i hij;rw[bL]at he;subst he;have:i=j:=by simpa using hij
      subst this;exact mu hq
     ·rename_i hij;have hne:i≠j:=by simpa using hij
      split at he
      ·rename_i hb hc;split at he
       ·rename_i hm;rw[aq]at hm;rw[bL]at he;subst he;exact Cz R hb hc hm.1 hm.2 hne hq
       ·cases he
      ·cases he
    ·rename_i i m j n h1 h2 h3 h4;have ea:a.ev ρ=⟨i,m,none⟩:=by simp[AA.ev,h1,h2,BR.ev,IE.ev]
     have eb:b'.ev ρ=⟨j,n,none⟩:=by simp[AA.ev,h3,h4,BR.ev,IE.ev]
     rw[ea,eb];split at he
     ·rename_i hij;rw[bL]at he;subst he;have:i=j:=by simpa using hij
      subst this;exact mu hq
     ·cases he
    ·cases he
  ·rw[bL]at he;subst he;simpa[AV.ev,BE.ev] using hq
  ·rw[bL]at he;subst he;simpa[AV.ev,BE.ev] using hq
  ·rw[bL]at he;subst he;simpa[AV.ev,BE.ev] using hq
  ·
   rename_i tx vx ty vy;simp only[AV.ev];split at he
   ·rename_i htt;have:tx=ty:=by simpa using htt
    subst this;split at he
    ·rename_i i hi;split at he
     ·rename_i hcmp;simp only[gq,bH,dP hi];rw[if_neg (by simp),if_neg (by simp[hcmp])];exact ih (by omega) he hq
     ·cases he
    ·cases he
   ·rename_i htt;have:tx≠ty:=by simpa using htt
    rw[bL]at he;subst he;simp only[gq];rw[if_pos this];exact hq
  ·rw[bL]at he;subst he;rename_i b' _ _;cases b'<;>simpa[AV.ev,BE.ev] using hq
  ·rw[bL]at he;subst he;simpa[AV.ev,BE.ev] using hq
  ·rw[bL]at he;subst he;rename_i b';cases b'<;>simpa[AV.ev,BE.ev] using hq
  ·rw[bL]at he;subst he;simpa[AV.ev,BE.ev] using hq
  ·rw[bL]at he;subst he;simpa[AV.ev,BE.ev] using hq
  ·rw[bL]at he;subst he;simpa[AV.ev,BE.ev] using hq
  ·rw[bL]at he;subst he;simpa[AV.ev,BE.ev] using hq
  ·rw[bL]at he;subst he;rename_i b';cases b'<;>simpa[AV.ev,BE.ev] using hq
  ·rw[bL]at he;subst he;simpa[AV.ev,BE.ev] using hq
  ·rename_i fs xs ys;split at he
   ·cases he
   ·rename_i hst;simp only[AV.ev,bH,iM];rw[if_neg hst];simp only[bH];rw[<-Array.forIn_toList];refine Mg (fun h1 _ h2=>ih (by omega) h1 h2) he ?_;by_cases hb:b.ev ρ=true
    ·rw[if_pos hb];rw[hb]at hq;exact hq
    ·rw[if_neg hb];rw[show b.ev ρ=false by simpa using hb]at hq;exact hq
  ·cases he
theorem sW(R:Rel K ρ h w){E:Value->World->Prop}{t:TypeId}{x y:AV}{b:BE}(he:eq? K.P K.O h 8 t x y=.ok b){Q:Bool->World->Prop}(hq:Q (b.ev ρ) w):
 wq K.P K.Ev E (Op.equal t (x.ev ρ) (y.ev ρ)) Q w:=Ft R (by unfold Op.maxDepth;omega) he hq
theorem Hz{b c:BE}(hn:vS b=.ok c)(ρ:Env):c.ev ρ=!b.ev ρ:=by
 cases b with
 |lit t=>simp[vS]at hn;subst hn;rfl
 |var i=>simp[vS]at hn
 |cmp o a b=>
  cases o<;>simp[vS]at hn<;>subst hn<;>simp only[BE.ev,Ci]
  ·simp[bne]
  ·simp[bne]
  ·simp[decide_not.symm,Int.not_lt]
  ·simp[decide_not.symm,Int.not_le]
  ·simp[decide_not.symm,Int.not_lt]
  ·simp[decide_not.symm,Int.not_le]
 |seq n a b=>simp only[vS]at hn;cases hn;simp only[BE.ev];cases n<;>simp
theorem HA{b c:BE}(hn:vS b=.ok c)(hi:b.In U):c.In U:=by
 cases b with
 |lit t=>simp[vS]at hn;subst hn;trivial
 |var i=>simp[vS]at hn
 |cmp o a b=>cases o<;>simp[vS]at hn<;>subst hn<;>exact hi
 |seq n a b=>simp only[vS]at hn;cases hn;trivial
end
section
variable {K:Ctx}{ρ:Env}{h:AH}{w:World}{U:Nat->Prop}
theorem JJ(o:BinOp)(t:TypeId)(k:IntKind)(a b:Int)(ho:intArith? o=true):binOp o t (.int k a) (.int k b)=pure (.int k (iz o k a b)):=by cases o<;>simp_all [intArith?]<;>simp[binOp,iz,Op.intArith,Op.intBits]
theorem JK(o:BinOp)(t:TypeId)(k:IntKind)(a b:Int)(ho:cmp? o=true):binOp o t (.int k a) (.int k b)=pure (.bool (Ci o a b)):=by cases o<;>simp_all [cmp?]<;>simp[binOp,Ci,Op.intCmp]
theorem binOp_eql(t:TypeId){x y:Value}(hx:(∃k n,x=.int k n)->¬∃k n,y=.int k n)(hs:(∃s,x=.string s)->¬∃s,y=.string s)(hf:∀k n,x≠.float k n)(hc:∀k n m,x≠.complex k n m):
  binOp .eql t x y=(do pure (.bool (<-Op.equal t x y))):=by
 cases x<;>first|exact absurd rfl (hf _ _)|exact absurd rfl (hc _ _ _)|skip
 all_goals cases y<;>first|rfl|exact absurd ⟨_,_,rfl⟩ (hx ⟨_,_,rfl⟩)|exact absurd ⟨_,rfl⟩ (hs ⟨_,rfl⟩)
theorem binOp_neq(t:TypeId){x y:Value}(hx:(∃k n,x=.int k n)->¬∃k n,y=.int k n)(hs:(∃s,x=.string s)->¬∃s,y=.string s)(hf:∀k n,x≠.float k n)(hc:∀k n m,x≠.complex k n m):
  binOp .neq t x y=(do pure (.bool (!(<-Op.equal t x y)))):=by
 cases x<;>first|exact absurd rfl (hf _ _)|exact absurd rfl (hc _ _ _)|skip
 all_goals cases y<;>first|rfl|exact absurd ⟨_,_,rfl⟩ (hx ⟨_,_,rfl⟩)|exact absurd ⟨_,rfl⟩ (hs ⟨_,rfl⟩)
theorem ur{d:Nat}{t:TypeId}{x y:AV}{b:BE}(he:eq? K.P K.O h d t x y=.ok b):(∀k n,x.ev ρ≠.float k n)∧(∀k n m,x.ev ρ≠.complex k n m)∧(((∃s,x=.str s)∨∃e,x=.ss e)∨∀s,x.ev ρ≠.string s)∧((∃k e,x=.int k e)∨∀k n,x.ev ρ≠.int k n)∧
  (((∃s,x=.str s)∨∃e,x=.ss e)->(∃s,y=.str s)∨∃e,y=.ss e)∧((∃k e,x=.int k e)->∃k e,y=.int k e):=by
 cases d with
 |zero=>simp[eq?]at he
 |succ d=>
  simp only[eq?]at he;rw[bJ]at he;obtain⟨T,hT,he⟩:=he;split at he<;>first
   |(cases he;done)
   |(refine⟨?_,?_,?_,?_,?_,?_⟩<;>simp[AV.ev])
theorem sX(a b:ByteArray):Op.stringOp .eql a b=pure (.bool (a.toList==b.toList)):=rfl
theorem sY(a b:ByteArray):Op.stringOp .neq a b=pure (.bool !(a.toList==b.toList)):=rfl
theorem Bp(R:Rel K ρ h w){b:IE}{t1:Bool}(ht1:K.O.dec (.cmp .lss b (.lit 0))=.ok t1)(hn:¬t1=true):¬b.ev ρ<0:=by have h1:decide (b.ev ρ<0)=t1:=lq R ht1;intro hc;exact hn (h1▸decide_eq_true hc)
theorem CA(R:Rel K ρ h w){b:IE}{t1:Bool}(ht1:K.O.dec (.cmp .eql b (.lit 0))=.ok t1)(hn:¬t1=true):¬b.ev ρ=0:=by have h1:(b.ev ρ==0)=t1:=lq R ht1;intro hc;exact hn (h1▸by simp[hc])
theorem Fu(R:Rel K ρ h w){E:Value->World->Prop}{o:BinOp}{t:TypeId}{a b:SE}{v:AV}(he:sOp? K.O o a b=.ok v){Q:Value->World->Prop}(hq:Q (v.ev ρ) w):
  wq K.P K.Ev E (binOp o t (.string (a.ev ρ)) (.string (b.ev ρ))) Q w:=by
 unfold sOp? at he;split at he
 ·cases he;simp only[AV.ev,lK R]at hq;simp only[binOp];rw[sX];simpa[BE.ev] using hq
 ·cases he;simp only[AV.ev,lK R]at hq;simp only[binOp];rw[sY];simpa[BE.ev] using hq
 ·split at he
  ·rename_i hd;cases he;have h1:decide (((a.ev ρ++b.ev ρ).size:Int)≤4611686018427387904)=true:=lq R hd;have h2:=of_decide_eq_true h1;rw[ByteArray.size_append]at h2;simp only[binOp,Op.stringOp,gq];rw[if_neg (by simp only[IntKind.max,IntKind.bits,IntKind.signed];simp;omega)];exact hq
  ·cases he
  ·cases he
 ·cases he
theorem Fv{O:dN}{o:BinOp}{a b:SE}{v:AV}(he:sOp? O o a b=.ok v):v.In U:=by
 unfold sOp? at he;split at he
 ·cases he;show BE.In U (O.bool _);unfold dN.bool;split
  ·trivial
  ·split<;>first|trivial|exact xh trivial
 ·cases he;show BE.In U (O.bool _);unfold dN.bool;split
  ·trivial
  ·split<;>first|trivial|exact xh trivial
 ·split at he
  ·cases he;trivial
  ·cases he
  ·cases he
 ·cases he
theorem Mh(R:Rel K ρ h w){E:Value->World->Prop}{o:BinOp}{t:TypeId}{x y v:AV}(he:binOp? K.P K.O h o t x y=.ok v){Q:Value->World->Prop}(hq:Q (v.ev ρ) w):
  wq K.P K.Ev E (binOp o t (x.ev ρ) (y.ev ρ)) Q w:=by
 unfold binOp? at he;split at he
 ·
  rename_i k a k' b;simp only[AV.ev];split at he
  ·
   simp only[bJ]at he;obtain⟨t1,ht1,he⟩:=he;split at he
   ·cases he
   ·rename_i hn;rw[bL]at he;subst he;simp only[AV.ev,mq R]at hq;simp only[binOp,Op.shift,gq];rw[if_neg (Bp R ht1 hn)];exact hq
  ·simp only[bJ]at he;obtain⟨t1,ht1,he⟩:=he;split at he
   ·cases he
   ·rename_i hn;rw[bL]at he;subst he;simp only[AV.ev,mq R]at hq;simp only[binOp,Op.shift,gq];rw[if_neg (Bp R ht1 hn)];exact hq
  ·split at he
   ·rename_i hk;subst hk;simp only[bJ]at he;obtain⟨t1,ht1,he⟩:=he;split at he
    ·cases he
    ·rename_i hn;rw[bL]at he;subst he;simp only[AV.ev,mq R]at hq;simp only[binOp,Op.intDiv,gq];rw[if_neg (by simp),if_neg (CA R ht1 hn)];exact hq
   ·cases he
  ·split at he
   ·rename_i hk;subst hk;simp only[bJ]at he;obtain⟨t1,ht1,he⟩:=he;split at he
    ·cases he
    ·rename_i hn;rw[bL]at he;subst he;simp only[AV.ev,mq R]at hq;simp only[binOp,Op.intDiv,gq];rw[if_neg (by simp),if_neg (CA R ht1 hn)];exact hq
   ·cases he
  ·split at he
   ·rename_i hk;subst hk;split at he
    ·rename_i ho;rw[bL]at he;subst he;simp only[AV.ev,mq R]at hq;rw[JJ _ _ _ _ _ ho];exact hq
    ·split at he
     ·rename_i ho;rw[bL]at he;subst he;simp only[AV.ev]at hq;rw[lK R]at hq;rw[JK _ _ _ _ _ ho];exact hq
     ·cases he
   ·cases he
 ·
  rename_i a b;simp only[AV.ev];split at he
  ·rw[bL]at he;subst he;simp only[binOp];rw[sX];exact hq
  ·rw[bL]at he;subst he;simp only[binOp];rw[sY];exact hq
  ·split at he
   ·rename_i hle;rw[bL]at he;subst he;simp only[binOp,Op.stringOp,gq];rw[if_neg (by simp only[IntKind.max,IntKind.bits,IntKind.signed];simp;omega)];exact hq
   ·cases he
  ·cases he
 ·exact Fu R he hq
 ·exact Fu R he hq
 ·exact Fu R he hq
 ·rename_i hni Cv HB hn2 hn3;have Z9:∀{b:BE},eq? K.P K.O h 8 t x y=.ok b->(∃s,x.ev ρ=.string s)->¬∃s,y.ev ρ=.string s:=by
   intro b hb;obtain⟨s1,s2,s3,s4,s5,s6⟩:=ur (ρ:=ρ) hb;rintro⟨s,e⟩;rcases s3 with h3|h3
   ·rcases h3 with⟨s',rfl⟩|⟨s',rfl⟩
    ·rcases s5 (.inl ⟨_,rfl⟩)with⟨s2,rfl⟩|⟨s2,rfl⟩
     ·exact absurd rfl (Cv _ _ rfl)
     ·exact absurd rfl (hn3 _ _ rfl)
    ·rcases s5 (.inr ⟨_,rfl⟩)with⟨s2,rfl⟩|⟨s2,rfl⟩
     ·exact absurd rfl (hn2 _ _ rfl)
     ·exact absurd rfl (HB _ _ rfl)
   ·exact absurd e (h3 _)
  split at he
  ·simp only[bJ,bL]at he;obtain⟨b,hb,rfl⟩:=he;obtain⟨s1,s2,s3,s4,s5,s6⟩:=ur (ρ:=ρ) hb;have hs:=Z9 hb;have hi:(∃k n,x.ev ρ=.int k n)->¬∃k n,y.ev ρ=.int k n:=by
    rintro⟨k,n,e⟩;rcases s4 with⟨k',e',rfl⟩|h4
    ·obtain⟨k2,e2,rfl⟩:=s6 ⟨_,_,rfl⟩;exact absurd rfl (hni _ _ _ _ rfl)
    ·exact absurd e (h4 _ _)
   rw[binOp_eql t hi hs s1 s2];simp only[bH,bI];exact sW R hb hq
  ·simp only[bJ,bL]at he;obtain⟨b,hb,c,hc,rfl⟩:=he;obtain⟨s1,s2,s3,s4,s5,s6⟩:=ur (ρ:=ρ) hb;have hs:=Z9 hb;have hi:(∃k n,x.ev ρ=.int k n)->¬∃k n,y.ev ρ=.int k n:=by
    rintro⟨k,n,e⟩;rcases s4 with⟨k',e',rfl⟩|h4
    ·obtain⟨k2,e2,rfl⟩:=s6 ⟨_,_,rfl⟩;exact absurd rfl (hni _ _ _ _ rfl)
    ·exact absurd e (h4 _ _)
   rw[binOp_neq t hi hs s1 s2];simp only[bH,bI];refine sW R hb ?_;simp only[AV.ev,Hz hc]at hq;exact hq
  ·cases he
theorem JL(I:gf K U h){o:BinOp}{t:TypeId}{x y v:AV}(he:binOp? K.P K.O h o t x y=.ok v)(hx:x.In U)(hy:y.In U):v.In U:=by
 unfold binOp? at he;split at he
 ·split at he
  all_goals try (split at he)
  all_goals try (simp only[bJ]at he;obtain⟨t1,ht1,he⟩:=he)
  all_goals try (split at he)
  all_goals try (split at he)
  all_goals first
   |(cases he;done)
   |(rw[bL]at he;subst he;first|exact rR I ⟨hx,hy⟩|exact qs ⟨hx,hy⟩)
 ·split at he
  all_goals try (split at he)
  all_goals first
   |(cases he;done)
   |(rw[bL]at he;subst he;trivial)
 ·exact Fv he
 ·exact Fv he
 ·exact Fv he
 ·split at he
  ·simp only[bJ,bL]at he;obtain⟨b,hb,rfl⟩:=he;exact Mf hb hx hy
  ·simp only[bJ,bL]at he;obtain⟨b,hb,c,hc,rfl⟩:=he;exact HA hc (Mf hb hx hy)
  ·cases he
theorem Bq{op:BinOp}(ho:¬(op=.eql∨op=.neq))(t:TypeId)(x y:Operand)(a b:Value):eqGuard op t x y a b=pure ():=by cases op<;>simp_all [eqGuard]
theorem uu{E:Value->World->Prop}{t:TypeId}{ms:Array (String×TypeId)}(hm:K.P.underlying t=some (.interface ms))(U6:ms.isEmpty=true){Q:Bool->World->Prop}(hq:Q false w):
  wq K.P K.Ev E (Op.eqGuardIn Op.maxDepth t .nilIface .nilIface) Q w:=by
 obtain⟨d,hd⟩:∃d,Op.maxDepth=d+1:=⟨9999,rfl⟩;rw[hd];simp only[Op.eqGuardIn,bH,bM hm,bI,U6,Bool.not_true];exact hq
theorem zg{op:BinOp}(ho:op=.eql∨op=.neq)(t:TypeId)(x y:Operand)(hc:(isConst? x||isConst? y)=true):eqGuard op t x y .nilIface .nilIface=pure ():=by
 rcases ho with rfl|rfl<;>cases x<;>cases y<;>first
  |rfl
  |exact absurd (show false=true from hc) (by simp)
theorem CB{op:BinOp}(ho:op=.eql∨op=.neq)(t:TypeId)(x y:Operand)(hc:¬(isConst? x||isConst? y)=true):eqGuard op t x y .nilIface .nilIface=(do
  if<-Op.eqGuardIn Op.maxDepth t .nilIface .nilIface then unsupported (.noEntry "binop/eql: two nil values of an interface type with methods, neither of them the literal nil")):=by
 rcases ho with rfl|rfl<;>cases x<;>cases y<;>first
  |rfl
  |exact absurd rfl hc
theorem CC{op:BinOp}(ho:op=.eql∨op=.neq)(t:TypeId)(x y:Operand)(a b:Array Value):eqGuard op t x y (.agg a) (.agg b)=(do
  if !(<-program).eqGuardType (<-program).depth t then return
  if<-Op.eqGuardIn Op.maxDepth t (.agg a) (.agg b)then unsupported (.noEntry "binop/eql: two nil values of an interface type with methods, in a part of a struct or an array")):=by
 rcases ho with rfl|rfl<;>rfl
theorem zh{op:BinOp}(t:TypeId)(x y:Operand){a b:Value}(h1:a=.nilIface->b≠.nilIface)(h2:(∃c,a=.agg c)->¬∃c,b=.agg c):eqGuard op t x y a b=pure ():=by
 cases op<;>first
  |rfl
  |(cases a<;>first
   |rfl
   |(cases b<;>first
    |rfl
    |exact absurd rfl (h1 rfl)
    |exact absurd ⟨_,rfl⟩ (h2 ⟨_,rfl⟩)))
theorem Fw{E:Value->World->Prop}{op:BinOp}{t:TypeId}{x y:Operand}{a b:AV}(he:eqGuard? K.P op t x y a b=.ok ()){Q:Unit->World->Prop}(hq:Q () w):
  wq K.P K.Ev E (eqGuard op t x y (a.ev ρ) (b.ev ρ)) Q w:=by
 by_cases ho:op=.eql∨op=.neq
 ·have hh:(match a,b with
    |.nilIface,.nilIface=>if isConst? x||isConst? y then(Except.ok ():M Unit)else
     match K.P.underlying t with
     |some (.interface ms)=>if ms.isEmpty then .ok ()else .error " two nil values"
     |_=>.error " two nil values"
    |.agg _,.agg _=>if K.P.eqGuardType K.P.depth t then .error " structs with interface values" else .ok ()
    |.raw _,_=>.error " raw"
    |_,.raw _=>.error " raw"
    |.bF _,_=>.error " veiled"
    |_,.bF _=>.error " veiled"
    |_,_=>.ok ())=.ok ():=by rcases ho with rfl|rfl<;>exact he
  split at hh
  ·
   simp only[AV.ev];split at hh
   ·rename_i hc;rw[zg ho t x y hc];exact hq
   ·rename_i hc;rw[CB ho t x y hc];split at hh
    ·rename_i ms hm;split at hh
     ·rename_i U6;simp only[bH];exact uu hm U6 (by simpa using hq)
     ·cases hh
    ·cases hh
  ·simp only[AV.ev];rw[CC ho];split at hh
   ·cases hh
   ·rename_i hg;simp only[bH,iM,gq];rw[if_pos (by simpa using hg)];exact hq
  all_goals try (cases hh;done)
  rename_i m1 m2 n1 n2 n3 n4;rw[zh]
  ·exact hq
  ·intro h1 h2;cases a<;>simp only[AV.ev]at h1<;>first
    |(cases h1;done)
    |skip
   all_goals cases b<;>simp only[AV.ev]at h2<;>first
    |(cases h2;done)
    |simp_all
  ·rintro⟨c,h1⟩ ⟨c',h2⟩;cases a<;>simp only[AV.ev]at h1<;>first
    |(cases h1;done)
    |skip
   all_goals cases b<;>simp only[AV.ev]at h2<;>first
    |(cases h2;done)
    |simp_all
 ·rw[Bq ho];exact hq
end
section
variable {K:Ctx}{ρ:Env}{h:AH}{w:World}{U:Nat->Prop}
theorem jZ{x:AV}{a:AA}(hs:sureAddr? x=.ok a):x=.ptr (some a):=by
 unfold sureAddr? at hs;split at hs
 ·cases hs;rfl
 ·cases hs
theorem Fx{E:Value->World->Prop}{s:TypeId}{x v:AV}{i:Nat}(he:fieldAddr? K.P s x i=.ok v){Q:Value->World->Prop}(hq:Q (v.ev ρ) w):wq K.P K.Ev E (Instr.fieldAt s (x.ev ρ) i) Q w:=by
 unfold fieldAddr? at he;simp only[bJ]at he;obtain⟨D,hD,he⟩:=he;split at he
 ·rename_i fs;split at he
  ·rename_i f hf;simp only[bJ]at he;obtain⟨a,ha,n,hn,he⟩:=he;split at he
   ·cases he
   ·rename_i hn0;rw[bL]at he;subst he;obtain rfl:=jZ ha;simp only[Instr.fieldAt,bH,bM (c8 hD),hf];simp only[AV.ev,av,Instr.sureAddr,bI,fieldPlace,bH,c9 hn];rw[if_neg hn0];simp only[AV.ev,av,AA.rP]at hq;exact hq
  ·cases he
 ·cases he
theorem zi{P:Program}{s:TypeId}{x v:AV}{i:Nat}(he:fieldAddr? P s x i=.ok v)(hx:x.In U):v.In U:=by
 unfold fieldAddr? at he;simp only[bJ]at he;obtain⟨D,hD,he⟩:=he;split at he
 ·split at he
  ·simp only[bJ]at he;obtain⟨a,ha,n,hn,he⟩:=he;split at he
   ·cases he
   ·rw[bL]at he;subst he;obtain rfl:=jZ ha;exact AA.uq _ hx
  ·cases he
 ·cases he
theorem JM(ρ:Env)(a:IE)(n:Nat):(wR a n).ev ρ=(((a.ev ρ).toNat*n:Nat):Int):=by
 unfold wR;split
 ·simp[IE.ev]
 ·split
  ·rename_i h1;subst h1;simp[IE.ev]
  ·simp[IE.ev]
theorem zP{a:IE}(n:Nat)(hi:a.In U):(wR a n).In U:=by
 unfold wR;split
 ·trivial
 ·split
  ·exact hi
  ·exact⟨hi,trivial⟩
theorem AA.SR(ρ:Env)(a:AA)(i:IE)(size:Nat):(a.at i size).ev ρ=(a.ev ρ).add ((i.ev ρ).toNat*size):=by
 have ht:=JM ρ i size;unfold AA.at;split
 ·rename_i n hn;rw[hn]at ht;simp only[IE.ev]at ht;rw[AA.rP];have:n=(i.ev ρ).toNat*size:=Int.ofNat.inj ht;rw[this]
 ·rename_i hn;split
  ·rename_i h0;simp only[AA.ev,h0,IE.ev,ht,Addr.add];simp only[Int.toNat_natCast,Int.toNat_zero,aF];split
   ·rename_i hz;rw[hz]
   ·rfl
  ·simp only[AA.ev,IE.ev,ht,Addr.add];have:((((a.off.ev ρ).toNat:Int)+(((i.ev ρ).toNat*size:Nat):Int))).toNat=(a.off.ev ρ).toNat+(i.ev ρ).toNat*size:=by omega
   rw[this];split
   ·rename_i hz;rw[hz];simp
   ·rfl
theorem AA.SS{a:AA}{i:IE}(size:Nat)(ha:a.In U)(hi:i.In U):(a.at i size).In U:=by
 unfold AA.at;split
 ·exact AA.uq _ ha
 ·split
  ·exact⟨ha.1,zP _ hi⟩
  ·exact⟨ha.1,ha.2,zP _ hi⟩
theorem zQ(R:Rel K ρ h w){i len:IE}(he:index? K.O i len=.ok ()):0≤i.ev ρ∧i.ev ρ<len.ev ρ:=by
 unfold index? at he;simp only[bJ]at he;obtain⟨t1,h1,he⟩:=he;split at he
 ·rename_i e1;simp only[bJ]at he;obtain⟨t2,h2,he⟩:=he;split at he
  ·rename_i e2;subst e1;subst e2;have a1:decide (0≤i.ev ρ)=true:=lq R h1;have a2:decide (i.ev ρ<len.ev ρ)=true:=lq R h2;exact⟨of_decide_eq_true a1,of_decide_eq_true a2⟩
  ·cases he
 ·cases he
theorem Mi(ρ:Env)(len:IE){n:Int}(hn:0≤n)(hl:n<(match len with|.lit n=>IE.lit n|l=>.tn l).ev ρ):n<((len.ev ρ).toNat:Int):=by cases len<;>simp only[IE.ev]at hl⊢<;>omega
theorem Fy(R:Rel K ρ h w){E:Value->World->Prop}{t:TypeId}{x i v:AV}(he:indexAddr? K.P K.O t x i=.ok v){Q:Value->World->Prop}(hq:Q (v.ev ρ) w):wq K.P K.Ev E (Instr.indexAt t (x.ev ρ) (i.ev ρ)) Q w:=by
 unfold indexAddr? at he;split at he
 ·rename_i k i;simp only[bJ]at he;obtain⟨D,hD,he⟩:=he;split at he
  ·rename_i elem a len cap;simp only[bJ,bL]at he;obtain⟨_,Z_,n,hn,rfl⟩:=he;obtain⟨h1,h2⟩:=zQ R Z_;have h3:=Mi ρ len h1 h2;simp only[AV.ev,av,AA.SR]at hq;simp only[Instr.indexAt,AV.ev,av,asIntOf,bH,bI,bM (c8 hD)];simp only[gq,bH,c9 hn,bI];rw[if_pos ⟨h1,h3⟩];exact hq
  ·rename_i m elem a;simp only[bJ,bL]at he;obtain⟨_,Z_,n,hn,rfl⟩:=he;obtain⟨h1,h2⟩:=zQ R Z_;have h3:i.ev ρ<(m:Int):=h2;simp only[AV.ev,av,AA.SR]at hq;simp only[Instr.indexAt,AV.ev,av,asIntOf,bH,bI,bM (c8 hD),Instr.sureAddr];simp only[gq,bH,c9 hn,bI];rw[if_pos ⟨h1,h3⟩];exact hq
  ·cases he
 ·cases he
theorem zk{P:Program}{O:dN}{t:TypeId}{x i v:AV}(he:indexAddr? P O t x i=.ok v)(hx:x.In U)(hi:i.In U):v.In U:=by
 unfold indexAddr? at he;split at he
 ·simp only[bJ]at he;obtain⟨D,hD,he⟩:=he;split at he
  ·simp only[bJ,bL]at he;obtain⟨_,Z_,n,hn,rfl⟩:=he;exact AA.SS _ hx.1 hi
  ·simp only[bJ,bL]at he;obtain⟨_,Z_,n,hn,rfl⟩:=he;exact AA.SS _ hx hi
  ·cases he
 ·cases he
theorem Mj{E:Value->World->Prop}{t:TypeId}{x v:AV}{i:Nat}(he:field? K.P t x i=.ok v){Q:Value->World->Prop}(hq:Q (v.ev ρ) w):wq K.P K.Ev E (Instr.field t (x.ev ρ) i) Q w:=by
 unfold field? at he;simp only[bJ]at he;obtain⟨D,hD,he⟩:=he;split at he
 ·rename_i fs cs;split at he
  ·rename_i f hf;simp only[Instr.field,bH,bM (c8 hD),hf,AV.ev,asAgg,bI];exact wh he hq
  ·cases he
 ·cases he
theorem JN{P:Program}{t:TypeId}{x v:AV}{i:Nat}(he:field? P t x i=.ok v)(hx:x.In U):v.In U:=by
 unfold field? at he;simp only[bJ]at he;obtain⟨D,hD,he⟩:=he;split at he
 ·split at he
  ·exact sV he hx
  ·cases he
 ·cases he
theorem Mk{E:Value->World->Prop}{t:TypeId}{x i v:AV}(he:indexOp? K.P t x i=.ok v){Q:Value->World->Prop}(hq:Q (v.ev ρ) w):wq K.P K.Ev E (Instr.index t (x.ev ρ) (i.ev ρ)) Q w:=by
 unfold indexOp? at he;simp only[bJ]at he;obtain⟨D,hD,he⟩:=he;split at he
 ·rename_i n elem cs k i;split at he
  ·rename_i hlt;simp only[bJ]at he;obtain⟨s,hs,he⟩:=he;simp only[Instr.index,AV.ev,IE.ev,asIntOf,bH,bI,bM (c8 hD)];simp only[gq,bH,c9 hs];rw[if_pos ⟨by simp,by simpa using hlt⟩];have:(Int.ofNat i).toNat=i:=rfl;rw[this];exact wh he hq
  ·cases he
 ·rename_i s k i;split at he
  ·rename_i b hb;rw[bL]at he;subst he;simp only[Instr.index,AV.ev,IE.ev,asIntOf,bH,bI,bM (c8 hD)];have hlt:i<s.data.toList.length:=(ak.1 hb).1;have:(if 0≤Int.ofNat i then s[(Int.ofNat i).toNat]? else none)=some b:=by
    rw[if_pos (by simp)];have e:(Int.ofNat i).toNat=i:=rfl;rw[e];have hsz:i<s.size:=by simpa using hlt
    rw[getElem?_pos s i hsz];have h2:=(ak.1 hb).2;rw[<-h2];rfl
   rw[this];simp only[AV.ev,IE.ev]at hq;exact hq
  ·cases he
 ·cases he
theorem CD{P:Program}{t:TypeId}{x i v:AV}(he:indexOp? P t x i=.ok v)(hx:x.In U):v.In U:=by
 unfold indexOp? at he;simp only[bJ]at he;obtain⟨D,hD,he⟩:=he;split at he
 ·split at he
  ·simp only[bJ]at he;obtain⟨s,hs,he⟩:=he;exact sV he hx
  ·cases he
 ·split at he
  ·rw[bL]at he;subst he;trivial
  ·cases he
 ·cases he
theorem iO{e:IE}{n:Nat}(h:litNat? e=.ok n):e=.lit (.ofNat n):=by
 unfold litNat? at h;split at h
 ·cases h;rfl
 ·cases h
theorem qt{v:Option AV}{d n:Nat}(h:bound? v d=.ok n):(v=none∧n=d)∨∃k,v=some (.int k (.lit (.ofNat n))):=by
 unfold bound? at h;split at h
 ·cases h;exact .inl ⟨rfl,rfl⟩
 ·obtain rfl:=iO h;exact .inr ⟨_,rfl⟩
 ·cases h
theorem kS{E:Value->World->Prop}{k:IntKind}{n y:Nat}{code:BoundsCode}(hle:n≤y){Q:Nat->World->Prop}(hq:Q n w):wq K.P K.Ev E (Instr.sliceBound (.int k (Int.ofNat n)) y code) Q w:=by simp only[Instr.sliceBound,asIntOf,bH,bI,gq];rw[if_pos ⟨by simp,by simpa using hle⟩];exact hq
theorem Ml{hi mx:Option AV}{len n:Nat}(h:high? hi mx len=.ok n):bound? hi len=.ok n∧(hi=none->mx=none):=by
 unfold high? at h;split at h
 ·cases h
 ·rename_i hn;refine⟨h,fun e=>?_⟩;subst e;cases mx with
  |none=>rfl
  |some v=>exact absurd rfl (hn _ rfl)
theorem mw{E:Value->World->Prop}{isS:Bool}{len cap:Nat}{lo hi mx:Option AV}{l h m:Nat}(he:bounds? len cap lo hi mx=.ok (l,h,m)){Q:Nat×Nat×Nat->World->Prop}(hq:Q (l,h,m) w):
  wq K.P K.Ev E (Instr.sliceBounds isS len cap (lo.map (AV.ev ρ)) (hi.map (AV.ev ρ)) (mx.map (AV.ev ρ))) Q w:=by
 unfold bounds? at he;simp only[bJ]at he;obtain⟨m',hm,h',hh,l',hl,he⟩:=he;split at he
 ·rename_i hle;rw[bL]at he;cases he;obtain⟨hmc,hhm,hlh⟩:=hle;obtain⟨hh2,afd⟩:=Ml hh;have low:∀{code:BoundsCode},(match lo.map (AV.ev ρ)with|some v=>wq K.P K.Ev E (Instr.sliceBound v h code) (fun a w=>Q (a,h,m) w) w|none=>Q (0,h,m) w):=by
   intro code;rcases qt hl with⟨rfl,rfl⟩|⟨k,rfl⟩
   ·exact hq
   ·simp only[av,AV.ev,IE.ev];exact kS hlh hq
  rcases qt hm with⟨rfl,rfl⟩|⟨k,rfl⟩
  ·rcases qt hh2 with⟨rfl,rfl⟩|⟨k,rfl⟩
   ·simp only[Instr.sliceBounds,aM,bH,bI];have:=low (code:=if(none:Option Value).isSome then .slice3C else .sliceB);revert this;cases lo<;>first|exact id|(simp only[av,aM,bH,bI];exact id)
   ·simp only[Instr.sliceBounds,aM,av,AV.ev,IE.ev,bH,bI];refine kS hhm ?_;have:=low (code:=if(none:Option Value).isSome then .slice3C else .sliceB);revert this;cases lo<;>first|exact id|(simp only[av,aM,bH,bI];exact id)
  ·cases hi with
   |none=>exact absurd (afd rfl) (by simp)
   |some hv=>
    rcases qt hh2 with⟨e,_⟩|⟨k2,e⟩
    ·cases e
    ·cases e;simp only[Instr.sliceBounds,av,AV.ev,IE.ev,bH,bI];refine kS hmc ?_;refine kS hhm ?_;have:=low (code:=if(some (Value.int k (Int.ofNat m))).isSome then .slice3C else .sliceB);revert this;cases lo<;>first|exact id|(simp only[av,aM,bH,bI];exact id)
 ·cases he
theorem Fz(ρ:Env)(a:Option AA)(n:Nat):(a.map (·.add n)).map (AA.ev ρ)=(a.map (AA.ev ρ)).map (·.add n):=by
 cases a with
 |none=>rfl
 |some a=>simp[AA.rP]
theorem kJ{E:Value->World->Prop}{t:TypeId}{x v:AV}{lo hi mx:Option AV}(he:sliceOp? K.P t x lo hi mx=.ok v){Q:Value->World->Prop}(hq:Q (v.ev ρ) w):
  wq K.P K.Ev E (Instr.sliceAt t (x.ev ρ) (lo.map (AV.ev ρ)) (hi.map (AV.ev ρ)) (mx.map (AV.ev ρ))) Q w:=by
 unfold sliceOp? at he;simp only[bJ]at he;obtain⟨D,hD,he⟩:=he;have hU:=c8 hD;split at he
 ·rename_i elem a len cap;simp only[bJ]at he;obtain⟨n,hn,⟨l,h',m⟩,hb,s,hs,he⟩:=he;obtain rfl:=iO hn;rw[bL]at he;subst he;simp only[Instr.sliceAt,bH,bM hU,Instr.slice,AV.ev,IE.ev];refine mw hb ?_;simp only[bH,c9 hs,bI];simp only[AV.ev,IE.ev]at hq;have e1:(Int.ofNat (h'-l)).toNat=h'-l:=rfl;have e2:(Int.ofNat (m-l)).toNat=m-l:=rfl;rw[e1,e2]at hq;by_cases hml:m=l
  ·rw[if_pos hml]at hq⊢;exact hq
  ·rw[if_neg hml]at hq⊢;rw[Fz]at hq;exact hq
 ·rename_i s;split at he
  ·cases he
  ·simp only[bJ]at he;obtain⟨⟨l,h',m⟩,hb,he⟩:=he;rw[bL]at he;subst he;simp only[Instr.sliceAt,bH,bM hU,Instr.slice,AV.ev,aM];simp only[Option.isSome_none,aH,if_false];have:=mw (K:=K) (ρ:=ρ) (w:=w) (E:=E) (isS:=false) hb (Q:=fun r w=>Q (.string (s.extract r.1 r.2.1)) w) hq;rw[bH];exact this
 ·rename_i n elem a;simp only[bJ]at he;obtain⟨⟨l,h',m⟩,hb,s,hs,he⟩:=he;rw[bL]at he;subst he;simp only[Instr.sliceAt,bH,bM hU,AV.ev,av,Instr.sureAddr,bI];refine mw hb ?_;simp only[bH,c9 hs,bI];simp only[AV.ev,IE.ev]at hq;have e1:(Int.ofNat (h'-l)).toNat=h'-l:=rfl;have e2:(Int.ofNat (m-l)).toNat=m-l:=rfl;rw[e1,e2]at hq;by_cases hml:m=l
  ·rw[if_pos hml]at hq⊢;exact hq
  ·rw[if_neg hml]at hq⊢;simp only[av,AA.rP]at hq;exact hq
 ·cases he
theorem CE{P:Program}{t:TypeId}{x v:AV}{lo hi mx:Option AV}(he:sliceOp? P t x lo hi mx=.ok v)(hx:x.In U):v.In U:=by
 unfold sliceOp? at he;simp only[bJ]at he;obtain⟨D,hD,he⟩:=he;split at he
 ·rename_i elem a len cap;simp only[bJ]at he;obtain⟨n,hn,⟨l,h',m⟩,hb,s,hs,he⟩:=he;rw[bL]at he;subst he;refine⟨?_,trivial,trivial⟩;split
  ·exact hx.1
  ·cases a with
   |none=>trivial
   |some a=>exact AA.uq _ hx.1
 ·split at he
  ·cases he
  ·simp only[bJ]at he;obtain⟨⟨l,h',m⟩,hb,he⟩:=he;rw[bL]at he;subst he;trivial
 ·rename_i n elem a;simp only[bJ]at he;obtain⟨⟨l,h',m⟩,hb,s,hs,he⟩:=he;rw[bL]at he;subst he;refine⟨?_,trivial,trivial⟩;split
  ·exact hx
  ·exact AA.uq _ hx
 ·cases he
end
section
variable {K:Ctx}{ρ:Env}{h:AH}{w:World}{U:Nat->Prop}
theorem FG(R:Rel K ρ h w){E:Value->World->Prop}{src dst:TypeId}{x v:AV}(he:convert? K.P K.O h src dst x=.ok v){Q:Value->World->Prop}(hq:Q (v.ev ρ) w):
  wq K.P K.Ev E (convert src dst (x.ev ρ)) Q w:=by
 unfold convert? at he;simp only[bJ]at he;obtain⟨S,hS,D,hD,he⟩:=he;have hS':=c8 hS;have hD':=c8 hD;unfold convert;simp only[bH,bM hS',bM hD'];split at he
 ·rename_i k k' e;rw[bL]at he;subst he;simp only[AV.ev,mq R,IE.ev]at hq;simp only[AV.ev,Conv.intToInt];exact hq
 ·rw[bL]at he;subst he;cases S<;>exact hq
 ·rename_i t i n;split at he
  ·rename_i b hb;simp only[bJ]at he;obtain⟨s,hs,he⟩:=he;split at he
   ·rename_i hc;rw[bL]at he;subst he;obtain⟨arr,ha,hf⟩:=R.arr hb (sR hc.1);obtain⟨u,hu⟩:∃u,b.cs[n]?=some u:=⟨_,aa hc.1⟩;have hlt:n<arr.size:=(Array.getElem?_eq_some_iff.1 (w_ hf hu)).1;simp only[AV.ev,av,AA.ev,BR.ev,IE.ev]at hq⊢;have e0:(Int.ofNat n).toNat=n:=rfl;rw[e0]at hq⊢;simp only[Conv.unsafePointer,bH,bM hS',bM hD',Conv.seenAt];refine qN ha ?_;simp only[bI,cellsIn,bH,sP,World.shape?,ha];simp only[c9 hs];have h1:(decide (s=0)||(decide (n≥arr.size)&&(none:Option Nat).isNone))=false:=by
     simp[hc.2,Nat.not_le.2 hlt]
    simp only[h1,aH,if_false];exact hq
   ·cases he
  ·cases he
 ·cases he
theorem CF(I:gf K U h){src dst:TypeId}{x v:AV}(he:convert? K.P K.O h src dst x=.ok v)(hx:x.In U):v.In U:=by
 unfold convert? at he;simp only[bJ]at he;obtain⟨S,hS,D,hD,he⟩:=he;split at he
 ·rw[bL]at he;subst he;exact rR I hx
 ·rw[bL]at he;subst he;trivial
 ·split at he
  ·simp only[bJ]at he;obtain⟨s,hs,he⟩:=he;split at he
   ·rw[bL]at he;subst he;exact hx
   ·cases he
  ·cases he
 ·cases he
theorem zl{E:Value->World->Prop}{x v:AV}{xt asserted:TypeId}{ok:Bool}(he:typeAssert? K.P x asserted ok=.ok v){Q:Value->World->Prop}(hq:Q (v.ev ρ) w):
  wq K.P K.Ev E (Instr.typeAssert (x.ev ρ) xt asserted ok) Q w:=by
 unfold typeAssert? at he;simp only[bJ]at he;obtain⟨D,hD,he⟩:=he;have hU:=c8 hD;have cJ:∀{a b:Option TypeId} {m:String} {r:M AV},r=(if ok then(do pure (.tuple [<-zero? K.P asserted,.bool (.lit false)]))else .error "typeAssert fails")->r=.ok v->
   wq K.P K.Ev E (if ok then(do pure (.tuple #[<-zeroValue asserted,.bool false]))else runtimePanic (.typeAssertion a b asserted m):Sem Value) Q w:=by
  intro a b m r e hr;subst e;split at hr
  ·rename_i hok;simp only[bJ,bL]at hr;obtain⟨z,hz,rfl⟩:=hr;simp only[if_pos hok,bH,ef (ρ:=ρ) hz,bI];simpa[AV.ev,AV.evs,BE.ev] using hq
  ·cases hr
 have holds:∀{u:AV} {r:M AV},r=pure (if ok then .tuple [u,.bool (.lit true)]else u)->r=.ok v->Q (if ok then .tuple #[u.ev ρ,.bool true]else u.ev ρ) w:=by
  intro u r e hr;subst e;rw[bL]at hr;subst hr;split at hq
  ·rename_i hok;simpa[AV.ev,AV.evs,BE.ev,hok] using hq
  ·rename_i hok;simpa[hok] using hq
 simp only[Instr.typeAssert,bH,bM hU];split at he
 ·simp only[AV.ev];exact cJ rfl he
 ·rename_i want t u;simp only[AV.ev];split at he
  ·rename_i i hi;simp only[bH,dP hi];split at he
   ·rename_i hm;rw[sD hm];exact holds rfl he
   ·rename_i hm;obtain⟨m,hm'⟩:=sE hm;rw[hm'];exact cJ rfl he
  ·cases he
 ·rename_i hni;simp only[AV.ev];cases D<;>first|exact absurd rfl (hni _)|exact cJ rfl he
 ·rename_i t u hni;simp only[AV.ev];split at he
  ·rename_i ht;cases D<;>first|exact absurd rfl (hni _)|(simp only[gq];rw[if_pos ht];exact holds rfl he)
  ·rename_i ht;cases D<;>first|exact absurd rfl (hni _)|(simp only[if_neg ht];exact cJ rfl he)
 ·cases he
theorem xk{P:Program}{x v:AV}{asserted:TypeId}{ok:Bool}(he:typeAssert? P x asserted ok=.ok v)(hx:x.In U):v.In U:=by
 unfold typeAssert? at he;simp only[bJ]at he;obtain⟨D,hD,he⟩:=he;have cJ:∀{r:M AV},r=(if ok then(do pure (.tuple [<-zero? P asserted,.bool (.lit false)]))else .error "typeAssert fails")->r=.ok v->v.In U:=by
  intro r e hr;subst e;split at hr
  ·simp only[bJ,bL]at hr;obtain⟨z,hz,rfl⟩:=hr;exact⟨nZ hz,trivial,trivial⟩
  ·cases hr
 have holds:∀{u:AV} {r:M AV},u.In U->r=pure (if ok then .tuple [u,.bool (.lit true)]else u)->r=.ok v->v.In U:=by
  intro u r hu e hr;subst e;rw[bL]at hr;subst hr;split
  ·exact⟨hu,trivial,trivial⟩
  ·exact hu
 split at he
 ·exact cJ rfl he
 ·split at he
  ·split at he
   ·exact holds hx rfl he
   ·exact cJ rfl he
  ·cases he
 ·exact cJ rfl he
 ·split at he
  ·refine holds ?_ rfl he;exact hx
  ·exact cJ rfl he
 ·cases he
theorem Mm{l vs:List AV}{off:Nat}(hl:AV.Ins U l)(hv:AV.Ins U vs):AV.Ins U (setAt l off vs):=by
 induction vs generalizing l off with
 |nil=>exact hl
 |cons v vs ih=>
  refine ih (cW.2 fun a ha=>?_) hv.2;rcases List.mem_or_eq_of_mem_set ha with h'|rfl
  ·exact cW.1 hl _ h'
  ·exact hv.1
theorem zR(ρ:Env):∀(vs l:List AV) (off k:Nat),((AV.evs ρ vs).zipIdx k).foldl (fun(cs:Array Value) (x:Value×Nat)=>cs.setIfInBounds (off+x.2) x.1) (AV.evs ρ l).toArray=(AV.evs ρ (setAt l (off+k) vs)).toArray
 |[],l,off,k=>rfl
 |v::vs,l,off,k=>by
  simp only[AV.evs,List.zipIdx_cons,List.foldl_cons,setAt];have:(AV.evs ρ l).toArray.setIfInBounds (off+k) (v.ev ρ)=(AV.evs ρ (l.set (off+k) v)).toArray:=by rw[we];simp
  rw[this];exact zR ρ vs (l.set (off+k) v) off (k+1)
theorem pL{place:Nat->Option (Nat×Nat)}:∀{parts:List (Nat×AV)} {cells r:List AV},fill? place cells parts=.ok r->
  Instr.fill place (AV.evs ρ cells).toArray (parts.map fun p=>(p.1,p.2.ev ρ))=some (AV.evs ρ r).toArray:=by
 intro parts
 induction parts with
 |nil=>intro cells r hf;simp[fill?]at hf;subst hf;rfl
 |cons p parts ih=>
  obtain⟨i,v⟩:=p;intro cells r hf;simp only[fill?]at hf;split at hf
  ·cases hf
  ·rename_i off size hp;split at hf
   ·rename_i cs hcs;split at hf
    ·rename_i hc;simp only[aU,Instr.fill,hp];rw[gW hcs ρ];have e1:(AV.evs ρ cs).toArray.size=size:=by simp[cO,hc.1]
     have e2:¬off+(AV.evs ρ cs).toArray.size>(AV.evs ρ cells).toArray.size:=by simp[cO];exact hc.2
     rw[if_neg (by simp only[Bool.or_eq_true,decide_eq_true_eq,not_or];exact⟨by simpa using e1,e2⟩)];have e3:(AV.evs ρ cs).toArray.zipIdx.foldl (fun(cs:Array Value) (x:Value×Nat)=>cs.setIfInBounds (off+x.2) x.1) (AV.evs ρ cells).toArray=(AV.evs ρ (setAt cells off cs)).toArray:=by rw[<-Array.foldl_toList,Array.toList_zipIdx];exact zR ρ cs cells off 0
     rw[<-ih hf];congr 1
    ·cases hf
   ·cases hf
theorem xl{place:Nat->Option (Nat×Nat)}:∀{parts:List (Nat×AV)} {cells r:List AV},fill? place cells parts=.ok r->AV.Ins U cells->(∀p∈parts,p.2.In U)->AV.Ins U r:=by
 intro parts
 induction parts with
 |nil=>intro cells r hf hc _;simp[fill?]at hf;subst hf;exact hc
 |cons p parts ih=>
  obtain⟨i,v⟩:=p;intro cells r hf hc hp;simp only[fill?]at hf;split at hf
  ·cases hf
  ·split at hf
   ·rename_i cs hcs;split at hf
    ·exact ih hf (Mm hc (kH hcs (hp (i,v) (by simp)))) fun p hp'=>hp p (af _ hp')
    ·cases hf
   ·cases hf
theorem FH{P:Program}{Ev:Event->Prop}{E:Value->World->Prop}:∀{fs:List Field} {places:List (Nat×Nat)},(fs.mapM fun f=>(do pure (f.offset,<-sizeOf? P f.type):M (Nat×Nat)))=.ok places->
  ∀{Q:List (Nat×Nat)->World->Prop} {w:World},Q places w->wq P Ev E (fs.mapM fun f=>(do pure (f.offset,<-sizeOf f.type):Sem (Nat×Nat))) Q w:=by
 intro fs
 induction fs with
 |nil=>intro places hm Q w hq;simp[bL]at hm;subst hm;simpa using hq
 |cons f fs ih=>intro places hm Q w hq;simp only[List.mapM_cons,bJ,bL]at hm;obtain⟨p,⟨n,hn,rfl⟩,l,hl,rfl⟩:=hm;simp only[List.mapM_cons,bH,c9 hn,bI];exact ih hl (by simpa using hq)
theorem Mn{E:Value->World->Prop}{t:TypeId}{parts:List (Nat×AV)}{v:AV}(he:build? K.P t parts=.ok v){Q:Value->World->Prop}(hq:Q (v.ev ρ) w):
  wq K.P K.Ev E (Instr.build t (parts.map fun p=>(p.1,p.2.ev ρ)).toArray) Q w:=by
 unfold build? at he;simp only[bJ]at he;obtain⟨z,hz,cs,hcs,D,hD,he⟩:=he;have hc:=gW hcs ρ;simp only[Instr.build,bH,ef (ρ:=ρ) hz,bM (c8 hD),hc];split at he
 ·rename_i fs;simp only[bJ,bL]at he;obtain⟨places,hp,r,hr,rfl⟩:=he;have:(fs.mapM fun f=>(do pure (f.offset,<-sizeOf f.type):Sem (Nat×Nat)))=List.toArray<$>(fs.toList.mapM fun f=>(do pure (f.offset,<-sizeOf f.type):Sem (Nat×Nat))):=by
   rw[Array.mapM_eq_mapM_toList]
  simp only[bH];rw[this,L6];refine FH hp ?_;have e:=pL (ρ:=ρ) hr;have:(places.toArray[·]?:Nat->Option (Nat×Nat))=(places[·]?):=by funext i;simp
  simp only[this,List.toList_toArray];rw[e];exact hq
 ·rename_i n elem;simp only[bJ,bL]at he;obtain⟨s,hs,r,hr,rfl⟩:=he;simp only[bH,c9 hs];have e:=pL (ρ:=ρ) hr;rw[e];exact hq
 ·cases he
theorem JO{P:Program}{t:TypeId}{parts:List (Nat×AV)}{v:AV}(he:build? P t parts=.ok v)(hp:∀p∈parts,p.2.In U):v.In U:=by
 unfold build? at he;simp only[bJ]at he;obtain⟨z,hz,cs,hcs,D,hD,he⟩:=he;have hc:AV.Ins U cs:=kH hcs (nZ hz);split at he
 ·simp only[bJ,bL]at he;obtain⟨places,_,r,hr,rfl⟩:=he;exact xl hr hc hp
 ·simp only[bJ,bL]at he;obtain⟨s,hs,r,hr,rfl⟩:=he;exact xl hr hc hp
 ·cases he
end
end Go.Proofs.YtmobbajggkjpgaaGreat.SX
