/-
  A symbolic run of the model, proved sound, and the walk of the code: a text of its parts. Conditions: none.
-/
import GoSem.Step
import Derived.Orders
import Derived.Conc.Own5
import Derived.Laws.Sem
import Derived.Conc.Events
import Derived.Laws.Append
import Derived.IntWalk
import Derived.Conc.Own4
import Derived.AtR
import Derived.Calls
import Derived.Test.YthaddgfbohmfoaaRows
import Derived.ChangeSame
import Derived.ChangeVars
import Derived.JoinedOf
import Derived.RowKit
import Derived.RowKitTokens
import Derived.LaidLaws
import Derived.LaidHandle
import Derived.Stop.Joined
import Derived.Conc.Token
import Derived.Conc.TokenWalk
import Derived.Conc.Beside
import Derived.Conc.LeavingOf
import Derived.ProofKit
import Derived.ChangeSlices
import Derived.ChangeMaps5
import Derived.Deep.Slices
import Derived.WideKeyArgs
set_option linter.unusedSectionVars false
set_option maxRecDepth 100000
set_option linter.unusedVariables false
set_option linter.unusedSimpArgs false
namespace Go.Proofs.Ythaddgfbohmfoaa.SX
open _root_.List renaming mem_cons->ac,map_cons->ah,mem_cons_of_mem->am,mem_cons_self->an,nil_append->aA,getElem?_eq_getElem->aF,getElem?_eq_some_iff->aH,mem_map->aJ,getElem?_append_left->aP,map_congr_left->aY,length_cons->bd,mem_of_getElem?->bf,toList_toArray->bm,getElem?_toArray->bw,nodup_cons->bC
open _root_.Nat renaming le_refl->aq,eq_of_beq_eq_true->aI,lt_succ_self->a_,lt_or_ge->bo,le_trans->bp
open _root_.Option.some renaming inj->au
open _root_.Bool renaming and_eq_true->ax,false_eq_true->aR
open _root_.Array renaming getElem?_eq_getElem->aT,getElem?_toList->bl
def Du(want:Array (String×TypeId))(got:Array Method):Bool:=want.toList.any fun x=>!got.any fun m=>m.name==x.1&&m.sig==x.2
theorem Ah{l:List String}(h:l≠[]):∃s,Instr.least l=some s:=by
 cases l with
 |nil=>exact absurd rfl h
 |cons s r=>exact⟨_,rfl⟩
theorem vU{want:Array (String×TypeId)}{got:Array Method}(h:Du want got=false):Instr.missingMethod want got=none:=by
 have:want.toList.filter (fun(x:String×TypeId)=>!got.any fun m=>m.name==x.1&&m.sig==x.2)=[]:=by apply List.filter_eq_nil_iff.2;intro x hx;have:=List.any_eq_false.1 h x hx;exact this
 unfold Instr.missingMethod;simp only[this];rfl
theorem lsP{sq:List String}(p:String->Bool)(f:String->String)(h0:sq≠[]):∃m,(match sq.partition p with|(JJ,Rc)=>(Instr.least Rc <|> Instr.least (JJ.map f)))=some m:=by
 rw[List.partition_eq_filter_filter];dsimp only;by_cases hx:sq.filter (not ∘ p)=[]
 ·rw[hx];have:sq.filter p≠[]:=by
   intro hy;obtain⟨s,hs⟩:=List.exists_mem_of_ne_nil _ h0;have a:=List.filter_eq_nil_iff.1 hx s hs;have b:=List.filter_eq_nil_iff.1 hy s hs;simp at a b;simp[b]at a
  obtain⟨m,h2⟩:=Ah (l:=(sq.filter p).map f) (by simpa using this);exact⟨m,by rw[h2];rfl⟩
 ·obtain⟨m,h2⟩:=Ah hx;exact⟨m,by rw[h2];rfl⟩
theorem vV{want:Array (String×TypeId)}{got:Array Method}(h:Du want got=true):∃m,Instr.missingMethod want got=some m:=by
 have df:want.toList.filter (fun(x:String×TypeId)=>!got.any fun m=>m.name==x.1&&m.sig==x.2)≠[]:=by obtain⟨x,hx,hp⟩:=List.any_eq_true.1 h;intro he;have:=List.filter_eq_nil_iff.1 he x hx;exact this hp
 unfold Instr.missingMethod;generalize hm:(want.toList.filter (fun(x:String×TypeId)=>!got.any fun m=>m.name==x.1&&m.sig==x.2)).map (·.1)=sq;have aoW:sq≠[]:=by rw[<-hm];simpa using df
 exact lsP _ _ aoW
theorem CL(want:Array (String×TypeId))(got:Array Method):(Instr.missingMethod want got).isNone=!Du want got:=by
 cases h:Du want got with
 |false=>rw[vU h];rfl
 |true=>obtain⟨m,hm⟩:=vV h;rw[hm];rfl
def sB(T V:TypeId):Sem Bool:=do
 Extern.Rtype.noPackMethods "a method set held against an interface's list" V
 Extern.Rtype.noPackMethods "a method set held against an interface's list" T
 match(<-Extern.Rtype.under T).2.desc,(<-Extern.Rtype.under V).2.desc with
 |.interface want,.interface got=>pure (want.all got.contains)
 |.interface want,_=>pure (!Du want (<-typeInfo V).methods)
 |_,_=>pure false
theorem Ai:sB=Extern.Rtype.implements:=by funext T V;unfold sB Extern.Rtype.implements;simp only[CL];rfl
noncomputable section
inductive IE where
 |lit(n:Int)
 |var(i:Nat)
 |op(o:BinOp)(k:IntKind)(a b:IE)
 |conv(k:IntKind)(a:IE)
 |plus(a b:IE)
 |times(a b:IE)
 |tn(a:IE)
def IE.hZ:IE->IE->Bool
 |.lit a,.lit b=>a==b
 |.var a,.var b=>a==b
 |.op o k a b,.op o' k' a' b'=>decide (o=o')&&decide (k=k')&&a.hZ a'&&b.hZ b'
 |.conv k a,.conv k' a'=>decide (k=k')&&a.hZ a'
 |.plus a b,.plus a' b'=>a.hZ a'&&b.hZ b'
 |.times a b,.times a' b'=>a.hZ a'&&b.hZ b'
 |.tn a,.tn a'=>a.hZ a'
 |_,_=>false
def o0(o:BinOp)(k:IntKind)(x y:Int):Int:=
 match o with
 |.add=>k.wrap (x+y)
 |.sub=>k.wrap (x-y)
 |.mul=>k.wrap (x*y)
 |.quo=>k.wrap (x.tdiv y)
 |.rem=>x.tmod y
 |.and=>k.wrap ((BitVec.ofInt k.bits x&&& BitVec.ofInt k.bits y).toNat:Int)
 |.or=>k.wrap ((BitVec.ofInt k.bits x ||| BitVec.ofInt k.bits y).toNat:Int)
 |.xor=>k.wrap ((BitVec.ofInt k.bits x ^^^ BitVec.ofInt k.bits y).toNat:Int)
 |.andNot=>k.wrap ((BitVec.ofInt k.bits x&&& ~~~(BitVec.ofInt k.bits y)).toNat:Int)
 |.shl=>k.wrap (x*2 ^ (min y.toNat k.bits))
 |.shr=>x.fdiv (2 ^ (min y.toNat k.bits))
 |_=>0
inductive BE where
 |lit(b:Bool)
 |var(i:Nat)
 |cmp(o:BinOp)(a b:IE)
def BE.hZ:BE->BE->Bool
 |.lit a,.lit b=>a==b
 |.var a,.var b=>a==b
 |.cmp o a b,.cmp o' a' b'=>decide (o=o')&&a.hZ a'&&b.hZ b'
 |_,_=>false
def G2(o:BinOp)(x y:Int):Bool:=
 match o with
 |.eql=>x==y
 |.neq=>x != y
 |.lss=>decide (x<y)
 |.leq=>decide (x≤y)
 |.gtr=>decide (x>y)
 |.geq=>decide (x≥y)
 |_=>false
inductive BR where
 |u1(g:Nat)
 |cN(i:Nat)
def BR.hZ:BR->BR->Bool
 |.u1 a,.u1 b=>a==b
 |.cN a,.cN b=>a==b
 |_,_=>false
structure AA where
 kj:BR
 off:IE
def AA.hZ(a b:AA):Bool:=a.kj.hZ b.kj&&a.off.hZ b.off
inductive AV where
 |bool(b:BE)
 |int(k:IntKind)(e:IE)
 |str(s:ByteArray)
 |ptr(a:Option AA)
 |slice(a:Option AA)(len cap:IE)
 |map(r:Option BR)
 |chan(r:Option BR)
 |func(fn:Fn)(first captured:List AV)
 |nilFunc
 |iface(t:TypeId)(v:AV)
 |nilIface
 |agg(cs:List AV)
 |tuple(vs:List AV)
 |ez(i:Nat)
 |CM(v:Value)
def u2{α:Type}(f:α->α->Bool):Option α->Option α->Bool
 |none,none=>true
 |some a,some b=>f a b
 |_,_=>false
mutual
def AV.hZ:AV->AV->Bool
 |.bool a,.bool b=>a.hZ b
 |.int k a,.int k' b=>decide (k=k')&&a.hZ b
 |.str a,.str b=>decide (a.data=b.data)
 |.ptr a,.ptr b=>u2 AA.hZ a b
 |.slice a l c,.slice a' l' c'=>u2 AA.hZ a a'&&l.hZ l'&&c.hZ c'
 |.map a,.map b=>u2 BR.hZ a b
 |.chan a,.chan b=>u2 BR.hZ a b
 |.func f x y,.func f' x' y'=>decide (f=f')&&AV.za x x'&&AV.za y y'
 |.nilFunc,.nilFunc=>true
 |.iface t v,.iface t' v'=>t==t'&&v.hZ v'
 |.nilIface,.nilIface=>true
 |.agg x,.agg y=>AV.za x y
 |.tuple x,.tuple y=>AV.za x y
 |.ez i,.ez j=>i==j
 |_,_=>false
def AV.za:List AV->List AV->Bool
 |[],[]=>true
 |a::x,b::y=>a.hZ b&&AV.za x y
 |_,_=>false
end
inductive TT where
 |ju
 |mM(v:AV)(l r:TT)
def cx:AV:=.tuple []
def TT.get(t:TT):Nat->AV:=
 TT.rec (fun _=>cx) (fun v _ _ gl gr n=>Nat.rec v (fun m _=>Bool.rec (gl (m / 2)) (gr (m / 2)) (Nat.beq (m % 2) 0)) n) t
def TT.set(v:AV)(f:Nat):TT->Nat->TT:=
 Nat.rec (fun t _=>t) (fun _ ih t n=>
  TT.rec (Nat.rec (.mM v .ju .ju) (fun m _=>Bool.rec (.mM cx (ih .ju (m / 2)) .ju) (.mM cx .ju (ih .ju (m / 2))) (Nat.beq (m % 2) 0)) n)
   (fun u l r _ _=>Nat.rec (.mM v l r) (fun m _=>Bool.rec (.mM u (ih l (m / 2)) r) (.mM u l (ih r (m / 2))) (Nat.beq (m % 2) 0)) n) t) f
def TT.hZ:TT->TT->Bool
 |.ju,.ju=>true
 |.mM v l r,.mM v' l' r'=>v.hZ v'&&l.hZ l'&&r.hZ r'
 |_,_=>false
def TT.fill:List AV->Nat->TT->TT
 |[],_,t=>t
 |v::l,n,t=>TT.fill l (n+1) (t.set v 16 n)
structure dP where
 bs:List (BE×Bool):=[]
 is:List (IE×IE):=[]
 mem:List (AA×AV):=[]
 Jv:List FuncId:=[]
 ext:List (FuncId×(Array Value->Sem Value)):=[]
 aoX:List FuncId:=[]
 WN:List (FuncId×Bool):=[]
abbrev M:=Except String
def look{α β:Type}(eq:α->α->Bool)(a:α)(l:List (α×β)):Option β:=List.rec none (fun p _ ih=>Bool.rec ih (some p.2) (eq a p.1)) l
def IE.xD:IE->IE
 |.op o k (.lit a) (.lit b)=>.lit (o0 o k a b)
 |.conv k (.lit a)=>.lit (k.wrap a)
 |.plus (.lit a) (.lit b)=>.lit (a+b)
 |.times (.lit a) (.lit b)=>.lit (a*b)
 |.tn (.lit a)=>.lit a.toNat
 |e=>e
def dP.int(O:dP)(e:IE):IE:=
 match e.xD with
 |.lit n=>.lit n
 |e=>(look IE.hZ e O.is).getD e
def BE.xD:BE->BE
 |.cmp o (.lit a) (.lit b)=>.lit (G2 o a b)
 |b=>b
def dP.bool(O:dP)(b:BE):BE:=
 match b.xD with
 |.lit n=>.lit n
 |b=>match look BE.hZ b O.bs with
  |some v=>.lit v
  |none=>b
def dP.dec(O:dP)(b:BE):M Bool:=
 match O.bool b with
 |.lit v=>.ok v
 |_=>.error "a test is open"
inductive bM where
 |cells(cs:List AV)(elem:TypeId)
 |row(cs:List AV)(elem:TypeId)(cap:IE)
 |fT(cs:List AV)(elem:TypeId)(ls:List Nat)
 |map(es:List (AV×AV))
 |chan
 |iY(s:Nat)(n:IE)(fs:List (AA×Option AV))(ws:List (AV×AV))
 |cH(lk:Bool)(s:Nat)(n:IE)(fs ws:List (IE×AV))(cs:List AV)(elem:TypeId)(cap:IE)
structure AH where
 hp:List (Nat×bM)
 nb:Nat
 eH:Nat
def cV(i:Nat)(l:List (Nat×bM)):Option bM:=List.rec none (fun p _ ih=>Bool.rec ih (some p.2) (Nat.beq i p.1)) l
def Aj(i:Nat)(b:bM)(l:List (Nat×bM)):List (Nat×bM):=List.rec [] (fun p t ih=>Bool.rec (p::ih) ((p.1,b)::t) (Nat.beq i p.1)) l
def j8(i:Nat)(l:List (Nat×bM)):List (Nat×bM):=List.rec [] (fun p t ih=>Bool.rec (p::ih) t (Nat.beq i p.1)) l
def u6(i:Nat)(b:bM)(l:List (Nat×bM)):List (Nat×bM):=List.rec [(i,b)] (fun p t ih=>Bool.rec (p::ih) ((i,b)::p::t) (Nat.ble (p.1+1) i)) l
def alloc?(h:AH)(b:bM):M (AV×AH):=
 match h with
 |⟨hp,nb,eH⟩=>if nb<eH then .ok (.ptr (some ⟨.cN nb,.lit 0⟩),⟨u6 nb b hp,nb+1,eH⟩)else .error "new numbers"
def allocO?(h:AH)(b:bM)(mk:BR->AV):M (AV×AH):=
 match h with
 |⟨hp,nb,eH⟩=>if nb<eH then .ok (mk (.cN nb),⟨u6 nb b hp,nb+1,eH⟩)else .error "new numbers"
def allocSlice?(h:AH)(b:bM)(len cap:IE):M (AV×AH):=
 match h with
 |⟨hp,nb,eH⟩=>if nb<eH then .ok (.slice (some ⟨.cN nb,.lit 0⟩) len cap,⟨u6 nb b hp,nb+1,eH⟩)else .error "new numbers"
def allocRow?(h:AH)(old:Option Nat)(cs:List AV)(elem:TypeId)(len:Nat):M (AV×AH):=
 match h with
 |⟨hp,nb,eH⟩=>if nb<eH then
   .ok (.slice (some ⟨.cN nb,.lit 0⟩) (.lit (.ofNat len)) (.var nb),⟨u6 nb (.row cs elem (.var nb)) (match old with|some i=>j8 i hp|none=>hp),nb+1,eH⟩)
  else .error "new numbers"
def Wt:Value->AV
 |.bool b=>.bool (.lit b)
 |.int k n=>.int k (.lit n)
 |.string s=>.str s
 |.pointer none=>.ptr none
 |.pointer (some ⟨b,o,none⟩)=>.ptr (some ⟨.u1 b,.lit o⟩)
 |.slice none l c=>.slice none (.lit l) (.lit c)
 |.map none=>.map none
 |.chan none=>.chan none
 |.nilFunc=>.nilFunc
 |.nilIface=>.nilIface
 |v=>.CM v
def vW:Value->AV
 |.iface t v=>.iface t (Wt v)
 |v=>Wt v
def of2:Value->AV
 |.agg cs=>.agg (cs.toList.map Wt)
 |.iface t (.agg cs)=>.iface t (.agg (cs.toList.map Wt))
 |v=>vW v
def ofValue:Value->AV
 |.tuple vs=>.tuple (vs.toList.map of2)
 |v=>of2 v
mutual
def AV.val?:AV->Option Value
 |.bool (.lit b)=>some (.bool b)
 |.int k (.lit n)=>some (.int k n)
 |.str s=>some (.string s)
 |.ptr none=>some (.pointer none)
 |.ptr (some ⟨.u1 g,.lit (.ofNat o)⟩)=>some (.pointer (some ⟨g,o,none⟩))
 |.slice none (.lit (.ofNat l)) (.lit (.ofNat c))=>some (.slice none l c)
 |.map none=>some (.map none)
 |.chan none=>some (.chan none)
 |.func f x y=>match AV.vals? x,AV.vals? y with
  |some x,some y=>some (.func f x.toArray y.toArray)
  |_,_=>none
 |.nilFunc=>some .nilFunc
 |.iface t v=>match v.val? with
  |some v=>some (.iface t v)
  |none=>none
 |.nilIface=>some .nilIface
 |.agg x=>match AV.vals? x with
  |some x=>some (.agg x.toArray)
  |none=>none
 |.tuple x=>match AV.vals? x with
  |some x=>some (.tuple x.toArray)
  |none=>none
 |.CM v=>some v
 |_=>none
def AV.vals?:List AV->Option (List Value)
 |[]=>some []
 |a::l=>match a.val?,AV.vals? l with
  |some a,some l=>some (a::l)
  |_,_=>none
end
def fi{α:Type}(P:Program):Sem α->Option α
 |.pure a=>some a
 |.program k=>fi P (k P)
 |_=>none
def AV.cells?:AV->M (List AV)
 |.agg cs=>.ok cs
 |.CM _=>.error "cells of a raw value"
 |.ez _=>.error "cells of a veiled value"
 |v=>.ok [v]
def AV.oneCell?:AV->Bool
 |.agg _|.tuple _|.CM _|.ez _=>false
 |_=>true
def nJ(a:IE)(n:Nat):IE:=
 match a with
 |.lit (.ofNat m)=>.lit (.ofNat (m+n))
 |_=>if n=0 then a else .plus (.tn a) (.lit (.ofNat n))
def AA.add(a:AA)(n:Nat):AA:={a with off:=nJ a.off n}
def bM.cs:bM->List AV
 |.cells cs _=>cs
 |.row cs _ _=>cs
 |.fT cs _ _=>cs
 |.map _=>[]
 |.chan=>[]
 |.iY _ _ _ _=>[]
 |.cH _ _ _ _ _ _ _ _=>[]
def gf:IE->IE×Nat
 |.plus a b=>match a,b with
  |.tn c,.lit (.ofNat j)=>((gf c).1,(gf c).2+j)
  |a,b=>(.plus a b,0)
 |.lit n=>match n with
  |.ofNat j=>(.lit 0,j)
  |n=>(.lit n,0)
 |e=>(e,0)
def sameAt(a b:IE):Bool:=(gf a).1.hZ (gf b).1&&Nat.beq (gf a).2 (gf b).2
def EY(a b:IE):Bool:=(gf a).1.hZ (gf b).1&&!(Nat.beq (gf a).2 (gf b).2)
def N7(a:IE):List (IE×AV)->Option AV
 |[]=>none
 |p::l=>match sameAt a p.1 with
  |true=>some p.2
  |false=>N7 a l
def JK(a:IE)(fs:List (IE×AV)):List (IE×AV)->Option AV
 |[]=>N7 a fs
 |p::l=>match sameAt a p.1 with
  |true=>some p.2
  |false=>match EY a p.1 with
   |true=>JK a fs l
   |false=>none
def bM.Rd(a:IE):bM->Option AV
 |.cH _ _ _ fs ws _ _ _=>JK a fs ws
 |_=>none
def bM.Re(a:IE)(v:AV):bM->Option bM
 |.cH lk s n fs ws cs e c=>match lk,JK a fs ws with
  |false,some _=>some (.cH false s n fs ((a,v)::ws) cs e c)
  |_,_=>none
 |_=>none
def bM.isChan:bM->Bool
 |.chan=>true
 |_=>false
def bM.qo:bM->Bool
 |.map _=>false
 |.chan=>false
 |.iY _ _ _ _=>false
 |_=>true
def bM.put(b:bM)(cs:List AV):bM:=
 match b with
 |.cells _ e=>.cells cs e
 |.row _ e c=>.row cs e c
 |.fT _ e l=>.fT cs e l
 |.map es=>.map es
 |.chan=>.chan
 |.iY s n fs ws=>.iY s n fs ws
 |.cH lk s n fs ws cs e c=>.cH lk s n fs ws cs e c
def bM.l9(b:bM)(n:Nat):Bool:=
 match b with
 |.fT _ _ ls=>ls.contains n
 |.chan=>true
 |_=>false
def Dv(O:dP)(h:AH)(a:AA):M AV:=
 let old:M AV:=match look AA.hZ a O.mem with
  |some v=>.ok v
  |none=>.error "load an unknown cell"
 match a.kj,a.off with
 |.cN i,.lit (.ofNat n)=>
  match cV i h.hp with
  |some b=>match b.cs[n]? with
   |some v=>.ok v
   |none=>.error "load out of the block"
  |none=>old
 |_,_=>old
def preAt?(h:AH)(a:AA):Option AV:=
 match a.kj with
 |.cN i=>match cV i h.hp with
  |some b=>b.Rd a.off
  |none=>none
 |_=>none
def vX(O:dP)(h:AH)(a:AA):M AV:=
 match Dv O h a with
 |.ok v=>.ok v
 |.error e=>match preAt? h a with
  |some v=>.ok v
  |none=>.error e
def mN(O:dP)(h:AH)(a:AA):Nat->Nat->M (List AV)
 |0,_=>.ok []
 |n+1,j=>match vX O h (a.add j)with
  |.ok v=>match mN O h a n (j+1)with
   |.ok l=>.ok (v::l)
   |.error e=>.error e
  |.error e=>.error e
def qU(h:AH)(a:AA)(v:AV):M AH:=
 match a.kj,a.off with
 |.cN i,.lit (.ofNat n)=>
  match cV i h.hp with
  |some b=>
   if n<b.cs.length&&v.oneCell?&&!(b.l9 n)then .ok {h with hp:=Aj i (b.put (b.cs.set n v)) h.hp}
   else .error "store out of the block or no cells value"
  |none=>.error "store not an own block"
 |_,_=>.error "store not an own block"
def preSet?(h:AH)(a:AA)(v:AV):Option AH:=
 match a.kj with
 |.cN i=>match cV i h.hp with
  |some b=>match b.Re a.off v with
   |some b'=>match v.oneCell? with
    |true=>some {h with hp:=Aj i b' h.hp}
    |false=>none
   |none=>none
  |none=>none
 |_=>none
def iQ(h:AH)(a:AA)(v:AV):M AH:=
 match qU h a v with
 |.ok h=>.ok h
 |.error e=>match preSet? h a v with
  |some h=>.ok h
  |none=>.error e
def l_(h:AH)(a:AA):List AV->Nat->M AH
 |[],_=>.ok h
 |v::l,j=>match iQ h (a.add j) v with
  |.ok h=>l_ h a l (j+1)
  |.error e=>.error e
def isAgg?(P:Program)(t:TypeId):M Bool:=
 match P.underlying t with
 |some (.struct _)|some (.array _ _)=>.ok true
 |some _=>.ok false
 |none=>.error "no such type"
def bytesOf?(P:Program)(t:TypeId):M Nat:=
 match P.info? t with
 |some i=>.ok i.bytes
 |none=>.error "no such type"
def sizeOf?(P:Program)(t:TypeId):M Nat:=
 match P.info? t with
 |some i=>.ok i.size
 |none=>.error "no such type"
def zero?(P:Program)(t:TypeId):M AV:=
 match P.info? t with
 |some i=>match i.zero with
  |some v=>.ok (ofValue v)
  |none=>.error "no zero value"
 |none=>.error "no such type"
def under?(P:Program)(t:TypeId):M TypeDesc:=
 match P.underlying t with
 |some d=>.ok d
 |none=>.error "no such type"
def loadVar?(P:Program)(O:dP)(h:AH)(t:TypeId)(a:AA):M AV:=do
 if<-isAgg? P t then
  let l<-mN O h a (<-sizeOf? P t) 0
  pure (.agg l)
 else vX O h a
def storeVar?(P:Program)(h:AH)(t:TypeId)(a:AA)(v:AV):M AH:=do
 let cs<-v.cells?
 if cs.length=(<-sizeOf? P t)then l_ h a cs 0 else .error "storeVar size"
def part?(P:Program)(t:TypeId)(cs:List AV)(off:Nat):M AV:=do
 if<-isAgg? P t then
  let n<-sizeOf? P t
  if off+n≤cs.length then pure (.agg ((cs.drop off).take n))else .error "part size"
 else match cs[off]? with
  |some v=>.ok v
  |none=>.error "part no such cell"
inductive iy where
 |fn(fn:Fn)(captured:List AV)
 |builtin(b:Builtin)(argTypes:Array TypeId)(type:TypeId)(consts:Array Bool)
structure AD where
 target:iy
 args:List AV
inductive AN where
 |value(v:AV)
 |skip
 |enter(f:FuncId)(args:List AV)
 |defer(d:AD)
 |recover
 |panic(v:AV)
def k0(r:M AV)(h:AH):M (AN×AH):=
 match r with
 |.ok v=>.ok (.value v,h)
 |.error e=>.error e
def mC(r:M (AV×AH)):M (AN×AH):=
 match r with
 |.ok (v,h)=>.ok (.value v,h)
 |.error e=>.error e
def EZ(r:M AH):M (AN×AH):=
 match r with
 |.ok h=>.ok (.skip,h)
 |.error e=>.error e
def sureAddr?:AV->M AA
 |.ptr (some a)=>.ok a
 |_=>.error "an address expected"
def litNat?:IE->M Nat
 |.lit (.ofNat n)=>.ok n
 |_=>.error "a literal count expected"
def Dw(l:List AV)(off:Nat):List AV->List AV
 |[]=>l
 |v::vs=>Dw (l.set off v) (off+1) vs
def fill?(place:Nat->Option (Nat×Nat))(cells:List AV):List (Nat×AV)->M (List AV)
 |[]=>.ok cells
 |(i,v)::rest=>
  match place i with
  |none=>.error "fill no such place"
  |some (off,size)=>match v.cells? with
   |.ok cs=>if cs.length=size∧off+cs.length≤cells.length then fill? place (Dw cells off cs) rest else .error "fill size"
   |.error e=>.error e
def G3(n:Nat)(l:List AV):List AV:=
 match n with
 |0=>[]
 |n+1=>l++G3 n l
def eqAll?(P:Program)(eq:TypeId->AV->AV->M BE)(xs ys:List AV):List Field->M BE
 |[]=>.ok (.lit true)
 |f::l=>do
  if f.name= "_" then .error " a blank field" else
  let a<-part? P f.type xs f.offset;let b<-part? P f.type ys f.offset
  match<-eq f.type a b with
  |.lit true=>eqAll? P eq xs ys l
  |.lit false=>.ok (.lit false)
  |c=>match l with
   |[]=>.ok c
   |_=>.error " an open field"
def eq?(P:Program)(O:dP)(h:AH):Nat->TypeId->AV->AV->M BE
 |0,_,_,_=>.error " depth"
 |d+1,t,x,y=>do
  match<-under? P t,x,y with
  |.bool,.bool a,.bool b=>match O.bool a,O.bool b with
   |.lit a,.lit b=>pure (.lit (a==b))
   |_,_=>.error " an open truth value"
  |.int _,.int k a,.int k' b=>if k=k' then pure (O.bool (.cmp .eql a b))else .error " kinds"
  |.string,.str a,.str b=>pure (.lit (a==b))
  |.pointer _,.ptr none,.ptr b=>pure (.lit b.isNone)
  |.pointer _,.ptr (some _),.ptr none=>pure (.lit false)
  |.pointer e,.ptr (some a),.ptr (some b)=>do
   if(<-sizeOf? P e)=0 then .error " pointers to nothing" else
   match a.kj,a.off,b.kj,b.off with
   |.cN i,.lit (.ofNat m),.cN j,.lit (.ofNat n)=>
    if i==j then pure (.lit (m==n))
    else match cV i h.hp,cV j h.hp with
     |some b,some c=>if b.qo&&c.qo then pure (.lit false)else .error " pointers to objects"
     |_,_=>.error " pointers to unknown blocks"
   |.u1 i,.lit (.ofNat m),.u1 j,.lit (.ofNat n)=>
    if i==j then pure (.lit (m==n))else .error " pointers to two variables"
   |_,_,_,_=>.error " pointers"
  |.interface _,.nilIface,.nilIface=>pure (.lit true)
  |.interface _,.nilIface,.iface _ _=>pure (.lit false)
  |.interface _,.iface _ _,.nilIface=>pure (.lit false)
  |.interface _,.iface tx vx,.iface ty vy=>
   if tx==ty then
    match P.info? tx with
    |some i=>if i.comparable then eq? P O h d tx vx vy else .error " uncomparable"
    |none=>.error " type"
   else pure (.lit false)
  |.slice _,.slice none _ _,.slice b _ _=>pure (.lit b.isNone)
  |.slice _,.slice (some _) _ _,.slice none _ _=>pure (.lit false)
  |.map _ _,.map none,.map b=>pure (.lit b.isNone)
  |.map _ _,.map (some _),.map none=>pure (.lit false)
  |.func _ _ _,.nilFunc,.nilFunc=>pure (.lit true)
  |.func _ _ _,.nilFunc,.func _ _ _=>pure (.lit false)
  |.func _ _ _,.func _ _ _,.nilFunc=>pure (.lit false)
  |.chan _ _,.chan none,.chan b=>pure (.lit b.isNone)
  |.chan _ _,.chan (some _),.chan none=>pure (.lit false)
  |.struct fs,.agg xs,.agg ys=>if P.stoodInHeld t then .error " a struct that stands in" else eqAll? P (eq? P O h d) xs ys fs.toList
  |_,_,_=>.error " the operands"
def CN:BE->M BE
 |.lit b=>.ok (.lit (!b))
 |.cmp .eql a b=>.ok (.cmp .neq a b)
 |.cmp .neq a b=>.ok (.cmp .eql a b)
 |.cmp .lss a b=>.ok (.cmp .geq a b)
 |.cmp .geq a b=>.ok (.cmp .lss a b)
 |.cmp .gtr a b=>.ok (.cmp .leq a b)
 |.cmp .leq a b=>.ok (.cmp .gtr a b)
 |_=>.error "not of an open truth value"
def isConst?:Operand->Bool
 |.const _=>true
 |_=>false
def eqGuard?(P:Program)(op:BinOp)(t:TypeId)(x y:Operand)(a b:AV):M Unit:=
 match op with
 |.eql|.neq=>
  match a,b with
  |.nilIface,.nilIface=>if isConst? x||isConst? y then .ok ()else
   match P.underlying t with
   |some (.interface ms)=>if ms.isEmpty then .ok ()else .error " two nil values"
   |_=>.error " two nil values"
  |.agg _,.agg _=>if P.eqGuardType P.depth t then .error " structs with interface values" else .ok ()
  |.CM _,_=>.error " raw"
  |_,.CM _=>.error " raw"
  |.ez _,_=>.error " veiled"
  |_,.ez _=>.error " veiled"
  |_,_=>.ok ()
 |_=>.ok ()
def intArith?(o:BinOp):Bool:=
 match o with
 |.add|.sub|.mul|.and|.or|.xor|.andNot=>true
 |_=>false
def cmp?(o:BinOp):Bool:=
 match o with
 |.eql|.neq|.lss|.leq|.gtr|.geq=>true
 |_=>false
def binOp?(P:Program)(O:dP)(h:AH)(o:BinOp)(t:TypeId)(x y:AV):M AV:=do
 match x,y with
 |.int k a,.int k' b=>
  match o with
  |.shl|.shr=>if<-O.dec (.cmp .lss b (.lit 0))then .error "shift negative" else pure (.int k (O.int (.op o k a b)))
  |.quo|.rem=>if k=k' then(if<-O.dec (.cmp .eql b (.lit 0))then .error "division by nought" else pure (.int k (O.int (.op o k a b))))else .error "kinds"
  |_=>if k=k' then(if intArith? o then pure (.int k (O.int (.op o k a b)))else if cmp? o then pure (.bool (O.bool (.cmp o a b)))else .error "binOp int")else .error "kinds"
 |.str a,.str b=>match o with
  |.eql=>pure (.bool (.lit (a.toList==b.toList)))
  |.neq=>pure (.bool (.lit (!(a.toList==b.toList))))
  |.add=>if a.size+b.size≤1048576 then pure (.str (a++b))else .error "binOp long"
  |_=>.error "binOp strings"
 |x,y=>match o with
  |.eql=>do
   let b<-eq? P O h 8 t x y
   pure (.bool b)
  |.neq=>do
   let b<-eq? P O h 8 t x y;let c<-CN b
   pure (.bool c)
  |_=>.error "binOp these operands"
def index?(O:dP)(i len:IE):M Unit:=do
 if<-O.dec (.cmp .leq (.lit 0) i)then(if<-O.dec (.cmp .lss i len)then pure ()else .error "index beyond")else .error "index below"
def Ak(a:IE)(n:Nat):IE:=
 match a with
 |.lit (.ofNat m)=>.lit (.ofNat (m*n))
 |_=>if n=1 then .tn a else .times (.tn a) (.lit (.ofNat n))
def AA.at(a:AA)(i:IE)(size:Nat):AA:=
 match Ak i size with
 |.lit (.ofNat n)=>a.add n
 |e=>match a.off with
  |.lit 0=>{a with off:=e}
  |off=>{a with off:=.plus (.tn off) e}
def appArgs?(O:dP)(h:AH)(size:Nat)(x:AV):M (Nat×List AV):=
 match x with
 |.slice none n _=>match n with
  |.lit (.ofNat 0)=>.ok (0,[])
  |_=>.error "append nil"
 |.slice (some b) n _=>do
  let n<-litNat? n;let l<-mN O h b (n*size) 0
  pure (n,l)
 |.str t=>if size=1 then .ok (t.size,t.data.toList.map fun c=>AV.int .u8 (.lit c.toNat))else .error "append string"
 |_=>.error "append what"
def appFit?(h:AH)(base:Option AA)(sLen n cap size:Nat)(new:List AV):M (AV×AH):=
 match base with
 |some a=>do
  let h<-l_ h (a.add (sLen*size)) new 0
  pure (.slice base (.lit (.ofNat (sLen+n))) (.lit (.ofNat cap)),h)
 |none=>if n=0 then pure (.slice none (.lit (.ofNat sLen)) (.lit (.ofNat cap)),h)else .error "append nil with room"
def appOld?(O:dP)(h:AH)(base:Option AA)(sLen size:Nat):M (List AV):=
 match base with
 |none=>if sLen=0 then .ok []else .error "append nil"
 |some a=>mN O h a (sLen*size) 0
def appGrow?(O:dP)(h:AH)(base:Option AA)(sLen n size:Nat)(new:List AV)(elem:TypeId):M (AV×AH):=do
 let old<-appOld? O h base sLen size
 allocRow? h none (old++new) elem (sLen+n)
def appRow?(h:AH)(base:Option AA)(sl c:IE)(sLen n size:Nat)(new:List AV)(elem:TypeId):M (AV×AH):=
 match base with
 |some a=>match a.kj,a.off with
  |.cN i,.lit (.ofNat 0)=>match cV i h.hp with
   |some (.row cs e c')=>
    if e=elem∧c.hZ c'=true∧sLen*size≤cs.length then
     (if n=0 then pure (.slice base sl c,h)else allocRow? h (some i) (cs.take (sLen*size)++new) elem (sLen+n))
    else .error "append row"
   |_=>.error "append no row"
  |_,_=>.error "append open"
 |none=>.error "append open"
def jP(n:IE)(k:Nat):IE:=match k with
 |0=>n
 |k=>.plus (.tn n) (.lit (.ofNat k))
def allocPre?(h:AH)(old:Nat)(lk:Bool)(s:Nat)(n:IE)(fs ws:List (IE×AV))(cs:List AV)(elem:TypeId)(len:IE):M (AV×AH):=
 match h with
 |⟨hp,nb,eH⟩=>if nb<eH then
   .ok (.slice (some ⟨.cN nb,.lit 0⟩) len (.var nb),⟨u6 nb (.cH lk s n fs ws cs elem (.var nb)) (j8 old hp),nb+1,eH⟩)
  else .error "new numbers"
def preOk?(O:dP)(m sl c c':IE)(e elem:TypeId)(size n:Nat)(cs:List AV):Bool:=
 decide (e=elem)&&c.hZ c'&&Nat.beq (cs.length / size*size) cs.length&&sl.hZ (jP m (cs.length / size))&&
  (match O.dec (.cmp .leq (.plus (.tn sl) (.lit (.ofNat n))) (.lit 1048576))with
  |.ok b=>b
  |.error _=>false)
def appPre?(O:dP)(h:AH)(base:Option AA)(sl c:IE)(n size:Nat)(new:List AV)(elem:TypeId):M (AV×AH):=
 match base with
 |some a=>match a.kj,a.off with
  |.cN i,.lit (.ofNat 0)=>match cV i h.hp with
   |some (.cH lk s m fs ws cs e c')=>match preOk? O m sl c c' e elem size n cs with
    |true=>match n with
     |0=>pure (.slice base sl c,h)
     |n=>allocPre? h i lk s m fs ws (cs++new) elem (jP m (cs.length / size+n))
    |false=>.error "append veiled"
   |_=>.error "append no veiled list"
  |_,_=>.error "append open"
 |none=>.error "append open"
def append?(P:Program)(h:AH)(argTypes:Array TypeId)(s x:AV)(O:dP):M (AV×AH):=do
 match argTypes[0]?,argTypes[1]? with
 |some yA,some xType=>do
  let X<-under? P xType
  match X with
  |.int _=>.error "append make"
  |_=>match<-under? P yA with
   |.slice elem=>do
    let size<-sizeOf? P elem;let z<-zero? P elem;let zc<-z.cells?;let bytes<-bytesOf? P elem
    if zc.length=size∧0<size∧0<bytes∧bytes≤1024 then do
     let(n,new)<-appArgs? O h size x
     if new.all (·.oneCell?)then
      match s with
      |.slice base sl sc=>match sl with
       |.lit _=>do
        let sLen<-litNat? sl
        if sLen+n≤1048576 then
         match sc with
         |.lit (.ofNat cap)=>if sLen+n≤cap then appFit? h base sLen n cap size new else appGrow? O h base sLen n size new elem
         |c=>appRow? h base sl c sLen n size new elem
        else .error "append long"
       |sl=>appPre? O h base sl sc n size new elem
      |_=>.error "append no slice"
     else .error "append cells"
    else .error "append element"
   |_=>.error "append type"
 |_,_=>.error "append types"
def lenOf?(P:Program)(h:AH)(t:TypeId)(x:AV):M IE:=do
 match<-under? P t,x with
 |.string,.str s=>pure (.lit (.ofNat s.size))
 |.array n _,_=>pure (.lit (.ofNat n))
 |.slice _,.slice _ n _=>pure (.tn n)
 |.slice _,.CM (.slice _ n _)=>pure (.lit (.ofNat n))
 |.map _ _,.map none=>pure (.lit 0)
 |.chan _ _,.chan none=>pure (.lit 0)
 |.map _ _,.map (some (.cN i))=>match cV i h.hp with
  |some (.map es)=>pure (.lit (.ofNat es.length))
  |some (.iY _ n _ ws)=>match ws with
   |[]=>pure (.tn n)
   |_=>.error "len a veiled map"
  |_=>.error "len map"
 |_,_=>.error "len"
def makeChan?(P:Program)(h:AH)(t:TypeId)(s:AV):M (AV×AH):=
 match s,P.underlying t with
 |.int _ (.lit (.ofNat 0)),some (.chan _ elem)=>match P.info? elem with
  |some _=>allocO? h .chan fun r=>.chan (some r)
  |none=>.error "makeChan"
 |_,_=>.error "makeChan"
def makeMap?(h:AH)(r:Option AV):M (AV×AH):=
 match r with
 |none=>allocO? h (.map []) fun r=>.map (some r)
 |some _=>.error "makeMap"
def findA?(P:Program)(O:dP)(h:AH)(key:TypeId)(k:AV):List (AV×AV)->M (Option AV)
 |[]=>.ok none
 |(a,v)::l=>match eq? P O h 8 key k a with
  |.ok (.lit true)=>.ok (some v)
  |.ok (.lit false)=>findA? P O h key k l
  |.ok _=>.error "a maps key open"
  |.error e=>.error e
def entries?(h:AH)(x:AV):M (List (AV×AV)):=
 match x with
 |.map none=>.ok []
 |.map (some (.cN i))=>match cV i h.hp with
  |some (.map es)=>.ok es
  |_=>.error "map"
 |_=>.error "map"
def keyOk?(P:Program)(key:TypeId):Bool:=
 match P.underlying key with
 |some (.pointer _)=>true
 |_=>false
def Mb(a:AA):List (AA×Option AV)->Option (Option AV)
 |[]=>none
 |p::l=>match a.hZ p.1 with
  |true=>some p.2
  |false=>Mb a l
def keySize?(P:Program)(key:TypeId):Bool:=
 match P.underlying key with
 |some (.pointer e)=>match sizeOf? P e with
  |.ok n=>!(Nat.beq n 0)
  |.error _=>false
 |_=>false
def lookV?(P:Program)(h:AH)(key:TypeId)(x k:AV):Option (Option AV):=
 match x with
 |.map (some (.cN i))=>match cV i h.hp with
  |some (.iY _ _ fs ws)=>match ws,k,keySize? P key with
   |[],.ptr (some a),true=>Mb a fs
   |_,_,_=>none
  |_=>none
 |_=>none
def lookup?(P:Program)(O:dP)(h:AH)(t:TypeId)(x k:AV)(commaOk:Bool):M AV:=
 match P.underlying t with
 |some (.map key elem)=>match lookV? P h key x k with
  |some r=>(match r with
   |some v=>.ok (if commaOk then .tuple [v,.bool (.lit true)]else v)
   |none=>match zero? P elem with
    |.ok z=>.ok (if commaOk then .tuple [z,.bool (.lit false)]else z)
    |.error e=>.error e)
  |none=>if keyOk? P key then(match entries? h x with
  |.ok es=>match findA? P O h key k es with
   |.ok (some v)=>.ok (if commaOk then .tuple [v,.bool (.lit true)]else v)
   |.ok none=>match zero? P elem with
    |.ok z=>.ok (if commaOk then .tuple [z,.bool (.lit false)]else z)
    |.error e=>.error e
   |.error e=>.error e
  |.error e=>.error e)else .error "lookup key"
 |_=>.error "lookup"
def mapUpdate?(P:Program)(O:dP)(h:AH)(t:TypeId)(x k v:AV):M AH:=
 match P.underlying t,x with
 |some (.map key _),.map (some (.cN i))=>match cV i h.hp with
  |some (.map es)=>if keyOk? P key then(match findA? P O h key k es with
   |.ok none=>.ok {h with hp:=Aj i (.map (es++[(k,v)])) h.hp}
   |.ok (some _)=>.error "mapUpdate a key that is there"
   |.error e=>.error e)else .error "mapUpdate key"
  |some (.iY s n fs ws)=>(match lookV? P h key x k with
   |some none=>.ok {h with hp:=Aj i (.iY s n fs (ws++[(k,v)])) h.hp}
   |_=>.error "mapUpdate a veiled map")
  |_=>.error "mapUpdate"
 |_,_=>.error "mapUpdate"
def minMax?(O:dP)(mx:Bool):AV->List AV->M AV
 |x,[]=>.ok x
 |.int k x,.int k' y::l=>do
  if k=k' then
   let aoY<-O.dec (if mx then .cmp .lss x y else .cmp .lss y x)
   minMax? O mx (.int k (if aoY then y else x)) l
  else .error "min kinds"
 |_,_=>.error "min"
def copyTo?(h:AH)(base:Option AA)(new:List AV)(n:Nat):M (AV×AH):=
 match base with
 |some a=>match l_ h a new 0 with
  |.ok h=>.ok (.int .i64 (.lit (.ofNat n)),h)
  |.error e=>.error e
 |none=>.ok (.int .i64 (.lit (.ofNat n)),h)
def copyFrom?(O:dP)(h:AH)(sb:Option AA)(n:Nat):M (List AV):=
 match sb with
 |some a=>mN O h a n 0
 |none=>.ok []
def copy?(P:Program)(O:dP)(h:AH)(argTypes:Array TypeId)(d s:AV):M (AV×AH):=do
 match argTypes[0]? with
 |some abh=>match<-under? P abh with
  |.slice elem=>do
   let size<-sizeOf? P elem
   match d,s with
   |.slice base dl _,.slice sb sl _=>do
    let m<-litNat? sl;let n<-litNat? dl;let new<-copyFrom? O h sb (Nat.min m n*size)
    copyTo? h base new (Nat.min m n)
   |_,_=>.error "copy what"
  |_=>.error "copy type"
 |none=>.error "copy"
def builtin?(P:Program)(O:dP)(h:AH)(b:Builtin)(argTypes:Array TypeId)(args:List AV):M (AN×AH):=
 match b,args with
 |.len,[x]=>match argTypes[0]? with
  |some t=>match lenOf? P h t x with
   |.ok e=>.ok (.value (.int .i64 (O.int e)),h)
   |.error e=>.error e
  |none=>.error "len"
 |.cap,[.slice _ _ c]=>match argTypes[0]? with
  |some t=>match under? P t with
   |.ok (.slice _)=>.ok (.value (.int .i64 (O.int (.tn c))),h)
   |_=>.error "cap"
  |none=>.error "cap"
 |.append,[s,x]=>mC (append? P h argTypes s x O)
 |.copy,[d,s]=>mC (copy? P O h argTypes d s)
 |.min,x::l=>k0 (minMax? O false x l) h
 |.max,x::l=>k0 (minMax? O true x l) h
 |.recover,[]=>.ok (.recover,h)
 |.panic,[.iface t v]=>.ok (.panic (.iface t v),h)
 |_,_=>.error "builtin"
def handle?(P:Program):AV->Option TypeId
 |.ptr (some ⟨.u1 b,.lit (.ofNat o)⟩)=>if b==P.globals.size then some o else none
 |_=>none
def invokeFn?(P:Program)(O:dP)(ext:AH->FuncId->List AV->M (AV×AH))(h:AH)(f:FuncId)(args:List AV):M (AN×AH):=
 if O.Jv.contains f then .ok (.enter f args,h)else
 match look (fun a b=>a==b) f O.ext with
 |some e=>match AV.vals? args with
  |some vs=>match fi P (e vs.toArray)with
   |some v=>.ok (.value (ofValue v),h)
   |none=>match ext h f args with
    |.ok (v,h)=>.ok (.value v,h)
    |.error e=>.error e
  |none=>match ext h f args with
   |.ok (v,h)=>.ok (.value v,h)
   |.error e=>.error e
 |none=>match ext h f args with
  |.ok (v,h)=>.ok (.value v,h)
  |.error e=>.error e
def method?(P:Program)(t:TypeId)(v:AV)(name:String):M (FuncId×AV):=
 match P.info? t with
 |none=>.error "method type"
 |some i=>match i.methods.find? (·.name==name)with
  |none=>.error "method none"
  |some m=>if m.path.isEmpty then
    match m.func with
    |some (f,true)=>match P.underlying t with
     |some (.pointer _)=>.ok (f,v)
     |_=>.error "method row"
    |some (f,false)=>match P.underlying t with
     |some (.pointer _)=>.error "method through a pointer"
     |some _=>.ok (f,v)
     |none=>.error "method row"
    |none=>.error "method row"
   else match v.val? with
    |some u=>match fi P (method (P.types.size+Made.depth) t u name)with
     |some (f,r)=>.ok (f,ofValue r)
     |none=>.error "method promoted"
    |none=>.error "method promoted"
def invoke?(P:Program)(O:dP)(ext:AH->FuncId->List AV->M (AV×AH))(h:AH)(d:AD):M (AN×AH):=
 match d.target with
 |.builtin b argTypes _ _=>builtin? P O h b argTypes d.args
 |.fn (.func f) captured=>invokeFn? P O ext h f (d.args++captured)
 |.fn (.method name) _=>
  match d.args with
  |.iface t v::args=>match method? P t v name with
   |.ok (f,r)=>invokeFn? P O ext h f (r::args)
   |.error e=>.error e
  |_=>.error "invoke receiver"
 |.fn _ _=>.error "invoke what"
def resolve?(ρ:Operand->AV)(c:Call)(type:TypeId):M AD:=
 let args:=c.args.toList.map ρ
 match c.callee with
 |.builtin b=>.ok {target:=.builtin b c.argTypes type (c.args.map fun|.const _=>true|_=>false),args}
 |.invoke recv name=>.ok {target:=.fn (.method name) [],args:=ρ recv::args}
 |.value f=>match ρ f with
  |.func fn first captured=>.ok {target:=.fn fn captured,args:=first++args}
  |_=>.error "call no function"
def zeros?(P:Program)(elem:TypeId)(size n:Nat):M (List AV):=
 if n*size=0 then .ok []else do
  let z<-zero? P elem;let zc<-z.cells?
  if zc.length=size then pure (G3 n zc)else .error "zeros size"
def makeSlice?(P:Program)(h:AH)(t:TypeId)(l c:AV):M (AV×AH):=do
 match<-under? P t with
 |.slice elem=>match l,c with
  |.int _ l,.int _ c=>do
   let l<-litNat? l;let c<-litNat? c;let size<-sizeOf? P elem;let bytes<-bytesOf? P elem
   if l≤c∧c≤1048576∧bytes≤65536 then do
    let cells<-zeros? P elem size c
    allocSlice? h (.cells cells elem) (.lit (.ofNat l)) (.lit (.ofNat c))
   else .error "makeSlice size"
  |_,_=>.error "makeSlice"
 |_=>.error "makeSlice type"
def makeRow?(P:Program)(O:dP)(h:AH)(t:TypeId)(l c:AV):M (AV×AH):=do
 match<-under? P t with
 |.slice elem=>match l,c with
  |.int _ l,.int _ c=>do
   let _<-zero? P elem;let _<-sizeOf? P elem;let bytes<-bytesOf? P elem;let neg<-O.dec (.cmp .lss c (.lit 0));let big<-O.dec (.cmp .gtr c (.lit 1048576))
   if IE.hZ l c∧neg=false∧big=false∧bytes≤65536 then allocSlice? h (.row [] elem c) c c
   else .error "makeRow size"
  |_,_=>.error "makeRow"
 |_=>.error "makeRow type"
def makeSliceS?(P:Program)(O:dP)(h:AH)(t:TypeId)(l c:AV):M (AV×AH):=
 match c with
 |.int _ (.lit _)=>makeSlice? P h t l c
 |_=>makeRow? P O h t l c
def vY:List AV->Bool
 |[]=>true
 |v::l=>v.oneCell?&&vY l
def storeRow?(P:Program)(O:dP)(h:AH)(t:TypeId)(i:Nat)(off:IE)(v:AV):M AH:=do
 let cs<-v.cells?
 match cV i h.hp with
 |some (.row [] e c)=>do
  let size<-sizeOf? P e;let ok<-O.dec (.cmp .lss (.plus (.tn off) (.lit (.ofNat (cs.length-1)))) (.times (.tn c) (.lit (.ofNat size))))
  if cs.length=(<-sizeOf? P t)∧vY cs=true∧ok=true∧cs.length≠0 then .ok h else .error "store an open place"
 |_=>.error "store an open place no such array"
def storeS?(P:Program)(O:dP)(h:AH)(t:TypeId)(a:AA)(v:AV):M AH:=
 match a with
 |⟨.cN i,off⟩=>match cV i h.hp with
  |some (.row [] _ _)=>storeRow? P O h t i off v
  |_=>storeVar? P h t a v
 |_=>storeVar? P h t a v
def bound?(v:Option AV)(d:Nat):M Nat:=
 match v with
 |none=>.ok d
 |some (.int _ e)=>litNat? e
 |some _=>.error "slice bound"
def high?(hi mx:Option AV)(len:Nat):M Nat:=
 match hi,mx with
 |none,some _=>.error "slice max without high"
 |hi,_=>bound? hi len
def bounds?(len cap:Nat)(lo hi mx:Option AV):M (Nat×Nat×Nat):=do
 let m<-bound? mx cap;let h<-high? hi mx len;let l<-bound? lo 0
 if m≤cap∧h≤m∧l≤h then pure (l,h,m)else .error "slice out of bounds"
def sliceOp?(P:Program)(t:TypeId)(x:AV)(lo hi mx:Option AV):M AV:=do
 match<-under? P t,x with
 |.slice elem,.slice a len (.lit (.ofNat cap))=>do
  let len<-litNat? len;let(l,h,m)<-bounds? len cap lo hi mx;let size<-sizeOf? P elem
  pure (.slice (if m=l then a else a.map (·.add (l*size))) (.lit (.ofNat (h-l))) (.lit (.ofNat (m-l))))
 |.string,.str s=>do
  match mx with
  |some _=>.error "slice string"
  |none=>do
   let(l,h,_)<-bounds? s.size s.size lo hi none
   pure (.str (s.extract l h))
 |.array n elem,.ptr (some a)=>do
  let(l,h,m)<-bounds? n n lo hi mx;let size<-sizeOf? P elem
  pure (.slice (some (if m=l then a else a.add (l*size))) (.lit (.ofNat (h-l))) (.lit (.ofNat (m-l))))
 |_,_=>.error "slice"
def fieldAddr?(P:Program)(s:TypeId)(x:AV)(i:Nat):M AV:=do
 match<-under? P s with
 |.struct fs=>match fs[i]? with
  |some f=>do
   let a<-sureAddr? x
   if(<-sizeOf? P f.type)=0 then .error "fieldAddr empty" else pure (.ptr (some (a.add f.offset)))
  |none=>.error "fieldAddr"
 |_=>.error "fieldAddr type"
def indexAddr?(P:Program)(O:dP)(t:TypeId)(x i:AV):M AV:=do
 match i with
 |.int _ i=>match<-under? P t,x with
  |.slice elem,.slice (some a) len _=>do
   index? O i (match len with|.lit n=>.lit n|l=>.tn l)
   pure (.ptr (some (a.at i (<-sizeOf? P elem))))
  |.array n elem,.ptr (some a)=>do
   index? O i (.lit (.ofNat n))
   pure (.ptr (some (a.at i (<-sizeOf? P elem))))
  |_,_=>.error "indexAddr"
 |_=>.error "indexAddr index"
def indexOp?(P:Program)(t:TypeId)(x i:AV):M AV:=do
 match<-under? P t,x,i with
 |.array n elem,.agg cs,.int _ (.lit (.ofNat i))=>if i<n then part? P elem cs (i*(<-sizeOf? P elem))else .error "index beyond"
 |.string,.str s,.int _ (.lit (.ofNat i))=>match s.data.toList[i]? with
  |some b=>pure (.int .u8 (.lit b.toNat))
  |none=>.error "index beyond"
 |_,_,_=>.error "index"
def typeAssert?(P:Program)(x:AV)(asserted:TypeId)(commaOk:Bool):M AV:=do
 let holds (v:AV):M AV:=pure (if commaOk then .tuple [v,.bool (.lit true)]else v);let pm:M AV:=do if commaOk then pure (.tuple [<-zero? P asserted,.bool (.lit false)])else .error "typeAssert fails"
 match<-under? P asserted,x with
 |.interface _,.nilIface=>pm
 |.interface want,.iface t v=>match P.info? t with
  |some i=>match Du want i.methods with
   |false=>holds (.iface t v)
   |true=>pm
  |none=>.error "typeAssert type"
 |_,.nilIface=>pm
 |_,.iface t v=>if t=asserted then holds v else pm
 |_,_=>.error "typeAssert"
def build?(P:Program)(t:TypeId)(parts:List (Nat×AV)):M AV:=do
 let zero<-(<-zero? P t).cells?
 match<-under? P t with
 |.struct fs=>do
  let pQ<-fs.toList.mapM fun f=>do pure (f.offset,<-sizeOf? P f.type)
  pure (.agg (<-fill? (pQ[·]?) zero parts))
 |.array _ elem=>do
  let size<-sizeOf? P elem
  pure (.agg (<-fill? (fun i=>some (i*size,size)) zero parts))
 |_=>.error "build"
def buildSlice?(P:Program)(h:AH)(t:TypeId)(len:Nat)(parts:List (Nat×AV)):M (AV×AH):=do
 match<-under? P t with
 |.slice elem=>do
  let size<-sizeOf? P elem
  if len*size>65536 then .error "buildSlice long" else
  let z<-zeros? P elem size len;let cells<-fill? (fun i=>some (i*size,size)) z parts
  allocSlice? h (.cells cells elem) (.lit (.ofNat len)) (.lit (.ofNat len))
 |_=>.error "buildSlice"
def field?(P:Program)(t:TypeId)(x:AV)(i:Nat):M AV:=do
 match<-under? P t,x with
 |.struct fs,.agg cs=>match fs[i]? with
  |some f=>part? P f.type cs f.offset
  |none=>.error "field"
 |_,_=>.error "field"
def convert?(P:Program)(O:dP)(h:AH)(src dst:TypeId)(x:AV):M AV:=do
 match<-under? P src,<-under? P dst,x with
 |_,.int k,.int _ e=>pure (.int k (O.int (.conv k e)))
 |_,.string,.str s=>pure (.str s)
 |.pointer t,.unsafePointer,.ptr (some ⟨.cN i,.lit (.ofNat n)⟩)=>
  match cV i h.hp with
  |some b=>do
   if n<b.cs.length∧(<-sizeOf? P t)≠0 then pure (.ptr (some ⟨.cN i,.lit (.ofNat n)⟩))else .error "convert pointer"
  |none=>.error "convert pointer"
 |_,_,_=>.error "convert"
def rU(O:dP)(v:AV):AV:=
 match v with
 |.int k e=>.int k (O.int e)
 |v=>v
def op?(P:Program)(O:dP)(ext:AH->FuncId->List AV->M (AV×AH))(h:AH)(ρ:Operand->AV)(o:Oper):M (AN×AH):=
 match o.op with
 |.move x|.assign x=>.ok (.value (ρ x),h)
 |.pick c a b=>match ρ c with
  |.bool t=>match O.bool t with
   |.lit t=>.ok (.value (if t then ρ a else ρ b),h)
   |_=>.error "pick an open test"
  |_=>.error "pick"
 |.alloc elem=>match zero? P elem with
  |.ok z=>match z.cells? with
   |.ok cs=>mC (alloc? h (.cells cs elem))
   |.error e=>.error e
  |.error e=>.error e
 |.box elem x=>match(ρ x).cells? with
  |.ok cs=>mC (alloc? h (.cells cs elem))
  |.error e=>.error e
 |.build t parts=>k0 (build? P t (parts.toList.map fun(i,x)=>(i,ρ x))) h
 |.buildSlice t len parts=>mC (buildSlice? P h t len (parts.toList.map fun(i,x)=>(i,ρ x)))
 |.load t a=>match sureAddr? (ρ a)with
  |.ok a=>k0 (loadVar? P O h t a) h
  |.error e=>.error e
 |.store t a x=>match sureAddr? (ρ a)with
  |.ok a=>EZ (storeS? P O h t a (ρ x))
  |.error e=>.error e
 |.nilCheck x=>match ρ x with
  |.ptr (some a)=>.ok (.value (.ptr (some a)),h)
  |.iface t v=>.ok (.value (.iface t v),h)
  |.func (.func f) a b=>.ok (.value (.func (.func f) a b),h)
  |_=>.error "nilCheck"
 |.binOp op t x y _=>match eqGuard? P op t x y (ρ x) (ρ y)with
  |.ok _=>k0 (binOp? P O h op t (ρ x) (ρ y)) h
  |.error e=>.error e
 |.unOp .not _ x=>match ρ x with
  |.bool b=>match CN b with
   |.ok b=>.ok (.value (.bool (O.bool b)),h)
   |.error e=>.error e
  |_=>.error "not"
 |.unOp .neg _ x=>match ρ x with
  |.int k e=>.ok (.value (.int k (O.int (.op .sub k (.lit 0) e))),h)
  |_=>.error "neg"
 |.convert src dst x=>k0 (convert? P O h src dst (ρ x)) h
 |.makeInterface t x=>match P.underlying t with
  |some (.interface _)=>.error "makeInterface"
  |some _=>.ok (.value (.iface t (ρ x)),h)
  |none=>.error "makeInterface"
 |.makeFunc fn first captured=>.ok (.value (.func fn (first.toList.map ρ) (captured.toList.map ρ)),h)
 |.makeSlice t l c=>mC (makeSliceS? P O h t (rU O (ρ l)) (rU O (ρ c)))
 |.slice t x lo hi mx=>k0 (sliceOp? P t (ρ x) (lo.map fun x=>rU O (ρ x)) (hi.map fun x=>rU O (ρ x)) (mx.map fun x=>rU O (ρ x))) h
 |.fieldAddr s x f=>k0 (fieldAddr? P s (ρ x) f) h
 |.field t x f=>k0 (field? P t (ρ x) f) h
 |.indexAddr t x ix=>k0 (indexAddr? P O t (ρ x) (rU O (ρ ix))) h
 |.index t x ix=>k0 (indexOp? P t (ρ x) (rU O (ρ ix))) h
 |.typeAssert x _ asserted ok=>k0 (typeAssert? P (ρ x) asserted ok) h
 |.extract t ix=>match ρ t with
  |.tuple vs=>match vs[ix]? with
   |some v=>.ok (.value v,h)
   |none=>.error "extract"
  |_=>.error "extract"
 |.call c=>match resolve? ρ c o.type with
  |.ok d=>invoke? P O ext h d
  |.error e=>.error e
 |.defer c=>match resolve? ρ c o.type with
  |.ok d=>.ok (.defer d,h)
  |.error e=>.error e
 |.panic x=>match ρ x with
  |.iface t v=>.ok (.panic (.iface t v),h)
  |_=>.error "panic"
 |.makeChan t s=>mC (makeChan? P h t (ρ s))
 |.makeMap _ r=>mC (makeMap? h (r.map ρ))
 |.lookup t x k ok=>k0 (lookup? P O h t (ρ x) (ρ k) ok) h
 |.mapUpdate t m k x=>EZ (mapUpdate? P O h t (ρ m) (ρ k) (ρ x))
 |_=>.error "this operation"
inductive ia where
 |run
 |returning
 |panicking(chain:List (AV×Bool))
structure bH where
 fn:FuncId
 nt:Nat
 tmps:TT
 todo:List Item
 defers:List AD
 mode:ia
 kind:CallKind
structure dw where
 da:bH
 callers:List bH
 h:AH
def fC(tmps:TT):Operand->AV
 |.tmp t=>tmps.get t
 |.const v=>ofValue v
 |.global g=>.ptr (some ⟨.u1 g,.lit 0⟩)
 |.func f=>.func (.func f) [] []
def fD(P:Program)(f:FuncId)(args:List AV)(kind:CallKind):M bH:=
 match P.funcs[f]? with
 |some fn=>match fn.body with
  |some c=>if args.length≤fn.ntmps∧fn.ntmps≤60000 then .ok {fn:=f,nt:=fn.ntmps,tmps:=TT.fill args 0 .ju,todo:=[.code c],defers:=[],mode:=.run,kind}else .error "enter temporaries"
  |none=>.error "enter no body"
 |none=>.error "enter no function"
def jQ(nt:Nat)(tmps:TT)(dst:Option Tmp)(v:AV):TT:=
 match dst with
 |some d=>match Nat.ble (d+1) nt with
  |true=>tmps.set v 16 d
  |false=>tmps
 |none=>tmps
def sC(O:dP)(ops:Array Oper)(tmps:TT)(j:Nat):M (Option Bool):=
 match(ops[j]?).bind (·.dst)with
 |none=>.error "a guard without a place"
 |some d=>match tmps.get d with
  |.bool b=>match O.bool b with
   |.lit b=>.ok (some b)
   |_=>.error "a guard is open"
  |.tuple _=>.ok none
  |_=>.error "a guard"
def i9(O:dP)(ops:Array Oper)(tmps:TT)(o:Oper):M Bool:=
 match o.guard with
 |none=>.ok true
 |some (j,want)=>match sC O ops tmps j with
  |.ok y=>.ok (y==some want)
  |.error e=>.error e
def ey(fr:bH)(v:AV):M bH:=
 match fr with
 |⟨fn,nt,tmps,.inRegion ops (i::rest)::k,defers,.run,kind⟩=>.ok ⟨fn,nt,jQ nt tmps ((ops[i]?).bind (·.dst)) v,.inRegion ops rest::k,defers,.run,kind⟩
 |_=>.error "finish"
def sD(fr:bH)(vs:List (AV×Bool)):bH:=
 match fr with
 |⟨fn,nt,tmps,todo,defers,.panicking chain,kind⟩=>⟨fn,nt,tmps,todo,defers,.panicking (vs++chain),kind⟩
 |⟨fn,nt,tmps,todo,defers,_,kind⟩=>⟨fn,nt,tmps,todo,defers,.panicking vs,kind⟩
def Al(kind:CallKind)(callers:List bH):M (Option (AV×List bH)):=
 match kind with
 |.normal=>.ok none
 |.deferred=>match callers with
  |[]=>.error "recover no caller"
  |⟨fn,nt,tmps,todo,defers,mode,kind⟩::rest=>match mode with
   |.panicking ((v,false)::lQ)=>.ok (some (v,⟨fn,nt,tmps,todo,defers,.panicking ((v,true)::lQ),kind⟩::rest))
   |_=>.ok none
 |_=>.error "recover kind"
inductive AE where
 |returned(v:AV)
 |panicked(chain:List (AV×Bool))
def sE(P:Program)(O:dP)(h:AH)(tmps:TT):ResultVar->M AV
 |.tmp t=>.ok (tmps.get t)
 |.cell a t=>match tmps.get a with
  |.ptr (some a)=>loadVar? P O h t a
  |_=>.error "result"
def jR(P:Program)(O:dP)(h:AH)(tmps:TT):List ResultVar->M (List AV)
 |[]=>.ok []
 |r::l=>match sE P O h tmps r with
  |.ok v=>match jR P O h tmps l with
   |.ok vs=>.ok (v::vs)
   |.error e=>.error e
  |.error e=>.error e
def results?(P:Program)(O:dP)(h:AH)(fn:FuncId)(tmps:TT):M AV:=
 match P.funcs[fn]? with
 |some fn=>match jR P O h tmps fn.results.toList with
  |.ok [v]=>.ok v
  |.ok vs=>.ok (.tuple vs)
  |.error e=>.error e
 |none=>.error "results no function"
abbrev Ext:=AH->FuncId->List AV->M (AV×AH)
inductive AR where
 |on(tmps:TT)(h:AH)
 |panic(tmps:TT)(chain:List (AV×Bool))(h:AH)
def kv(P:Program)(O:dP)(ext:Ext)(call:FuncId->List AV->AH->M (AE×AH))(nt:Nat)(ops:Array Oper)(i:Nat)(tmps:TT)(h:AH):M AR:=
 match ops[i]? with
 |none=>.error "region no operation"
 |some o=>match i9 O ops tmps o with
  |.error e=>.error e
  |.ok false=>.ok (.on (jQ nt tmps o.dst cx) h)
  |.ok true=>match op? P O ext h (fC tmps) o with
   |.error e=>.error e
   |.ok (.value v,h)=>.ok (.on (jQ nt tmps o.dst v) h)
   |.ok (.skip,h)=>.ok (.on (jQ nt tmps o.dst cx) h)
   |.ok (.enter f args,h)=>match call f args h with
    |.ok (.returned v,h)=>.ok (.on (jQ nt tmps o.dst v) h)
    |.ok (.panicked chain,h)=>.ok (.panic tmps chain h)
    |.error e=>.error e
   |.ok (.panic v,h)=>.ok (.panic tmps [(v,false)] h)
   |.ok _=>.error "region this operation"
def og:List (AV×AV)->List (AV×AV)->Bool
 |[],[]=>true
 |(a,b)::l,(c,d)::m=>a.hZ c&&b.hZ d&&og l m
 |_,_=>false
def oh:List (IE×AV)->List (IE×AV)->Bool
 |[],[]=>true
 |(a,b)::l,(c,d)::m=>a.hZ c&&b.hZ d&&oh l m
 |_,_=>false
def nX:List (AA×Option AV)->List (AA×Option AV)->Bool
 |[],[]=>true
 |(a,b)::l,(c,d)::m=>a.hZ c&&u2 AV.hZ b d&&nX l m
 |_,_=>false
def bM.hZ:bM->bM->Bool
 |.map a,.map b=>og a b
 |.chan,.chan=>true
 |.iY s n f w,.iY s' n' f' w'=>Nat.beq s s'&&n.hZ n'&&nX f f'&&og w w'
 |.cells a e,.cells b e'=>AV.za a b&&e==e'
 |.row a e c,.row b e' c'=>AV.za a b&&e==e'&&c.hZ c'
 |.fT a e l,.fT b e' l'=>AV.za a b&&e==e'&&decide (l=l')
 |.cH l s n f w a e c,.cH l' s' n' f' w' b e' c'=>(l==l')&&Nat.beq s s'&&n.hZ n'&&oh f f'&&oh w w'&&AV.za a b&&e==e'&&c.hZ c'
 |_,_=>false
def Am:List (Nat×bM)->List (Nat×bM)->Bool
 |[],[]=>true
 |(i,a)::l,(j,b)::m=>Nat.beq i j&&a.hZ b&&Am l m
 |_,_=>false
def tS(s:List Nat)(o:Oper):Bool:=o.after.all fun e=>!Region.binds .any e||s.contains e.on
def cZ(ops:Array Oper)(s:List Nat):List Nat:=
 (List.range ops.size).filter fun i=>!s.contains i&&(match ops[i]? with|some o=>tS s o|none=>false)
abbrev Mc:=List (List Nat×TT×AH)
def vZ(a b:List Nat):Bool:=a.all b.contains&&b.all a.contains
def An(s:List Nat)(tmps:TT)(h:AH):Mc->M Mc
 |[]=>.ok [(s,tmps,h)]
 |(s',t',h')::l=>
  if vZ s s' then(if tmps.hZ t'&&Am h.hp h'.hp then .ok ((s',t',h')::l)else .error "region the order matters")
  else match An s tmps h l with
   |.ok l=>.ok ((s',t',h')::l)
   |.error e=>.error e
def jm(h0:AH):Nat:=(h0.eH-h0.nb) / 65536
def ol(h0:AH)(i:Nat)(h:AH):AH:=
 match h with
 |⟨hp,_,_⟩=>⟨hp,h0.nb+i*jm h0,h0.nb+(i+1)*jm h0⟩
def kQ(h0:AH)(n:Nat)(h:AH):AH:=
 match h with
 |⟨hp,_,_⟩=>⟨hp,h0.nb+n*jm h0,h0.eH⟩
def tT(P:Program)(O:dP)(ext:Ext)(call:FuncId->List AV->AH->M (AE×AH))(nt:Nat)(ops:Array Oper)(h0:AH)(s:List Nat)(tmps:TT)(h:AH):List Nat->Mc->M Mc
 |[],l=>.ok l
 |i::r,l=>
  match kv P O ext call nt ops i tmps (ol h0 i h)with
  |.error e=>.error e
  |.ok (.panic _ _ _)=>.error "region a panic beside others"
  |.ok (.on t' h')=>if h'.nb≤h'.eH then(match An (i::s) t' h' l with
   |.ok l=>tT P O ext call nt ops h0 s tmps h r l
   |.error e=>.error e)else .error "region numbers"
def v1(P:Program)(O:dP)(ext:Ext)(call:FuncId->List AV->AH->M (AE×AH))(nt:Nat)(ops:Array Oper)(h0:AH):Mc->Mc->M Mc
 |[],l=>.ok l
 |(s,t,h)::r,l=>if(cZ ops s).isEmpty then .error "region none is ready" else match tT P O ext call nt ops h0 s t h (cZ ops s) l with
  |.ok l=>v1 P O ext call nt ops h0 r l
  |.error e=>.error e
def pn(P:Program)(O:dP)(ext:Ext)(call:FuncId->List AV->AH->M (AE×AH))(nt:Nat)(ops:Array Oper):Nat->Option AH->Mc->M AR
 |0,_,_=>.error "region levels"
 |n+1,u7,l=>
  match l,u7 with
  |[(s,t,h)],some h0=>pn P O ext call nt ops n none [(s,t,kQ h0 ops.size h)]
  |[(s,t,h)],none=>match cZ ops s with
   |[]=>.ok (.on t h)
   |[i]=>match kv P O ext call nt ops i t h with
    |.error e=>.error e
    |.ok (.panic t' c h')=>.ok (.panic t' c h')
    |.ok (.on t' h')=>pn P O ext call nt ops n none [(i::s,t',h')]
   |r=>match tT P O ext call nt ops h s t h r []with
    |.ok l=>pn P O ext call nt ops n (some h) l
    |.error e=>.error e
  |l,some h0=>match v1 P O ext call nt ops h0 l []with
   |.ok l=>pn P O ext call nt ops n (some h0) l
   |.error e=>.error e
  |_,none=>.error "region levels"
def jS(o:Oper):Bool:=
 match o.op with
 |.move _|.assign _|.pick _ _ _|.build _ _|.load _ _|.nilCheck _|.binOp _ _ _ _ _|.unOp _ _ _|.convert _ _ _|.makeInterface _ _|.makeFunc _ _ _|.slice _ _ _ _ _|.fieldAddr _ _ _|.field _ _ _|.indexAddr _ _ _|.index _ _ _
 |.typeAssert _ _ _ _|.extract _ _=>true
 |_=>false
def Rf(i:Nat):Nat:=Nat.pow 2 i
def pR(m i:Nat):Bool:=!(Nat.beq (Nat.land m (Rf i)) 0)
def xE(m i:Nat):Nat:=Nat.lor m (Rf i)
def iz:List Edge->Nat
 |[]=>0
 |e::l=>match Region.binds .any e with
  |true=>xE (iz l) e.on
  |false=>iz l
abbrev lJ:=Nat×Oper×Nat×Bool
def qp:Nat->List Oper->List lJ
 |_,[]=>[]
 |i,o::l=>(i,o,iz o.after.toList,jS o)::qp (i+1) l
def dm(ops:Array Oper):List lJ:=qp 0 ops.toList
def v2(m:Nat)(x:lJ):Bool:=!(pR m x.1)&&Nat.beq (Nat.land x.2.2.1 m) x.2.2.1
def jx(ops:Array Oper)(dO:List lJ):Bool:=
 dO.all fun x=>match x.2.2.2,x.2.1.dst with
  |true,some d=>dO.all fun y=>!((y.2.1.looksAt ops).contains d)||pR y.2.2.1 x.1
  |_,_=>true
def po(P:Program)(O:dP)(ext:Ext)(nt:Nat)(ops:Array Oper)(h:AH):List lJ->List Nat->Nat->TT->M (List Nat×Nat×TT)
 |[],s,m,t=>.ok (s,m,t)
 |x::r,s,m,t=>match x.2.2.2&&v2 m x with
  |false=>po P O ext nt ops h r s m t
  |true=>match i9 O ops t x.2.1 with
   |.error e=>.error e
   |.ok false=>po P O ext nt ops h r (x.1::s) (xE m x.1) (jQ nt t x.2.1.dst cx)
   |.ok true=>match op? P O ext h (fC t) x.2.1 with
    |.ok (.value v,_)=>po P O ext nt ops h r (x.1::s) (xE m x.1) (jQ nt t x.2.1.dst v)
    |.ok _=>.error "region a quiet operation"
    |.error e=>.error e
def Me(nt:Nat)(t:TT)(dst:Option Tmp)(v:AV):Bool:=
 match dst with
 |some d=>match Nat.ble (d+1) nt with
  |true=>(t.get d).hZ v
  |false=>true
 |none=>true
def pS(P:Program)(O:dP)(ext:Ext)(nt:Nat)(ops:Array Oper)(m:Nat)(t:TT)(h:AH):List lJ->Bool
 |[]=>true
 |x::r=>(match x.2.2.2&&pR m x.1 with
  |false=>true
  |true=>match i9 O ops t x.2.1 with
   |.error _=>false
   |.ok false=>Me nt t x.2.1.dst cx
   |.ok true=>match op? P O ext h (fC t) x.2.1 with
    |.ok (.value v,_)=>Me nt t x.2.1.dst v
    |_=>false)&&pS P O ext nt ops m t h r
abbrev uo:=List (List Nat×Nat×TT×AH)
def v3(s:List Nat)(m:Nat)(t:TT)(h:AH):uo->M uo
 |[]=>.ok [(s,m,t,h)]
 |(s',m',t',h')::l=>match Nat.beq m m' with
  |true=>if t.hZ t'&&Am h.hp h'.hp then .ok ((s',m',t',h')::l)else .error "region the order matters"
  |false=>match v3 s m t h l with
   |.ok l=>.ok ((s',m',t',h')::l)
   |.error e=>.error e
def ij(h:AH):AH:=⟨h.hp,0,0⟩
def WO(P:Program)(O:dP)(ext:Ext)(call:FuncId->List AV->AH->M (AE×AH))(nt:Nat)(ops:Array Oper)(dO:List lJ)(s:List Nat)(m:Nat)(t:TT)(h:AH)(i:Nat):M (List Nat×Nat×TT×AH):=
 match kv P O ext call nt ops i t h with
 |.error e=>.error e
 |.ok (.panic _ _ _)=>.error "region a panic beside others"
 |.ok (.on t1 h1)=>match po P O ext nt ops (ij h1) dO (i::s) (xE m i) t1 with
  |.error e=>.error e
  |.ok (s2,m2,t2)=>.ok (s2,m2,t2,h1)
def qq(P:Program)(O:dP)(ext:Ext)(call:FuncId->List AV->AH->M (AE×AH))(nt:Nat)(ops:Array Oper)(dO:List lJ)(h0:AH)(s:List Nat)(m:Nat)(t:TT)(h:AH):List lJ->uo->M uo
 |[],l=>.ok l
 |x::r,l=>match WO P O ext call nt ops dO s m t (ol h0 x.1 h) x.1 with
  |.error e=>.error e
  |.ok (s2,m2,t2,h1)=>if h1.nb≤h1.eH then(match v3 s2 m2 t2 h1 l with
   |.ok l=>qq P O ext call nt ops dO h0 s m t h r l
   |.error e=>.error e)else .error "region numbers"
def sF(P:Program)(O:dP)(ext:Ext)(call:FuncId->List AV->AH->M (AE×AH))(nt:Nat)(ops:Array Oper)(dO:List lJ)(h0:AH):uo->uo->M uo
 |[],l=>.ok l
 |(s,m,t,h)::r,l=>match dO.filter (v2 m)with
  |[]=>.error "region none is ready"
  |js=>match qq P O ext call nt ops dO h0 s m t h js l with
   |.ok l=>sF P O ext call nt ops dO h0 r l
   |.error e=>.error e
def v4(m:Nat):List lJ->Nat
 |[]=>0
 |x::r=>match !x.2.2.2&&pR m x.1 with
  |true=>Nat.lor x.2.2.1 (v4 m r)
  |false=>v4 m r
def JL(dO:List lJ)(m:Nat):Nat:=Nat.land m (Nat.xor m (v4 m dO))
def Mh(P:Program)(O:dP)(ext:Ext)(nt:Nat)(ops:Array Oper)(dO:List lJ)(m:Nat)(t:TT)(h:AH):Bool:=
 (dO.all fun x=>!(x.2.2.2&&v2 m x))&&pS P O ext nt ops (JL dO m) t (ij h) dO
def mO(P:Program)(O:dP)(ext:Ext)(call:FuncId->List AV->AH->M (AE×AH))(nt:Nat)(ops:Array Oper)(dO:List lJ):Nat->Option AH->uo->M AR
 |0,_,_=>.error "region levels"
 |n+1,u7,l=>
  match l.all fun e=>Mh P O ext nt ops dO e.2.1 e.2.2.1 e.2.2.2 with
  |false=>.error "region not settled"
  |true=>match l,u7 with
   |[(s,m,t,h)],some h0=>mO P O ext call nt ops dO n none [(s,m,t,kQ h0 ops.size h)]
   |[(s,m,t,h)],none=>match dO.filter (v2 m)with
    |[]=>.ok (.on t h)
    |[x]=>match WO P O ext call nt ops dO s m t h x.1 with
     |.error e=>.error e
     |.ok e=>mO P O ext call nt ops dO n none [e]
    |js=>match qq P O ext call nt ops dO h s m t h js []with
     |.ok l=>mO P O ext call nt ops dO n (some h) l
     |.error e=>.error e
   |l,some h0=>match sF P O ext call nt ops dO h0 l []with
    |.ok l=>mO P O ext call nt ops dO n (some h0) l
    |.error e=>.error e
   |_,none=>.error "region levels"
def Rg(P:Program)(O:dP)(ext:Ext)(call:FuncId->List AV->AH->M (AE×AH))(nt:Nat)(ops:Array Oper)(dO:List lJ)(tmps:TT)(h:AH):M AR:=
 match po P O ext nt ops (ij h) dO [] 0 tmps with
 |.error e=>.error e
 |.ok (s,m,t)=>mO P O ext call nt ops dO (2*ops.size+2) none [(s,m,t,h)]
def v5(P:Program)(O:dP)(ext:Ext)(call:FuncId->List AV->AH->M (AE×AH))(nt:Nat)(ops:Array Oper)(tmps:TT)(h:AH):M AR:=
 if ops.size≤65536 then pn P O ext call nt ops (2*ops.size+2) none [([],tmps,h)]else .error "region size"
def drawn(P:Program)(O:dP)(ext:Ext)(call:FuncId->List AV->AH->M (AE×AH))(nt:Nat)(ops:Array Oper)(tmps:TT)(h:AH):M AR:=
 match Nat.ble ops.size 65536&&jx ops (dm ops)with
 |false=>v5 P O ext call nt ops tmps h
 |true=>match Rg P O ext call nt ops (dm ops) tmps h with
  |.ok r=>.ok r
  |.error _=>v5 P O ext call nt ops tmps h
def WP(o:Oper):Bool:=
 match o.op with
 |.call _|.go _|.send _ _|.recv _ _ _|.defer _=>true
 |_=>false
def nu:List lJ->Nat->Nat
 |[],m=>m
 |x::r,m=>match pR (nu r m) x.1 with
  |true=>Nat.lor (nu r m) x.2.2.1
  |false=>nu r m
def JM(P:Program)(O:dP)(ext:Ext)(nt:Nat)(ops:Array Oper)(dO:List lJ)(tmps:TT)(h:AH):Option (Nat×TT):=
 match dO.filter fun x=>!x.2.2.2 with
 |[x]=>match WP x.2.1&&(Nat.ble ops.size 65536&&jx ops dO)with
  |false=>none
  |true=>match po P O ext nt ops (ij h) dO [] 0 tmps with
   |.error _=>none
   |.ok (_,m,t)=>match v2 m x&&(dO.all fun y=>Nat.beq y.1 x.1||(pR m y.1&&pR (nu dO x.2.2.1) y.1))&&pS P O ext nt ops m t (ij h) dO with
    |true=>some (x.1,t)
    |false=>none
 |_=>none
def zd(P:Program)(fr:bH)(callers:List bH)(n:AN)(h:AH):M dw:=
 match n with
 |.value v=>match ey fr v with
  |.ok fr=>.ok ⟨fr,callers,h⟩
  |.error e=>.error e
 |.skip=>match ey fr cx with
  |.ok fr=>.ok ⟨fr,callers,h⟩
  |.error e=>.error e
 |.enter f args=>match fD P f args .normal with
  |.ok bT=>.ok ⟨bT,fr::callers,h⟩
  |.error e=>.error e
 |.defer d=>match fr with
  |⟨fn,nt,tmps,todo,defers,mode,kind⟩=>match ey ⟨fn,nt,tmps,todo,d::defers,mode,kind⟩ cx with
   |.ok fr=>.ok ⟨fr,callers,h⟩
   |.error e=>.error e
 |.recover=>match Al fr.kind callers with
  |.error e=>.error e
  |.ok (some (v,callers))=>match ey fr v with
   |.ok fr=>.ok ⟨fr,callers,h⟩
   |.error e=>.error e
  |.ok none=>match ey fr .nilIface with
   |.ok fr=>.ok ⟨fr,callers,h⟩
   |.error e=>.error e
 |.panic v=>.ok ⟨sD fr [(v,false)],callers,h⟩
def gI:CallKind->Bool
 |.wrapped=>true
 |_=>false
def qr(kind:CallKind)(n:AN):Bool:=
 match gI kind with
 |false=>true
 |true=>match n with
  |.defer _=>false
  |.recover=>false
  |_=>true
def acP(O:dP)(n:AN):Bool:=
 match n with
 |.enter f _=>O.aoX.contains f
 |_=>false
def exec?(P:Program)(O:dP)(ext:Ext)(call:FuncId->List AV->AH->M (AE×AH))(fn:FuncId)(nt:Nat)(tmps:TT)(todo:List Item)(defers:List AD)(kind:CallKind)(callers:List bH)(h:AH):M dw:=
 match todo with
 |[]=>match gI kind with
  |true=>.error "marked the end"
  |false=>.ok ⟨⟨fn,nt,tmps,[],defers,.returning,kind⟩,callers,h⟩
 |.inRegion ops is::k=>match is with
  |[]=>.ok ⟨⟨fn,nt,tmps,k,defers,.run,kind⟩,callers,h⟩
  |i::rest=>match ops[i]? with
   |none=>.error "region no operation"
   |some o=>match i9 O ops tmps o with
    |.error e=>.error e
    |.ok false=>.ok ⟨⟨fn,nt,jQ nt tmps o.dst cx,.inRegion ops rest::k,defers,.run,kind⟩,callers,h⟩
    |.ok true=>match op? P O ext h (fC tmps) o with
     |.error e=>.error e
     |.ok (n,h')=>match qr kind n with
      |false=>.error "marked this operation"
      |true=>match acP O n with
       |false=>zd P ⟨fn,nt,tmps,.inRegion ops (i::rest)::k,defers,.run,kind⟩ callers n h'
       |true=>match kv P O ext call nt ops i tmps h with
        |.ok (.on t h')=>.ok ⟨⟨fn,nt,t,.inRegion ops rest::k,defers,.run,kind⟩,callers,h'⟩
        |.ok (.panic t ch h')=>.ok ⟨⟨fn,nt,t,.inRegion ops (i::rest)::k,defers,.panicking ch,kind⟩,callers,h'⟩
        |.error e=>.error e
 |.inBlock _::k=>.ok ⟨⟨fn,nt,tmps,k,defers,.run,kind⟩,callers,h⟩
 |.inScope _::k=>.ok ⟨⟨fn,nt,tmps,k,defers,.run,kind⟩,callers,h⟩
 |.inLoop body::k=>.ok ⟨⟨fn,nt,tmps,.code body::.inLoop body::k,defers,.run,kind⟩,callers,h⟩
 |.code c::k=>match c with
  |.ret=>match gI kind with
   |true=>.error "marked return"
   |false=>.ok ⟨⟨fn,nt,tmps,.code .ret::k,defers,.returning,kind⟩,callers,h⟩
  |.skip=>.ok ⟨⟨fn,nt,tmps,k,defers,.run,kind⟩,callers,h⟩
  |.label _=>.ok ⟨⟨fn,nt,tmps,k,defers,.run,kind⟩,callers,h⟩
  |.seq a b=>.ok ⟨⟨fn,nt,tmps,.code a::.code b::k,defers,.run,kind⟩,callers,h⟩
  |.cond x thn els=>match fC tmps x with
   |.bool b=>match O.bool b with
    |.lit true=>.ok ⟨⟨fn,nt,tmps,.code thn::k,defers,.run,kind⟩,callers,h⟩
    |.lit false=>.ok ⟨⟨fn,nt,tmps,.code els::k,defers,.run,kind⟩,callers,h⟩
    |_=>.error "if an open test"
   |_=>.error "if"
  |.block id body=>.ok ⟨⟨fn,nt,tmps,.code body::.inBlock id::k,defers,.run,kind⟩,callers,h⟩
  |.loop body=>.ok ⟨⟨fn,nt,tmps,.code body::.inLoop body::k,defers,.run,kind⟩,callers,h⟩
  |.scope body=>.ok ⟨⟨fn,nt,tmps,.code body::.inScope body::k,defers,.run,kind⟩,callers,h⟩
  |.exit id=>match exitTo id k with
   |some k=>.ok ⟨⟨fn,nt,tmps,k,defers,.run,kind⟩,callers,h⟩
   |none=>.error "exit"
  |.goto l=>match gotoIn l k with
   |some k=>.ok ⟨⟨fn,nt,tmps,k,defers,.run,kind⟩,callers,h⟩
   |none=>.error "goto"
  |.region _ ops draw=>match draw with
   |false=>.ok ⟨⟨fn,nt,tmps,.inRegion ops (List.range ops.size)::k,defers,.run,kind⟩,callers,h⟩
   |true=>match JM P O ext nt ops (dm ops) tmps h with
    |some (j,t)=>.ok ⟨⟨fn,nt,t,.inRegion ops [j]::k,defers,.run,kind⟩,callers,h⟩
    |none=>match drawn P O ext call nt ops tmps h with
     |.ok (.on t h)=>.ok ⟨⟨fn,nt,t,k,defers,.run,kind⟩,callers,h⟩
     |.ok (.panic t ch h)=>.ok ⟨⟨fn,nt,t,k,defers,.panicking ch,kind⟩,callers,h⟩
     |.error e=>.error e
  |_=>.error "this code"
 |_=>.error "this item"
def defer?(P:Program)(O:dP)(ext:Ext)(fn:FuncId)(nt:Nat)(tmps:TT)(todo:List Item)(d:AD)(ds:List AD)(mode:ia)(kind:CallKind)(callers:List bH)(h:AH):M dw:=
 match invoke? P O ext h d with
 |.ok (.enter f args,h)=>match fD P f args .deferred with
  |.ok bT=>.ok ⟨bT,⟨fn,nt,tmps,todo,ds,mode,kind⟩::callers,h⟩
  |.error e=>.error e
 |.ok (.value _,h)=>.ok ⟨⟨fn,nt,tmps,todo,ds,mode,kind⟩,callers,h⟩
 |.ok _=>.error "a deferred call"
 |.error e=>.error e
def xF(eX:bH):bH:=
 match eX with
 |⟨fn,nt,tmps,todo,defers,.panicking ((_,true)::_),kind⟩=>⟨fn,nt,tmps,todo,defers,.returning,kind⟩
 |fr=>fr
def step?(P:Program)(O:dP)(ext:Ext)(call:FuncId->List AV->AH->M (AE×AH))(c:dw):M (dw⊕(AE×AH)):=
 match c with
 |⟨⟨fn,nt,tmps,todo,defers,mode,kind⟩,callers,h⟩=>match mode with
  |.run=>match exec? P O ext call fn nt tmps todo defers kind callers h with
    |.ok c=>.ok (.inl c)
    |.error e=>.error e
  |.returning=>match gI kind with
   |true=>.error "marked unwinding"
   |false=>match defers with
    |d::ds=>match defer? P O ext fn nt tmps todo d ds .returning kind callers h with
     |.ok c=>.ok (.inl c)
     |.error e=>.error e
    |[]=>match results? P O h fn tmps with
     |.error e=>.error e
     |.ok v=>match callers with
      |[]=>match kind with
       |.normal=>.ok (.inr (.returned v,h))
       |_=>.error "return kind"
      |eX::rest=>match kind with
       |.normal=>match ey eX v with
        |.ok eX=>.ok (.inl ⟨eX,rest,h⟩)
        |.error e=>.error e
       |.deferred=>.ok (.inl ⟨xF eX,rest,h⟩)
       |_=>.error "return kind"
  |.panicking chain=>match gI kind with
   |true=>.error "marked unwinding"
   |false=>match defers with
    |d::ds=>match defer? P O ext fn nt tmps todo d ds (.panicking chain) kind callers h with
     |.ok c=>.ok (.inl c)
     |.error e=>.error e
    |[]=>match callers with
     |[]=>.ok (.inr (.panicked chain,h))
     |eX::rest=>.ok (.inl ⟨sD eX chain,rest,h⟩)
abbrev om:=FuncId->List AV->AH->Option (M (AE×AH))
def oq:om:=fun _ _ _=>none
def run?(P:Program)(O:dP)(ext:Ext)(sum:om)(n:Nat):dw->M (AE×AH):=
 Nat.rec (fun _=>.error "fuel") (fun _ ih c=>
  match step? P O ext (fun f args h=>match sum f args h with
   |some r=>r
   |none=>match fD P f args .normal with
    |.ok fr=>ih ⟨fr,[],h⟩
    |.error e=>.error e) c with
  |.ok (.inl c)=>ih c
  |.ok (.inr r)=>.ok r
  |.error e=>.error e) n
end
noncomputable section
inductive XE where
 |ld(k:IntKind)|st|sw(k:IntKind)|GR(k:IntKind)|add(k:IntKind)
 |acquire|release|releaseMerge|k7
 |typeOf|Mi|Rh|abi|aib|abj
def kind?(P:Program)(t:TypeId):M Nat:=
 match fi P (Extern.Rtype.kind t)with
 |some k=>.ok k
 |none=>.error "kind"
def mkV?(P:Program)(t:TypeId)(a:AA)(flags:Nat):M AV:=do
 pure (.agg [.ptr (some ⟨.u1 P.globals.size,.lit (.ofNat t)⟩),.ptr (some a),.int .u64 (.lit (.ofNat ((<-kind? P t)+128+flags)))])
def partsV?(P:Program)(x:AV):M (TypeId×AA×Nat):=
 match x with
 |.agg [h,.ptr (some a),.int .u64 (.lit (.ofNat f))]=>match handle? P h with
  |some t=>if f=0||P.packed t then .error "Value nought" else .ok (t,a,f)
  |none=>.error "Value handle"
 |_=>.error "Value"
def Mj(P:Program)(s:Sem Bool):M Bool:=
 match fi P s with
 |some b=>.ok b
 |none=>.error "pureB"
def elemT?(P:Program)(t:TypeId):M TypeId:=
 match fi P (Extern.Rtype.elem? t)with
 |some (some e)=>.ok e
 |_=>.error "elem"
def unpackV?(P:Program)(h:AH)(x:AV):M (AV×AH):=do
 match x with
 |.iface t v=>do
  let cs<-v.cells?;let(x,h)<-alloc? h (.cells cs t)
  match x with
  |.ptr (some a)=>do
   let r<-mkV? P t a 0
   pure (r,h)
  |_=>.error "unpack"
 |.nilIface=>pure (.agg [.ptr none,.ptr none,.int .u64 (.lit 0)],h)
 |_=>.error "unpack"
def uA(O:dP)(h:AH)(a:AA)(k:IntKind):M IE:=do
 match<-vX O h a with
 |.int k' e=>if k=k' then pure e else .error "atomic"
 |_=>.error "atomic"
def isNil?:AV->M Bool
 |.chan none|.nilFunc|.nilIface|.map none|.ptr none|.slice none _ _=>.ok true
 |.chan (some _)|.func ..|.iface ..|.map (some _)|.ptr (some _)|.slice (some _) _ _=>.ok false
 |_=>.error "IsNil"
def xIsNil?(P:Program)(O:dP)(h:AH)(x:AV):M (AV×AH):=do
 let(t,a,fl)<-partsV? P x
 if[18,19,20,21,22,23,26].contains (fl % 32)then do
  let v<-loadVar? P O h t a;let b<-isNil? v
  pure (.bool (.lit b),h)
 else .error "IsNil kind"
def xElem?(P:Program)(O:dP)(h:AH)(x:AV):M (AV×AH):=do
 let(t,a,fl)<-partsV? P x;let v<-loadVar? P O h t a
 if fl % 32=22 then do
  let e<-elemT? P t
  match v with
  |.ptr none=>pure (.agg [.ptr none,.ptr none,.int .u64 (.lit 0)],h)
  |.ptr (some p)=>do
   pure (<-mkV? P e p 256,h)
  |_=>.error "Elem"
 else if fl % 32=20 then do
  let _<-(match fi P (Extern.Rtype.elem? t)with|some e=>.ok e|none=>.error "Elem" :M (Option TypeId))
  unpackV? P h v
 else .error "Elem kind"
def setVal?(P:Program)(dst src:TypeId)(val:AV):M AV:=
 match Mj P (Extern.Rtype.directlyAssignable dst src)with
 |.error e=>.error e
 |.ok true=>.ok val
 |.ok false=>match Mj P (sB dst src)with
  |.ok true=>match kind? P src with
   |.ok k=>if k=20 then(match val with
    |.iface t v=>.ok (.iface t v)
    |_=>.error "Set nil")else .ok (.iface src val)
   |.error e=>.error e
  |.ok false=>.error "Set type"
  |.error e=>.error e
def xSet?(P:Program)(O:dP)(h:AH)(v x:AV):M (AV×AH):=do
 let(dst,a,fl)<-partsV? P v;let(src,b,_)<-partsV? P x
 if fl / 256 % 2=0 then .error "Set" else
 let val<-loadVar? P O h src b;let val<-setVal? P dst src val;let h<-storeVar? P h dst a val
 pure (cx,h)
def ext?(P:Program)(O:dP)(tab:List (FuncId×XE)):Ext:=fun h f args=>
 match look (fun a b=>a==b) f tab with
 |none=>.error "no entry"
 |some x=>match x,args with
  |.ld k,[.ptr (some a)]=>do
   let e<-uA O h a k
   pure (.int k e,h)
  |.st,[.ptr (some a),v]=>do
   let h<-iQ h a v
   pure (cx,h)
  |.sw k,[.ptr (some a),v]=>do
   let e<-uA O h a k;let h<-iQ h a v
   pure (.int k e,h)
  |.GR k,[.ptr (some a),.int _ old,v]=>do
   let e<-uA O h a k;let b<-O.dec (.cmp .eql e old);let h2<-iQ h a v
   pure (.bool (.lit b),if b then h2 else h)
  |.add k,[.ptr (some a),.int _ d]=>do
   let e<-uA O h a k;let h<-iQ h a (.int k (O.int (.op .add k e d)))
   pure (.int k (O.int (.op .add k e d)),h)
  |.acquire,[.ptr (some _)]=>pure (cx,h)
  |.release,[.ptr (some _)]=>pure (cx,h)
  |.releaseMerge,[.ptr (some _)]=>pure (cx,h)
  |.k7,_=>pure (cx,h)
  |.typeOf,[.iface t _]=>match fi P (Extern.ReflectliteType.toType t)with
   |some v=>pure (ofValue v,h)
   |none=>.error "toType"
  |.typeOf,[.nilIface]=>pure (.nilIface,h)
  |.Mi,[x]=>unpackV? P h x
  |.abj,[x]=>do
   let(t,_,_)<-partsV? P x
   match fi P (Extern.ReflectliteType.toType t)with
   |some v=>pure (ofValue v,h)
   |none=>.error "toType"
  |.Rh,[x]=>xIsNil? P O h x
  |.abi,[x]=>xElem? P O h x
  |.aib,[v,x]=>xSet? P O h v x
  |_,_=>.error "entry arguments"
end
structure cn where
 i:Nat->Int
 p:Nat->Bool
 v:Nat->Value
 b:Nat->Nat
 bt:Option Nat×List Deferred:=(none,[])
def IE.ev(ρ:cn):IE->Int
 |.lit n=>n
 |.var i=>ρ.i i
 |.op o k a b=>o0 o k (a.ev ρ) (b.ev ρ)
 |.conv k a=>k.wrap (a.ev ρ)
 |.plus a b=>a.ev ρ+b.ev ρ
 |.times a b=>a.ev ρ*b.ev ρ
 |.tn a=>((a.ev ρ).toNat:Int)
def BE.ev(ρ:cn):BE->Bool
 |.lit b=>b
 |.var i=>ρ.p i
 |.cmp o a b=>G2 o (a.ev ρ) (b.ev ρ)
def BR.ev(ρ:cn):BR->Nat
 |.u1 g=>g
 |.cN i=>ρ.b i
def AA.ev(ρ:cn)(a:AA):Addr:=⟨a.kj.ev ρ,(a.off.ev ρ).toNat,none⟩
mutual
def AV.ev(ρ:cn):AV->Value
 |.bool b=>.bool (b.ev ρ)
 |.int k e=>.int k (e.ev ρ)
 |.str s=>.string s
 |.ptr a=>.pointer (a.map (AA.ev ρ))
 |.slice a l c=>.slice (a.map (AA.ev ρ)) (l.ev ρ).toNat (c.ev ρ).toNat
 |.map r=>.map (r.map (BR.ev ρ))
 |.chan r=>.chan (r.map (BR.ev ρ))
 |.func f x y=>.func f (AV.cf ρ x).toArray (AV.cf ρ y).toArray
 |.nilFunc=>.nilFunc
 |.iface t v=>.iface t (v.ev ρ)
 |.nilIface=>.nilIface
 |.agg x=>.agg (AV.cf ρ x).toArray
 |.tuple x=>.tuple (AV.cf ρ x).toArray
 |.ez i=>ρ.v i
 |.CM v=>v
def AV.cf(ρ:cn):List AV->List Value
 |[]=>[]
 |a::x=>a.ev ρ::AV.cf ρ x
end
theorem jT(ρ:cn):∀l,AV.cf ρ l=l.map (AV.ev ρ)
 |[]=>by simp[AV.cf]
 |a::l=>by simp[AV.cf,jT ρ l]
theorem IE.dG:∀{a b:IE},a.hZ b=true->a=b:=by
 intro a
 induction a with
 |lit n=>intro b h;cases b<;>simp_all [IE.hZ]
 |var n=>intro b h;cases b<;>simp_all [IE.hZ]
 |op o k x y ihx ihy=>intro b h;cases b<;>simp_all [IE.hZ];exact⟨ihx h.1.2,ihy h.2⟩
 |conv k x ih=>intro b h;cases b<;>simp_all [IE.hZ];exact ih h.2
 |plus x y ihx ihy=>intro b h;cases b<;>simp_all [IE.hZ];exact⟨ihx h.1,ihy h.2⟩
 |times x y ihx ihy=>intro b h;cases b<;>simp_all [IE.hZ];exact⟨ihx h.1,ihy h.2⟩
 |tn x ih=>intro b h;cases b<;>simp_all [IE.hZ];exact ih h
theorem BE.dG:∀{a b:BE},a.hZ b=true->a=b:=by intro a b h;cases a<;>cases b<;>simp_all [BE.hZ];exact⟨IE.dG h.1.2,IE.dG h.2⟩
theorem BR.dG:∀{a b:BR},a.hZ b=true->a=b:=by intro a b h;cases a<;>cases b<;>simp_all [BR.hZ]
theorem AA.dG:∀{a b:AA},a.hZ b=true->a=b:=by intro a b h;obtain⟨x,y⟩:=a;obtain⟨x',y'⟩:=b;simp[AA.hZ]at h;simp[BR.dG h.1,IE.dG h.2]
theorem qs{α:Type}{f:α->α->Bool}(hf:∀{a b},f a b=true->a=b):∀{a b:Option α},u2 f a b=true->a=b:=by intro a b h;cases a<;>cases b<;>simp_all [u2];exact hf h
mutual
theorem AV.dG:∀(a b:AV),a.hZ b=true->a=b
 |.bool x,b,h=>by cases b<;>simp_all [AV.hZ];exact BE.dG h
 |.int k x,b,h=>by cases b<;>simp_all [AV.hZ];exact IE.dG h.2
 |.str s,b,h=>by cases b<;>simp_all [AV.hZ];rename_i t;cases s;cases t;simp_all
 |.ptr a,b,h=>by cases b<;>simp_all [AV.hZ];exact qs AA.dG h
 |.slice a l c,b,h=>by cases b<;>simp_all [AV.hZ];exact⟨qs AA.dG h.1.1,IE.dG h.1.2,IE.dG h.2⟩
 |.map a,b,h=>by cases b<;>simp_all [AV.hZ];exact qs BR.dG h
 |.chan a,b,h=>by cases b<;>simp_all [AV.hZ];exact qs BR.dG h
 |.func f x y,b,h=>by cases b<;>simp_all [AV.hZ];exact⟨AV.nK _ _ h.1.2,AV.nK _ _ h.2⟩
 |.nilFunc,b,h=>by cases b<;>simp_all [AV.hZ]
 |.iface t v,b,h=>by cases b<;>simp_all [AV.hZ];exact AV.dG _ _ h.2
 |.nilIface,b,h=>by cases b<;>simp_all [AV.hZ]
 |.agg x,b,h=>by cases b<;>simp_all [AV.hZ];exact AV.nK _ _ h
 |.tuple x,b,h=>by cases b<;>simp_all [AV.hZ];exact AV.nK _ _ h
 |.ez i,b,h=>by cases b<;>simp_all [AV.hZ]
 |.CM v,b,h=>by cases b<;>simp_all [AV.hZ]
theorem AV.nK:∀(a b:List AV),AV.za a b=true->a=b
 |[],b,h=>by cases b<;>simp_all [AV.za]
 |a::x,b,h=>by cases b<;>simp_all [AV.za];exact⟨AV.dG _ _ h.1,AV.nK _ _ h.2⟩
end
theorem TT.dG:∀{a b:TT},a.hZ b=true->a=b:=by
 intro a
 induction a with
 |ju=>intro b h;cases b<;>simp_all [TT.hZ]
 |mM v l r ihl ihr=>intro b h;cases b<;>simp_all [TT.hZ];exact⟨AV.dG _ _ h.1.1,ihl h.1.2,ihr h.2⟩
theorem yB:∀{a b:List (AV×AV)},og a b=true->a=b:=by
 intro a
 induction a with
 |nil=>intro b h;cases b with
  |nil=>rfl
  |cons x l=>simp[og]at h
 |cons x l ih=>intro b h;cases b with
  |nil=>simp[og]at h
  |cons y m=>obtain⟨x1,x2⟩:=x;obtain⟨y1,y2⟩:=y;simp only[og,ax]at h;rw[AV.dG _ _ h.1.1,AV.dG _ _ h.1.2,ih h.2]
theorem yC:∀{a b:List (IE×AV)},oh a b=true->a=b:=by
 intro a
 induction a with
 |nil=>intro b h;cases b with
  |nil=>rfl
  |cons x l=>simp[oh]at h
 |cons x l ih=>intro b h;cases b with
  |nil=>simp[oh]at h
  |cons y m=>obtain⟨x1,x2⟩:=x;obtain⟨y1,y2⟩:=y;simp only[oh,ax]at h;rw[IE.dG h.1.1,AV.dG _ _ h.1.2,ih h.2]
theorem E0:∀{a b:List (AA×Option AV)},nX a b=true->a=b:=by
 intro a
 induction a with
 |nil=>intro b h;cases b with
  |nil=>rfl
  |cons x l=>simp[nX]at h
 |cons x l ih=>intro b h;cases b with
  |nil=>simp[nX]at h
  |cons y m=>obtain⟨x1,x2⟩:=x;obtain⟨y1,y2⟩:=y;simp only[nX,ax]at h;rw[AA.dG h.1.1,qs (fun h=>AV.dG _ _ h) h.1.2,ih h.2]
theorem bM.dG:∀{a b:bM},a.hZ b=true->a=b:=by
 intro a b h;cases a<;>cases b<;>simp_all [bM.hZ]
 ·exact AV.nK _ _ h.1
 ·exact⟨AV.nK _ _ h.1.1,IE.dG h.2⟩
 ·exact AV.nK _ _ h.1.1
 ·exact yB h
 ·obtain⟨⟨⟨h1,h2⟩,h3⟩,h4⟩:=h;exact⟨IE.dG h2,E0 h3,yB h4⟩
 ·obtain⟨⟨⟨⟨⟨⟨h1,h2⟩,h3⟩,h4⟩,h5⟩,h6⟩,h7⟩:=h;exact⟨IE.dG h2,yC h3,yC h4,AV.nK _ _ h5,IE.dG h7⟩
theorem G4:∀{a b:List (Nat×bM)},Am a b=true->a=b:=by
 intro a
 induction a with
 |nil=>intro b h;cases b<;>simp_all [Am]
 |cons p l ih=>
  intro b h;cases b with
  |nil=>simp[Am]at h
  |cons q m=>obtain⟨i,x⟩:=p;obtain⟨j,y⟩:=q;simp[Am,Nat.beq_eq]at h;obtain⟨⟨rfl,h2⟩,h3⟩:=h;rw[bM.dG h2,ih h3]
@[simp] theorem TT.aie(n:Nat):TT.ju.get n=cx:=rfl
@[simp] theorem TT.Wu(v:AV)(l r:TT):(TT.mM v l r).get 0=v:=rfl
theorem TT.jl(v:AV)(l r:TT)(m:Nat):(TT.mM v l r).get (m+1)=if m % 2=0 then r.get (m / 2)else l.get (m / 2):=by
 show(Bool.rec (motive:=fun _=>AV) (l.get (m / 2)) (r.get (m / 2)) (Nat.beq (m % 2) 0))=_;by_cases h:m % 2=0
 ·simp[h]
 ·simp only[if_neg h];have:Nat.beq (m % 2) 0=false:=by
   cases hb:Nat.beq (m % 2) 0 with
   |false=>rfl
   |true=>exact absurd (aI hb) h
  rw[this]
theorem TT.u9(v:AV)(f:Nat):TT.set v (f+1) .ju 0=.mM v .ju .ju:=rfl
theorem TT.u_(v u:AV)(f:Nat)(l r:TT):TT.set v (f+1) (.mM u l r) 0=.mM v l r:=rfl
theorem Mk(m:Nat)(h:¬m % 2=0):Nat.beq (m % 2) 0=false:=by
 cases hb:Nat.beq (m % 2) 0 with
 |false=>rfl
 |true=>exact absurd (aI hb) h
theorem TT.va(v:AV)(f m:Nat):TT.set v (f+1) .ju (m+1)=if m % 2=0 then .mM cx .ju (TT.set v f .ju (m / 2))else .mM cx (TT.set v f .ju (m / 2)) .ju:=by
 show Bool.rec (motive:=fun _=>TT) (TT.mM cx (TT.set v f .ju (m / 2)) .ju) (TT.mM cx .ju (TT.set v f .ju (m / 2))) (Nat.beq (m % 2) 0)=_;by_cases h:m % 2=0
 ·simp[h]
 ·rw[Mk m h,if_neg h]
theorem TT.vb(v u:AV)(f m:Nat)(l r:TT):TT.set v (f+1) (.mM u l r) (m+1)=if m % 2=0 then .mM u l (TT.set v f r (m / 2))else .mM u (TT.set v f l (m / 2)) r:=by
 show Bool.rec (motive:=fun _=>TT) (TT.mM u (TT.set v f l (m / 2)) r) (TT.mM u l (TT.set v f r (m / 2))) (Nat.beq (m % 2) 0)=_;by_cases h:m % 2=0
 ·simp[h]
 ·rw[Mk m h,if_neg h]
theorem TT.v6(v:AV):∀(f:Nat) (t:TT) (n m:Nat),n+1<2 ^ f->(TT.set v f t n).get m=if m=n then v else t.get m:=by
 intro f
 induction f with
 |zero=>intro t n m h;simp at h
 |succ f ih=>
  intro t n m h;have awo:2 ^ (f+1)=2*2 ^ f:=by rw[Nat.pow_succ,Nat.mul_comm]
  cases t with
  |ju=>
   cases n with
   |zero=>
    rw[TT.u9];cases m with
    |zero=>simp
    |succ m=>simp[TT.jl]
   |succ n=>
    have h':n / 2+1<2 ^ f:=by omega
    rw[TT.va];cases m with
    |zero=>split<;>simp
    |succ m=>
     split<;>rename_i hn<;>rw[TT.jl]<;>split<;>rename_i hm
     ·rw[ih _ _ _ h'];by_cases e:m=n
      ·subst e;simp
      ·have:¬m / 2=n / 2:=by omega
       simp[this,e]
     ·have:¬m=n:=by omega
      simp[this]
     ·have:¬m=n:=by omega
      simp[this]
     ·rw[ih _ _ _ h'];by_cases e:m=n
      ·subst e;simp
      ·have:¬m / 2=n / 2:=by omega
       simp[this,e]
  |mM u l r=>
   cases n with
   |zero=>
    rw[TT.u_];cases m with
    |zero=>simp
    |succ m=>simp[TT.jl]
   |succ n=>
    have h':n / 2+1<2 ^ f:=by omega
    rw[TT.vb];cases m with
    |zero=>split<;>simp
    |succ m=>
     split<;>rename_i hn<;>rw[TT.jl,TT.jl]<;>split<;>rename_i hm
     ·rw[ih _ _ _ h'];by_cases e:m=n
      ·subst e;simp
      ·have:¬m / 2=n / 2:=by omega
       simp[this,e]
     ·have:¬m=n:=by omega
      simp[this]
     ·have:¬m=n:=by omega
      simp[this]
     ·rw[ih _ _ _ h'];by_cases e:m=n
      ·subst e;simp
      ·have:¬m / 2=n / 2:=by omega
       simp[this,e]
theorem TT.v7:∀(l:List AV) (n:Nat) (t:TT) (m:Nat),n+l.length≤60000->(TT.fill l n t).get m=if n≤m∧m<n+l.length then l.getD (m-n) cx else t.get m:=by
 intro l
 induction l with
 |nil=>intro n t m _;simp[TT.fill];intro h;omega
 |cons v l ih=>
  intro n t m h;simp only[bd]at h;rw[TT.fill,ih (n+1) _ m (by omega),TT.v6 v 16 t n m (by omega)];by_cases h1:n+1≤m∧m<n+1+l.length
  ·rw[if_pos h1,if_pos (by simp only[bd];omega)];have:m-n=(m-(n+1))+1:=by omega
   rw[this];simp
  ·rw[if_neg h1];by_cases h2:m=n
   ·subst h2;simp
   ·rw[if_neg h2,if_neg (by simp only[bd];omega)]
theorem tU(i:Nat):cV i []=none:=rfl
theorem fo(i j:Nat)(b:bM)(l:List (Nat×bM)):cV i ((j,b)::l)=if i=j then some b else cV i l:=by
 show Bool.rec (motive:=fun _=>Option bM) (cV i l) (some b) (Nat.beq i j)=_;by_cases h:i=j
 ·subst h;simp
 ·have:Nat.beq i j=false:=by
   cases hb:Nat.beq i j with
   |false=>rfl
   |true=>exact absurd (aI hb) h
  rw[this,if_neg h]
theorem Dx(i j:Nat)(b c:bM)(l:List (Nat×bM)):Aj i b ((j,c)::l)=if i=j then(j,b)::l else(j,c)::Aj i b l:=by
 show Bool.rec (motive:=fun _=>List (Nat×bM)) ((j,c)::Aj i b l) ((j,b)::l) (Nat.beq i j)=_;by_cases h:i=j
 ·subst h;simp
 ·have:Nat.beq i j=false:=by
   cases hb:Nat.beq i j with
   |false=>rfl
   |true=>exact absurd (aI hb) h
  rw[this,if_neg h]
theorem Ao(i j:Nat)(c:bM)(l:List (Nat×bM)):j8 i ((j,c)::l)=if i=j then l else(j,c)::j8 i l:=by
 show Bool.rec (motive:=fun _=>List (Nat×bM)) ((j,c)::j8 i l) l (Nat.beq i j)=_;by_cases h:i=j
 ·subst h;simp
 ·have:Nat.beq i j=false:=by
   cases hb:Nat.beq i j with
   |false=>rfl
   |true=>exact absurd (aI hb) h
  rw[this,if_neg h]
theorem Dy(i j:Nat)(b c:bM)(l:List (Nat×bM)):u6 i b ((j,c)::l)=if j<i then(i,b)::(j,c)::l else(j,c)::u6 i b l:=by
 show Bool.rec (motive:=fun _=>List (Nat×bM)) ((j,c)::u6 i b l) ((i,b)::(j,c)::l) (Nat.ble (j+1) i)=_;by_cases h:j<i
 ·have:Nat.ble (j+1) i=true:=Nat.ble_eq_true_of_le h;rw[this,if_pos h]
 ·have:Nat.ble (j+1) i=false:=by
   cases hb:Nat.ble (j+1) i with
   |false=>rfl
   |true=>exact absurd (Nat.le_of_ble_eq_true hb) h
  rw[this,if_neg h]
def keys(l:List (Nat×bM)):List Nat:=l.map (·.1)
theorem eJ(i j:Nat)(b:bM):∀l,cV j (Aj i b l)=if j=i then(cV i l).map (fun _=>b)else cV j l
 |[]=>by simp[Aj,tU]
 |(k,c)::l=>by
  rw[Dx];split
  ·rename_i h;subst h;rw[fo,fo,fo];split
   ·rename_i h;subst h;simp
   ·rename_i h;simp
  ·rename_i h;rw[fo,eJ i j b l,fo,fo,if_neg h];by_cases e:j=k
   ·subst e;rw[if_pos rfl,if_neg (fun e=>h e.symm)];simp
   ·simp[e]
theorem Ap{i:Nat}:∀{l:List (Nat×bM)},i∉keys l->cV i l=none
 |[],_=>rfl
 |(j,b)::l,h=>by simp[keys]at h;rw[fo,if_neg h.1];exact Ap (by simp[keys];exact h.2)
theorem nY{i:Nat}{b:bM}:∀{l:List (Nat×bM)},cV i l=some b->i∈keys l
 |[],h=>by simp[tU]at h
 |(j,c)::l,h=>by
  rw[fo]at h;split at h
  ·rename_i e;subst e;simp[keys]
  ·have:=nY h;simp[keys]at this⊢;exact .inr this
theorem ma(i j:Nat)(b:bM):∀l,i∉keys l->cV j (u6 i b l)=if j=i then some b else cV j l
 |[],_=>by show cV j [(i,b)]=_;rw[fo,tU]
 |(k,c)::l,h=>by
  simp[keys]at h;rw[Dy];split
  ·rw[fo]
  ·rw[fo,ma i j b l (by simp[keys];exact h.2),fo];by_cases e:j=k
   ·subst e;rw[if_pos rfl,if_neg (fun e=>h.1 e.symm),if_pos rfl]
   ·rw[if_neg e,if_neg e]
theorem xG(i:Nat)(b:bM):∀l,(keys (u6 i b l)).Perm (i::keys l)
 |[]=>by show(keys [(i,b)]).Perm _;simp[keys]
 |(k,c)::l=>by
  rw[Dy];split
  ·simp[keys]
  ·have:=xG i b l;simp only[keys,ah]at this⊢;exact(List.Perm.cons k this).trans (List.Perm.swap i k _)
theorem jU(i:Nat)(b:bM):∀l,keys (Aj i b l)=keys l
 |[]=>rfl
 |(k,c)::l=>by
  rw[Dx];split
  ·simp[keys]
  ·have:=jU i b l;simp only[keys,ah]at this⊢;rw[this]
theorem jy(i j:Nat):∀l,(keys l).Nodup->cV j (j8 i l)=if j=i then none else cV j l
 |[],_=>by simp[j8,tU]
 |(k,c)::l,h=>by
  simp only[keys,ah,bC]at h;rw[Ao];split
  ·rename_i e;subst e;rw[fo];split
   ·rename_i e;subst e;exact Ap h.1
   ·rfl
  ·rename_i e;rw[fo,jy i j l h.2,fo];by_cases e':j=k
   ·subst e';rw[if_pos rfl,if_neg (fun x=>e x.symm),if_pos rfl]
   ·rw[if_neg e',if_neg e']
theorem ot(i:Nat):∀l,(keys (j8 i l)).Sublist (keys l)
 |[]=>List.Sublist.refl _
 |(k,c)::l=>by
  rw[Ao];split
  ·simp[keys]
  ·have:=ot i l;simp only[keys,ah]at this⊢;exact this.cons_cons k
theorem iv{α β:Type}{eq:α->α->Bool}{a:α}{y:β}:∀{l:List (α×β)},look eq a l=some y->∃x,(x,y)∈l∧eq a x=true
 |[],h=>by simp[look]at h
 |(x,z)::l,h=>by
  have h':(Bool.rec (look eq a l) (some z) (eq a x):Option β)=some y:=h;cases e:eq a x with
  |true=>rw[e]at h';simp at h';subst h';exact⟨x,by simp,e⟩
  |false=>rw[e]at h';obtain⟨x',hm,he⟩:=iv (l:=l) h';exact⟨x',am _ hm,he⟩
def wq{α:Type}(P:Program)(Ev:Event->Prop)(E:Value->World->Prop):Sem α->(α->World->Prop)->World->Prop
 |.pure a,Q,w=>Q a w
 |.load m a k,Q,w=>∃v,w.cell? a=some v∧Ev ⟨.cell a,false,m==.atomic⟩∧wq P Ev E (k v) Q w
 |.store m a v k,Q,w=>v.oneCell'=true∧(∃u,w.cell? a=some u)∧w.frozen? a=false∧Ev ⟨.cell a,true,m==.atomic⟩∧wq P Ev E k Q (w.setCell a v)
 |.new o k,Q,w=>wq P Ev E (k w.heap.size) Q {w with heap:=w.heap.push o}
 |.shape r k,Q,w=>wq P Ev E (k (w.shape? r)) Q w
 |.freeze _ _ _,_,_=>False
 |.frozen a k,Q,w=>wq P Ev E (k (w.frozen? a)) Q w
 |.getObj r k,Q,w=>∃o,w.heap[r]?=some o∧(∀c e f,o≠.cells c e f)∧Ev ⟨.obj r,false,o.isChan⟩∧wq P Ev E (k o) Q w
 |.setObj r o k,Q,w=>(∃o',w.heap[r]?=some o'∧∀c e f,o'≠.cells c e f)∧Ev ⟨.obj r,true,o.isChan⟩∧wq P Ev E k Q {w with heap:=w.heap.setIfInBounds r o}
 |.choose q k,Q,w=>if q.forced then wq P Ev E (k 0) Q w else ∀n,wq P Ev E (k (q.cut n)) Q {w with drawn:=w.drawn+1}
 |.sys _ _,_,_=>False
 |.program k,Q,w=>wq P Ev E (k P) Q w
 |.mark m k,Q,w=>Ev ⟨.mark m,false,true⟩∧wq P Ev E k Q w
 |.halt (.panic v),_,w=>E v w
 |.halt _,_,_=>False
def _root_.Go.Result.goes{α:Type}(Q:α->World->Prop)(E:Value->World->Prop):Result α->Prop
 |.ok a w=>Q a w
 |.halt (.panic v) w=>E v w
 |.halt _ _=>False
section
variable {α β:Type}{P:Program}{Ev:Event->Prop}{E:Value->World->Prop}
theorem Ri(s:Sem α):∀{Q:α->World->Prop} {w:World} (es:Array Event),wq P Ev E s Q w->(∀e∈es,Ev e)->(s.runT P w es).1.goes Q E∧∀e∈(s.runT P w es).2,Ev e:=by
 have push:∀(es:Array Event) (x:Event),(∀e∈es,Ev e)->Ev x->∀e∈es.push x,Ev e:=fun es x h hx e he=>by
  rcases Array.mem_push.1 he with h'|rfl
  ·exact h _ h'
  ·exact hx
 induction s with
 |pure a=>intro Q w es h he;exact⟨h,he⟩
 |load m a k ih=>intro Q w es h he;obtain⟨v,hc,hv,hk⟩:=h;simp only[Sem.runT,hc];exact ih v _ hk (push _ _ he hv)
 |store m a v k ih=>
  intro Q w es h he;obtain⟨h1,⟨u,hu⟩,hf,hv,hk⟩:=h;cases v<;>first
   |(simp[Value.oneCell']at h1;done)
   |(simp only[Sem.runT,hu,hf,aR,if_false];exact ih _ hk (push _ _ he hv))
 |new o k ih=>intro Q w es h he;simp only[Sem.runT];exact ih _ _ h he
 |shape r k ih=>intro Q w es h he;simp only[Sem.runT];exact ih _ _ h he
 |freeze a n k ih=>intro Q w es h he;exact h.elim
 |frozen a k ih=>intro Q w es h he;simp only[Sem.runT];exact ih _ _ h he
 |getObj r k ih=>
  intro Q w es h he;obtain⟨o,ho,hn,hv,hk⟩:=h;simp only[Sem.runT,ho];cases o<;>first
   |exact absurd rfl (hn _ _ _)
   |exact ih _ _ hk (push _ _ he hv)
 |setObj r o k ih=>
  intro Q w es h he;obtain⟨⟨o',ho,hn⟩,hv,hk⟩:=h;simp only[Sem.runT,ho];cases o'<;>first
   |exact absurd rfl (hn _ _ _)
   |exact ih _ hk (push _ _ he hv)
 |choose q k ih=>
  intro Q w es h he;simp only[wq]at h;simp only[Sem.runT];split at h
  ·rename_i hq;rw[if_pos hq];exact ih _ _ h he
  ·rename_i hq;rw[if_neg hq];exact ih _ _ (h _) he
 |sys c k ih=>intro Q w es h he;exact h.elim
 |program k ih=>intro Q w es h he;simp only[Sem.runT];exact ih _ _ h he
 |mark m k ih=>intro Q w es h he;simp only[Sem.runT];exact ih _ h.2 (push _ _ he h.1)
 |halt x=>
  intro Q w es h he;cases x<;>first
   |exact⟨h,he⟩
   |exact(show False from h).elim
theorem ou{s:Sem α}{Q:α->World->Prop}{w:World}(h:wq P Ev E s Q w):(s.run P w).goes Q E∧∀e∈s.events P w #[],Ev e:=by have:=Ri s #[] h (by simp);rw[Sem.runT_fst]at this;exact this
theorem G5(x:Sem α)(f:α->Sem β){Q:β->World->Prop}:∀{w:World},wq P Ev E (x.bind f) Q w↔wq P Ev E x (fun a w=>wq P Ev E (f a) Q w) w:=by
 induction x with
 |pure a=>intro w;exact Iff.rfl
 |load m a k ih=>intro w;simp only[Sem.bind,wq,ih]
 |store m a v k ih=>intro w;simp only[Sem.bind,wq,ih]
 |new o k ih=>intro w;simp only[Sem.bind,wq,ih]
 |shape r k ih=>intro w;simp only[Sem.bind,wq,ih]
 |freeze a n k ih=>intro w;simp only[Sem.bind,wq]
 |frozen a k ih=>intro w;simp only[Sem.bind,wq,ih]
 |getObj r k ih=>intro w;simp only[Sem.bind,wq,ih]
 |setObj r o k ih=>intro w;simp only[Sem.bind,wq,ih]
 |choose q k ih=>intro w;simp only[Sem.bind,wq,ih]
 |sys c k ih=>intro w;simp only[Sem.bind,wq]
 |program k ih=>intro w;simp only[Sem.bind,wq,ih]
 |mark m k ih=>intro w;simp only[Sem.bind,wq,ih]
 |halt h=>intro w;cases h<;>simp only[Sem.bind,wq]
@[simp] theorem bG(x:Sem α)(f:α->Sem β){Q:β->World->Prop}{w:World}:wq P Ev E (x>>= f) Q w↔wq P Ev E x (fun a w=>wq P Ev E (f a) Q w) w:=G5 x f
@[simp] theorem Rj(x:Sem α)(f:α->β){Q:β->World->Prop}{w:World}:wq P Ev E (f<$>x) Q w↔wq P Ev E x (fun a w=>Q (f a) w) w:=G5 x _
@[simp] theorem bO(a:α){Q:α->World->Prop}{w:World}:wq P Ev E (Pure.pure a) Q w↔Q a w:=Iff.rfl
@[simp] theorem aif(a:α){Q:α->World->Prop}{w:World}:wq P Ev E (Sem.pure a) Q w↔Q a w:=Iff.rfl
@[simp] theorem jz{Q:Program->World->Prop}{w:World}:wq P Ev E program Q w↔Q P w:=Iff.rfl
@[simp] theorem jV(o:Obj){Q:Nat->World->Prop}{w:World}:wq P Ev E (newObj o) Q w↔Q w.heap.size {w with heap:=w.heap.push o}:=Iff.rfl
@[simp] theorem v8(r:Nat){Q:Option (TypeId×Nat)->World->Prop}{w:World}:wq P Ev E (shape r) Q w↔Q (w.shape? r) w:=Iff.rfl
@[simp] theorem qt(a:Addr){Q:Bool->World->Prop}{w:World}:wq P Ev E (frozen a) Q w↔Q (w.frozen? a) w:=Iff.rfl
@[simp] theorem pp(m:Mark){Q:Unit->World->Prop}{w:World}:wq P Ev E (mark m) Q w↔Ev ⟨.mark m,false,true⟩∧Q () w:=Iff.rfl
@[simp] theorem JN(v:Value){Q:α->World->Prop}{w:World}:wq P Ev E (goPanic v) Q w↔E v w:=Iff.rfl
theorem v9(a:Addr)(m:Mode){Q:Value->World->Prop}{w:World}:wq P Ev E (load a m) Q w↔∃v,w.cell? a=some v∧Ev ⟨.cell a,false,m==.atomic⟩∧Q v w:=Iff.rfl
theorem v_(a:Addr)(v:Value)(m:Mode){Q:Unit->World->Prop}{w:World}:
 wq P Ev E (store a v m) Q w↔v.oneCell'=true∧(∃u,w.cell? a=some u)∧w.frozen? a=false∧Ev ⟨.cell a,true,m==.atomic⟩∧Q () (w.setCell a v):=Iff.rfl
theorem tV(q:Question){Q:Nat->World->Prop}{w:World}:wq P Ev E (choose q) Q w↔if q.forced then Q 0 w else ∀n,Q (q.cut n) {w with drawn:=w.drawn+1}:=Iff.rfl
@[simp] theorem iF(c:Prop)[Decidable c](x y:Sem α){Q:α->World->Prop}{w:World}:wq P Ev E (if c then x else y) Q w↔if c then wq P Ev E x Q w else wq P Ev E y Q w:=by split<;>exact Iff.rfl
theorem WQ{s:Sem α}{Q Q':α->World->Prop}{E':Value->World->Prop}(hE:∀v w,E v w->E' v w)(hQ:∀a w,Q a w->Q' a w):∀{w:World},wq P Ev E s Q w->wq P Ev E' s Q' w:=by
 induction s with
 |pure a=>intro w h;exact hQ _ _ h
 |load m a k ih=>intro w h;obtain⟨v,h1,h2,h3⟩:=h;exact⟨v,h1,h2,ih _ h3⟩
 |store m a v k ih=>intro w h;obtain⟨h1,h2,h3,h4,h5⟩:=h;exact⟨h1,h2,h3,h4,ih h5⟩
 |new o k ih=>intro w h;exact ih _ h
 |shape r k ih=>intro w h;exact ih _ h
 |freeze a n k ih=>intro w h;exact h
 |frozen a k ih=>intro w h;exact ih _ h
 |getObj r k ih=>intro w h;obtain⟨o,h1,h2,h3,h4⟩:=h;exact⟨o,h1,h2,h3,ih _ h4⟩
 |setObj r o k ih=>intro w h;obtain⟨h1,h2,h3⟩:=h;exact⟨h1,h2,ih h3⟩
 |choose q k ih=>
  intro w h;simp only[wq]at h⊢;split
  ·rename_i hq;rw[if_pos hq]at h;exact ih _ h
  ·rename_i hq;rw[if_neg hq]at h;exact fun n=>ih _ (h n)
 |sys c k ih=>intro w h;exact h
 |program k ih=>intro w h;exact ih _ h
 |mark m k ih=>intro w h;exact⟨h.1,ih h.2⟩
 |halt h=>intro w hh;cases h<;>first|exact hE _ _ hh|exact hh
theorem dZ{t:TypeId}{i:TypeInfo}(h:P.info? t=some i){Q:TypeInfo->World->Prop}{w:World}:wq P Ev E (typeInfo t) Q w↔Q i w:=by simp[typeInfo,h]
theorem b_{t:TypeId}{d:TypeDesc}(h:P.underlying t=some d){Q:TypeDesc->World->Prop}{w:World}:wq P Ev E (underlying t) Q w↔Q d w:=by simp[underlying,h]
theorem iG{s:Sem α}:∀{a:α},fi P s=some a->∀{Q:α->World->Prop} {w:World},Q a w->wq P Ev E s Q w:=by
 induction s with
 |pure b=>intro a h Q w hq;simp[fi]at h;subst h;exact hq
 |program k ih=>intro a h Q w hq;exact ih P h hq
 |_=>intro a h;simp[fi]at h
end
theorem ow{P:Program}{t:TypeId}{n:Nat}(h:sizeOf? P t=.ok n):∃i,P.info? t=some i∧i.size=n:=by
 unfold sizeOf? at h;split at h
 ·rename_i i hi;exact⟨i,hi,by simpa using h⟩
 ·cases h
theorem dT{P:Program}{t:TypeId}{d:TypeDesc}(h:under? P t=.ok d):P.underlying t=some d:=by
 unfold under? at h;split at h
 ·rename_i i hi;rw[hi];simpa using h
 ·cases h
theorem d3{P:Program}{Ev:Event->Prop}{E:Value->World->Prop}{t:TypeId}{n:Nat}(h:sizeOf? P t=.ok n){Q:Nat->World->Prop}{w:World}:wq P Ev E (sizeOf t) Q w↔Q n w:=by obtain⟨i,hi,rfl⟩:=ow h;simp[sizeOf,dZ hi]
theorem G6{P:Program}{Ev:Event->Prop}{E:Value->World->Prop}{t:TypeId}{b:Bool}(h:isAgg? P t=.ok b){Q:Bool->World->Prop}{w:World}:wq P Ev E (isAgg t) Q w↔Q b w:=by
 unfold isAgg? at h;split at h
 ·rename_i hu;cases h;simp[isAgg,b_ hu]
 ·rename_i hu;cases h;simp[isAgg,b_ hu]
 ·rename_i d h1 h2 hu;cases h;simp only[isAgg,bG,b_ hu];cases d<;>first
   |exact absurd hu (h1 _)
   |exact absurd hu (h2 _ _)
   |exact Iff.rfl
 ·cases h
section
def IE.In(U:Nat->Prop):IE->Prop
 |.lit _=>True
 |.var i=>U i
 |.op _ _ a b=>a.In U∧b.In U
 |.conv _ a=>a.In U
 |.plus a b=>a.In U∧b.In U
 |.times a b=>a.In U∧b.In U
 |.tn a=>a.In U
def BE.In(U:Nat->Prop):BE->Prop
 |.lit _=>True
 |.var _=>True
 |.cmp _ a b=>a.In U∧b.In U
def BR.In(U:Nat->Prop):BR->Prop
 |.u1 _=>True
 |.cN i=>U i
def AA.In(U:Nat->Prop)(a:AA):Prop:=a.kj.In U∧a.off.In U
def nC{α:Type}(f:α->Prop):Option α->Prop
 |none=>True
 |some a=>f a
mutual
def AV.In(U:Nat->Prop):AV->Prop
 |.bool b=>b.In U
 |.int _ e=>e.In U
 |.ptr a=>nC (AA.In U) a
 |.slice a l c=>nC (AA.In U) a∧l.In U∧c.In U
 |.map r=>nC (BR.In U) r
 |.chan r=>nC (BR.In U) r
 |.func _ x y=>AV.iB U x∧AV.iB U y
 |.iface _ v=>v.In U
 |.agg x=>AV.iB U x
 |.tuple x=>AV.iB U x
 |.str _=>True
 |.nilFunc=>True
 |.nilIface=>True
 |.ez _=>True
 |.CM _=>True
def AV.iB(U:Nat->Prop):List AV->Prop
 |[]=>True
 |a::x=>a.In U∧AV.iB U x
end
def bM.In(U:Nat->Prop):bM->Prop
 |.cells cs _=>AV.iB U cs
 |.row cs _ c=>AV.iB U cs∧c.In U
 |.fT cs _ _=>AV.iB U cs
 |.map es=>∀p∈es,p.1.In U∧p.2.In U
 |.chan=>True
 |.iY _ n fs ws=>n.In U∧(∀p∈fs,p.1.In U∧nC (AV.In U) p.2)∧∀p∈ws,p.1.In U∧p.2.In U
 |.cH _ _ n fs ws cs _ c=>n.In U∧(∀p∈fs,p.1.In U∧p.2.In U)∧(∀p∈ws,p.1.In U∧p.2.In U)∧AV.iB U cs∧c.In U
def TT.In(U:Nat->Prop)(t:TT):Prop:=∀n,(t.get n).In U
structure dP.In(U:Nat->Prop)(O:dP):Prop where
 bs:∀p∈O.bs,p.1.In U
 is:∀p∈O.is,p.1.In U∧p.2.In U
 mem:∀p∈O.mem,p.1.In U∧p.2.In U
theorem dg{U:Nat->Prop}:∀{l:List AV},AV.iB U l↔∀a∈l,a.In U
 |[]=>by simp[AV.iB]
 |a::l=>by simp[AV.iB,dg (l:=l)]
structure cz(U:Nat->Prop)(ρ bL:cn):Prop where
 p:bL.p=ρ.p
 v:bL.v=ρ.v
 bt:bL.bt=ρ.bt
 i:∀n,U n->bL.i n=ρ.i n
 b:∀n,U n->bL.b n=ρ.b n
theorem cz.ii{U:Nat->Prop}{ρ bL:cn}(A:cz U ρ bL)(n:Nat)(h:U n:=by decide):bL.i n=ρ.i n:=A.i n h
theorem cz.bb{U:Nat->Prop}{ρ bL:cn}(A:cz U ρ bL)(n:Nat)(h:U n:=by decide):bL.b n=ρ.b n:=A.b n h
theorem cz.refl(U:Nat->Prop)(ρ:cn):cz U ρ ρ:=⟨rfl,rfl,rfl,fun _ _=>rfl,fun _ _=>rfl⟩
theorem cz.trans{U U':Nat->Prop}{ρ bL CO:cn}(h:cz U ρ bL)(h':cz U' bL CO)(hs:∀n,U n->U' n):cz U ρ CO:=
 ⟨h'.p.trans h.p,h'.v.trans h.v,h'.bt.trans h.bt,fun n hn=>(h'.i n (hs n hn)).trans (h.i n hn),fun n hn=>(h'.b n (hs n hn)).trans (h.b n hn)⟩
theorem cz.mono{U U':Nat->Prop}{ρ bL:cn}(h:cz U' ρ bL)(hs:∀n,U n->U' n):cz U ρ bL:=
 ⟨h.p,h.v,h.bt,fun n hn=>h.i n (hs n hn),fun n hn=>h.b n (hs n hn)⟩
section
variable {U:Nat->Prop}{ρ bL:cn}
theorem IE.cu(h:cz U ρ bL):∀{e:IE},e.In U->e.ev bL=e.ev ρ:=by
 intro e
 induction e with
 |lit n=>intro _;rfl
 |var i=>intro hi;exact h.i i hi
 |op o k a b E5 GU=>intro hi;simp only[IE.ev];rw[E5 hi.1,GU hi.2]
 |conv k a ih=>intro hi;simp only[IE.ev];rw[ih hi]
 |plus a b E5 GU=>intro hi;simp only[IE.ev];rw[E5 hi.1,GU hi.2]
 |times a b E5 GU=>intro hi;simp only[IE.ev];rw[E5 hi.1,GU hi.2]
 |tn a ih=>intro hi;simp only[IE.ev];rw[ih hi]
theorem BE.cu(h:cz U ρ bL){e:BE}(hi:e.In U):e.ev bL=e.ev ρ:=by
 cases e with
 |lit b=>rfl
 |var i=>simp[BE.ev,h.p]
 |cmp o a b=>simp only[BE.ev];rw[IE.cu h hi.1,IE.cu h hi.2]
theorem BR.cu(h:cz U ρ bL){e:BR}(hi:e.In U):e.ev bL=e.ev ρ:=by
 cases e with
 |u1 g=>rfl
 |cN i=>exact h.b i hi
theorem AA.cu(h:cz U ρ bL){e:AA}(hi:e.In U):e.ev bL=e.ev ρ:=by simp only[AA.ev,BR.cu h hi.1,IE.cu h hi.2]
theorem tW{α β:Type}{f g:α->β}{I:α->Prop}(hf:∀{a},I a->f a=g a):∀{o:Option α},nC I o->o.map f=o.map g
 |none,_=>rfl
 |some a,h=>by simp[hf h]
mutual
theorem AV.cu(h:cz U ρ bL):∀(a:AV),a.In U->a.ev bL=a.ev ρ
 |.bool b,hi=>by simp only[AV.ev,BE.cu h hi]
 |.int k e,hi=>by simp only[AV.ev,IE.cu h hi]
 |.str s,_=>rfl
 |.ptr a,hi=>by simp only[AV.ev];rw[tW (fun x=>AA.cu h x) hi]
 |.slice a l c,hi=>by simp only[AV.ev];rw[tW (fun x=>AA.cu h x) hi.1,IE.cu h hi.2.1,IE.cu h hi.2.2]
 |.map r,hi=>by simp only[AV.ev];rw[tW (fun x=>BR.cu h x) hi]
 |.chan r,hi=>by simp only[AV.ev];rw[tW (fun x=>BR.cu h x) hi]
 |.func f x y,hi=>by simp only[AV.ev];rw[AV.f8 h x hi.1,AV.f8 h y hi.2]
 |.nilFunc,_=>rfl
 |.iface t v,hi=>by simp only[AV.ev];rw[AV.cu h v hi]
 |.nilIface,_=>rfl
 |.agg x,hi=>by simp only[AV.ev];rw[AV.f8 h x hi]
 |.tuple x,hi=>by simp only[AV.ev];rw[AV.f8 h x hi]
 |.ez i,_=>by simp only[AV.ev,h.v]
 |.CM v,_=>rfl
theorem AV.f8(h:cz U ρ bL):∀(l:List AV),AV.iB U l->AV.cf bL l=AV.cf ρ l
 |[],_=>rfl
 |a::l,hi=>by simp only[AV.cf];rw[AV.cu h a hi.1,AV.f8 h l hi.2]
end
end
section
variable {U U':Nat->Prop}(hs:∀n,U n->U' n)
 include hs
theorem IE.In.mono:∀{e:IE},e.In U->e.In U':=by
 intro e
 induction e with
 |lit n=>intro _;trivial
 |var i=>exact hs i
 |op o k a b E5 GU=>exact fun h=>⟨E5 h.1,GU h.2⟩
 |conv k a ih=>exact ih
 |plus a b E5 GU=>exact fun h=>⟨E5 h.1,GU h.2⟩
 |times a b E5 GU=>exact fun h=>⟨E5 h.1,GU h.2⟩
 |tn a ih=>exact ih
theorem BE.In.mono{e:BE}(h:e.In U):e.In U':=by
 cases e with
 |cmp o a b=>exact⟨IE.In.mono hs h.1,IE.In.mono hs h.2⟩
 |_=>trivial
theorem BR.In.mono{e:BR}(h:e.In U):e.In U':=by
 cases e with
 |u1 g=>trivial
 |cN i=>exact hs i h
theorem AA.In.mono{e:AA}(h:e.In U):e.In U':=⟨BR.In.mono hs h.1,IE.In.mono hs h.2⟩
theorem nC.mono{α:Type}{f g:α->Prop}(hf:∀{a},f a->g a):∀{o:Option α},nC f o->nC g o
 |none,_=>trivial
 |some _,h=>hf h
mutual
theorem AV.In.mono:∀(a:AV),a.In U->a.In U'
 |.bool _,h=>BE.In.mono hs h
 |.int _ _,h=>IE.In.mono hs h
 |.str _,_=>trivial
 |.ptr _,h=>nC.mono hs (fun x=>AA.In.mono hs x) h
 |.slice _ _ _,h=>⟨nC.mono hs (fun x=>AA.In.mono hs x) h.1,IE.In.mono hs h.2.1,IE.In.mono hs h.2.2⟩
 |.map _,h=>nC.mono hs (fun x=>BR.In.mono hs x) h
 |.chan _,h=>nC.mono hs (fun x=>BR.In.mono hs x) h
 |.func _ x y,h=>⟨AV.iB.mono x h.1,AV.iB.mono y h.2⟩
 |.nilFunc,_=>trivial
 |.iface _ v,h=>AV.In.mono v h
 |.nilIface,_=>trivial
 |.agg x,h=>AV.iB.mono x h
 |.tuple x,h=>AV.iB.mono x h
 |.ez _,_=>trivial
 |.CM _,_=>trivial
theorem AV.iB.mono:∀(l:List AV),AV.iB U l->AV.iB U' l
 |[],_=>trivial
 |a::l,h=>⟨AV.In.mono a h.1,AV.iB.mono l h.2⟩
end
theorem bM.In.mono{b:bM}(h:b.In U):b.In U':=by
 cases b with
 |cells cs e=>exact AV.iB.mono hs _ h
 |row cs e c=>exact⟨AV.iB.mono hs _ h.1,IE.In.mono hs h.2⟩
 |fT cs e l=>exact AV.iB.mono hs _ h
 |map es=>exact fun p hp=>⟨AV.In.mono hs _ (h p hp).1,AV.In.mono hs _ (h p hp).2⟩
 |chan=>trivial
 |iY s n fs ws=>exact⟨IE.In.mono hs h.1,fun p hp=>⟨AA.In.mono hs (h.2.1 p hp).1,nC.mono hs (fun x=>AV.In.mono hs _ x) (h.2.1 p hp).2⟩,fun p hp=>⟨AV.In.mono hs _ (h.2.2 p hp).1,AV.In.mono hs _ (h.2.2 p hp).2⟩⟩
 |cH lk s n fs ws cs e c=>exact⟨IE.In.mono hs h.1,fun p hp=>⟨IE.In.mono hs (h.2.1 p hp).1,AV.In.mono hs _ (h.2.1 p hp).2⟩,fun p hp=>⟨IE.In.mono hs (h.2.2.1 p hp).1,AV.In.mono hs _ (h.2.2.1 p hp).2⟩,AV.iB.mono hs _ h.2.2.2.1,IE.In.mono hs h.2.2.2.2⟩
theorem TT.In.mono{t:TT}(h:t.In U):t.In U':=fun n=>AV.In.mono hs _ (h n)
theorem dP.In.mono{O:dP}(h:O.In U):O.In U':=
 ⟨fun p hp=>BE.In.mono hs (h.bs p hp),fun p hp=>⟨IE.In.mono hs (h.is p hp).1,IE.In.mono hs (h.is p hp).2⟩,fun p hp=>⟨AA.In.mono hs (h.mem p hp).1,AV.In.mono hs _ (h.mem p hp).2⟩⟩
end
structure ik where
 P:Program
 O:dP
 own:Nat->Prop
 Ev:Event->Prop
 kx:Prop
 still:Nat->Nat->Prop
def E6:Mark->Bool
 |.acquire _|.release _|.releaseMerge _|.extern _|.noRoom=>true
 |_=>false
structure ik.Good(K:ik):Prop where
 rd:∀a s,K.own a.block->K.Ev ⟨.cell a,false,s⟩
 wr:∀a s,K.own a.block->¬K.still a.block a.off->K.Ev ⟨.cell a,true,s⟩
 WR:∀b n s,K.still b n->¬K.Ev ⟨.cell ⟨b,n,none⟩,true,s⟩
 ext:∀m,E6 m=true->K.Ev ⟨.mark m,false,true⟩
 noRoom:K.Ev ⟨.mark .noRoom,false,true⟩
 kx:K.kx->∀m,K.Ev ⟨.mark m,false,true⟩
 obj:∀r wr s,K.own r->K.Ev ⟨.obj r,wr,s⟩
def bM.elem:bM->TypeId
 |.cells _ e=>e
 |.row _ e _=>e
 |.fT _ e _=>e
 |.map _=>0
 |.chan=>0
 |.iY _ _ _ _=>0
 |.cH _ _ _ _ _ _ e _=>e
def dF(ρ:cn)(l:List Value)(ws:List (IE×AV)):List Value:=ws.foldr (fun p l=>l.set (p.1.ev ρ).toNat (p.2.ev ρ)) l
structure Aq(P:Program)(ρ:cn)(s:Nat)(n:IE)(fs ws:List (IE×AV))(e:TypeId)(i:TypeInfo)(cH:Array Value):Prop where
 val:ρ.v s=.agg cH
 o_:P.info? e=some i
 size:cH.size=(n.ev ρ).toNat*i.size
 fs:∀p∈fs,cH[(p.1.ev ρ).toNat]?=some (p.2.ev ρ)
 ws:∀p∈ws,(p.1.ev ρ).toNat<cH.size
def bM.jg(P:Program)(ρ:cn):bM->Array Value->Prop
 |.cells cs _,arr=>arr.toList=AV.cf ρ cs
 |.fT cs _ _,arr=>arr.toList=AV.cf ρ cs
 |.row cs e c,arr=>∃rest i,arr.toList=AV.cf ρ cs++rest∧P.info? e=some i∧arr.size=(c.ev ρ).toNat*i.size
 |.map _,_=>False
 |.chan,_=>False
 |.iY _ _ _ _,_=>False
 |.cH _ s n fs ws cs e c,arr=>∃cH rest i,Aq P ρ s n fs ws e i cH∧arr.toList=dF ρ cH.toList ws++(AV.cf ρ cs++rest)∧arr.size=(c.ev ρ).toNat*i.size
def E7(E:List (Value×Value)):Value:=.agg (E.map fun p=>Value.agg #[p.1,p.2]).toArray
def wa(ρ:cn)(E:List (Value×Value))(a:AA)(r:Option AV):Prop:=
 (∀q∈E,∃off,q.1=.pointer (some ⟨(a.ev ρ).block,off,none⟩))∧match r with
  |some v=>∃E1 E2,E=E1++(.pointer (some (a.ev ρ)),v.ev ρ)::E2∧∀q∈E1,q.1≠.pointer (some (a.ev ρ))
  |none=>∀q∈E,q.1≠.pointer (some (a.ev ρ))
def bM.Rk(ρ:cn):bM->Obj->Prop
 |.map es,o=>∃arr qV,o=.map arr qV∧arr.toList.map (fun e=>(e.key,e.val))=es.map fun p=>(p.1.ev ρ,p.2.ev ρ)
 |.chan,o=>∃k,o=.chan 0 #[] false k k false
 |.iY s n fs ws,o=>∃arr qV E,o=.map arr qV∧ρ.v s=E7 E∧E.length=(n.ev ρ).toNat∧arr.toList.map (fun e=>(e.key,e.val))=E++ws.map (fun p=>(p.1.ev ρ,p.2.ev ρ))∧∀p∈fs,wa ρ E p.1 p.2
 |_,_=>False
def bM.is(P:Program)(ρ:cn)(b:bM)(o:Obj):Prop:=(∃arr,o=.cells arr b.elem (0,0)∧b.jg P ρ arr)∨b.Rk ρ o
def bM.i_(P:Program)(ρ:cn):bM->Nat->Prop
 |.cH lk _ m _ _ _ e _,n=>lk=true∧∃i,P.info? e=some i∧n<(m.ev ρ).toNat*i.size
 |b,n=>b.l9 n=true
structure Rel(K:ik)(ρ:cn)(h:AH)(w:World):Prop where
 kj:∀i b,cV i h.hp=some b->∃o,w.heap[ρ.b i]?=some o∧b.is K.P ρ o
 qu:∀i b,cV i h.hp=some b->K.own (ρ.b i)∨(b.isChan=true∧K.still (ρ.b i) 0)
 inj:∀i j b c,cV i h.hp=some b->cV j h.hp=some c->ρ.b i=ρ.b j->i=j
 bs:∀p∈K.O.bs,p.1.ev ρ=p.2
 is:∀p∈K.O.is,p.1.ev ρ=p.2.ev ρ
 mem:∀p∈K.O.mem,¬K.own (p.1.ev ρ).block∧w.cell? (p.1.ev ρ)=some (p.2.ev ρ)∧∀s,K.Ev ⟨.cell (p.1.ev ρ),false,s⟩
 room:∀n,w.heap.size≤n->K.own n
 fT:∀i b,cV i h.hp=some b->∀n,K.still (ρ.b i) n->b.i_ K.P ρ n
 low:∀b n,K.still b n->b<w.heap.size
structure h_(K:ik)(U:Nat->Prop)(h:AH):Prop where
 hp:∀i b,cV i h.hp=some b->b.In U
 keys:∀i∈keys h.hp,U i
 nodup:(Go.Proofs.Ythaddgfbohmfoaa.SX.keys h.hp).Nodup
 fresh:∀n,h.nb≤n->n<h.eH->¬U n
 zE:K.O.In U
structure cE(own:Nat->Prop)(w w':World):Prop where
 heap:∀n,¬own n->w'.heap[n]?=w.heap[n]?
 size:w.heap.size≤w'.heap.size
 tape:w'.tape=w.tape
 os:w'.os=w.os
 output:w'.output=w.output
theorem cE.refl(own:Nat->Prop)(w:World):cE own w w:=⟨fun _ _=>rfl,aq _,rfl,rfl,rfl⟩
theorem cE.trans{own:Nat->Prop}{w w' yD:World}(h:cE own w w')(h':cE own w' yD):cE own w yD:=
 ⟨fun n hn=>(h'.heap n hn).trans (h.heap n hn),bp h.size h'.size,h'.tape.trans h.tape,h'.os.trans h.os,h'.output.trans h.output⟩
theorem iN{w:World}{n:Nat}{o:Obj}(h:w.heap[n]?=some o):n<w.heap.size:=by
 rcases bo n w.heap.size with h'|h'
 ·exact h'
 ·simp[Array.getElem?_eq_none h']at h
theorem j9{w:World}{b o:Nat}{arr:Array Value}{e:TypeId}{f:Nat×Nat}(h:w.heap[b]?=some (.cells arr e f)):w.cell? ⟨b,o,none⟩=arr[o]?:=by simp[World.cell?,h]
theorem jA{w:World}{b o:Nat}{arr:Array Value}{e:TypeId}(h:w.heap[b]?=some (.cells arr e (0,0))):w.frozen? ⟨b,o,none⟩=false:=by simp[World.frozen?,h]
theorem pq(ρ:cn)(l:List AV)(n:Nat):(AV.cf ρ l)[n]?=(l[n]?).map (AV.ev ρ):=by rw[jT];simp
theorem dt(ρ:cn)(l:List AV):(AV.cf ρ l).length=l.length:=by rw[jT];simp
theorem fp(ρ:cn)(l m:List AV):AV.cf ρ (l++m)=AV.cf ρ l++AV.cf ρ m:=by simp[jT]
theorem zF(ρ:cn)(l:List AV)(n:Nat)(v:AV):AV.cf ρ (l.set n v)=(AV.cf ρ l).set n (v.ev ρ):=by simp[jT,List.map_set]
theorem wb{P:Program}{ρ:cn}{b:bM}{arr:Array Value}(h:b.jg P ρ arr){n:Nat}{v:AV}(hn:b.cs[n]?=some v):arr[n]?=some (v.ev ρ):=by
 have dU:n<b.cs.length:=(aH.1 hn).1;cases b with
 |cells cs e=>simp only[bM.jg]at h;rw[<-bl,h,pq];simp only[bM.cs]at hn;rw[hn];rfl
 |fT cs e l=>simp only[bM.jg]at h;rw[<-bl,h,pq];simp only[bM.cs]at hn;rw[hn];rfl
 |row cs e c=>obtain⟨rest,i,h1,h2,h3⟩:=h;simp only[bM.cs]at hn dU;rw[<-bl,h1,aP (by rw[dt];exact dU),pq,hn];rfl
 |map es=>exact h.elim
 |chan=>exact h.elim
 |iY s n fs ws=>exact h.elim
 |cH lk s n fs ws cs e c=>simp[bM.cs]at dU
theorem Rm{P:Program}{ρ:cn}{b:bM}{arr:Array Value}(h:b.jg P ρ arr){n:Nat}{v:AV}(hn:n<b.cs.length):(b.put (b.cs.set n v)).jg P ρ (arr.setIfInBounds n (v.ev ρ)):=by
 cases b with
 |cells cs e=>simp only[bM.jg,bM.put,bM.cs]at h⊢;rw[Array.toList_setIfInBounds,h,zF]
 |fT cs e l=>simp only[bM.jg,bM.put,bM.cs]at h⊢;rw[Array.toList_setIfInBounds,h,zF]
 |row cs e c=>obtain⟨rest,i,h1,h2,h3⟩:=h;simp only[bM.cs]at hn;refine⟨rest,i,?_,h2,by simpa using h3⟩;simp only[bM.cs];rw[Array.toList_setIfInBounds,h1,zF,List.set_append_left _ _ (by rw[dt];exact hn)]
 |map es=>exact h.elim
 |chan=>exact h.elim
 |iY s n fs ws=>exact h.elim
 |cH lk s n fs ws cs e c=>simp[bM.cs]at hn
theorem sG{U:Nat->Prop}{ρ bL:cn}(ha:cz U ρ bL)(l:List Value):∀{ws:List (IE×AV)},(∀p∈ws,p.1.In U∧p.2.In U)->dF bL l ws=dF ρ l ws
 |[],_=>rfl
 |p::ws,h=>by have h1:=sG ha l (ws:=ws) fun q hq=>h q (am _ hq);show(dF bL l ws).set _ _=(dF ρ l ws).set _ _;rw[h1,IE.cu ha (h p (an ..)).1,AV.cu ha _ (h p (an ..)).2]
theorem Aq.bE{P:Program}{U:Nat->Prop}{ρ bL:cn}(ha:cz U ρ bL){s:Nat}{n:IE}{fs ws:List (IE×AV)}{e:TypeId}{i:TypeInfo}{cH:Array Value}(hn:n.In U)(hf:∀p∈fs,p.1.In U∧p.2.In U)(hw:∀p∈ws,p.1.In U∧p.2.In U)(h:Aq P ρ s n fs ws e i cH):Aq P bL s n fs ws e i cH:=
 ⟨by rw[ha.v];exact h.val,h.o_,by rw[IE.cu ha hn];exact h.size,fun p hp=>by rw[IE.cu ha (hf p hp).1,AV.cu ha _ (hf p hp).2];exact h.fs p hp,fun p hp=>by rw[IE.cu ha (hw p hp).1];exact h.ws p hp⟩
theorem N8{P:Program}{ρ:cn}{b:bM}{n m:Nat}(h:m<b.cs.length)(hl:b.i_ P ρ n):b.l9 n=true:=by cases b<;>first|exact hl|(simp[bM.cs]at h)
theorem xH{P:Program}{ρ:cn}{b:bM}{n:Nat}(h:b.l9 n=true):b.i_ P ρ n:=by cases b<;>first|exact h|cases h
theorem JO{P:Program}{ρ:cn}{b:bM}{m:Nat}(h:m<b.cs.length)(cs:List AV)(n:Nat)(P':Program)(bL:cn):(b.put cs).i_ P' bL n↔b.i_ P ρ n:=by cases b<;>first|exact Iff.rfl|(simp[bM.cs]at h)
theorem E8{P:Program}{U:Nat->Prop}{ρ bL:cn}(A:cz U ρ bL){b:bM}(hb:b.In U){n:Nat}:b.i_ P bL n↔b.i_ P ρ n:=by
 cases b with
 |cH lk s m fs ws cs e c=>simp only[bM.i_,IE.cu A hb.1]
 |_=>exact Iff.rfl
theorem Rn(b:bM)(cs:List AV):(b.put cs).elem=b.elem:=by cases b<;>rfl
theorem vc{P:Program}{U:Nat->Prop}{ρ bL:cn}(ha:cz U ρ bL){b:bM}(hb:b.In U){arr:Array Value}(h:b.jg P ρ arr):b.jg P bL arr:=by
 cases b with
 |cells cs e=>simp only[bM.jg]at h⊢;rw[AV.f8 ha _ hb];exact h
 |fT cs e l=>simp only[bM.jg]at h⊢;rw[AV.f8 ha _ hb];exact h
 |row cs e c=>obtain⟨rest,i,h1,h2,h3⟩:=h;exact⟨rest,i,by rw[AV.f8 ha _ hb.1];exact h1,h2,by rw[IE.cu ha hb.2];exact h3⟩
 |map es=>exact h.elim
 |chan=>exact h.elim
 |iY s n fs ws=>exact h.elim
 |cH lk s n fs ws cs e c=>obtain⟨cH,rest,i,h1,h2,h3⟩:=h;obtain⟨b1,b2,b3,b4,b5⟩:=hb;exact⟨cH,rest,i,h1.bE ha b1 b2 b3,by rw[sG ha _ b3,AV.f8 ha _ b4];exact h2,by rw[IE.cu ha b5];exact h3⟩
theorem G7{U:Nat->Prop}{ρ bL:cn}(ha:cz U ρ bL){b:bM}(hb:b.In U){o:Obj}(h:b.Rk ρ o):b.Rk bL o:=by
 cases b with
 |map es=>obtain⟨arr,qV,h1,h2⟩:=h;refine⟨arr,qV,h1,h2.trans (aY fun p hp=>?_)⟩;rw[AV.cu ha _ (hb p hp).1,AV.cu ha _ (hb p hp).2]
 |chan=>exact h
 |iY s n fs ws=>
  obtain⟨arr,qV,E,h1,h2,h3,h4,h5⟩:=h;obtain⟨b1,b2,b3⟩:=hb;refine⟨arr,qV,E,h1,by rw[ha.v];exact h2,by rw[IE.cu ha b1];exact h3,h4.trans ?_,fun p hp=>?_⟩
  ·congr 1;refine aY fun p hp=>?_;rw[AV.cu ha _ (b3 p hp).1,AV.cu ha _ (b3 p hp).2]
  ·obtain⟨k1,k2⟩:=h5 p hp;obtain⟨c1,c2⟩:=b2 p hp;unfold wa;rw[AA.cu ha c1];refine⟨k1,?_⟩;obtain⟨a,r⟩:=p;cases r with
   |none=>exact k2
   |some v=>have c2':v.In U:=c2;dsimp only at k2⊢;rw[AV.cu ha _ c2'];exact k2
 |_=>exact h.elim
theorem G8{P:Program}{U:Nat->Prop}{ρ bL:cn}(ha:cz U ρ bL){b:bM}(hb:b.In U){o:Obj}(h:b.is P ρ o):b.is P bL o:=
 h.elim (fun⟨arr,h1,h2⟩=>.inl ⟨arr,h1,vc ha hb h2⟩) fun h=>.inr (G7 ha hb h)
theorem wd{b:bM}{n:Nat}(h:n<b.cs.length):b.qo=true:=by cases b<;>first|rfl|(simp[bM.cs]at h)
theorem Dz{b:bM}{n:Nat}{v:AV}(h:b.cs[n]?=some v):b.qo=true:=wd (aH.1 h).1
theorem acR{P:Program}{ρ:cn}{b:bM}{o:Obj}(h:b.is P ρ o)(hm:b.qo=true):∃arr,o=.cells arr b.elem (0,0)∧b.jg P ρ arr:=by
 rcases h with h|h
 ·exact h
 ·cases b with
  |map es=>cases hm
  |chan=>cases hm
  |iY s n fs ws=>cases hm
  |_=>exact h.elim
theorem Rel.arr{K:ik}{ρ:cn}{h:AH}{w:World}(R:Rel K ρ h w){i:Nat}{b:bM}(hb:cV i h.hp=some b)(hm:b.qo=true):∃arr,w.heap[ρ.b i]?=some (.cells arr b.elem (0,0))∧b.jg K.P ρ arr:=by obtain⟨o,h1,h2⟩:=R.kj i b hb;obtain⟨arr,rfl,h3⟩:=acR h2 hm;exact⟨arr,h1,h3⟩
section
variable {K:ik}{ρ:cn}{h:AH}{w:World}{U:Nat->Prop}
theorem Rel.at(R:Rel K ρ h w){w':World}(hh:w'.heap=w.heap):Rel K ρ h w':=
 ⟨fun i b hb=>by rw[hh];exact R.kj i b hb,R.qu,R.inj,R.bs,R.is,fun p hp=>by have:=R.mem p hp;rw[show w'.cell? (p.1.ev ρ)=w.cell? (p.1.ev ρ)from by simp[World.cell?,hh]];exact this,by rw[hh];exact R.room,R.fT,by rw[hh];exact R.low⟩
theorem Rel.own{K:ik}{ρ:cn}{h:AH}{w:World}(R:Rel K ρ h w)(i:Nat)(b:bM)(hb:cV i h.hp=some b)(hc:b.isChan=false):K.own (ρ.b i):=
 (R.qu i b hb).elim id fun x=>by rw[hc]at x;cases x.1
theorem Ar{b:bM}{n:Nat}(h:n<b.cs.length):b.isChan=false:=by cases b<;>first|rfl|(simp[bM.cs]at h)
theorem G9{b:bM}{n:Nat}{v:AV}(h:b.cs[n]?=some v):b.isChan=false:=Ar (aH.1 h).1
theorem G_(ρ:cn):∀(e:IE),(e.ev ρ).toNat=((gf e).1.ev ρ).toNat+(gf e).2∧∀c,e=.tn c->(c.ev ρ).toNat=((gf c).1.ev ρ).toNat+(gf c).2:=by
 intro e
 induction e with
 |plus a b E5 GU=>
  refine⟨?_,fun c h=>by cases h⟩;cases a with
  |tn c=>
   cases b with
   |lit n=>
    cases n with
    |ofNat j=>
     have ih:=E5.2 c rfl;simp only[gf,IE.ev];have:(((c.ev ρ).toNat:Int)+Int.ofNat j).toNat=(c.ev ρ).toNat+j:=by simp;omega
     rw[this,ih];omega
    |negSucc j=>simp[gf]
   |_=>simp[gf]
  |_=>simp[gf]
 |lit n=>exact⟨by cases n<;>simp[gf,IE.ev],fun c h=>by cases h⟩
 |tn a ih=>exact⟨by simp[gf],fun c h=>by cases h;exact ih.1⟩
 |_=>exact⟨by simp[gf],fun c h=>by cases h⟩
theorem tX(ρ:cn)(e:IE):(e.ev ρ).toNat=((gf e).1.ev ρ).toNat+(gf e).2:=(G_ ρ e).1
theorem DA{a b:IE}(h:sameAt a b=true)(ρ:cn):(a.ev ρ).toNat=(b.ev ρ).toNat:=by unfold sameAt at h;rw[ax]at h;rw[tX ρ a,tX ρ b,IE.dG h.1,aI h.2]
theorem JP{a b:IE}(h:EY a b=true)(ρ:cn):(a.ev ρ).toNat≠(b.ev ρ).toNat:=by
 unfold EY at h;rw[ax]at h;rw[tX ρ a,tX ρ b,IE.dG h.1];have h2:=h.2;intro e;have:(gf a).2=(gf b).2:=by omega
 rw[this]at h2;simp at h2
theorem nM(ρ:cn)(l:List Value):∀(ws:List (IE×AV)),(dF ρ l ws).length=l.length
 |[]=>rfl
 |p::ws=>by show((dF ρ l ws).set _ _).length=_;rw[List.length_set,nM ρ l ws]
theorem Ml{P:Program}{ρ:cn}{s:Nat}{n:IE}{fs0 ws:List (IE×AV)}{e:TypeId}{i:TypeInfo}{cH:Array Value}(h:Aq P ρ s n fs0 ws e i cH){a:IE}{v:AV}:∀{fs:List (IE×AV)},(∀p∈fs,p∈fs0)->N7 a fs=some v->cH.toList[(a.ev ρ).toNat]?=some (v.ev ρ)
 |[],_,hv=>by cases hv
 |p::fs,hs,hv=>by
  unfold N7 at hv;split at hv
  ·rename_i hsame;cases hv;rw[DA hsame ρ];simpa using h.fs p (hs p (an ..))
  ·exact Ml h (fun q hq=>hs q (am _ hq)) hv
theorem E9{P:Program}{ρ:cn}{s:Nat}{n:IE}{fs ws0:List (IE×AV)}{e:TypeId}{i:TypeInfo}{cH:Array Value}(h:Aq P ρ s n fs ws0 e i cH){a:IE}{v:AV}:∀{ws:List (IE×AV)},(∀p∈ws,p∈ws0)->JK a fs ws=some v->(dF ρ cH.toList ws)[(a.ev ρ).toNat]?=some (v.ev ρ)
 |[],_,hv=>Ml h (fun _ hp=>hp) hv
 |p::ws,hs,hv=>by
  unfold JK at hv;show((dF ρ cH.toList ws).set _ _)[_]?=_;split at hv
  ·rename_i hsame;cases hv;rw[DA hsame ρ,List.getElem?_set_self (by rw[nM];simpa using h.ws p (hs p (an ..)))]
  ·split at hv
   ·rename_i uq;rw[List.getElem?_set_ne (fun e=>JP uq ρ e.symm)];exact E9 h (fun q hq=>hs q (am _ hq)) hv
   ·cases hv
theorem Mm{P:Program}{ρ:cn}{b:bM}{arr:Array Value}(h:b.jg P ρ arr){a:IE}{v:AV}(hv:b.Rd a=some v):arr[(a.ev ρ).toNat]?=some (v.ev ρ):=by
 cases b with
 |cH lk s n fs ws cs e c=>obtain⟨cH,rest,i,h1,h2,h3⟩:=h;have h4:=E9 h1 (fun _ hp=>hp) hv;rw[<-bl,h2,aP (aH.1 h4).1];exact h4
 |_=>cases hv
theorem G'{b:bM}{a:IE}{v:AV}(hv:b.Rd a=some v):b.qo=true∧b.isChan=false:=by cases b<;>first|exact⟨rfl,rfl⟩|cases hv
theorem Mn{U:Nat->Prop}{a:IE}{v:AV}:∀{fs:List (IE×AV)},(∀p∈fs,p.1.In U∧p.2.In U)->N7 a fs=some v->v.In U
 |[],_,hv=>by cases hv
 |p::fs,hs,hv=>by
  unfold N7 at hv;split at hv
  ·cases hv;exact(hs p (an ..)).2
  ·exact Mn (fun q hq=>hs q (am _ hq)) hv
theorem Mo{U:Nat->Prop}{a:IE}{v:AV}{fs:List (IE×AV)}(hf:∀p∈fs,p.1.In U∧p.2.In U):∀{ws:List (IE×AV)},(∀p∈ws,p.1.In U∧p.2.In U)->JK a fs ws=some v->v.In U
 |[],_,hv=>Mn hf hv
 |p::ws,hs,hv=>by
  unfold JK at hv;split at hv
  ·cases hv;exact(hs p (an ..)).2
  ·split at hv
   ·exact Mo hf (fun q hq=>hs q (am _ hq)) hv
   ·cases hv
theorem WS{U:Nat->Prop}{b:bM}(hb:b.In U){a:IE}{v:AV}(hv:b.Rd a=some v):v.In U:=by
 cases b with
 |cH lk s n fs ws cs e c=>exact Mo hb.2.1 hb.2.2.1 hv
 |_=>cases hv
theorem WT{P:Program}{ρ:cn}{b b':bM}{arr:Array Value}(h:b.jg P ρ arr){a:IE}{v:AV}(hv:b.Re a v=some b'):b'.jg P ρ (arr.setIfInBounds (a.ev ρ).toNat (v.ev ρ))∧b'.elem=b.elem∧b'.isChan=false∧b.qo=true∧(∀m,¬b.i_ P ρ m)∧∃u,b.Rd a=some u:=by
 cases b with
 |cH lk s n fs ws cs e c=>
  unfold bM.Re at hv;dsimp only at hv;split at hv
  ·rename_i u hu;cases hv;obtain⟨cH,rest,i,h1,h2,h3⟩:=h;have h4:=E9 h1 (fun _ hp=>hp) hu;have dU:=(aH.1 h4).1;refine⟨⟨cH,rest,i,⟨h1.val,h1.o_,h1.size,h1.fs,fun p hp=>?_⟩,?_,by simpa using h3⟩,rfl,rfl,rfl,fun m hm=>by(cases hm.1),u,hu⟩
   ·rcases ac.1 hp with rfl|hp
    ·rw[nM]at dU;simpa using dU
    ·exact h1.ws p hp
   ·rw[Array.toList_setIfInBounds,h2,List.set_append_left _ _ dU];rfl
  ·cases hv
 |_=>cases hv
theorem WU{U:Nat->Prop}{b b':bM}(hb:b.In U){a:IE}{v:AV}(ha:a.In U)(hi:v.In U)(hv:b.Re a v=some b'):b'.In U:=by
 cases b with
 |cH lk s n fs ws cs e c=>
  unfold bM.Re at hv;dsimp only at hv;split at hv
  ·cases hv;exact⟨hb.1,hb.2.1,fun p hp=>(ac.1 hp).elim (fun e=>e▸⟨ha,hi⟩) (hb.2.2.1 p),hb.2.2.2⟩
  ·cases hv
 |_=>cases hv
theorem Ha(R:Rel K ρ h w)(G:K.Good){a:AA}{v:AV}(hl:Dv K.O h a=.ok v):w.cell? (a.ev ρ)=some (v.ev ρ)∧∀s,K.Ev ⟨.cell (a.ev ρ),false,s⟩:=by
 have old:∀{v:AV},(match look AA.hZ a K.O.mem with|some v=>(Except.ok v:M AV)|none=>.error "load an unknown cell")=.ok v->w.cell? (a.ev ρ)=some (v.ev ρ)∧∀s,K.Ev ⟨.cell (a.ev ρ),false,s⟩:=by
  intro v hv;split at hv
  ·rename_i u hu;cases hv;obtain⟨x,hx,he⟩:=iv hu;obtain rfl:=AA.dG he;exact⟨(R.mem _ hx).2.1,(R.mem _ hx).2.2⟩
  ·cases hv
 obtain⟨kj,off⟩:=a;unfold Dv at hl;dsimp only at hl;split at hl
 ·rename_i i n;split at hl
  ·rename_i b hb;split at hl
   ·rename_i u hu;cases hl;obtain⟨arr,ha,hf⟩:=R.arr hb (Dz hu);refine⟨?_,fun s=>G.rd _ _ (R.own _ _ hb (G9 hu))⟩;rw[show AA.ev ρ ⟨.cN i,.lit (.ofNat n)⟩=⟨ρ.b i,n,none⟩from rfl,j9 ha];exact wb hf hu
   ·cases hl
  ·exact old hl
 ·exact old hl
theorem Ro(I:h_ K U h){a:AA}{v:AV}(hl:Dv K.O h a=.ok v):v.In U:=by
 have old:∀{v:AV},(match look AA.hZ a K.O.mem with|some v=>(Except.ok v:M AV)|none=>.error "load an unknown cell")=.ok v->v.In U:=by
  intro v hv;split at hv
  ·rename_i u hu;cases hv;obtain⟨x,hx,he⟩:=iv hu;exact(I.zE.mem _ hx).2
  ·cases hv
 unfold Dv at hl;dsimp only at hl;split at hl
 ·split at hl
  ·rename_i b hb;split at hl
   ·rename_i u hu;cases hl;have:=I.hp _ _ hb;have hm:=bf hu;cases b with
    |cells cs e=>exact dg.1 this _ hm
    |fT cs e l=>exact dg.1 this _ hm
    |row cs e c=>exact dg.1 this.1 _ hm
    |map es=>cases hm
    |chan=>cases hm
    |iY s n fs ws=>cases hm
    |cH lk s n fs ws cs e c=>cases hm
   ·cases hl
  ·exact old hl
 ·exact old hl
theorem sH(R:Rel K ρ h w)(G:K.Good){a:AA}{v:AV}(hl:vX K.O h a=.ok v):w.cell? (a.ev ρ)=some (v.ev ρ)∧∀s,K.Ev ⟨.cell (a.ev ρ),false,s⟩:=by
 unfold vX at hl;split at hl
 ·rename_i u hu;cases hl;exact Ha R G hu
 ·split at hl
  ·rename_i u hu;cases hl;obtain⟨kj,off⟩:=a;unfold preAt? at hu;dsimp only at hu;split at hu
   ·rename_i i _;split at hu
    ·rename_i b hb;obtain⟨m1,m2⟩:=G' hu;obtain⟨arr,ha,hf⟩:=R.arr hb m1;refine⟨?_,fun s=>G.rd _ _ (R.own _ _ hb m2)⟩;rw[show AA.ev ρ ⟨.cN i,off⟩=⟨ρ.b i,(off.ev ρ).toNat,none⟩from rfl,j9 ha];exact Mm hf hu
    ·cases hu
   ·cases hu
  ·cases hl
theorem As(I:h_ K U h){a:AA}{v:AV}(hl:vX K.O h a=.ok v):v.In U:=by
 unfold vX at hl;split at hl
 ·rename_i u hu;cases hl;exact Ro I hu
 ·split at hl
  ·rename_i u hu;cases hl;unfold preAt? at hu;split at hu
   ·split at hu
    ·rename_i b hb;exact WS (I.hp _ _ hb) hu
    ·cases hu
   ·cases hu
  ·cases hl
theorem WV(ρ:cn)(a:IE)(n:Nat):((nJ a n).ev ρ).toNat=(a.ev ρ).toNat+n:=by
 unfold nJ;split
 ·simp[IE.ev];omega
 ·split
  ·rename_i h;subst h;simp
  ·simp only[IE.ev];simp;omega
theorem WW{a:IE}(n:Nat)(hi:a.In U):(nJ a n).In U:=by
 unfold nJ;split
 ·trivial
 ·split
  ·exact hi
  ·exact⟨hi,trivial⟩
theorem AA.sI(ρ:cn)(a:AA)(n:Nat):(a.add n).ev ρ=(a.ev ρ).add n:=by
 simp only[AA.ev,AA.add,Addr.add,WV];split
 ·rename_i h;subst h;simp
 ·rfl
theorem AA.xI{a:AA}(n:Nat)(hi:a.In U):(a.add n).In U:=⟨hi.1,WW n hi.2⟩
theorem mP(R:Rel K ρ h w)(G:K.Good){E:Value->World->Prop}{a:AA}:∀{n j:Nat} {l:List AV} {gG:Array Value},mN K.O h a n j=.ok l->
  ∀{Q:Array Value->World->Prop},Q (gG++(AV.cf ρ l).toArray) w->wq K.P K.Ev E (loadCellsFrom (a.ev ρ) j n gG) Q w:=by
 intro n
 induction n with
 |zero=>intro j l gG hl Q hq;simp[mN]at hl;subst hl;simpa[loadCellsFrom,AV.cf] using hq
 |succ n ih=>
  intro j l gG hl Q hq;simp only[mN]at hl;split at hl
  ·rename_i v hv;split at hl
   ·rename_i l' we;cases hl;obtain⟨hc,he⟩:=sH R G hv;rw[AA.sI]at hc he;simp only[loadCellsFrom,bG];rw[v9];refine⟨_,hc,he _,ih we ?_⟩;simpa[AV.cf] using hq
   ·cases hl
  ·cases hl
theorem wg(I:h_ K U h){a:AA}:∀{n j:Nat} {l:List AV},mN K.O h a n j=.ok l->AV.iB U l:=by
 intro n
 induction n with
 |zero=>intro j l hl;simp[mN]at hl;subst hl;trivial
 |succ n ih=>
  intro j l hl;simp only[mN]at hl;split at hl
  ·rename_i v hv;split at hl
   ·rename_i l' we;cases hl;exact⟨As I hv,ih we⟩
   ·cases hl
  ·cases hl
theorem wi{O:dP}{a:AA}:∀{n j:Nat} {l:List AV},mN O h a n j=.ok l->l.length=n:=by
 intro n
 induction n with
 |zero=>intro j l hl;simp[mN]at hl;subst hl;rfl
 |succ n ih=>
  intro j l hl;simp only[mN]at hl;split at hl
  ·split at hl
   ·rename_i l' we;cases hl;simp[ih we]
   ·cases hl
  ·cases hl
theorem d5(w:World)(a:Addr)(v:Value)(n:Nat):(w.setCell a v).heap[n]?=if n=a.block then(w.heap[n]?).map (fun
   |.cells c elem frozen=>.cells (if a.spot.isSome then c else c.setIfInBounds a.off v) elem frozen
   |o=>o)else w.heap[n]?:=by
 simp only[World.setCell,Array.getElem?_modify];by_cases e:a.block=n
 ·subst e;rw[if_pos rfl,if_pos rfl];rfl
 ·rw[if_neg e,if_neg (fun x=>e x.symm)]
theorem fQ(w:World)(a:Addr)(v:Value):(w.setCell a v).heap.size=w.heap.size:=by simp[World.setCell]
theorem qW{v:AV}(ho:v.oneCell?=true)(ρ:cn):(v.ev ρ).oneCell'=true:=by cases v<;>simp_all [AV.oneCell?,AV.ev,Value.oneCell']
theorem E_(R:Rel K ρ h w)(G:K.Good){a:AA}{v:AV}{h':AH}(hs:qU h a v=.ok h'):
  (v.ev ρ).oneCell'=true∧(∃u,w.cell? (a.ev ρ)=some u)∧w.frozen? (a.ev ρ)=false∧(∀s,K.Ev ⟨.cell (a.ev ρ),true,s⟩)∧Rel K ρ h' (w.setCell (a.ev ρ) (v.ev ρ))∧cE K.own w (w.setCell (a.ev ρ) (v.ev ρ))∧h'.nb=h.nb∧h'.eH=h.eH:=by
 obtain⟨kj,off⟩:=a;unfold qU at hs;dsimp only at hs;split at hs
 ·rename_i i n;split at hs
  ·rename_i b hb;split at hs
   ·rename_i hc;cases hs;simp only[ax,decide_eq_true_eq,Bool.not_eq_true']at hc;obtain⟨⟨dU,ho⟩,JQ⟩:=hc;have xw:¬K.still (ρ.b i) n:=fun x=>by
     have:=N8 dU (R.fT _ _ hb n x);rw[this]at JQ;cases JQ
    obtain⟨arr,ha,hf⟩:=R.arr hb (wd dU);have fu:=R.own _ _ hb (Ar dU);have Jw:AA.ev ρ ⟨.cN i,.lit (.ofNat n)⟩=⟨ρ.b i,n,none⟩:=rfl;rw[Jw];obtain⟨u,hu⟩:∃u,b.cs[n]?=some u:=⟨_,aF dU⟩;refine⟨qW ho ρ,⟨_,(j9 ha).trans (wb hf hu)⟩,jA ha,fun s=>G.wr _ _ fu xw,?_,?_,rfl,rfl⟩
    ·refine⟨fun j c hj=>?_,fun j c hj=>?_,fun j k c d hj hk e=>?_,R.bs,R.is,fun p hp=>?_,fun m hm=>R.room m (by rw[fQ]at hm;exact hm),fun j c hj m hm=>?_,fun b m hm=>by rw[fQ];exact R.low b m hm⟩
     ·rw[eJ]at hj;split at hj
      ·rename_i e;subst e;rw[hb]at hj;cases hj;refine⟨.cells (arr.setIfInBounds n (v.ev ρ)) b.elem (0,0),?_,.inl ⟨_,by rw[Rn],Rm hf dU⟩⟩;rw[d5,if_pos rfl,ha];rfl
      ·rename_i e;obtain⟨ja,sJ,xx⟩:=R.kj _ _ hj;refine⟨ja,?_,xx⟩;rw[d5,if_neg (fun x=>e (R.inj _ _ _ _ hj hb x)),sJ]
     ·rw[eJ]at hj;split at hj
      ·rename_i e;subst e;exact .inl fu
      ·exact R.qu _ _ hj
     ·rw[eJ]at hj hk;split at hj<;>split at hk
      ·rename_i e1 e2;exact e1.trans e2.symm
      ·rename_i e1 e2;subst e1;exact R.inj _ _ _ _ hb hk e
      ·rename_i e1 e2;subst e2;exact R.inj _ _ _ _ hj hb e
      ·exact R.inj _ _ _ _ hj hk e
     ·obtain⟨m1,m2,m3⟩:=R.mem p hp;refine⟨m1,?_,m3⟩;have df:(p.1.ev ρ).block≠ρ.b i:=fun x=>m1 (x▸fu);simp only[World.cell?]at m2⊢;rw[d5,if_neg df];exact m2
     ·rw[eJ]at hj;split at hj
      ·rename_i e;subst e;rw[hb]at hj;cases hj;exact(JO dU _ _ _ _).2 (R.fT _ _ hb m hm)
      ·exact R.fT _ _ hj m hm
    ·refine⟨fun m hm=>?_,by rw[fQ];exact aq _,rfl,rfl,rfl⟩;rw[d5,if_neg (fun x=>hm (by rw[x];exact fu))]
   ·cases hs
  ·cases hs
 ·cases hs
theorem JR(I:h_ K U h){a:AA}{v:AV}{h':AH}(hs:qU h a v=.ok h')(hv:v.In U):h_ K U h':=by
 obtain⟨kj,off⟩:=a;unfold qU at hs;dsimp only at hs;split at hs
 ·split at hs
  ·rename_i b hb;split at hs
   ·cases hs;refine⟨fun j c hj=>?_,fun j hj=>I.keys j (by rw[jU]at hj;exact hj),by rw[jU];exact I.nodup,I.fresh,I.zE⟩;rw[eJ]at hj;split at hj
    ·rw[hb]at hj;cases hj;have Jx:=I.hp _ _ hb;have CP:∀(l:List AV) (n:Nat),AV.iB U l->AV.iB U (l.set n v):=fun l n hl=>dg.2 fun a ha=>by
      rcases List.mem_or_eq_of_mem_set ha with h'|rfl
      ·exact dg.1 hl _ h'
      ·exact hv
     cases b with
     |cells cs e=>exact CP _ _ Jx
     |fT cs e l=>exact CP _ _ Jx
     |row cs e c=>exact⟨CP _ _ Jx.1,Jx.2⟩
     |map es=>exact Jx
     |chan=>exact Jx
     |iY s n fs ws=>exact Jx
     |cH lk s n fs ws cs e c=>exact Jx
    ·exact I.hp _ _ hj
   ·cases hs
  ·cases hs
 ·cases hs
theorem Fa(R:Rel K ρ h w)(G:K.Good){a:AA}{v:AV}{h':AH}(hs:preSet? h a v=some h'):
  (v.ev ρ).oneCell'=true∧(∃u,w.cell? (a.ev ρ)=some u)∧w.frozen? (a.ev ρ)=false∧(∀s,K.Ev ⟨.cell (a.ev ρ),true,s⟩)∧Rel K ρ h' (w.setCell (a.ev ρ) (v.ev ρ))∧cE K.own w (w.setCell (a.ev ρ) (v.ev ρ))∧h'.nb=h.nb∧h'.eH=h.eH:=by
 obtain⟨kj,off⟩:=a;unfold preSet? at hs;dsimp only at hs;split at hs
 ·rename_i i;split at hs
  ·rename_i b hb;split at hs
   ·rename_i b' qj;split at hs
    ·rename_i ho;cases hs;have qX:b.qo=true:=by cases b<;>first|rfl|cases qj
     obtain⟨arr,ha,hf⟩:=R.arr hb qX;obtain⟨f1,f2,f3,f4,f5,u,hu⟩:=WT hf qj;have fu:=R.own _ _ hb (G' hu).2;have xw:¬K.still (ρ.b i) (off.ev ρ).toNat:=fun x=>by exact f5 _ (R.fT _ _ hb _ x)
     have Jw:AA.ev ρ ⟨.cN i,off⟩=⟨ρ.b i,(off.ev ρ).toNat,none⟩:=rfl;rw[Jw];have Rq:=Mm hf hu;generalize(off.ev ρ).toNat=n at*;refine⟨qW ho ρ,⟨_,(j9 ha).trans Rq⟩,jA ha,fun s=>G.wr _ _ fu xw,?_,?_,rfl,rfl⟩
     ·refine⟨fun j c hj=>?_,fun j c hj=>?_,fun j k c d hj hk e=>?_,R.bs,R.is,fun p hp=>?_,fun m hm=>R.room m (by rw[fQ]at hm;exact hm),fun j c hj m hm=>?_,fun b m hm=>by rw[fQ];exact R.low b m hm⟩
      ·rw[eJ]at hj;split at hj
       ·rename_i e;subst e;rw[hb]at hj;cases hj;refine⟨.cells (arr.setIfInBounds n (v.ev ρ)) b'.elem (0,0),?_,.inl ⟨_,rfl,f1⟩⟩;rw[d5,if_pos rfl,ha,f2];rfl
       ·rename_i e;obtain⟨ja,sJ,xx⟩:=R.kj _ _ hj;refine⟨ja,?_,xx⟩;rw[d5,if_neg (fun x=>e (R.inj _ _ _ _ hj hb x)),sJ]
      ·rw[eJ]at hj;split at hj
       ·rename_i e;subst e;exact .inl fu
       ·exact R.qu _ _ hj
      ·rw[eJ]at hj hk;split at hj<;>split at hk
       ·rename_i e1 e2;exact e1.trans e2.symm
       ·rename_i e1 e2;subst e1;exact R.inj _ _ _ _ hb hk e
       ·rename_i e1 e2;subst e2;exact R.inj _ _ _ _ hj hb e
       ·exact R.inj _ _ _ _ hj hk e
      ·obtain⟨m1,m2,m3⟩:=R.mem p hp;refine⟨m1,?_,m3⟩;have df:(p.1.ev ρ).block≠ρ.b i:=fun x=>m1 (x▸fu);simp only[World.cell?]at m2⊢;rw[d5,if_neg df];exact m2
      ·rw[eJ]at hj;split at hj
       ·rename_i e;subst e;rw[hb]at hj;cases hj;exact absurd (R.fT _ _ hb m hm) (f5 m)
       ·exact R.fT _ _ hj m hm
     ·refine⟨fun m hm=>?_,by rw[fQ];exact aq _,rfl,rfl,rfl⟩;rw[d5,if_neg (fun x=>hm (by rw[x];exact fu))]
    ·cases hs
   ·cases hs
  ·cases hs
 ·cases hs
theorem jb(R:Rel K ρ h w)(G:K.Good){a:AA}{v:AV}{h':AH}(hs:iQ h a v=.ok h'):
  (v.ev ρ).oneCell'=true∧(∃u,w.cell? (a.ev ρ)=some u)∧w.frozen? (a.ev ρ)=false∧(∀s,K.Ev ⟨.cell (a.ev ρ),true,s⟩)∧Rel K ρ h' (w.setCell (a.ev ρ) (v.ev ρ))∧cE K.own w (w.setCell (a.ev ρ) (v.ev ρ))∧h'.nb=h.nb∧h'.eH=h.eH:=by
 unfold iQ at hs;split at hs
 ·rename_i h1 hh;cases hs;exact E_ R G hh
 ·split at hs
  ·rename_i h1 hh;cases hs;exact Fa R G hh
  ·cases hs
theorem Au(I:h_ K U h){a:AA}{v:AV}{h':AH}(hs:iQ h a v=.ok h')(ha:a.In U)(hv:v.In U):h_ K U h':=by
 unfold iQ at hs;split at hs
 ·rename_i h1 hh;cases hs;exact JR I hh hv
 ·split at hs
  ·rename_i h1 hh;cases hs;unfold preSet? at hh;split at hh
   ·rename_i i hi;split at hh
    ·rename_i b hb;split at hh
     ·rename_i b' qj;split at hh
      ·cases hh;refine⟨fun j c hj=>?_,fun j hj=>I.keys j (by rw[jU]at hj;exact hj),by rw[jU];exact I.nodup,I.fresh,I.zE⟩;rw[eJ]at hj;split at hj
       ·rw[hb]at hj;cases hj;exact WU (I.hp _ _ hb) ha.2 hv qj
       ·exact I.hp _ _ hj
      ·cases hh
     ·cases hh
    ·cases hh
   ·cases hh
  ·cases hs
theorem qY(G:K.Good){E:Value->World->Prop}{a:AA}:∀{l:List AV} {j:Nat} {h h':AH} {w:World},Rel K ρ h w->l_ h a l j=.ok h'->
  ∀{Q:Unit->World->Prop},(∀w',Rel K ρ h' w'->cE K.own w w'->h'.nb=h.nb->h'.eH=h.eH->Q () w')->wq K.P K.Ev E (storeCells (a.ev ρ) (AV.cf ρ l) j) Q w:=by
 intro l
 induction l with
 |nil=>intro j h h' w R hs Q hq;simp[l_]at hs;subst hs;exact hq w R (cE.refl _ _) rfl rfl
 |cons v l ih=>
  intro j h h' w R hs Q hq;simp only[l_]at hs;split at hs
  ·rename_i h1 hh1;obtain⟨s1,s2,s3,s4,s5,s6,s7,s8⟩:=jb R G hh1;rw[AA.sI]at s2 s3 s4 s5 s6;simp only[AV.cf,storeCells,bG];rw[v_];exact⟨s1,s2,s3,s4 _,ih s5 hs fun w' r1 r2 r3 r4=>hq w' r1 (s6.trans r2) (r3.trans s7) (r4.trans s8)⟩
  ·cases hs
theorem vd{a:AA}(ha:a.In U):∀{l:List AV} {j:Nat} {h h':AH},h_ K U h->l_ h a l j=.ok h'->AV.iB U l->h_ K U h':=by
 intro l
 induction l with
 |nil=>intro j h h' I hs _;simp[l_]at hs;subst hs;exact I
 |cons v l ih=>
  intro j h h' I hs hv;simp only[l_]at hs;split at hs
  ·rename_i h1 hh1;exact ih (Au I hh1 (AA.xI j ha) hv.1) hs hv.2
  ·cases hs
end
end
def cn.upd(ρ:cn)(n m:Nat)(c:Int):cn:={ρ with b:=fun x=>if x=n then m else ρ.b x,i:=fun x=>if x=n then c else ρ.i x}
def plus(U:Nat->Prop)(a b:Nat):Nat->Prop:=fun n=>U n∨(a≤n∧n<b)
theorem cG{U:Nat->Prop}{a b:Nat}:∀n,U n->plus U a b n:=fun _ h=>.inl h
theorem gZ{U:Nat->Prop}{ρ:cn}{n m:Nat}{c:Int}(h:¬U n):cz U ρ (ρ.upd n m c):=
 ⟨rfl,rfl,rfl,fun x hx=>by
  have:x≠n:=fun e=>h (e▸hx);simp[cn.upd,this],fun x hx=>by
  have:x≠n:=fun e=>h (e▸hx);simp[cn.upd,this]⟩
section
variable {K:ik}{ρ:cn}{h:AH}{w:World}{U:Nat->Prop}
theorem Rel.bE(R:Rel K ρ h w)(I:h_ K U h){bL:cn}(A:cz U ρ bL):Rel K bL h w:=by
 have hk:∀i b,cV i h.hp=some b->bL.b i=ρ.b i:=fun i b hb=>A.b i (I.keys i (nY hb));refine⟨fun i b hb=>?_,fun i b hb=>by rw[hk i b hb];exact R.qu i b hb,fun i j b c hb hc e=>R.inj i j b c hb hc (by rw[hk i b hb,hk j c hc]at e;exact e),fun p hp=>?_,fun p hp=>?_,fun p hp=>?_,R.room,fun i b hb n hs=>(E8 A (I.hp i b hb)).2 (R.fT i b hb n (by rw[hk i b hb]at hs;exact hs)),R.low⟩
 ·obtain⟨arr,ha,hf⟩:=R.kj i b hb;exact⟨arr,by rw[hk i b hb];exact ha,G8 A (I.hp i b hb) hf⟩
 ·rw[BE.cu A (I.zE.bs p hp)];exact R.bs p hp
 ·rw[IE.cu A (I.zE.is p hp).1,IE.cu A (I.zE.is p hp).2];exact R.is p hp
 ·rw[AA.cu A (I.zE.mem p hp).1,AV.cu A _ (I.zE.mem p hp).2];exact R.mem p hp
theorem Rel.aig(R:Rel K ρ h w)(I:h_ K U h)(dU:h.nb<h.eH){m:Nat}{c:Int}{b:bM}{o:Obj}(hm:w.heap[m]?=some o)(fu:K.own m)
 (df:∀j x,cV j h.hp=some x->ρ.b j≠m)(di:∀n,K.still m n->b.i_ K.P (ρ.upd h.nb m c) n)(hf:b.is K.P (ρ.upd h.nb m c) o):Rel K (ρ.upd h.nb m c) ⟨u6 h.nb b h.hp,h.nb+1,h.eH⟩ w:=by
 have CQ:¬U h.nb:=I.fresh _ (aq _) dU;have hnk:h.nb∉Go.Proofs.Ythaddgfbohmfoaa.SX.keys h.hp:=fun hk=>CQ (I.keys _ hk);have R':=R.bE I (gZ (m:=m) (c:=c) CQ);have GV:(ρ.upd h.nb m c).b h.nb=m:=by simp[cn.upd]
 have hbj:∀j x,cV j h.hp=some x->(ρ.upd h.nb m c).b j=ρ.b j:=fun j x hx=>(gZ (m:=m) (c:=c) CQ).b j (I.keys j (nY hx));refine⟨fun i x hx=>?_,fun i x hx=>?_,fun i j x y hx hy e=>?_,R'.bs,R'.is,R'.mem,R'.room,fun i x hx n hs=>?_,R'.low⟩
 ·rw[ma _ _ _ _ hnk]at hx;split at hx
  ·rename_i e;subst e;cases hx;rw[GV];exact⟨o,hm,hf⟩
  ·exact R'.kj i x hx
 ·rw[ma _ _ _ _ hnk]at hx;split at hx
  ·rename_i e;subst e;cases hx;rw[GV];exact .inl fu
  ·exact R'.qu i x hx
 ·rw[ma _ _ _ _ hnk]at hx hy;split at hx<;>split at hy
  ·rename_i e1 e2;exact e1.trans e2.symm
  ·rename_i e1 e2;subst e1;rw[GV,hbj j y hy]at e;exact absurd e.symm (df j y hy)
  ·rename_i e1 e2;subst e2;rw[GV,hbj i x hx]at e;exact absurd e (df i x hx)
  ·exact R'.inj i j x y hx hy e
 ·rw[ma _ _ _ _ hnk]at hx;split at hx
  ·rename_i e;subst e;cases hx;rw[GV]at hs;exact di n hs
  ·exact R'.fT i x hx n hs
theorem Rel.aih(R:Rel K ρ h w)(I:h_ K U h)(dU:h.nb<h.eH){m:Nat}{c:Int}{b:bM}{o:Obj}(hm:w.heap[m]?=some o)(fu:K.own m)
 (df:∀j x,cV j h.hp=some x->ρ.b j≠m)(di:∀n,¬K.still m n)(hf:b.is K.P (ρ.upd h.nb m c) o):Rel K (ρ.upd h.nb m c) ⟨u6 h.nb b h.hp,h.nb+1,h.eH⟩ w:=
 R.aig I dU hm fu df (fun n hs=>absurd hs (di n)) hf
theorem Rel.Wv(R:Rel K ρ h w)(I:h_ K U h)(dU:h.nb<h.eH){m:Nat}{c:Int}{b:bM}{arr:Array Value}(hm:w.heap[m]?=some (.cells arr b.elem (0,0)))(fu:K.own m)
 (df:∀j x,cV j h.hp=some x->ρ.b j≠m)(di:∀n,¬K.still m n)(hf:b.jg K.P (ρ.upd h.nb m c) arr):Rel K (ρ.upd h.nb m c) ⟨u6 h.nb b h.hp,h.nb+1,h.eH⟩ w:=
 R.aih I dU hm fu df di (.inl ⟨arr,rfl,hf⟩)
theorem h_.Wv(I:h_ K U h)(dU:h.nb<h.eH){b:bM}(hb:b.In (plus U h.nb (h.nb+1))):h_ K (plus U h.nb (h.nb+1)) ⟨u6 h.nb b h.hp,h.nb+1,h.eH⟩:=by
 have CQ:¬U h.nb:=I.fresh _ (aq _) dU;have hnk:h.nb∉Go.Proofs.Ythaddgfbohmfoaa.SX.keys h.hp:=fun hk=>CQ (I.keys _ hk);refine⟨fun i x hx=>?_,fun i hi=>?_,?_,fun n h1 h2=>?_,I.zE.mono cG⟩
 ·rw[ma _ _ _ _ hnk]at hx;split at hx
  ·cases hx;exact hb
  ·exact bM.In.mono cG (I.hp i x hx)
 ·have:=(xG h.nb b h.hp).mem_iff.1 hi;rcases ac.1 this with rfl|hm
  ·exact .inr ⟨aq _,a_ _⟩
  ·exact .inl (I.keys i hm)
 ·exact(xG h.nb b h.hp).nodup_iff.2 (bC.2 ⟨hnk,I.nodup⟩)
 ·rintro(hu|⟨_,h3⟩)
  ·exact I.fresh n (by simp only at h1;omega) h2 hu
  ·simp only at h1;omega
theorem Rel.push(R:Rel K ρ h w)(o:Obj):Rel K ρ h {w with heap:=w.heap.push o}∧cE K.own w {w with heap:=w.heap.push o}:=by
 have acU:∀n,n<w.heap.size->(w.heap.push o)[n]?=w.heap[n]?:=fun n hn=>by rw[Array.getElem?_push_lt hn,aT hn]
 have hsz:(w.heap.push o).size=w.heap.size+1:=by simp
 refine⟨⟨fun i b hb=>?_,R.qu,R.inj,R.bs,R.is,fun p hp=>?_,fun n hn=>R.room n (by simp only[hsz]at hn;omega),R.fT,fun b n hs=>by have:=R.low b n hs;simp only[hsz];omega⟩,⟨fun n hn=>?_,by simp only[hsz];omega,rfl,rfl,rfl⟩⟩
 ·obtain⟨arr,ha,hf⟩:=R.kj i b hb;exact⟨arr,by show(w.heap.push o)[_]?=_;rw[acU _ (iN ha)];exact ha,hf⟩
 ·obtain⟨m1,m2,m3⟩:=R.mem p hp;refine⟨m1,?_,m3⟩;have dU:(p.1.ev ρ).block<w.heap.size:=by
   rcases bo (p.1.ev ρ).block w.heap.size with h'|h'
   ·exact h'
   ·simp[World.cell?,Array.getElem?_eq_none h']at m2
  simp only[World.cell?]at m2⊢;rw[acU _ dU];exact m2
 ·show(w.heap.push o)[n]?=_;rcases bo n w.heap.size with h'|h'
  ·exact acU n h'
  ·exact absurd (R.room n h') hn
theorem Rel.new(R:Rel K ρ h w)(I:h_ K U h)(dU:h.nb<h.eH){b:bM}{arr:Array Value}{c:Int}(hf:b.jg K.P (ρ.upd h.nb w.heap.size c) arr):
  Rel K (ρ.upd h.nb w.heap.size c) ⟨u6 h.nb b h.hp,h.nb+1,h.eH⟩ {w with heap:=w.heap.push (.cells arr b.elem (0,0))}:=by
 obtain⟨R',_⟩:=R.push (.cells arr b.elem (0,0));refine R'.Wv I dU (by simp) (R.room _ (aq _)) (fun j x hx e=>?_) (fun n hs=>by have:=R.low _ n hs;omega) hf;obtain⟨ja,ha,_⟩:=R.kj j x hx;have:=iN ha;omega
theorem Rel.drop(R:Rel K ρ h w)(I:h_ K U h)(i:Nat):Rel K ρ {h with hp:=j8 i h.hp} w:=by
 have hs:∀j b,cV j (j8 i h.hp)=some b->cV j h.hp=some b:=fun j b hb=>by
  rw[jy _ _ _ I.nodup]at hb;split at hb
  ·cases hb
  ·exact hb
 exact⟨fun j b hb=>R.kj j b (hs j b hb),fun j b hb=>R.qu j b (hs j b hb),fun j k b c hb hc e=>R.inj j k b c (hs j b hb) (hs k c hc) e,R.bs,R.is,R.mem,R.room,fun j b hb=>R.fT j b (hs j b hb),R.low⟩
theorem h_.drop(I:h_ K U h)(i:Nat):h_ K U {h with hp:=j8 i h.hp}:=
 ⟨fun j b hb=>I.hp j b (by
  rw[jy _ _ _ I.nodup]at hb;split at hb
  ·cases hb
  ·exact hb),fun j hj=>I.keys j ((ot i h.hp).mem hj),(ot i h.hp).nodup I.nodup,I.fresh,I.zE⟩
structure d6(K:ik)(U:Nat->Prop)(h h':AH):Prop where
 nb:h.nb≤h'.nb
 eH:h'.eH=h.eH
 iC:h_ K (plus U h.nb h'.nb) h'
theorem qx{U:Nat->Prop}{a:Nat}:∀n,plus U a a n->U n:=fun n h=>h.elim id fun h=>by omega
theorem h_.congr{U U':Nat->Prop}(I:h_ K U h)(h1:∀n,U n↔U' n):h_ K U' h:=
 ⟨fun i b hb=>bM.In.mono (fun n=>(h1 n).1) (I.hp i b hb),fun i hi=>(h1 i).1 (I.keys i hi),I.nodup,fun n a b c=>I.fresh n a b ((h1 n).2 c),I.zE.mono fun n=>(h1 n).1⟩
theorem d6.refl(I:h_ K U h):d6 K U h h:=⟨aq _,rfl,I.congr fun n=>⟨.inl,qx n⟩⟩
theorem nZ{U:Nat->Prop}{a b c:Nat}(h1:a≤b)(h2:b≤c)(n:Nat):plus (plus U a b) b c n↔plus U a c n:=by
 unfold plus;constructor
 ·rintro((h|h)|h)
  ·exact .inl h
  ·exact .inr ⟨h.1,by omega⟩
  ·exact .inr ⟨by omega,h.2⟩
 ·rintro(h|h)
  ·exact .inl (.inl h)
  ·by_cases e:n<b
   ·exact .inl (.inr ⟨h.1,e⟩)
   ·exact .inr ⟨by omega,h.2⟩
theorem d6.trans{h' WX:AH}(g:d6 K U h h')(g':d6 K (plus U h.nb h'.nb) h' WX):d6 K U h WX:=
 ⟨bp g.nb g'.nb,g'.eH.trans g.eH,g'.iC.congr fun n=>nZ g.nb g'.nb n⟩
def f_(K:ik)(U:Nat->Prop)(ρ:cn)(w:World)(h':AH)(Q:cn->Prop)(w':World):Prop:=
 ∃bL,cz U ρ bL∧Rel K bL h' w'∧cE K.own w w'∧Q bL
theorem f_.eL(R:Rel K ρ h w){Q:cn->Prop}(hq:Q ρ):f_ K U ρ w h Q w:=⟨ρ,cz.refl _ _,R,cE.refl _ _,hq⟩
theorem qZ(R:Rel K ρ h w)(I:h_ K U h){b:bM}{v:AV}{h':AH}(ha:alloc? h b=.ok (v,h'))(hb:b.In U):
  (∃a,v=.ptr (some a))∧v.In (plus U h.nb h'.nb)∧d6 K U h h'∧∀arr,b.jg K.P ρ arr->
   f_ K U ρ w h' (fun bL=>v.ev bL=.pointer (some ⟨w.heap.size,0,none⟩)) {w with heap:=w.heap.push (.cells arr b.elem (0,0))}:=by
 obtain⟨hp,nb,eH⟩:=h;simp only[alloc?]at ha;split at ha
 ·rename_i dU;cases ha;have CQ:¬U nb:=I.fresh _ (aq _) dU;refine⟨⟨_,rfl⟩,⟨.inr ⟨aq _,a_ _⟩,trivial⟩,⟨Nat.le_succ _,rfl,I.Wv dU (bM.In.mono cG hb)⟩,fun arr hf=>?_⟩;refine⟨ρ.upd nb w.heap.size 0,gZ CQ,R.new I dU (vc (gZ CQ) hb hf),(R.push _).2,?_⟩;simp[AV.ev,AA.ev,BR.ev,IE.ev,cn.upd]
 ·cases ha
theorem k9(R:Rel K ρ h w)(I:h_ K U h){b:bM}{l c:IE}{v:AV}{h':AH}(ha:allocSlice? h b l c=.ok (v,h'))(hb:b.In U)(hl:l.In U)(hc:c.In U):
  v.In (plus U h.nb h'.nb)∧d6 K U h h'∧∀arr,b.jg K.P ρ arr->
   f_ K U ρ w h' (fun bL=>v.ev bL=.slice (some ⟨w.heap.size,0,none⟩) (l.ev ρ).toNat (c.ev ρ).toNat) {w with heap:=w.heap.push (.cells arr b.elem (0,0))}:=by
 obtain⟨hp,nb,eH⟩:=h;simp only[allocSlice?]at ha;split at ha
 ·rename_i dU;cases ha;have CQ:¬U nb:=I.fresh _ (aq _) dU;refine⟨⟨⟨.inr ⟨aq _,a_ _⟩,trivial⟩,IE.In.mono cG hl,IE.In.mono cG hc⟩,⟨Nat.le_succ _,rfl,I.Wv dU (bM.In.mono cG hb)⟩,fun arr hf=>?_⟩;refine⟨ρ.upd nb w.heap.size 0,gZ CQ,R.new I dU (vc (gZ CQ) hb hf),(R.push _).2,?_⟩;simp only[AV.ev,IE.cu (gZ CQ) hl,IE.cu (gZ CQ) hc];simp[AA.ev,BR.ev,IE.ev,cn.upd]
 ·cases ha
end
section
theorem bN{α β:Type}{x:M α}{f:α->M β}{b:β}:(x>>= f)=.ok b↔∃a,x=.ok a∧f a=.ok b:=by
 cases x with
 |ok a=>simp[bind,Except.bind]
 |error e=>simp[bind,Except.bind]
theorem bV{α:Type}{a b:α}:(pure a:M α)=.ok b↔a=b:=by simp[pure,Except.pure]
theorem JS(ρ:cn)(v:Value):(Wt v).ev ρ=v:=by unfold Wt;split<;>simp[AV.ev,BE.ev,IE.ev,AA.ev,BR.ev]
theorem JT{U:Nat->Prop}(v:Value):(Wt v).In U:=by unfold Wt;split<;>simp[AV.In,BE.In,IE.In,AA.In,BR.In,nC]
theorem Mp(ρ:cn)(l:List Value):AV.cf ρ (l.map Wt)=l:=by
 rw[jT,List.map_map]
 conv=>rhs;rw[<-List.map_id l]
 exact aY fun v _=>JS ρ v
theorem Mq{U:Nat->Prop}(l:List Value):AV.iB U (l.map Wt):=dg.2 fun a ha=>by obtain⟨v,_,rfl⟩:=aJ.1 ha;exact JT v
theorem JU(ρ:cn)(v:Value):(vW v).ev ρ=v:=by
 unfold vW;split
 ·simp[AV.ev,JS]
 ·exact JS ρ _
theorem JV{U:Nat->Prop}(v:Value):(vW v).In U:=by
 unfold vW;split
 ·exact JT _
 ·exact JT _
theorem Rr(ρ:cn)(v:Value):(of2 v).ev ρ=v:=by
 unfold of2;split
 ·simp[AV.ev,Mp]
 ·simp[AV.ev,Mp]
 ·exact JU ρ _
theorem Rs{U:Nat->Prop}(v:Value):(of2 v).In U:=by
 unfold of2;split
 ·exact Mq _
 ·exact Mq _
 ·exact JV _
theorem ox(ρ:cn)(v:Value):(ofValue v).ev ρ=v:=by
 unfold ofValue;split
 ·simp only[AV.ev,jT,List.map_map];congr 1;rename_i vs;have:vs.toList.map (AV.ev ρ ∘ of2)=vs.toList:=by
   conv=>rhs;rw[<-List.map_id vs.toList]
   exact aY fun v _=>Rr ρ v
  rw[this]
 ·exact Rr ρ _
theorem oy{U:Nat->Prop}(v:Value):(ofValue v).In U:=by
 unfold ofValue;split
 ·exact dg.2 fun a ha=>by obtain⟨v,_,rfl⟩:=aJ.1 ha;exact Rs v
 ·exact Rs _
mutual
theorem Fb(ρ:cn):∀(a:AV) {v:Value},a.val?=some v->a.ev ρ=v
 |.bool b,v,h=>by cases b<;>simp_all [AV.val?,AV.ev,BE.ev]
 |.int k e,v,h=>by cases e<;>simp_all [AV.val?,AV.ev,IE.ev]
 |.str s,v,h=>by simp_all [AV.val?,AV.ev]
 |.ptr a,v,h=>by
  unfold AV.val? at h;split at h<;>simp_all [AV.ev,AA.ev,BR.ev,IE.ev]
  all_goals first
   |(obtain⟨rfl,rfl⟩:=h;simp_all [AV.ev,AA.ev,BR.ev,IE.ev];done)
   |(rename_i hh;subst hh;simp[AA.ev,BR.ev,IE.ev];done)
   |skip
 |.slice a l c,v,h=>by
  unfold AV.val? at h;split at h<;>simp_all [AV.ev,AA.ev,BR.ev,IE.ev]
  all_goals first
   |(obtain⟨rfl,rfl,rfl⟩:=‹_∧_∧_›;simp[IE.ev];done)
   |skip
 |.map r,v,h=>by cases r<;>simp_all [AV.val?,AV.ev]
 |.chan r,v,h=>by cases r<;>simp_all [AV.val?,AV.ev]
 |.func f x y,v,h=>by
  simp only[AV.val?]at h;split at h
  ·rename_i x' y' hx hy;simp only[AV.ev,n7 ρ x hx,n7 ρ y hy];simpa using h
  ·cases h
 |.nilFunc,v,h=>by simp_all [AV.val?,AV.ev]
 |.iface t u,v,h=>by
  simp only[AV.val?]at h;split at h
  ·rename_i u' hu;simp only[AV.ev,Fb ρ u hu];simpa using h
  ·cases h
 |.nilIface,v,h=>by simp_all [AV.val?,AV.ev]
 |.agg x,v,h=>by
  simp only[AV.val?]at h;split at h
  ·rename_i u' hu;simp only[AV.ev,n7 ρ x hu];simpa using h
  ·cases h
 |.tuple x,v,h=>by
  simp only[AV.val?]at h;split at h
  ·rename_i u' hu;simp only[AV.ev,n7 ρ x hu];simpa using h
  ·cases h
 |.ez i,v,h=>by simp[AV.val?]at h
 |.CM u,v,h=>by simp_all [AV.val?,AV.ev]
theorem n7(ρ:cn):∀(l:List AV) {vs:List Value},AV.vals? l=some vs->AV.cf ρ l=vs
 |[],vs,h=>by simp_all [AV.vals?,AV.cf]
 |a::l,vs,h=>by
  simp only[AV.vals?]at h;split at h
  ·rename_i v vs' hv Mr;simp only[AV.cf,Fb ρ a hv,n7 ρ l Mr];simpa using h
  ·cases h
end
section
variable {K:ik}{ρ:cn}{h:AH}{w:World}{U:Nat->Prop}
theorem Fc(ρ:cn)(e:IE):e.xD.ev ρ=e.ev ρ:=by unfold IE.xD;split<;>simp[IE.ev]
theorem WY{e:IE}(hi:e.In U):e.xD.In U:=by unfold IE.xD;split<;>first|trivial|exact hi
theorem oz(R:Rel K ρ h w)(e:IE):(K.O.int e).ev ρ=e.ev ρ:=by
 unfold dP.int;split
 ·rename_i n hn;rw[<-Fc ρ e,hn]
 ·rename_i hn;cases hl:look IE.hZ e.xD K.O.is with
  |none=>simp[Fc]
  |some e'=>obtain⟨x,hx,he⟩:=iv hl;obtain rfl:=IE.dG he;simp only[Option.getD_some];rw[<-R.is _ hx,Fc]
theorem ve(I:h_ K U h){e:IE}(hi:e.In U):(K.O.int e).In U:=by
 unfold dP.int;split
 ·trivial
 ·cases hl:look IE.hZ e.xD K.O.is with
  |none=>exact WY hi
  |some e'=>obtain⟨x,hx,_⟩:=iv hl;exact(I.zE.is _ hx).2
theorem Av(ρ:cn)(b:BE):b.xD.ev ρ=b.ev ρ:=by unfold BE.xD;split<;>simp[BE.ev,IE.ev]
theorem Rt{b:BE}(hi:b.In U):b.xD.In U:=by unfold BE.xD;split<;>first|trivial|exact hi
theorem zG(R:Rel K ρ h w)(b:BE):(K.O.bool b).ev ρ=b.ev ρ:=by
 unfold dP.bool;split
 ·rename_i n hn;rw[<-Av ρ b,hn]
 ·rename_i hn;split
  ·rename_i v hv;obtain⟨x,hx,he⟩:=iv hv;obtain rfl:=BE.dG he;rw[<-Av ρ b,R.bs _ hx];rfl
  ·exact Av ρ b
theorem Fd{b:BE}(hi:b.In U):(K.O.bool b).In U:=by
 unfold dP.bool;split
 ·trivial
 ·split
  ·trivial
  ·exact Rt hi
theorem oA(R:Rel K ρ h w){b:BE}{t:Bool}(e:K.O.bool b=.lit t):b.ev ρ=t:=by rw[<-zG R b,e];rfl
theorem pT(R:Rel K ρ h w){b:BE}{t:Bool}(e:K.O.dec b=.ok t):b.ev ρ=t:=by
 unfold dP.dec at e;split at e
 ·rename_i v hv;cases e;exact oA R hv
 ·cases e
theorem sK(R:Rel K ρ h w)(v:AV):(rU K.O v).ev ρ=v.ev ρ:=by cases v<;>simp only[rU,AV.ev];rw[oz R]
theorem Hb(I:h_ K U h){v:AV}(hv:v.In U):(rU K.O v).In U:=by
 cases v<;>first|exact hv|skip
 exact ve I hv
theorem iR{v:AV}{cs:List AV}(hc:v.cells?=.ok cs)(ρ:cn):(v.ev ρ).cells=(AV.cf ρ cs).toArray:=by cases v<;>simp[AV.cells?]at hc<;>subst hc<;>simp[AV.ev,Value.cells,AV.cf]
theorem me{v:AV}{cs:List AV}(hc:v.cells?=.ok cs)(hi:v.In U):AV.iB U cs:=by cases v<;>simp[AV.cells?]at hc<;>subst hc<;>first|exact hi|exact⟨hi,trivial⟩
theorem Hc{P:Program}{t:TypeId}{z:AV}(h:zero? P t=.ok z):∃i v,P.info? t=some i∧i.zero=some v∧z=ofValue v:=by
 unfold zero? at h;split at h
 ·rename_i i hi;split at h
  ·rename_i v hv;cases h;exact⟨i,v,hi,hv,rfl⟩
  ·cases h
 ·cases h
theorem fR{P:Program}{Ev:Event->Prop}{E:Value->World->Prop}{t:TypeId}{z:AV}(hz:zero? P t=.ok z){Q:Value->World->Prop}{w:World}:wq P Ev E (zeroValue t) Q w↔Q (z.ev ρ) w:=by obtain⟨i,v,hi,hv,rfl⟩:=Hc hz;simp[zeroValue,dZ hi,hv,ox]
theorem qy{P:Program}{t:TypeId}{z:AV}(hz:zero? P t=.ok z):z.In U:=by obtain⟨i,v,hi,hv,rfl⟩:=Hc hz;exact oy v
theorem zH{E:Value->World->Prop}{t:TypeId}{cs:List AV}{off:Nat}{v:AV}(hp:part? K.P t cs off=.ok v){Q:Value->World->Prop}{w:World}(hq:Q (v.ev ρ) w):
  wq K.P K.Ev E (part t (AV.cf ρ cs).toArray off) Q w:=by
 unfold part? at hp;rw[bN]at hp;obtain⟨b,hb,hp⟩:=hp;simp only[part,bG,G6 hb];split at hp
 ·rename_i qj;rw[bN]at hp;obtain⟨n,hn,hp⟩:=hp;split at hp
  ·rename_i hle;cases hp;rw[if_pos qj];simp only[bG,d3 hn,bO];simp only[AV.ev]at hq;have:(AV.cf ρ cs).toArray.extract off (off+n)=(AV.cf ρ ((cs.drop off).take n)).toArray:=by
    rw[jT,jT,List.extract_toArray];simp[List.extract_eq_take_drop,List.map_take,List.map_drop]
   rw[this];exact hq
  ·cases hp
 ·rename_i qj;rw[if_neg qj];split at hp
  ·rename_i u hu;cases hp;have:(AV.cf ρ cs).toArray[off]?=some (v.ev ρ):=by
    rw[bw,pq,hu];rfl
   rw[this];exact hq
  ·cases hp
theorem wj{P:Program}{t:TypeId}{cs:List AV}{off:Nat}{v:AV}(hp:part? P t cs off=.ok v)(hi:AV.iB U cs):v.In U:=by
 unfold part? at hp;rw[bN]at hp;obtain⟨b,hb,hp⟩:=hp;split at hp
 ·rw[bN]at hp;obtain⟨n,hn,hp⟩:=hp;split at hp
  ·cases hp;exact dg.2 fun a ha=>dg.1 hi _ (List.mem_of_mem_drop (List.mem_of_mem_take ha))
  ·cases hp
 ·split at hp
  ·rename_i u hu;cases hp;exact dg.1 hi _ (bf hu)
  ·cases hp
theorem mf(R:Rel K ρ h w)(G:K.Good){E:Value->World->Prop}{t:TypeId}{a:AA}{v:AV}(hl:loadVar? K.P K.O h t a=.ok v){Q:Value->World->Prop}(hq:Q (v.ev ρ) w):
  wq K.P K.Ev E (loadVar t (a.ev ρ)) Q w:=by
 unfold loadVar? at hl;rw[bN]at hl;obtain⟨b,hb,hl⟩:=hl;simp only[loadVar,bG,G6 hb];split at hl
 ·rename_i qj;simp only[bN,bV]at hl;obtain⟨n,hn,l,hl,rfl⟩:=hl;rw[if_pos qj];simp only[bG,d3 hn,loadCells];exact mP R G hl (by simpa[AV.ev] using hq)
 ·rename_i qj;rw[if_neg qj];obtain⟨h1,h2⟩:=sH R G hl;rw[v9];exact⟨_,h1,h2 _,hq⟩
theorem pt(I:h_ K U h){t:TypeId}{a:AA}{v:AV}(hl:loadVar? K.P K.O h t a=.ok v):v.In U:=by
 unfold loadVar? at hl;rw[bN]at hl;obtain⟨b,hb,hl⟩:=hl;split at hl
 ·simp only[bN,bV]at hl;obtain⟨n,hn,l,hl,rfl⟩:=hl;exact wg I hl
 ·exact As I hl
theorem pu(R:Rel K ρ h w)(G:K.Good){E:Value->World->Prop}{t:TypeId}{a:AA}{v:AV}{h':AH}(hs:storeVar? K.P h t a v=.ok h'){Q:Unit->World->Prop}
 (hq:∀w',Rel K ρ h' w'->cE K.own w w'->h'.nb=h.nb->h'.eH=h.eH->Q () w'):wq K.P K.Ev E (storeVar t (a.ev ρ) (v.ev ρ)) Q w:=by
 unfold storeVar? at hs;simp only[bN]at hs;obtain⟨cs,hc,n,hn,hs⟩:=hs;split at hs
 ·rename_i dI;have vf:=iR hc ρ;simp only[storeVar,bG,d3 hn,vf];have hsz:(AV.cf ρ cs).toArray.size=n:=by simp[dt,dI]
  rw[if_neg (by simpa using hsz)];exact qY G R hs hq
 ·cases hs
theorem uC(I:h_ K U h){t:TypeId}{a:AA}{v:AV}{h':AH}(hs:storeVar? K.P h t a v=.ok h')(ha:a.In U)(hv:v.In U):h_ K U h':=by
 unfold storeVar? at hs;simp only[bN]at hs;obtain⟨cs,hc,n,hn,hs⟩:=hs;split at hs
 ·exact vd ha I hs (me hc hv)
 ·cases hs
theorem JW(R:Rel K ρ h w)(G:K.Good){i:Nat}{e:TypeId}{c:IE}(hb:cV i h.hp=some (.row [] e c)){n:Nat}{no:TypeInfo}(hi:K.P.info? e=some no)(hn:n<(c.ev ρ).toNat*no.size)(v:Value):
  (∃u,w.cell? ⟨ρ.b i,n,none⟩=some u)∧w.frozen? ⟨ρ.b i,n,none⟩=false∧(∀s,K.Ev ⟨.cell ⟨ρ.b i,n,none⟩,true,s⟩)∧Rel K ρ h (w.setCell ⟨ρ.b i,n,none⟩ v)∧cE K.own w (w.setCell ⟨ρ.b i,n,none⟩ v):=by
 obtain⟨arr,ha,rest,ao1,Ru,WZ,Ww⟩:=R.arr hb rfl;obtain rfl:no=ao1:=by rw[hi]at WZ;exact au WZ
 have dU:n<arr.size:=by rw[Ww];exact hn
 have fu:=R.own _ _ hb rfl;have xw:¬K.still (ρ.b i) n:=fun x=>by have:=R.fT _ _ hb n x;cases this
 refine⟨⟨arr[n],by rw[j9 ha];simp[dU]⟩,jA ha,fun s=>G.wr _ _ fu xw,?_,?_⟩
 ·refine⟨fun j b hj=>?_,R.qu,R.inj,R.bs,R.is,fun p hp=>?_,fun m hm=>R.room m (by rw[fQ]at hm;exact hm),R.fT,fun b m hm=>by rw[fQ];exact R.low b m hm⟩
  ·by_cases ej:j=i
   ·subst ej;rw[hb]at hj;cases hj;refine⟨.cells (arr.setIfInBounds n v) e (0,0),?_,.inl ⟨_,rfl,(arr.setIfInBounds n v).toList,no,(aA _).symm,hi,by simpa using Ww⟩⟩;rw[d5,if_pos rfl,ha];rfl
   ·obtain⟨o,ho,nN⟩:=R.kj _ _ hj;exact⟨o,by rw[d5,if_neg (fun x=>ej (R.inj _ _ _ _ hj hb x)),ho],nN⟩
  ·obtain⟨m1,m2,m3⟩:=R.mem p hp;refine⟨m1,?_,m3⟩;have df:(p.1.ev ρ).block≠ρ.b i:=fun x=>m1 (x▸fu);simp only[World.cell?]at m2⊢;rw[d5,if_neg df];exact m2
 ·refine⟨fun m hm=>?_,by rw[fQ];exact aq _,rfl,rfl,rfl⟩;rw[d5,if_neg (fun x=>hm (by rw[x];exact fu))]
theorem JX(G:K.Good){E:Value->World->Prop}{i:Nat}{e:TypeId}{c:IE}(hb:cV i h.hp=some (.row [] e c)){no:TypeInfo}(hi:K.P.info? e=some no){off:Nat}:
  ∀{l:List AV} {j:Nat} {w:World},Rel K ρ h w->vY l=true->off+j+l.length≤(c.ev ρ).toNat*no.size->∀{Q:Unit->World->Prop},(∀w',Rel K ρ h w'->cE K.own w w'->Q () w')->
   wq K.P K.Ev E (storeCells ⟨ρ.b i,off,none⟩ (AV.cf ρ l) j) Q w:=by
 intro l
 induction l with
 |nil=>intro j w R _ _ Q hq;exact hq w R (cE.refl _ _)
 |cons v l ih=>
  intro j w R ho hle Q hq;simp only[vY,ax]at ho;simp only[bd]at hle;obtain⟨s2,s3,s4,s5,s6⟩:=JW R G hb hi (n:=off+j) (by omega) (v.ev ρ);have ea:(⟨ρ.b i,off,none⟩:Addr).add j=⟨ρ.b i,off+j,none⟩:=by
   by_cases hj:j=0
   ·subst hj;rfl
   ·simp[Addr.add,hj]
  simp only[AV.cf,storeCells,bG];rw[v_,ea];exact⟨qW ho.1 ρ,s2,s3,s4 _,ih s5 ho.2 (by omega) fun w' r1 r2=>hq w' r1 (s6.trans r2)⟩
theorem Hd(R:Rel K ρ h w)(G:K.Good){E:Value->World->Prop}{t:TypeId}{i:Nat}{off:IE}{v:AV}{h':AH}(hs:storeRow? K.P K.O h t i off v=.ok h'){Q:Unit->World->Prop}
 (hq:∀w',Rel K ρ h w'->cE K.own w w'->Q () w'):wq K.P K.Ev E (storeVar t ((⟨.cN i,off⟩:AA).ev ρ) (v.ev ρ)) Q w∧h'=h:=by
 unfold storeRow? at hs;simp only[bN]at hs;obtain⟨cs,hc,hs⟩:=hs;split at hs
 ·rename_i e c hb;simp only[bN]at hs;obtain⟨size,hsz,ok,hok,n,hn,hs⟩:=hs;split at hs
  ·rename_i hh;obtain⟨dI,pb,rfl,h0⟩:=hh;cases hs;refine⟨?_,rfl⟩;obtain⟨no,hi,rfl⟩:=ow hsz;have vf:=iR hc ρ;simp only[storeVar,bG,d3 hn,vf];have q_:(AV.cf ρ cs).toArray.size=n:=by simp[dt,dI]
   rw[if_neg (by simpa using q_)];have dU:((off.ev ρ).toNat:Int)+(Int.ofNat (cs.length-1))<((c.ev ρ).toNat:Int)*(Int.ofNat no.size):=by have:=pT R hok;exact of_decide_eq_true this
   have hle:(off.ev ρ).toNat+0+cs.length≤(c.ev ρ).toNat*no.size:=by
    have h2:(off.ev ρ).toNat+(cs.length-1)<(c.ev ρ).toNat*no.size:=by
     have:=dU;simp only[Int.ofNat_eq_natCast]at this
     exact_mod_cast this
    omega
   show wq K.P K.Ev E (storeCells ⟨ρ.b i,(off.ev ρ).toNat,none⟩ (AV.cf ρ cs).toArray.toList 0) Q w;simp only[bm];exact JX G hb hi R pb hle hq
  ·cases hs
 ·cases hs
theorem N9(R:Rel K ρ h w)(G:K.Good){E:Value->World->Prop}{t:TypeId}{a:AA}{v:AV}{h':AH}(hs:storeS? K.P K.O h t a v=.ok h'){Q:Unit->World->Prop}
 (hq:∀w',Rel K ρ h' w'->cE K.own w w'->Q () w'):wq K.P K.Ev E (storeVar t (a.ev ρ) (v.ev ρ)) Q w:=by
 unfold storeS? at hs;split at hs
 ·split at hs
  ·have hh:h'=h:=by
    unfold storeRow? at hs;simp only[bN]at hs;obtain⟨cs,hc,hs⟩:=hs;split at hs
    ·simp only[bN]at hs;obtain⟨size,hsz,ok,hok,n,hn,hs⟩:=hs;split at hs<;>cases hs;rfl
    ·cases hs
   subst hh;exact(Hd R G hs hq).1
  ·exact pu R G hs fun w' a b _ _=>hq w' a b
 ·exact pu R G hs fun w' a b _ _=>hq w' a b
end
end
end Go.Proofs.Ythaddgfbohmfoaa.SX
