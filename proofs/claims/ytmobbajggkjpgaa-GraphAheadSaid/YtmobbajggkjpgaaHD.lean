/-
  A symbolic run of the model, proved sound, and the walk of the code: a text of its parts. Conditions: none.
-/
import Derived.Test.YtmobbajggkjpgaaHC
set_option linter.unusedSectionVars false
set_option maxRecDepth 100000
set_option linter.unusedVariables false
set_option linter.unusedSimpArgs false
namespace Go.Proofs.Ytmobbajggkjpgaa.SX
open Go.Conc
def MapIs(w:World)(b:Nat)(es:List (Value×Value)):Prop:=∃arr clk,w.heap[b]?=some (.map arr clk)∧arr.toList.map (fun e=>(e.key,e.val))=es
section
variable {w w':World}{b b':Nat}{es:List (Value×Value)}{own:Nat->Prop}
theorem MapIs.keep(h:MapIs w b es)(kp:Keeps own w w')(hb:¬own b):MapIs w' b es:=by
 obtain⟨arr,clk,h1,h2⟩:=h
 exact⟨arr,clk,by rw[kp.heap b hb];exact h1,h2⟩
theorem MapIs.lt(h:MapIs w b es):b<w.heap.size:=by
 obtain⟨arr,clk,h1,h2⟩:=h
 exact heap_lt h1
end
inductive Blk where
 |obj(e:TypeId)(cs:List Value)
 |vec(e:TypeId)(cap:Nat)(xs:List Value)
 |map(es:List (Value×Value))
 |chan
def Blk.at(P:Program)(w:World)(b:Nat):Blk->Prop
 |.obj e cs=>ObjAt w b cs e
 |.vec e cap xs=>VecAt P w e b xs cap
 |.map es=>MapIs w b es
 |.chan=>ChanAt w b
def Blk.cell:Blk->Nat->Option Value
 |.obj _ cs,n=>cs[n]?
 |.vec _ _ xs,n=>xs[n]?
 |_,_=>none
def Blk.isChan:Blk->Bool
 |.chan=>true
 |_=>false
section
variable {P:Program}{w w':World}{b:Nat}{k:Blk}{own:Nat->Prop}
theorem Blk.at_keep(h:k.at P w b)(kp:Keeps own w w')(hb:¬own b):k.at P w' b:=by
 cases k with
 |obj e cs=>exact ObjAt.keep h kp hb
 |vec e cap xs=>exact VecAt.keep h kp hb
 |map es=>exact MapIs.keep h kp hb
 |chan=>exact ChanAt.keep h kp hb
theorem Blk.at_lt(h:k.at P w b):b<w.heap.size:=by
 cases k with
 |obj e cs=>exact ObjAt.lt h
 |vec e cap xs=>exact VecAt.lt h
 |map es=>exact MapIs.lt h
 |chan=>exact ChanAt.lt h
theorem Blk.at_cell(h:k.at P w b){n:Nat}{v:Value}(hn:k.cell n=some v):w.cell? ⟨b,n,none⟩=some v:=by
 cases k with
 |obj e cs=>exact ObjAt.cell h hn
 |vec e cap xs=>
  have:=VecAt.arr h n v hn
  rwa[Nat.zero_add]at this
 |map es=>cases hn
 |chan=>cases hn
theorem Blk.noChan(h:k.at P w b)(hk:k.isChan=false)(hc:ChanAt w b):False:=by
 cases k with
 |obj e cs=>exact(ObjAt.ty h).noChan hc rfl
 |vec e cap xs=>exact(VecAt.ty h).noChan hc rfl
 |map es=>
  obtain⟨arr,clk,h1,_⟩:=h
  obtain⟨n,h2⟩:=hc
  rw[h1]at h2;cases h2
 |chan=>cases hk
theorem Blk.at_set(h:k.at P w b){d c n m:Nat}(hc:w.heap[c]?=some (.chan 0 #[] false n n false)):k.at P ((w.at d).setChan c 0 #[] false m m false) b:=by
 by_cases e:b=c
 ·subst e
  cases hk:k.isChan with
  |false=>exact(Blk.noChan h hk ⟨n,hc⟩).elim
  |true=>
   cases k with
   |chan=>exact⟨m,heap_setChan_self (w.at d) (c:=b) hc _ _ _ _ _ _⟩
   |_=>cases hk
 ·exact Blk.at_keep (own:=fun b=>b=c) h ⟨fun n hn=>heap_setChan_ne (w.at d) _ _ _ _ _ _ (fun e=>hn e.symm),by rw[Go.Proofs.Ytmobbajggkjpgaa.SX.size_setChan];exact Nat.le_refl _,rfl,rfl,rfl⟩ e
end
def AbsIs(P:Program)(ρ:Env):ABlk->Blk->Prop
 |.cells l e,.obj e' cs=>e=e'∧AV.evs ρ l=cs
 |.lent l e _,.obj e' cs=>e=e'∧AV.evs ρ l=cs
 |.pre _ s n fs [] [] e c,.vec e' cap xs=>e=e'∧ρ.v s=.agg xs.toArray∧(∀i,P.info? e=some i->xs.length=(n.ev ρ).toNat*i.size)∧(∀p∈fs,xs[(p.1.ev ρ).toNat]?=some (p.2.ev ρ))∧(c.ev ρ).toNat=cap
 |.map l,.map es=>es=l.map fun p=>(p.1.ev ρ,p.2.ev ρ)
 |.vmap s n fs ws,.map es=>∃E,ρ.v s=encE E∧E.length=(n.ev ρ).toNat∧es=E++ws.map (fun p=>(p.1.ev ρ,p.2.ev ρ))∧∀p∈fs,KeyIs ρ E p.1 p.2
 |_,_=>False
theorem abs_is{P:Program}{w:World}{b:Nat}{k:Blk}{ρ:Env}{a:ABlk}(h:k.at P w b)(ha:AbsIs P ρ a k):∃o,w.heap[b]?=some o∧a.is P ρ o:=by
 unfold AbsIs at ha
 split at ha
 ·obtain⟨rfl,rfl⟩:=ha
  exact ObjAt.is h
 ·obtain⟨rfl,rfl⟩:=ha
  exact ObjAt.isLent h
 ·obtain⟨rfl,h1,h2,h3,h4⟩:=ha
  exact VecAt.is h h1 h2 h3 h4
 ·subst ha
  obtain⟨arr,clk,h1,h2⟩:=h
  exact⟨_,h1,.inr ⟨arr,clk,rfl,h2⟩⟩
 ·obtain⟨E,h1,h2,rfl,h4⟩:=ha
  obtain⟨arr,clk,h5,h6⟩:=h
  exact⟨_,h5,.inr ⟨arr,clk,E,rfl,h1,h2,h6,h4⟩⟩
 ·exact ha.elim
def listV:Value->List Value
 |.agg a=>a.toList
 |_=>[]
def decE(v:Value):List (Value×Value):=(listV v).map fun p=>((listV p).getD 0 undef,(listV p).getD 1 undef)
theorem decE_enc(E:List (Value×Value)):decE (encE E)=E:=by
 unfold decE encE listV
 simp only[List.map_map]
 conv=>rhs;rw[<-List.map_id E]
 refine List.map_congr_left fun p hp=>?_
 rfl
def blkOf(ρ:Env):ABlk->Blk
 |.cells l e=>.obj e (AV.evs ρ l)
 |.lent l e _=>.obj e (AV.evs ρ l)
 |.row l e c=>.vec e (c.ev ρ).toNat (AV.evs ρ l)
 |.pre _ s _ _ ws cs e c=>.vec e (c.ev ρ).toNat (wrote ρ (listV (ρ.v s)) ws++AV.evs ρ cs)
 |.map l=>.map (l.map fun p=>(p.1.ev ρ,p.2.ev ρ))
 |.vmap s _ _ ws=>.map (decE (ρ.v s)++ws.map fun p=>(p.1.ev ρ,p.2.ev ρ))
 |.chan=>.chan
theorem is_blk{P:Program}{w:World}{b:Nat}{ρ:Env}{a:ABlk}{o:Obj}(ho:w.heap[b]?=some o)(h:a.is P ρ o):(blkOf ρ a).at P w b:=by
 rcases h with⟨arr,rfl,hf⟩|h
 ·cases a with
  |cells l e=>exact⟨arr,ho,hf⟩
  |lent l e ls=>exact⟨arr,ho,hf⟩
  |row l e c=>
   obtain⟨rest,i,h1,h2,h3⟩:=hf
   exact⟨arr,rest,i,ho,h2,h1,h3⟩
  |pre lk s n fs ws cs e c=>
   obtain⟨pre,rest,i,h1,h2,h3⟩:=hf
   refine⟨arr,rest,i,ho,h1.info,?_,h3⟩
   rw[h1.val,h2]
   simp[listV]
  |map l=>exact hf.elim
  |vmap s n fs ws=>exact hf.elim
  |chan=>exact hf.elim
 ·cases a with
  |map l=>
   obtain⟨arr,clk,rfl,h2⟩:=h
   exact⟨arr,clk,ho,h2⟩
  |vmap s n fs ws=>
   obtain⟨arr,clk,E,rfl,h2,h3,h4,h5⟩:=h
   refine⟨arr,clk,ho,?_⟩
   rw[h4,h2,decE_enc]
  |chan=>
   obtain⟨n,rfl⟩:=h
   exact⟨n,ho⟩
  |_=>exact h.elim
structure HeapIs{ι:Type}(P:Program)(base:Nat)(w:World)(L:ι->Option (Nat×Blk)):Prop where
 at':∀r b k,L r=some (b,k)->k.at P w b
 inj:∀r r' b k k',L r=some (b,k)->L r'=some (b,k')->r=r'
 ge:∀r b k,L r=some (b,k)->base≤b
section
variable {ι:Type}{P:Program}{base:Nat}{w w':World}{L L':ι->Option (Nat×Blk)}
theorem HeapIs.sub(H:HeapIs P base w L)(h:∀r x,L' r=some x->L r=some x):HeapIs P base w L':=
 ⟨fun r b k e=>H.at' r b k (h _ _ e),fun r r' b k k' e e'=>H.inj r r' b k k' (h _ _ e) (h _ _ e'),fun r b k e=>H.ge r b k (h _ _ e)⟩
theorem HeapIs.keep(H:HeapIs P base w L){own:Nat->Prop}(kp:Keeps own w w')(hk:∀r b k,L r=some (b,k)->¬own b):HeapIs P base w' L:=
 ⟨fun r b k e=>Blk.at_keep (H.at' r b k e) kp (hk r b k e),H.inj,H.ge⟩
theorem HeapIs.keepN(H:HeapIs P base w L)(kp:Keeps (fun b=>w.heap.size≤b) w w'):HeapIs P base w' L:=
 H.keep kp fun r b k e=>Nat.not_le.2 (Blk.at_lt (H.at' r b k e))
theorem HeapIs.set(H:HeapIs P base w L){d c n m:Nat}(hc:w.heap[c]?=some (.chan 0 #[] false n n false)):HeapIs P base ((w.at d).setChan c 0 #[] false m m false) L:=
 ⟨fun r b k e=>Blk.at_set (H.at' r b k e) hc,H.inj,H.ge⟩
theorem HeapIs.draw(H:HeapIs P base w L)(d:Nat):HeapIs P base (w.at d) L:=
 H.keep (own:=fun _=>False) ⟨fun n hn=>rfl,Nat.le_refl _,rfl,rfl,rfl⟩ fun r b k e h=>h
theorem HeapIs.cell(H:HeapIs P base w L){r:ι}{b:Nat}{k:Blk}(e:L r=some (b,k)){n:Nat}{v:Value}(hn:k.cell n=some v):w.cell? ⟨b,n,none⟩=some v:=Blk.at_cell (H.at' r b k e) hn
theorem HeapIs.chan(H:HeapIs P base w L){r:ι}{b:Nat}(e:L r=some (b,.chan)):ChanAt w b:=H.at' r b _ e
theorem HeapIs.lt(H:HeapIs P base w L){r:ι}{b:Nat}{k:Blk}(e:L r=some (b,k)):b<w.heap.size:=Blk.at_lt (H.at' r b k e)
variable [DecidableEq ι]
end
def MemL{ι:Type}(L:ι->Option (Nat×Blk))(drop:List ι)(w:World)(base:Nat)(ρ:Env)(p:AA×AV):Prop:=
 (∃r k,L r=some ((p.1.ev ρ).block,k)∧r∉drop∧k.cell (p.1.ev ρ).off=some (p.2.ev ρ))∨((p.1.ev ρ).block<base∧w.cell? (p.1.ev ρ)=some (p.2.ev ρ))
structure FAt(P:Program)(fn:FuncId)(nt:Nat)(todo:List Item)(ds:List Deferred)(kind:CallKind)(lv:List (Nat×Value))(fr:Frame):Prop where
 ex:∃tm,fr=(mkF fn kind).at ⟨tm,ds⟩ todo∧tm.size=nt∧∀p∈lv,tm.getD p.1 undef=p.2
 le:nt≤60000
 fn:∃f,P.funcs[fn]?=some f
def stOf(fr:Frame)(n:Nat):Value:=fr.tmps.getD n undef
def told(ρ:Env)(lv:List (Nat×AV)):List (Nat×Value):=lv.map fun p=>(p.1,p.2.ev ρ)
section
variable {P:Program}{ρ:Env}{fn:FuncId}{nt:Nat}{todo:List Item}{ds:List Deferred}{kind:CallKind}{lv:List (Nat×Value)}{fr:Frame}
theorem FAt.sub(h:FAt P fn nt todo ds kind lv fr){lv':List (Nat×Value)}(hs:∀p∈lv',p∈lv):FAt P fn nt todo ds kind lv' fr:=by
 obtain⟨⟨tm,h1,h2,h3⟩,h4,h5⟩:=h
 exact⟨⟨tm,h1,h2,fun p hp=>h3 p (hs p hp)⟩,h4,h5⟩
theorem told_tmps{tm:Array Value}(hsz:tm.size=nt)(hle:nt≤60000){lA:List (Nat×AV)}(h:∀p∈told ρ lA,tm.getD p.1 undef=p.2):TmpR ρ nt (tmpsOf nt (fun n=>tm.getD n undef) lA) tm:=by
 refine⟨hsz,hle,fun n hn=>?_,fun n hn=>?_⟩
 ·rw[tmpsOf_get hle,if_pos hn]
  have hg:tm[n]?=some (tm.getD n undef):=by
   rw[Array.getD_eq_getD_getElem?]
   rw[Array.getElem?_eq_getElem (by omega)]
   rfl
  rw[hg]
  cases e:look (fun a b=>Nat.beq a b) n lA with
  |none=>simp[AV.ev]
  |some a=>
   obtain⟨x,hx,he⟩:=look_some e
   obtain rfl:=Nat.eq_of_beq_eq_true he
   have:=h (n,a.ev ρ) (List.mem_map.2 ⟨(n,a),hx,rfl⟩)
   dsimp only at this
   rw[this]
   rfl
 ·rw[tmpsOf_get hle,if_neg (by omega)]
theorem FAt.rel(h:FAt P fn nt todo ds kind lv fr)(hk:plainK kind)(lA:List (Nat×AV))(hl:told ρ lA=lv){dA:List AD}(hd:dA.map (AD.ev ρ)=ds):FrRel P ρ ⟨fn,nt,tmpsOf nt (stOf fr) lA,todo,dA,.run,kind⟩ fr:=by
 obtain⟨⟨tm,rfl,h2,h3⟩,h4,h5⟩:=h
 subst hl
 refine⟨tm,todo,⟨told_tmps h2 h4 h3,.inl hk,fun _=>rfl,h5⟩,?_⟩
 unfold frameOf
 dsimp only
 rw[plain_at hk,hd]
 rfl
theorem zip_told{t:TT}:∀{live:List Nat} {p:Nat×Value},p∈live.zip (AV.evs ρ (live.map fun n=>t.get n))->p.2=(t.get p.1).ev ρ
 |[],p,h=>by cases h
 |n::l,p,h=>by
  simp only[List.map_cons,AV.evs,List.zip_cons_cons,List.mem_cons]at h
  rcases h with rfl|h
  ·rfl
  ·exact zip_told h
theorem FAt.of{a:AFrame}{live:List Nat}{vals:List AV}{dA:List AD}(h:FrRel P ρ a fr)(s:frSeen a live=⟨fn,nt,todo,dA,.run,kind,[],[],vals⟩)(hk:plainK kind):FAt P fn nt todo (dA.map (AD.ev ρ)) kind (live.zip (AV.evs ρ vals)) fr:=by
 obtain⟨fn',nt',t,todo',ds',mode,kind'⟩:=a
 simp only[frSeen,Seen.mk.injEq]at s
 obtain⟨rfl,rfl,rfl,rfl,rfl,rfl,_,_,rfl⟩:=s
 obtain⟨tm,td,i,rfl⟩:=h
 refine⟨⟨tm,?_,i.tmps.size,fun p hp=>?_⟩,i.tmps.le,i.fn⟩
 ·have ht:td=todo':=i.todo rfl
  unfold frameOf
  dsimp only
  rw[plain_at hk,ht]
  rfl
 ·rw[zip_told hp]
  exact i.tmps.getD p.1
end
end Go.Proofs.Ytmobbajggkjpgaa.SX
namespace Go.Proofs.Ytmobbajggkjpgaa
open Go.Proofs.Ytmobbajggkjpgaa.SX Go.Conc
noncomputable def OO(bs:List (BE×Bool))(mem:List (AA×AV)):Orc:={bs:=bs,mem:=mem,fns:=fns,ext:=ext}
noncomputable abbrev XX(bs:List (BE×Bool))(mem:List (AA×AV)):Ext:=ext? Try.prog (OO bs mem) tab
noncomputable def runZ(bs:List (BE×Bool))(mem:List (AA×AV))(n:Nat)(ks:List Nat)(c:ACfg):M ACfg:=chunkTo? Try.prog (OO bs mem) (XX bs mem) noSums 4000 n ks c
noncomputable def cfg(cur:AFrame)(callers:List AFrame)(hp:List (Nat×ABlk)):ACfg:=⟨cur,callers,⟨hp,100,5192296858534827628530496329220096⟩⟩
noncomputable def KZ(base:Nat):Ctx:=⟨Try.prog,OO [] [],fun n=>base≤n,fun _=>True,True,fun _ _=>False⟩
theorem KZ_good(base:Nat):(KZ base).Good:=⟨fun _ _ _=>trivial,fun _ _ _ _=>trivial,fun _ _ _ h=>h.elim,fun _ _=>trivial,trivial,fun _ _=>trivial,fun _ _ _ _=>trivial⟩
abbrev Go1(base:Nat)(g:Goroutine)(w:World)(Q:Goroutine->World->Prop):Prop:=Walk Try.prog true (DK (KZ base)) Q 0 g w
theorem find_of{α:Type}:∀{l:List (Nat×α)} {i:Nat} {b:α},(l.map (·.1)).Nodup->(i,b)∈l->Go.Proofs.Ytmobbajggkjpgaa.SX.look (fun a b=>Nat.beq a b) i l=some b
 |p::l,i,b,h,hm=>by
  rw[List.map_cons,List.nodup_cons]at h
  have e1:Go.Proofs.Ytmobbajggkjpgaa.SX.look (fun a b=>Nat.beq a b) i (p::l)=Bool.rec (Go.Proofs.Ytmobbajggkjpgaa.SX.look (fun a b=>Nat.beq a b) i l) (some p.2) (Nat.beq i p.1):=rfl
  rw[e1]
  rcases List.mem_cons.1 hm with e|hm
  ·subst e
   have:Nat.beq i i=true:=Nat.beq_refl i
   rw[this]
  ·have:Nat.beq i p.1=false:=by
    cases e:Nat.beq i p.1 with
    |false=>rfl
    |true=>
     have:=Nat.eq_of_beq_eq_true e
     exact absurd (List.mem_map.2 ⟨_,hm,this⟩) h.1
   rw[this]
   exact find_of h.2 hm
abbrev Role:=Nat×Nat
abbrev Lay:=Role->Option (Nat×Blk)
structure On(base:Nat)(W0:World)(L:Lay)(w:World):Prop where
 heap:HeapIs Try.prog base w L
 keeps:Keeps (fun n=>base≤n) W0 w
 le:base≤W0.heap.size
def MemO(L:Lay)(drop:List Role)(base:Nat)(W0:World)(ρ:Env)(p:AA×AV):Prop:=
 (∃r k,L r=some ((p.1.ev ρ).block,k)∧r∉drop∧k.cell (p.1.ev ρ).off=some (p.2.ev ρ))∨((p.1.ev ρ).block<base∧W0.cell? (p.1.ev ρ)=some (p.2.ev ρ))
abbrev FA:=FAt Try.prog
def isRun:AMode->Bool
 |.run=>true
 |_=>false
def isPlain:CallKind->Bool
 |.normal=>true
 |.deferred=>true
 |_=>false
theorem plain_is{k:CallKind}(h:isPlain k=true):plainK k:=by
 cases k<;>first|exact .inl rfl|exact .inr rfl|cases h
def tellable(V:Seen):Bool:=isRun V.mode&&isPlain V.kind
section
variable {base:Nat}{W0 w:World}{L:Lay}{main:Bool}
theorem cell_keep{w w':World}{own:Nat->Prop}(kp:Keeps own w w'){a:Addr}{v:Value}(h:w.cell? a=some v)(hb:¬own a.block):w'.cell? a=some v:=by
 unfold World.cell? at h⊢
 rw[kp.heap _ hb]
 exact h
theorem On.new(o:On base W0 L w){n:Nat}(h:w.heap.size≤n):base≤n:=by
 have:=o.le
 have:=o.keeps.size
 omega
theorem MemO.to(o:On base W0 L w){drop:List Role}{ρ:Env}{p:AA×AV}(h:MemO L drop base W0 ρ p):MemL L drop w base ρ p:=by
 rcases h with h|⟨h1,h2⟩
 ·exact .inl h
 ·exact .inr ⟨h1,cell_keep o.keeps h2 (Nat.not_le.2 h1)⟩
end
def Goes(g:Goroutine)(w:World)(Q:Goroutine->World->Prop):Prop:=∃g' w',Steps Try.prog (loneG g w) (loneG g' w')∧Q g' w'
abbrev Fresh(w w':World):Prop:=Keeps (fun n=>w.heap.size≤n) w w'
def Ans(f:FuncId)(args:Array Value)(w:World)(Q:Value->World->Prop):Prop:=Calls Try.prog f args w fun e w'=>∃v,e=.returned v∧Q v w'
section
variable {g:Goroutine}{w:World}{Q R:Goroutine->World->Prop}
theorem Goes.here(h:Q g w):Goes g w Q:=⟨g,w,.refl _ _,h⟩
theorem Goes.trans(h:Goes g w Q)(k:∀g' w',Q g' w'->Goes g' w' R):Goes g w R:=by
 obtain⟨g1,w1,s1,q1⟩:=h
 obtain⟨g2,w2,s2,q2⟩:=k _ _ q1
 exact⟨g2,w2,s1.trans s2,q2⟩
theorem Goes.mono(h:Goes g w Q)(k:∀g' w',Q g' w'->R g' w'):Goes g w R:=by
 obtain⟨g1,w1,s1,q1⟩:=h
 exact⟨g1,w1,s1,k _ _ q1⟩
theorem Goes.of{base:Nat}(h:Go1 base g w Q):Goes g w Q:=walk_steps h
theorem Goes.one{g':Goroutine}{w':World}{es:Array Event}(hr:g.status=.running)(hs:stepG Try.prog true g w=.go g' w' es)(hq:Q g' w'):Goes g w Q:=⟨g',w',.head (step_loneG hr hs) (.refl _ _),hq⟩
end
theorem Fresh.refl(w:World):Fresh w w:=Keeps.refl _ _
theorem Fresh.trans{w w1 w2:World}(h:Fresh w w1)(h2:Fresh w1 w2):Fresh w w2:=Keeps.trans h (h2.mono fun n hn=>Nat.le_trans h.size hn)
theorem Fresh.cell{w w':World}(h:Fresh w w'){a:Addr}{v:Value}(hc:w.cell? a=some v):w'.cell? a=some v:=cell_keep h hc fun hh=>by
 have:=cellLt hc
 omega
theorem Ans.mono{f:FuncId}{args:Array Value}{w:World}{Q R:Value->World->Prop}(h:Ans f args w Q)(k:∀v w',Q v w'->R v w'):Ans f args w R:=by
 intro cs
 obtain⟨e,w',fr,⟨v,h1,h2⟩,h3⟩:=h cs
 exact⟨e,w',fr,⟨v,h1,k _ _ h2⟩,h3⟩
noncomputable def hN:AH:=⟨[],100,5192296858534827628530496329220096⟩
noncomputable def opA(bs:List (BE×Bool))(mem:List (AA×AV))(t:TT)(ops:Array Oper)(i:Nat):M (AN×AH):=match ops[i]? with
 |some o=>op? Try.prog (OO bs mem) (XX bs mem) hN (evalA t) o
 |none=>.error "no operation"
noncomputable def wantA(bs:List (BE×Bool))(mem:List (AA×AV))(t:TT)(ops:Array Oper)(i:Nat):M Bool:=match ops[i]? with
 |some o=>wantedA (OO bs mem) ops t o
 |none=>.error "no operation"
noncomputable def dstOf(ops:Array Oper)(i:Nat):Option Nat:=(ops[i]?).bind (·.dst)
noncomputable def lowT(bs:List (BE×Bool))(mem:List (AA×AV))(t:TT):Bool:=cfgLow 100 ⟨⟨0,0,t,[],[],.run,.normal⟩,[],hN⟩&&(OO bs mem).low 100
theorem put_getD{tm:Array Value}{d n:Nat}{v:Value}:(tm.setIfInBounds d v).getD n undef=if n=d∧d<tm.size then v else tm.getD n undef:=by
 rw[Array.getD_eq_getD_getElem?,Array.getD_eq_getD_getElem?,Array.getElem?_setIfInBounds]
 by_cases h:d=n
 ·subst h
  by_cases h2:d<tm.size
  ·simp[h2]
  ·simp[h2]
 ·have:¬(n=d):=fun e=>h e.symm
  simp[h,this]
abbrev lvPut(d:Nat)(v:Value)(lv:List (Nat×Value)):List (Nat×Value):=(d,v)::lv.filter fun p=>!(p.1==d)
section
variable {w:World}{cs:List Frame}{fr:Frame}{fn nt i d:Nat}{ops:Array Oper}{l:List Nat}{k:List Item}{ds:List Deferred}{kind:CallKind}{lv:List (Nat×Value)}{lA:List (Nat×AV)}{bs:List (BE×Bool)}{mem:List (AA×AV)}{ρ:Env}
theorem put_fa{tm:Array Value}{v:Value}(h2:tm.size=nt)(h3:∀p∈lv,tm.getD p.1 undef=p.2)(h4:nt≤60000)(h5:∃f,Try.prog.funcs[fn]?=some f)(hdn:d<nt):
  FA fn nt (.inRegion ops l::k) ds kind (lvPut d v lv) ((mkF fn kind).at ((⟨tm,ds⟩:Act).put (some d) v) (.inRegion ops l::k)):=by
 refine⟨⟨tm.setIfInBounds d v,rfl,by rw[Array.size_setIfInBounds];exact h2,fun p hp=>?_⟩,h4,h5⟩
 rw[put_getD]
 rcases List.mem_cons.1 hp with rfl|hp
 ·rw[if_pos ⟨rfl,by omega⟩]
 ·obtain⟨q1,q2⟩:=List.mem_filter.1 hp
  have:¬(p.1=d):=by simpa using q2
  rw[if_neg fun e=>this e.1]
  exact h3 p q1
theorem op_run{tm:Array Value}(h2:tm.size=nt)(h4:nt≤60000)(ht:∀p∈told ρ lA,tm.getD p.1 undef=p.2){b:Bool}(hw:wantA bs mem (tmpsOf nt (fun n=>tm.getD n undef) lA) ops i=.ok b)(hlow:lowT bs mem (tmpsOf nt (fun n=>tm.getD n undef) lA)=true)
 (hb:∀p∈bs,p.1.ev ρ=p.2)(hm:∀p∈mem,w.cell? (p.1.ev ρ)=some (p.2.ev ρ)):
  ∃o,ops[i]?=some o∧Region.wanted o (yielded ops tm)=b∧∀{n:AN},opA bs mem (tmpsOf nt (fun n=>tm.getD n undef) lA) ops i=.ok (n,hN)->(∀v,n≠.panic v)->∃nx w' ρ',(execOp (⟨tm,ds⟩:Act).eval o).run Try.prog w=.ok nx w'∧Fresh w w'∧Agree (Below 100) ρ ρ'∧n.is ρ' nx:=by
 have T:=told_tmps (ρ:=ρ) h2 h4 ht
 unfold wantA at hw
 unfold opA
 cases ho:ops[i]? with
 |none=>rw[ho]at hw;cases hw
 |some o=>
  rw[ho]at hw
  simp only[lowT,Bool.and_eq_true]at hlow
  let K:=(KZ w.heap.size).sub (OO bs mem) (fun n=>w.heap.size≤n) fun _ _=>False
  have hown:∀n,w.heap.size≤n->(KZ w.heap.size).own n:=fun n hn=>hn
  have Gd2:K.Good:=sub_good (KZ_good w.heap.size) hown
  have R:Rel K ρ hN w:=rel_blocks (nofun) (nofun) List.nodup_nil (nofun) ⟨hb,(nofun),fun p hp=>⟨fun hh=>by
   have:=cellLt (hm p hp)
   have:w.heap.size≤(p.1.ev ρ).block:=hh
   omega,hm p hp,fun s=>⟨trivial,fun b n s e=>by cases e⟩⟩⟩ (fun n hn=>hn) fun b n h=>h.elim False.elim False.elim
  have I:=cfgLow_in (K:=K) (c:=⟨⟨0,0,tmpsOf nt (fun n=>tm.getD n undef) lA,[],[],.run,.normal⟩,[],hN⟩) hlow.1 rfl hlow.2
  refine⟨o,rfl,wantedA_ok (K:=K) R T hw,fun{n} he hn=>?_⟩
  have N:=op?_ok (K:=K) Gd2 ⟨fns_ok,ext_facts,mixed⟩ (ext_ok Gd2 (.inl trivial) tab_facts) R I.ids (evalA_in I.cur.tmps) he
  have hev:(⟨tm,ds⟩:Act).eval=fun x=>(evalA (tmpsOf nt (fun n=>tm.getD n undef) lA) x).ev ρ:=funext fun x=>evalA_ev T _ x
  rw[hev]
  have W:=N.run (E:=fun _ _=>False) (Q:=fun nx w'=>∃ρ',Fresh w w'∧Agree (Below 100) ρ ρ'∧n.is ρ' nx) (fun nx w' ⟨ρ',a1,a2,a3,a4⟩=>⟨ρ',a3,a1,a4⟩) (fun v hv=>(hn v hv).elim)
  have q1:((execOp (fun x=>(evalA (tmpsOf nt (fun n=>tm.getD n undef) lA) x).ev ρ) o).run Try.prog w).goes (fun nx w'=>∃ρ',Fresh w w'∧Agree (Below 100) ρ ρ'∧n.is ρ' nx) (fun _ _=>False):=(wq_run W).1
  generalize(execOp (fun x=>(evalA (tmpsOf nt (fun n=>tm.getD n undef) lA) x).ev ρ) o).run Try.prog w=r at q1
  cases r with
  |ok nx w'=>
   obtain⟨ρ',a1,a2,a3⟩:=q1
   exact⟨nx,w',ρ',rfl,a1,a2,a3⟩
  |halt x w'=>cases x<;>exact q1.elim
theorem stR_unwanted'{P:Program}{b:Frame}{a:Act}{o:Oper}{rest:List Nat}(ho:ops[i]?=some o)(hw:Region.wanted o (yielded ops a.tmps)=false):
  step P (lone (b.at a (.inRegion ops (i::rest)::k)) cs w)=.next (lone (b.at (a.put ((ops[i]?).bind (·.dst)) undef) (.inRegion ops rest::k)) cs w):=
 step_op_skip (by simp[ho,hw])
theorem op_skip(hf:FA fn nt (.inRegion ops (i::l)::k) ds kind lv fr)(hl:∀p∈told ρ lA,p∈lv)(hw:∀st,wantA bs mem (tmpsOf nt st lA) ops i=.ok false)(hlow:∀st,lowT bs mem (tmpsOf nt st lA)=true)
 (hb:∀p∈bs,p.1.ev ρ=p.2)(hm:∀p∈mem,w.cell? (p.1.ev ρ)=some (p.2.ev ρ))(hd:dstOf ops i=some d)(hdn:d<nt):
  Goes (G fr cs) w fun g' w'=>∃fr',g'=G fr' cs∧Fresh w w'∧FA fn nt (.inRegion ops l::k) ds kind (lvPut d undef lv) fr':=by
 obtain⟨⟨tm,rfl,h2,h3⟩,h4,h5⟩:=hf
 obtain⟨o,ho,hwt,_⟩:=op_run (ds:=ds) (w:=w) h2 h4 (fun p hp=>h3 p (hl p hp)) (hw _) (hlow _) hb hm
 have s:=stR_unwanted' (P:=Try.prog) (b:=mkF fn kind) (a:=⟨tm,ds⟩) (rest:=l) (k:=k) (cs:=cs) (w:=w) ho hwt
 refine⟨_,w,.head s (.refl _ _),_,rfl,Fresh.refl w,?_⟩
 rw[show(ops[i]?).bind (·.dst)=some d from hd]
 exact put_fa h2 h3 h4 h5 hdn
theorem op_value(hf:FA fn nt (.inRegion ops (i::l)::k) ds kind lv fr)(hk:plainK kind){a:AV}(hl:∀p∈told ρ lA,p∈lv)(hw:∀st,wantA bs mem (tmpsOf nt st lA) ops i=.ok true)(he:∀st,opA bs mem (tmpsOf nt st lA) ops i=.ok (.value a,hN))(hlow:∀st,lowT bs mem (tmpsOf nt st lA)=true)
 (hb:∀p∈bs,p.1.ev ρ=p.2)(hm:∀p∈mem,w.cell? (p.1.ev ρ)=some (p.2.ev ρ))(hd:dstOf ops i=some d)(hdn:d<nt)(ha:AV.low 100 a=true):
  Goes (G fr cs) w fun g' w'=>∃fr',g'=G fr' cs∧Fresh w w'∧FA fn nt (.inRegion ops l::k) ds kind (lvPut d (a.ev ρ) lv) fr':=by
 obtain⟨⟨tm,rfl,h2,h3⟩,h4,h5⟩:=hf
 obtain⟨o,ho,hwt,run⟩:=op_run (ds:=ds) (w:=w) h2 h4 (fun p hp=>h3 p (hl p hp)) (hw _) (hlow _) hb hm
 obtain⟨nx,w',ρ',r1,fr1,Ag,e⟩:=run (he _) (fun v h=>by cases h)
 have e:nx=.value (a.ev ρ'):=e
 rw[AV.ev_agree Ag a (AV.low_in a ha)]at e
 subst e
 have hg:=stepG_op (P:=Try.prog) (b:=mkF fn kind) (k:=k) (cs:=cs) (w:=w) (rest:=l) (a:=⟨tm,ds⟩) ho hwt
 have s:step Try.prog (lone ((mkF fn kind).at ⟨tm,ds⟩ (.inRegion ops (i::l)::k)) cs w)=.next (lone ((mkF fn kind).at ((⟨tm,ds⟩:Act).put ((ops[i]?).bind (·.dst)) (a.ev ρ)) (.inRegion ops l::k)) cs w'):=by
  refine step_lone_go ?_
  rw[hg,<-Frame.finish_at]
  simp[stepG.apply,r1]
 refine⟨_,w',.head s (.refl _ _),_,rfl,fr1,?_⟩
 rw[show(ops[i]?).bind (·.dst)=some d from hd]
 exact put_fa h2 h3 h4 h5 hdn
theorem op_call(hf:FA fn nt (.inRegion ops (i::l)::k) ds kind lv fr){f:FuncId}{args:List AV}{Q:Value->World->Prop}(hl:∀p∈told ρ lA,p∈lv)(hw:∀st,wantA bs mem (tmpsOf nt st lA) ops i=.ok true)(he:∀st,opA bs mem (tmpsOf nt st lA) ops i=.ok (.enter f args,hN))(hlow:∀st,lowT bs mem (tmpsOf nt st lA)=true)
 (hb:∀p∈bs,p.1.ev ρ=p.2)(hm:∀p∈mem,w.cell? (p.1.ev ρ)=some (p.2.ev ρ))(hd:dstOf ops i=some d)(hdn:d<nt)(ha:AV.lows 100 args=true)(h:∀w',Fresh w w'->Ans f (AV.evs ρ args).toArray w' Q):
  Goes (G fr cs) w fun g' w'=>∃fr' v,g'=G fr' cs∧Q v w'∧FA fn nt (.inRegion ops l::k) ds kind (lvPut d v lv) fr':=by
 obtain⟨⟨tm,rfl,h2,h3⟩,h4,h5⟩:=hf
 obtain⟨o,ho,hwt,run⟩:=op_run (ds:=ds) (w:=w) h2 h4 (fun p hp=>h3 p (hl p hp)) (hw _) (hlow _) hb hm
 obtain⟨nx,w',ρ',r1,fr1,Ag,e⟩:=run (he _) (fun v h=>by cases h)
 have e:nx=.enter f (AV.evs ρ' args).toArray:=e
 rw[AV.evs_agree Ag args (AV.lows_in args ha)]at e
 subst e
 have hg:=stepG_op (P:=Try.prog) (b:=mkF fn kind) (k:=k) (cs:=cs) (w:=w) (rest:=l) (a:=⟨tm,ds⟩) ho hwt
 have s:step Try.prog (lone ((mkF fn kind).at ⟨tm,ds⟩ (.inRegion ops (i::l)::k)) cs w)=.next (lone (Frame.enter Try.prog f (AV.evs ρ args).toArray .normal) ((mkF fn kind).at ⟨tm,ds⟩ (.inRegion ops (i::l)::k)::cs) w'):=by
  refine step_lone_go ?_
  rw[hg]
  simp[stepG.apply,r1,Frame.at]
 obtain⟨en,w2,fr2,⟨v,rfl,hq⟩,st,_,lv'⟩:=h w' fr1 ((mkF fn kind).at ⟨tm,ds⟩ (.inRegion ops (i::l)::k)::cs)
 have s2:=step_leave_returned (c:=(mkF fn kind).at ⟨tm,ds⟩ (.inRegion ops (i::l)::k)) (cs:=cs) lv'
 rw[Frame.finish_at,show(ops[i]?).bind (·.dst)=some d from hd]at s2
 exact⟨_,w2,.head s (Steps.trans st (.head s2 (.refl _ _))),_,v,rfl,hq,put_fa h2 h3 h4 h5 hdn⟩
end
def Leav(f:FuncId)(fr:Frame)(w:World)(v:Value):Prop:=fr.fn=f∧fr.leaving Try.prog w (.returned v)
theorem ans_of{f:FuncId}{args:Array Value}{w:World}{Q:Value->World->Prop}(h:∀cs,Goes (G (Frame.enter Try.prog f args .normal) cs) w fun g' w'=>∃fr' v,g'=G fr' cs∧Leav f fr' w' v∧Q v w'):Ans f args w Q:=by
 intro cs
 obtain⟨g',w',st,fr',v,rfl,⟨h1,h2⟩,hq⟩:=h cs
 exact⟨.returned v,w',fr',⟨v,rfl,hq⟩,st,h1,h2⟩
section
variable {w:World}{cs:List Frame}{fr:Frame}{fn nt:Nat}{k:List Item}{lv:List (Nat×Value)}{lA:List (Nat×AV)}{bs:List (BE×Bool)}{mem:List (AA×AV)}{ρ:Env}
theorem leave_at(hf:FA fn nt (.code .ret::k) [] .normal lv fr){a:AV}(hl:∀p∈told ρ lA,p∈lv)(he:∀st,results? Try.prog (OO bs mem) hN fn (tmpsOf nt st lA)=.ok a)
 (hb:∀p∈bs,p.1.ev ρ=p.2)(hm:∀p∈mem,w.cell? (p.1.ev ρ)=some (p.2.ev ρ)):
  Goes (G fr cs) w fun g' w'=>∃fr',g'=G fr' cs∧w'=w∧Leav fn fr' w' (a.ev ρ):=by
 obtain⟨⟨tm,rfl,h2,h3⟩,h4,h5⟩:=hf
 have T:=told_tmps (ρ:=ρ) h2 h4 (fun p hp=>h3 p (hl p hp))
 let K:=(KZ w.heap.size).sub (OO bs mem) (fun n=>w.heap.size≤n) fun _ _=>False
 have hown:∀n,w.heap.size≤n->(KZ w.heap.size).own n:=fun n hn=>hn
 have Gd2:K.Good:=sub_good (KZ_good w.heap.size) hown
 have R:Rel K ρ hN w:=rel_blocks (nofun) (nofun) List.nodup_nil (nofun) ⟨hb,(nofun),fun p hp=>⟨fun hh=>by
  have:=cellLt (hm p hp)
  have:w.heap.size≤(p.1.ev ρ).block:=hh
  omega,hm p hp,fun s=>⟨trivial,fun b n s e=>by cases e⟩⟩⟩ (fun n hn=>hn) fun b n h=>h.elim False.elim False.elim
 obtain⟨f,hf,_,run⟩:=results?_ok (K:=K) Gd2 (he (fun n=>tm.getD n undef))
 have W:=run (E:=fun _ _=>False) R T (Q:=fun x w'=>x=a.ev ρ∧w'=w) ⟨rfl,rfl⟩
 have q1:((results f tm).run Try.prog w).goes (fun x w'=>x=a.ev ρ∧w'=w) (fun _ _=>False):=(wq_run W).1
 refine⟨_,w,.head step_ret (.refl _ _),_,rfl,rfl,rfl,rfl,rfl,rfl,f,hf,?_⟩
 show(results f tm).run Try.prog w=.ok (a.ev ρ) w
 generalize(results f tm).run Try.prog w=r at q1
 cases r with
 |ok x w'=>obtain⟨rfl,rfl⟩:=q1;rfl
 |halt x w'=>cases x<;>exact q1.elim
end
theorem enter1{f nt:Nat}{t:TT}{body:Code}(h:enterA Try.prog f [.opq 0] .normal=.ok ⟨f,nt,t,[.code body],[],.run,.normal⟩)(hs:frSeen (⟨f,nt,t,[.code body],[],.run,.normal⟩:AFrame) [0]=⟨f,nt,[.code body],[],.run,.normal,[],[],[.opq 0]⟩)(x:Value):
  FA f nt [.code body] [] .normal [(0,x)] (Frame.enter Try.prog f #[x] .normal):=by
 let ρ:Env:=mkE [] [] [(0,x)]
 exact FAt.of (live:=[0]) (vals:=[.opq 0]) (dA:=[]) (enterA_ok (U:=fun _=>True) h (.inl rfl) ⟨trivial,trivial⟩ (ρ:=ρ)).1 hs (.inl rfl)
theorem enter2{f nt:Nat}{t:TT}{body:Code}(h:enterA Try.prog f [.opq 0,.opq 1] .normal=.ok ⟨f,nt,t,[.code body],[],.run,.normal⟩)(hs:frSeen (⟨f,nt,t,[.code body],[],.run,.normal⟩:AFrame) [0,1]=⟨f,nt,[.code body],[],.run,.normal,[],[],[.opq 0,.opq 1]⟩)(x y:Value):
  FA f nt [.code body] [] .normal [(0,x),(1,y)] (Frame.enter Try.prog f #[x,y] .normal):=by
 let ρ:Env:=mkE [] [] [(0,x),(1,y)]
 exact FAt.of (live:=[0,1]) (vals:=[.opq 0,.opq 1]) (dA:=[]) (enterA_ok (U:=fun _=>True) h (.inl rfl) ⟨trivial,trivial,trivial⟩ (ρ:=ρ)).1 hs (.inl rfl)
theorem enter4{f nt:Nat}{t:TT}{body:Code}(h:enterA Try.prog f [.opq 0,.opq 1,.opq 2,.opq 3] .normal=.ok ⟨f,nt,t,[.code body],[],.run,.normal⟩)(hs:frSeen (⟨f,nt,t,[.code body],[],.run,.normal⟩:AFrame) [0,1,2,3]=⟨f,nt,[.code body],[],.run,.normal,[],[],[.opq 0,.opq 1,.opq 2,.opq 3]⟩)(x y z u:Value):
  FA f nt [.code body] [] .normal [(0,x),(1,y),(2,z),(3,u)] (Frame.enter Try.prog f #[x,y,z,u] .normal):=by
 let ρ:Env:=mkE [] [] [(0,x),(1,y),(2,z),(3,u)]
 exact FAt.of (live:=[0,1,2,3]) (vals:=[.opq 0,.opq 1,.opq 2,.opq 3]) (dA:=[]) (enterA_ok (U:=fun _=>True) h (.inl rfl) ⟨trivial,trivial,trivial,trivial,trivial⟩ (ρ:=ρ)).1 hs (.inl rfl)
theorem enter0{f nt:Nat}{t:TT}{body:Code}(h:enterA Try.prog f [] .normal=.ok ⟨f,nt,t,[.code body],[],.run,.normal⟩):
  FA f nt [.code body] [] .normal [] (Frame.enter Try.prog f #[] .normal):=by
 let ρ:Env:=mkE [] [] []
 exact FAt.of (live:=[]) (vals:=[]) (dA:=[]) (enterA_ok (U:=fun _=>True) h (.inl rfl) trivial (ρ:=ρ)).1 rfl (.inl rfl)
section
variable {base:Nat}{W0 w:World}{L:Lay}{cs:List Frame}{fr:Frame}
theorem On.next{w':World}(o:On base W0 L w)(h:Fresh w w'):On base W0 L w':=
 ⟨o.heap.keepN h,o.keeps.trans (h.mono fun n hn=>o.new hn),o.le⟩
end
def ownP(ρ:Env)(w:World)(pre:List (Nat×ABlk))(b:Nat):Prop:=w.heap.size≤b∨∃x∈pre,ρ.b x.1=b
theorem pieceI{w:World}{cs:List Frame}{fr:Frame}{bs:List (BE×Bool)}{mem:List (AA×AV)}{n:Nat}{ks:List Nat}{cur:AFrame}{live:List Nat}{V:Seen}(pre post:List (Nat×ABlk))
 (hv:seeF (runZ bs mem n ks (cfg cur [] pre)) live (fun _=>[])=some (V,[]))(hV:V.hp=post)(hV':tellable V=true)(hl:cfgLow 100 (cfg cur [] pre)=true)(hO:(OO bs mem).low 100=true){ρ:Env}(hf:FrRel Try.prog ρ cur fr)
 (hb:∀p∈bs,p.1.ev ρ=p.2)(hm:∀p∈mem,w.cell? (p.1.ev ρ)=some (p.2.ev ρ)∧∀x∈pre,ρ.b x.1≠(p.1.ev ρ).block)(hpre:∀x∈pre,∃k:Blk,k.at Try.prog w (ρ.b x.1)∧AbsIs Try.prog ρ x.2 k)(hnd:(pre.map fun p=>ρ.b p.1).Nodup)(hnd':(post.map (·.1)).Nodup):
  Goes (G fr cs) w fun g' w'=>∃ρ' fr',g'=G fr' cs∧Keeps (ownP ρ w pre) w w'∧Agree (Below 100) ρ ρ'∧FA V.fn V.nt V.todo (V.defers.map (AD.ev ρ')) V.kind (live.zip (AV.evs ρ' V.vals)) fr'∧(∀x∈post,ownP ρ w pre (ρ'.b x.1)∧(blkOf ρ' x.2).at Try.prog w' (ρ'.b x.1))∧∀x∈post,∀y∈post,ρ'.b x.1=ρ'.b y.1->x.1=y.1:=by
 obtain⟨cl,hs,hcl⟩:=seeF_ok hv
 have hown:∀b,ownP ρ w pre b->(KZ 0).own b:=fun b _=>Nat.zero_le b
 have Gd2:=sub_good (K:=KZ 0) (O:=OO bs mem) (own:=ownP ρ w pre) (still:=fun _ _=>False) (KZ_good 0) hown
 have W:=piece (K:=KZ 0) (main:=true) (own:=ownP ρ w pre) (still:=fun _ _=>False) (O:=OO bs mem) (cs:=cs) (frs:=[]) (KZ_good 0) hown ⟨fns_ok,ext_facts,mixed⟩ (ext_ok Gd2 (.inl trivial) tab_facts) noSums_ok hs hl rfl hO hf trivial
  (rel_blocks (fun p hp=>by
    obtain⟨k,h1,h2⟩:=hpre p hp
    exact abs_is h1 h2) (fun p hp=>.inr ⟨p,hp,rfl⟩) hnd (fun p hp n hn=>hn.elim False.elim False.elim) ⟨hb,(nofun),fun p hp=>⟨fun hh=>by
     have h1:=cellLt (hm p hp).1
     rcases hh with hh|⟨x,hx,e⟩
     ·omega
     ·exact(hm p hp).2 x hx e,(hm p hp).1,fun s=>⟨trivial,fun b n s e=>by cases e⟩⟩⟩ (fun n hn=>.inl hn) fun b n h=>h.elim False.elim False.elim)
 refine(Goes.of W).mono fun g' w' hd=>?_
 obtain⟨ρ',c',fr',frs',C⟩:=hd
 have hcal:c'.callers=cl:=congrArg Seen.callers C.seen
 have hhp:c'.h.hp=V.hp:=congrArg Seen.hp C.seen
 have hRel:=C.rel
 have hfr:=C.fr
 have hfrs:=C.frs
 have hseen:=C.seen
 obtain⟨cur',callers',hh⟩:=c'
 dsimp only at hcal hhp hRel hfr hfrs
 subst hcal
 obtain rfl:callers'=[]:=by
  cases callers' with
  |nil=>rfl
  |cons a b=>cases hcl
 obtain rfl:frs'=[]:=by
  cases frs' with
  |nil=>rfl
  |cons a b=>exact hfrs.elim
 simp only[tellable,Bool.and_eq_true]at hV'
 have hmode:V.mode=.run:=by
  have:=hV'.1
  cases e:V.mode<;>first|rfl|(simp[e,isRun]at this)
 have hfind:∀x∈post,findB x.1 hh.hp=some x.2:=fun x hx=>by
  rw[hhp,hV]
  exact find_of hnd' hx
 refine⟨ρ',fr',C.gor,C.keeps,C.agree,?_,fun x hx=>?_,fun x hx y hy e=>hRel.inj _ _ _ _ (hfind x hx) (hfind y hy) e⟩
 ·refine FAt.of hfr ?_ (plain_is hV'.2)
  unfold Seen.under seenOf at hseen
  unfold frSeen
  simp only[Seen.mk.injEq]at hseen⊢
  exact⟨hseen.1,hseen.2.1,hseen.2.2.1,hseen.2.2.2.1,hseen.2.2.2.2.1.trans hmode,hseen.2.2.2.2.2.1,trivial,trivial,hseen.2.2.2.2.2.2.2.2⟩
 ·obtain⟨o,h1,h2⟩:=hRel.blk _ _ (hfind x hx)
  refine⟨?_,is_blk h1 h2⟩
  rcases hRel.own' _ _ (hfind x hx)with h3|⟨hc,h3⟩
  ·exact h3
  ·exact(h3.elim False.elim False.elim)
def iV(n:Int):Value:=.int .i64 n
def i8V(n:Int):Value:=.int .i8 n
def ptrV(b:Nat):Value:=.pointer (some ⟨b,0,none⟩)
def nilV:Value:=.slice none 0 0
def slV(a o n c:Nat):Value:=.slice (some ⟨a,o,none⟩) n c
def v(n:Nat):IE:=.var n
noncomputable def i64(e:IE):AV:=.int .i64 e
noncomputable def i8(e:IE):AV:=.int .i8 e
noncomputable def ptr0(b:Nat):AV:=.ptr (some ⟨.dyn b,.lit 0⟩)
noncomputable def nilP:AV:=.ptr none
noncomputable def nilA:AV:=.slice none (.lit 0) (.lit 0)
noncomputable def TB:AV:=.bool (.lit true)
noncomputable def FB:AV:=.bool (.lit false)
noncomputable def ss(k:Nat):AV:=.ss (.var k)
noncomputable def noL:FuncId->List Nat:=fun _=>[]
noncomputable def fr0(fn nt:Nat)(t:List Item)(l:List (Nat×AV))(st:Nat->Value):AFrame:=⟨fn,nt,tmpsOf nt st l,t,[],.run,.normal⟩
noncomputable def entT(f:FuncId)(args:List AV):TT:=((enterA Try.prog f args .normal).toOption.map (·.tmps)).getD .leaf
theorem I64_wrap{x:Int}(h:-9223372036854775808≤x∧x≤9223372036854775807):IntKind.wrap .i64 x=x:=IntWalk.i64_in _ h
theorem one_nodup{α:Type}{a:α}:[a].Nodup:=List.nodup_cons.2 ⟨List.not_mem_nil,List.nodup_nil⟩
theorem blk_cell{w:World}{b e:Nat}{cs:List Value}(h:(Blk.obj e cs).at Try.prog w b){i:Nat}{x:Value}(hx:cs[i]?=some x):w.cell? ⟨b,i,none⟩=some x:=ObjAt.cell h hx
theorem blk_keep{w w':World}{k:Blk}{T:Nat}(h:k.at Try.prog w T)(f:Fresh w w'):k.at Try.prog w' T:=Blk.at_keep h f fun hh=>by
 have:=Blk.at_lt h
 omega
def lookV(k:Nat):List (Nat×Value)->Option Value
 |[]=>none
 |p::r=>bif Nat.beq p.1 k then some p.2 else lookV k r
theorem lookV_mem{k:Nat}{x:Value}:∀{lv:List (Nat×Value)},lookV k lv=some x->(k,x)∈lv
 |[],h=>by cases h
 |p::r,h=>by
  unfold lookV at h
  cases e:Nat.beq p.1 k with
  |true=>
   rw[e]at h
   obtain rfl:p.2=x:=Option.some.inj h
   obtain rfl:=Nat.eq_of_beq_eq_true e
   exact List.mem_cons_self ..
  |false=>
   rw[e]at h
   exact List.mem_cons_of_mem _ (lookV_mem h)
abbrev Tell(lv l:List (Nat×Value)):Prop:=l.map (fun p=>lookV p.1 lv)=l.map fun p=>some p.2
theorem Tell.mem{lv:List (Nat×Value)}:∀{l:List (Nat×Value)},Tell lv l->∀p∈l,p∈lv
 |q::r,h,p,hp=>by
  simp only[Tell,List.map_cons,List.cons.injEq]at h
  rcases List.mem_cons.1 hp with rfl|hp
  ·exact lookV_mem h.1
  ·exact Tell.mem (l:=r) h.2 p hp
def AllB(ρ:Env):List (BE×Bool)->Prop
 |[]=>True
 |p::r=>p.1.ev ρ=p.2∧AllB ρ r
theorem AllB.mem{ρ:Env}:∀{l:List (BE×Bool)},AllB ρ l->∀p∈l,p.1.ev ρ=p.2
 |q::r,h,p,hp=>by
  rcases List.mem_cons.1 hp with rfl|hp
  ·exact h.1
  ·exact AllB.mem (l:=r) h.2 p hp
theorem AllB.app{ρ:Env}:∀{l l':List (BE×Bool)},AllB ρ l->AllB ρ l'->AllB ρ (l++l')
 |[],_,_,h'=>h'
 |_::_,_,h,h'=>⟨h.1,AllB.app h.2 h'⟩
def AllM(ρ:Env)(w:World):List (AA×AV)->Prop
 |[]=>True
 |p::r=>w.cell? (p.1.ev ρ)=some (p.2.ev ρ)∧AllM ρ w r
theorem AllM.mem{ρ:Env}{w:World}:∀{l:List (AA×AV)},AllM ρ w l->∀p∈l,w.cell? (p.1.ev ρ)=some (p.2.ev ρ)
 |q::r,h,p,hp=>by
  rcases List.mem_cons.1 hp with rfl|hp
  ·exact h.1
  ·exact AllM.mem (l:=r) h.2 p hp
theorem AllM.app{ρ:Env}{w:World}:∀{l l':List (AA×AV)},AllM ρ w l->AllM ρ w l'->AllM ρ w (l++l')
 |[],_,_,h'=>h'
 |_::_,_,h,h'=>⟨h.1,AllM.app h.2 h'⟩
def AllO(ρ:Env)(w:World):List (Nat×ABlk)->Prop
 |[]=>True
 |x::r=>(∃k:Blk,k.at Try.prog w (ρ.b x.1)∧AbsIs Try.prog ρ x.2 k)∧AllO ρ w r
theorem AllO.mem{ρ:Env}{w:World}:∀{l:List (Nat×ABlk)},AllO ρ w l->∀x∈l,∃k:Blk,k.at Try.prog w (ρ.b x.1)∧AbsIs Try.prog ρ x.2 k
 |q::r,h,p,hp=>by
  rcases List.mem_cons.1 hp with rfl|hp
  ·exact h.1
  ·exact AllO.mem (l:=r) h.2 p hp
def AllP(ρ:Env)(own:Nat->Prop)(w:World):List (Nat×ABlk)->Prop
 |[]=>True
 |x::r=>(own (ρ.b x.1)∧(blkOf ρ x.2).at Try.prog w (ρ.b x.1))∧AllP ρ own w r
theorem AllP.of{ρ:Env}{own:Nat->Prop}{w:World}:∀{l:List (Nat×ABlk)},(∀x∈l,own (ρ.b x.1)∧(blkOf ρ x.2).at Try.prog w (ρ.b x.1))->AllP ρ own w l
 |[],_=>trivial
 |x::r,h=>⟨h x (List.mem_cons_self ..),AllP.of fun y hy=>h y (List.mem_cons_of_mem _ hy)⟩
def mixE(ρ:Env)(I:Nat->Int)(B:Nat->Nat):Env:={ρ with i:=fun n=>bif Nat.blt n 100 then ρ.i n else I n,b:=fun n=>bif Nat.blt n 100 then ρ.b n else B n}
theorem mixE_of{ρ ρ':Env}(A:Agree (Below 100) ρ ρ'):ρ'=mixE ρ ρ'.i ρ'.b:=by
 have hi:ρ'.i=fun n=>bif Nat.blt n 100 then ρ.i n else ρ'.i n:=funext fun n=>by
  cases e:Nat.blt n 100 with
  |true=>exact A.i n (Nat.blt_eq.mp e)
  |false=>rfl
 have hb:ρ'.b=fun n=>bif Nat.blt n 100 then ρ.b n else ρ'.b n:=funext fun n=>by
  cases e:Nat.blt n 100 with
  |true=>exact A.b n (Nat.blt_eq.mp e)
  |false=>rfl
 have h1:=A.p
 have h2:=A.v
 have h3:=A.bt
 have h4:=A.s
 obtain⟨ri,rp,rv,rb,rt,rs⟩:=ρ'
 obtain⟨si,sp,sv,sb,st,sts⟩:=ρ
 dsimp only at h1 h2 h3 h4 hi hb
 subst h1 h2 h3 h4
 unfold mixE
 congr 1
structure Pc(fn nt:Nat)(todo:List Item)(lA:List (Nat×AV))(bs:List (BE×Bool))(mem:List (AA×AV))(pre:List (Nat×ABlk))(n:Nat)(ks live:List Nat)(todo':List Item)(vals:List AV)(post:List (Nat×ABlk)):Prop where
 run:∀st,seeF (runZ bs mem n ks (cfg (fr0 fn nt todo lA st) [] pre)) live noL=some (⟨fn,nt,todo',[],.run,.normal,[],post,vals⟩,[])
 low:∀st,cfgLow 100 (cfg (fr0 fn nt todo lA st) [] pre)=true
 olow:(OO bs mem).low 100=true
 nd:(post.map (·.1)).Nodup
section
variable {w:World}{cs:List Frame}{fr:Frame}{fn nt n d:Nat}{todo todo':List Item}{lA:List (Nat×AV)}{lv:List (Nat×Value)}{bs:List (BE×Bool)}{mem:List (AA×AV)}{pre post:List (Nat×ABlk)}{ks live:List Nat}{vals:List AV}
theorem FA.only{fn nt:Nat}{t:List Item}{ds:List Deferred}{kind:CallKind}{lv l:List (Nat×Value)}{fr:Frame}(h:FA fn nt t ds kind lv fr)(hl:Tell lv l):FA fn nt t ds kind l fr:=h.sub hl.mem
theorem Pc.go(P:Pc fn nt todo lA bs mem [] n ks live todo' vals post)(ρ:Env)(hf:FA fn nt todo [] .normal lv fr)(hl:Tell lv (told ρ lA))(hb:AllB ρ bs)(hm:AllM ρ w mem):
  Goes (G fr cs) w fun g' w'=>∃I B fr',g'=G fr' cs∧Fresh w w'∧FA fn nt todo' [] .normal (live.zip (AV.evs (mixE ρ I B) vals)) fr'∧AllP (mixE ρ I B) (fun b=>w.heap.size≤b) w' post∧∀x∈post,∀y∈post,(mixE ρ I B).b x.1=(mixE ρ I B).b y.1->x.1=y.1:=by
 have hf':=hf.only hl
 refine(pieceI (ρ:=ρ) [] post (P.run (stOf fr)) rfl rfl (P.low _) P.olow (hf'.rel (.inl rfl) lA rfl rfl) hb.mem (fun p hp=>⟨hm.mem p hp,fun x hx=>by cases hx⟩) (nofun) List.nodup_nil P.nd).mono fun g' w' hd=>?_
 obtain⟨ρ',fr',rfl,kp,Ag,F,bl,inj⟩:=hd
 have own0:∀q,ownP ρ w [] q->w.heap.size≤q:=fun q hq=>hq.elim id fun⟨y,hy,_⟩=>(by cases hy)
 have e:=mixE_of Ag
 rw[e]at F bl inj
 exact⟨_,_,fr',rfl,kp.mono own0,F,AllP.of fun x hx=>⟨own0 _ (bl x hx).1,(bl x hx).2⟩,inj⟩
theorem Pc.goW(P:Pc fn nt todo lA bs mem pre n ks live todo' vals post)(ρ:Env)(hf:FA fn nt todo [] .normal lv fr)(hl:Tell lv (told ρ lA))(hb:AllB ρ bs)(hm:AllM ρ w mem)(hmo:∀p∈mem,∀x∈pre,ρ.b x.1≠(p.1.ev ρ).block)(ho:AllO ρ w pre)(hnd:(pre.map fun p=>ρ.b p.1).Nodup):
  Goes (G fr cs) w fun g' w'=>∃I B fr',g'=G fr' cs∧Keeps (ownP ρ w pre) w w'∧FA fn nt todo' [] .normal (live.zip (AV.evs (mixE ρ I B) vals)) fr'∧AllP (mixE ρ I B) (ownP ρ w pre) w' post∧∀x∈post,∀y∈post,(mixE ρ I B).b x.1=(mixE ρ I B).b y.1->x.1=y.1:=by
 have hf':=hf.only hl
 refine(pieceI (ρ:=ρ) pre post (P.run (stOf fr)) rfl rfl (P.low _) P.olow (hf'.rel (.inl rfl) lA rfl rfl) hb.mem (fun p hp=>⟨hm.mem p hp,hmo p hp⟩) ho.mem hnd P.nd).mono fun g' w' hd=>?_
 obtain⟨ρ',fr',rfl,kp,Ag,F,bl,inj⟩:=hd
 have e:=mixE_of Ag
 rw[e]at F bl inj
 exact⟨_,_,fr',rfl,kp,F,AllP.of bl,inj⟩
def RetC(fn nt d:Nat):Prop:=∀st,results? Try.prog (OO [] []) hN fn (tmpsOf nt st [(d,.opq 0)])=.ok (.opq 0)
theorem leave1(R:RetC fn nt d){k:List Item}{x:Value}(hf:FA fn nt (.code .ret::k) [] .normal lv fr)(hx:lookV d lv=some x):Goes (G fr cs) w fun g' w'=>∃fr',g'=G fr' cs∧w'=w∧Leav fn fr' w' x:=
 leave_at (ρ:=mkE [] [] [(0,x)]) (lA:=[(d,.opq 0)]) (bs:=[]) (mem:=[]) hf (a:=.opq 0) (fun p hp=>by
  obtain rfl:=List.mem_singleton.1 hp
  exact lookV_mem hx) R (nofun) (nofun)
def RetC2(fn nt d d':Nat):Prop:=∀st,results? Try.prog (OO [] []) hN fn (tmpsOf nt st [(d,.opq 0),(d',.opq 1)])=.ok (.tuple [.opq 0,.opq 1])
theorem leave2{d d':Nat}(R:RetC2 fn nt d d'){k:List Item}{x y:Value}(hf:FA fn nt (.code .ret::k) [] .normal lv fr)(hx:lookV d lv=some x)(hy:lookV d' lv=some y):Goes (G fr cs) w fun g' w'=>∃fr',g'=G fr' cs∧w'=w∧Leav fn fr' w' (.tuple #[x,y]):=
 leave_at (ρ:=mkE [] [] [(0,x),(1,y)]) (lA:=[(d,.opq 0),(d',.opq 1)]) (bs:=[]) (mem:=[]) hf (a:=.tuple [.opq 0,.opq 1]) (fun p hp=>by
  rcases List.mem_cons.1 hp with rfl|hp
  ·exact lookV_mem hx
  ·obtain rfl:=List.mem_singleton.1 hp
   exact lookV_mem hy) R (nofun) (nofun)
theorem Pc.ans{f d:Nat}{body:Code}{args:Array Value}{k:List Item}{a:AV}(P:Pc f nt [.code body] lA bs mem [] n ks [d] (.code .ret::k) [a] post)(R:RetC f nt d)(ρ:Env)(he:FA f nt [.code body] [] .normal lv (Frame.enter Try.prog f args .normal))(hl:Tell lv (told ρ lA))(hb:AllB ρ bs)(hm:AllM ρ w mem):
  Ans f args w fun v w'=>Fresh w w'∧∃I B,v=a.ev (mixE ρ I B)∧AllP (mixE ρ I B) (fun b=>w.heap.size≤b) w' post∧∀x∈post,∀y∈post,(mixE ρ I B).b x.1=(mixE ρ I B).b y.1->x.1=y.1:=by
 refine ans_of fun cs=>?_
 refine(P.go ρ he hl hb hm).trans fun g1 w1 hd=>?_
 obtain⟨I,B,fr1,rfl,f1,F1,bl,inj⟩:=hd
 refine(leave1 R F1 (x:=a.ev (mixE ρ I B)) (by
  show lookV d [(d,a.ev (mixE ρ I B))]=_
  unfold lookV
  rw[Nat.beq_refl]
  rfl)).mono fun g2 w2 hd2=>?_
 obtain⟨fr2,rfl,rfl,hL⟩:=hd2
 exact⟨fr2,_,rfl,hL,f1,I,B,rfl,bl,inj⟩
end
structure OpV(nt:Nat)(ops:Array Oper)(i:Nat)(bs:List (BE×Bool))(mem:List (AA×AV))(lA:List (Nat×AV))(a:AV)(d:Nat):Prop where
 want:∀st,wantA bs mem (tmpsOf nt st lA) ops i=.ok true
 op:∀st,opA bs mem (tmpsOf nt st lA) ops i=.ok (.value a,hN)
 low:∀st,lowT bs mem (tmpsOf nt st lA)=true
 dst:dstOf ops i=some d
 alow:AV.low 100 a=true
structure OpS(nt:Nat)(ops:Array Oper)(i:Nat)(lA:List (Nat×AV))(d:Nat):Prop where
 want:∀st,wantA [] [] (tmpsOf nt st lA) ops i=.ok false
 low:∀st,lowT [] [] (tmpsOf nt st lA)=true
 dst:dstOf ops i=some d
structure OpC(nt:Nat)(ops:Array Oper)(i:Nat)(lA:List (Nat×AV))(f:FuncId)(args:List AV)(d:Nat):Prop where
 want:∀st,wantA [] [] (tmpsOf nt st lA) ops i=.ok true
 op:∀st,opA [] [] (tmpsOf nt st lA) ops i=.ok (.enter f args,hN)
 low:∀st,lowT [] [] (tmpsOf nt st lA)=true
 dst:dstOf ops i=some d
 dlt:d<nt
 alow:AV.lows 100 args=true
section
variable {w:World}{cs:List Frame}{fr:Frame}{fn nt i d:Nat}{ops:Array Oper}{l:List Nat}{k:List Item}{lv:List (Nat×Value)}{lA:List (Nat×AV)}{bs:List (BE×Bool)}{mem:List (AA×AV)}
theorem OpV.go{a:AV}(o:OpV nt ops i bs mem lA a d)(ρ:Env)(hf:FA fn nt (.inRegion ops (i::l)::k) [] .normal lv fr)(hdn:d<nt)(hl:Tell lv (told ρ lA))(hb:AllB ρ bs)(hm:AllM ρ w mem):
  Goes (G fr cs) w fun g' w'=>∃fr',g'=G fr' cs∧Fresh w w'∧FA fn nt (.inRegion ops l::k) [] .normal (lvPut d (a.ev ρ) lv) fr':=
 op_value (ρ:=ρ) hf (.inl rfl) hl.mem o.want o.op o.low hb.mem hm.mem o.dst hdn o.alow
theorem OpS.go(o:OpS nt ops i lA d)(ρ:Env)(hf:FA fn nt (.inRegion ops (i::l)::k) [] .normal lv fr)(hdn:d<nt)(hl:Tell lv (told ρ lA)):
  Goes (G fr cs) w fun g' w'=>∃fr',g'=G fr' cs∧Fresh w w'∧FA fn nt (.inRegion ops l::k) [] .normal (lvPut d undef lv) fr':=
 op_skip (ρ:=ρ) (bs:=[]) (mem:=[]) hf hl.mem o.want o.low (nofun) (nofun) o.dst hdn
theorem OpC.go{f:FuncId}{args:List AV}(o:OpC nt ops i lA f args d)(ρ:Env){Q:Value->World->Prop}(hf:FA fn nt (.inRegion ops (i::l)::k) [] .normal lv fr)(hl:Tell lv (told ρ lA))(h:∀w',Fresh w w'->Ans f (AV.evs ρ args).toArray w' fun v w2=>Fresh w' w2∧Q v w2):
  Goes (G fr cs) w fun g' w'=>∃fr' v,g'=G fr' cs∧Fresh w w'∧Q v w'∧FA fn nt (.inRegion ops l::k) [] .normal (lvPut d v lv) fr':=
 (op_call (ρ:=ρ) (bs:=[]) (mem:=[]) (Q:=fun v w2=>Fresh w w2∧Q v w2) hf hl.mem o.want o.op o.low (nofun) (nofun) o.dst o.dlt o.alow (fun w' f1=>(h w' f1).mono fun v w2 hd=>⟨f1.trans hd.1,hd.2⟩)).mono fun g' w' hd=>by
  obtain⟨fr',v,h1,h2,h3⟩:=hd
  exact⟨fr',v,h1,h2.1,h2.2,h3⟩
end
theorem enter3{f nt:Nat}{t:TT}{body:Code}(h:enterA Try.prog f [.opq 0,.opq 1,.opq 2] .normal=.ok ⟨f,nt,t,[.code body],[],.run,.normal⟩)(hs:frSeen (⟨f,nt,t,[.code body],[],.run,.normal⟩:AFrame) [0,1,2]=⟨f,nt,[.code body],[],.run,.normal,[],[],[.opq 0,.opq 1,.opq 2]⟩)(x y z:Value):
  FA f nt [.code body] [] .normal [(0,x),(1,y),(2,z)] (Frame.enter Try.prog f #[x,y,z] .normal):=by
 let ρ:Env:=mkE [] [] [(0,x),(1,y),(2,z)]
 exact FAt.of (live:=[0,1,2]) (vals:=[.opq 0,.opq 1,.opq 2]) (dA:=[]) (enterA_ok (U:=fun _=>True) h (.inl rfl) ⟨trivial,trivial,trivial,trivial⟩ (ρ:=ρ)).1 hs (.inl rfl)
def preN(ops:Array Oper)(i:Nat):List Nat:=match ops[i]? with
 |some o=>(o.after.toList.filter fun e=>Region.binds .any e).map (·.on)
 |none=>[]
theorem ready_pre{ops:Array Oper}{r:List Nat}{i:Nat}(h:i∈readyIn ops r):i<ops.size∧i∉r∧∀p∈preN ops i,p∈r:=by
 refine⟨(readyIn_mem h).1,(readyIn_mem h).2,fun p hp=>?_⟩
 obtain⟨_,o,ho,hq⟩:=ready_iff.1 h
 unfold preN at hp
 rw[ho]at hp
 obtain⟨e,he,rfl⟩:=List.mem_map.1 hp
 obtain⟨h1,h2⟩:=List.mem_filter.1 he
 exact hq e h1 h2
theorem sched_end{ops:Array Oper}{r:List Nat}(h:Sched ops r []){i:Nat}(hi:i<ops.size)(hr:i∉r)(hp:∀p∈preN ops i,p∈r):False:=by
 have h':readyIn ops r=[]:=h
 have:i∈readyIn ops r:=ready_iff.2 ⟨hr,ops[i],Array.getElem?_eq_getElem hi,fun e he hb=>hp _ (by
  unfold preN
  rw[Array.getElem?_eq_getElem hi]
  exact List.mem_map.2 ⟨e,List.mem_filter.2 ⟨he,hb⟩,rfl⟩)⟩
 rw[h']at this
 cases this
theorem sched_full{ops:Array Oper}(hp:∀i,i<ops.size->∀p∈preN ops i,p<i){r:List Nat}(hs:Sched ops r []):∀i,i<ops.size->i∈r:=by
 intro i
 induction i using Nat.strongRecOn with
 |ind i ih=>
  intro hi
  refine Classical.byContradiction fun hr=>sched_end hs hi hr fun p hpp=>ih p (hp i hi p hpp) (Nat.lt_trans (hp i hi p hpp) hi)
section
variable {fn nt:Nat}{ops:Array Oper}{k:List Item}{b:List (Nat×Value)}{cs:List Frame}
structure DrG(fn nt:Nat)(ops:Array Oper)(k:List Item)(b:List (Nat×Value))(nm:Nat->Nat)(val:Nat->Value->World->Prop)(r l:List Nat)(fr:Frame)(w:World):Prop where
 ex:∃lv,FA fn nt (.inRegion ops l::k) [] .normal lv fr∧(∀x∈b,x∈lv)∧∀i∈r,∃v,(nm i,v)∈lv∧val i v w
theorem draw_in{w:World}{fr:Frame}{id:Nat}(hf:FA fn nt (.code (.region id ops true)::k) [] .normal b fr):
  Goes (G fr cs) w fun g' w'=>∃l fr',g'=G fr' cs∧Fresh w w'∧Sched ops [] l∧FA fn nt (.inRegion ops l::k) [] .normal b fr':=by
 obtain⟨⟨tm,rfl,h2,h3⟩,h4,h5⟩:=hf
 have s:=step_region_draw (P:=Try.prog) (b:=Go.Proofs.Ytmobbajggkjpgaa.SX.mkF fn .normal) (a:=⟨tm,[]⟩) (ops:=ops) (id:=id) (k:=k) (cs:=cs) (w:=w)
 rw[show Try.prog.follows .mixedOrders=true from mixed]at s
 exact⟨_,_,.head s (.refl _ _),_,_,rfl,⟨fun _ _=>rfl,Nat.le_refl _,rfl,rfl,rfl⟩,schedule_sched ops _,⟨tm,rfl,h2,h3⟩,h4,h5⟩
theorem draw_all{nm:Nat->Nat}{val:Nat->Value->World->Prop}(hp:∀i,i<ops.size->∀p∈preN ops i,p<i)(hb:∀i,i<ops.size->∀x∈b,x.1≠nm i)(hn:∀i j,i<ops.size->j<ops.size->i≠j->nm j≠nm i)(keep:∀i v w w',val i v w->Fresh w w'->val i v w')
 {w0:World}(step:∀i,i<ops.size->∀(l:List Nat) (w:World) (fr:Frame) (lv:List (Nat×Value)),Fresh w0 w->FA fn nt (.inRegion ops (i::l)::k) [] .normal lv fr->(∀x∈b,x∈lv)->(∀p∈preN ops i,∃v,(nm p,v)∈lv∧val p v w)->
   Goes (G fr cs) w fun g' w'=>∃fr' v,g'=G fr' cs∧Fresh w w'∧val i v w'∧FA fn nt (.inRegion ops l::k) [] .normal (lvPut (nm i) v lv) fr'):
  ∀(l r:List Nat) {w:World} {fr:Frame},Fresh w0 w->(∀i∈r,i<ops.size)->Sched ops r l->DrG fn nt ops k b nm val r l fr w->Goes (G fr cs) w fun g' w'=>∃fr' lv,g'=G fr' cs∧Fresh w0 w'∧FA fn nt (.inRegion ops []::k) [] .normal lv fr'∧(∀x∈b,x∈lv)∧∀i,i<ops.size->∃v,(nm i,v)∈lv∧val i v w'
 |[],r,w,fr,hi,hr,hs,D=>by
  obtain⟨lv,h1,h2,h3⟩:=D.ex
  exact .here ⟨fr,lv,rfl,hi,h1,h2,fun i hlt=>h3 i (sched_full hp hs i hlt)⟩
 |i::l,r,w,fr,hi,hr,hs,D=>by
  obtain⟨lv,h1,h2,h3⟩:=D.ex
  obtain⟨q1,q2,q3⟩:=ready_pre hs.1
  refine(step i q1 l w fr lv hi h1 h2 fun p hpp=>h3 p (q3 p hpp)).trans fun g1 w1 hd=>?_
  obtain⟨fr1,v,rfl,f1,hv,F1⟩:=hd
  refine draw_all hp hb hn keep step l (i::r) (hi.trans f1) (fun j hj=>?_) hs.2 ⟨_,F1,fun x hx=>?_,fun j hj=>?_⟩
  ·rcases List.mem_cons.1 hj with rfl|hj
   ·exact q1
   ·exact hr j hj
  ·exact List.mem_cons_of_mem _ (List.mem_filter.2 ⟨h2 x hx,by simpa using hb i q1 x hx⟩)
  ·rcases List.mem_cons.1 hj with rfl|hj
   ·exact⟨v,List.mem_cons_self ..,hv⟩
   ·obtain⟨u,h4,h5⟩:=h3 j hj
    refine⟨u,List.mem_cons_of_mem _ (List.mem_filter.2 ⟨h4,?_⟩),keep _ _ _ _ h5 f1⟩
    have:=hn i j q1 (hr j hj) fun e=>q2 (e▸hj)
    simpa using this
end
def isDraw(c:Code):Bool:=match c with
 |.region _ _ true=>true
 |_=>false
theorem draw_is{c:Code}(h:isDraw c=true):∃id,c=.region id (opsOf c) true:=by
 unfold isDraw at h
 split at h
 ·exact⟨_,rfl⟩
 ·cases h
theorem pre_ok{ops:Array Oper}{n:Nat}(hn:ops.size=n)(h:((List.range n).all fun i=>(preN ops i).all fun p=>Nat.blt p i)=true):∀i,i<ops.size->∀p∈preN ops i,p<i:=fun i hi p hp=>by
 have h1:=List.all_eq_true.1 h i (List.mem_range.2 (hn▸hi))
 exact Nat.blt_eq.mp (List.all_eq_true.1 h1 p hp)
theorem pin{ops:Array Oper}{i p:Nat}(h:(preN ops i).contains p=true):p∈preN ops i:=by simpa using h
structure OpW(nt:Nat)(ops:Array Oper)(i:Nat)(lA:List (Nat×AV))(op:Op)(ty:TypeId)(d:Option Nat):Prop where
 want:∀st,wantA [] [] (tmpsOf nt st lA) ops i=.ok true
 low:∀st,lowT [] [] (tmpsOf nt st lA)=true
 is:(ops[i]?).map (fun o=>(o.op,o.type,o.dst))=some (op,ty,d)
theorem OpW.ex{nt i:Nat}{ops:Array Oper}{lA:List (Nat×AV)}{op:Op}{ty:TypeId}{d:Option Nat}(o:OpW nt ops i lA op ty d):∃x:Oper,ops[i]?=some x∧x.op=op∧x.type=ty∧x.dst=d:=by
 have:=o.is
 cases e:ops[i]? with
 |none=>rw[e]at this;cases this
 |some x=>
  rw[e]at this
  simp only[Option.map_some,Option.some.injEq,Prod.mk.injEq]at this
  exact⟨x,rfl,this⟩
section
variable {w:World}{cs:List Frame}{fr:Frame}{fn nt i d:Nat}{ops:Array Oper}{l:List Nat}{k:List Item}{lv:List (Nat×Value)}{lA:List (Nat×AV)}{op:Op}{ty:TypeId}{R:Value->World->Prop}
theorem lookV_tm{tm:Array Value}{n:Nat}{x:Value}(h:∀p∈lv,tm.getD p.1 undef=p.2)(hx:lookV n lv=some x):tm.getD n undef=x:=h _ (lookV_mem hx)
theorem OpW.go(o:OpW nt ops i lA op ty (some d))(ρ:Env)(hf:FA fn nt (.inRegion ops (i::l)::k) [] .normal lv fr)(hdn:d<nt)(hl:Tell lv (told ρ lA))
 (W:∀tm:Array Value,(∀n x,lookV n lv=some x->(⟨tm,[]⟩:Act).eval (.tmp n)=x)->∀x:Oper,x.op=op->x.type=ty->wq Try.prog (fun _=>True) (fun _ _=>False) (execOp (⟨tm,[]⟩:Act).eval x) (fun nx w'=>∃v,nx=.value v∧R v w') w):
  Goes (G fr cs) w fun g' w'=>∃fr' v,g'=G fr' cs∧R v w'∧FA fn nt (.inRegion ops l::k) [] .normal (lvPut d v lv) fr':=by
 obtain⟨⟨tm,rfl,h2,h3⟩,h4,h5⟩:=hf
 obtain⟨x,hx,e1,e2,e3⟩:=o.ex
 obtain⟨x',hx',hwt,_⟩:=op_run (ρ:=ρ) (bs:=[]) (mem:=[]) (ds:=[]) (w:=w) h2 h4 (fun p hp=>h3 p (hl.mem p hp)) (o.want _) (o.low _) (nofun) (nofun)
 obtain rfl:x=x':=Option.some.inj (hx.symm.trans hx')
 have q1:((execOp (⟨tm,[]⟩:Act).eval x).run Try.prog w).goes (fun nx w'=>∃v,nx=.value v∧R v w') (fun _ _=>False):=(wq_run (W tm (fun n y hy=>lookV_tm h3 hy) x e1 e2)).1
 have hgs:=stepG_op (P:=Try.prog) (b:=Go.Proofs.Ytmobbajggkjpgaa.SX.mkF fn .normal) (k:=k) (cs:=cs) (w:=w) (rest:=l) (a:=⟨tm,[]⟩) hx hwt
 cases e:(execOp (⟨tm,[]⟩:Act).eval x).run Try.prog w with
 |halt y w'=>
  rw[e]at q1
  cases y<;>exact q1.elim
 |ok nx w'=>
  rw[e]at q1
  obtain⟨v,rfl,hR⟩:=q1
  have s:step Try.prog (lone ((Go.Proofs.Ytmobbajggkjpgaa.SX.mkF fn .normal).at ⟨tm,[]⟩ (.inRegion ops (i::l)::k)) cs w)=.next (lone ((Go.Proofs.Ytmobbajggkjpgaa.SX.mkF fn .normal).at ((⟨tm,[]⟩:Act).put ((ops[i]?).bind (·.dst)) v) (.inRegion ops l::k)) cs w'):=by
   refine step_lone_go ?_
   rw[hgs,<-Frame.finish_at]
   simp[stepG.apply,e]
  refine⟨_,w',.head s (.refl _ _),_,v,rfl,hR,?_⟩
  rw[hx,Option.bind_some,e3]
  exact put_fa h2 h3 h4 h5 hdn
theorem OpW.go0{R:World->Prop}(o:OpW nt ops i lA op ty none)(ρ:Env)(hf:FA fn nt (.inRegion ops (i::l)::k) [] .normal lv fr)(hl:Tell lv (told ρ lA))
 (W:∀tm:Array Value,(∀n x,lookV n lv=some x->(⟨tm,[]⟩:Act).eval (.tmp n)=x)->∀x:Oper,x.op=op->x.type=ty->wq Try.prog (fun _=>True) (fun _ _=>False) (execOp (⟨tm,[]⟩:Act).eval x) (fun nx w'=>nx=.skip∧R w') w):
  Goes (G fr cs) w fun g' w'=>∃fr',g'=G fr' cs∧R w'∧FA fn nt (.inRegion ops l::k) [] .normal lv fr':=by
 obtain⟨⟨tm,rfl,h2,h3⟩,h4,h5⟩:=hf
 obtain⟨x,hx,e1,e2,e3⟩:=o.ex
 obtain⟨x',hx',hwt,_⟩:=op_run (ρ:=ρ) (bs:=[]) (mem:=[]) (ds:=[]) (w:=w) h2 h4 (fun p hp=>h3 p (hl.mem p hp)) (o.want _) (o.low _) (nofun) (nofun)
 obtain rfl:x=x':=Option.some.inj (hx.symm.trans hx')
 have q1:((execOp (⟨tm,[]⟩:Act).eval x).run Try.prog w).goes (fun nx w'=>nx=.skip∧R w') (fun _ _=>False):=(wq_run (W tm (fun n y hy=>lookV_tm h3 hy) x e1 e2)).1
 have hgs:=stepG_op (P:=Try.prog) (b:=Go.Proofs.Ytmobbajggkjpgaa.SX.mkF fn .normal) (k:=k) (cs:=cs) (w:=w) (rest:=l) (a:=⟨tm,[]⟩) hx hwt
 cases e:(execOp (⟨tm,[]⟩:Act).eval x).run Try.prog w with
 |halt y w'=>
  rw[e]at q1
  cases y<;>exact q1.elim
 |ok nx w'=>
  rw[e]at q1
  obtain⟨rfl,hR⟩:=q1
  have s:step Try.prog (lone ((Go.Proofs.Ytmobbajggkjpgaa.SX.mkF fn .normal).at ⟨tm,[]⟩ (.inRegion ops (i::l)::k)) cs w)=.next (lone ((Go.Proofs.Ytmobbajggkjpgaa.SX.mkF fn .normal).at ((⟨tm,[]⟩:Act).put ((ops[i]?).bind (·.dst)) undef) (.inRegion ops l::k)) cs w'):=by
   refine step_lone_go ?_
   rw[hgs,<-Frame.finish_at]
   simp[stepG.apply,e]
  refine⟨_,w',.head s (.refl _ _),_,rfl,hR,?_⟩
  rw[hx,Option.bind_some,e3]
  exact⟨⟨tm,rfl,h2,h3⟩,h4,h5⟩
end
def TextMap(w:World)(M:Nat)(ks:List (ByteArray×Bool)):Prop:=MapIs w M (ks.map fun p=>(.string p.1,.bool p.2))
def findT(s:ByteArray)(ks:List (ByteArray×Bool)):Option Bool:=(ks.find? fun p=>s==p.1).map (·.2)
theorem findNow_text{s:ByteArray}:∀{es:List MapEntry} {ks:List (ByteArray×Bool)} (i:Nat),es.map (fun e=>(e.key,e.val))=ks.map (fun p=>(.string p.1,.bool p.2))->∃r,Instr.findNow .string (.string s) es i=some r∧r.map (·.2)=(findT s ks).map .bool
 |[],ks,i,h=>by
  cases ks with
  |nil=>exact⟨none,rfl,rfl⟩
  |cons k ks=>cases h
 |e::es,ks,i,h=>by
  cases ks with
  |nil=>cases h
  |cons k ks=>
   simp only[List.map_cons,List.cons.injEq,Prod.mk.injEq]at h
   obtain⟨⟨h1,h2⟩,h3⟩:=h
   unfold Instr.findNow
   rw[h1]
   unfold findT
   rw[List.find?_cons]
   show ∃r,(match some (s==k.1)with
    |some true=>some (some (i,e.val))
    |some false=>Instr.findNow .string (.string s) es (i+1)
    |none=>none)=some r∧_
   cases hb:s==k.1 with
   |true=>exact⟨_,rfl,by simp[h2]⟩
   |false=>
    obtain⟨r,h4,h5⟩:=findNow_text (i+1) h3
    exact⟨r,h4,h5⟩
theorem mapU:Try.prog.underlying 76=some (.map 9 4):=by kernel_rfl
theorem strU:Try.prog.underlying 9=some .string:=by kernel_rfl
theorem boolZ:zero? Try.prog 4=.ok (.bool (.lit false)):=by kernel_rfl
theorem wq_checkText{Ev:Event->Prop}{E:Value->World->Prop}{w:World}{k:Value}{b:Bool}{Q:Unit->World->Prop}(hq:Q () w):wq Try.prog Ev E (Instr.checkKey b 10000 9 k) Q w:=by
 unfold Instr.checkKey
 simp only[wq_bind,wq_underlying strU]
 cases k<;>exact hq
theorem wq_findText{Ev:Event->Prop}{E:Value->World->Prop}{w:World}{s:ByteArray}{es:List MapEntry}{ks:List (ByteArray×Bool)}(h:es.map (fun e=>(e.key,e.val))=ks.map (fun p=>(.string p.1,.bool p.2))){Q:Option (Nat×Value)->World->Prop}(hq:∀r,r.map (·.2)=(findT s ks).map .bool->Q r w):wq Try.prog Ev E (Instr.findKey 9 (.string s) es) Q w:=by
 unfold Instr.findKey
 simp only[wq_bind,wq_underlying strU]
 obtain⟨r,h1,h2⟩:=findNow_text (s:=s) 0 h
 rw[h1]
 exact hq r h2
section
variable {w:World}{M:Nat}{ks:List (ByteArray×Bool)}{s:ByteArray}{E:Value->World->Prop}
def lookR(ok:Bool)(r:Option Bool):Value:=if ok then .tuple #[.bool (r.getD false),.bool r.isSome]else .bool (r.getD false)
theorem wq_lookText(h:TextMap w M ks){ok:Bool}{Q:Value->World->Prop}(hq:Q (lookR ok (findT s ks)) w):wq Try.prog (fun _=>True) E (Instr.lookup 76 (.map (some M)) (.string s) ok) Q w:=by
 obtain⟨arr,clk,h1,h2⟩:=h
 simp only[Instr.lookup,wq_bind,wq_underlying mapU]
 refine wq_getObj h1 (by intros;simp) trivial ?_
 simp only[wq_bind,wq_pure]
 refine wq_checkText ?_
 refine wq_findText h2 fun r hr=>?_
 cases r with
 |none=>
  have e:findT s ks=none:=by
   cases e:findT s ks with
   |none=>rfl
   |some b=>rw[e]at hr;cases hr
  rw[e]at hq
  simp only[wq_bind,wq_pure]
  rw[wq_zeroValue (ρ:=mkE [] [] []) boolZ]
  cases ok<;>exact hq
 |some p=>
  obtain⟨j,x⟩:=p
  have e:∃b,findT s ks=some b∧x=.bool b:=by
   cases e:findT s ks with
   |none=>rw[e]at hr;cases hr
   |some b=>
    rw[e]at hr
    exact⟨b,rfl,Option.some.inj hr⟩
  obtain⟨b,e1,rfl⟩:=e
  rw[e1]at hq
  simp only[wq_pure]
  cases ok<;>exact hq
theorem wq_newText(h:TextMap w M ks)(hn:findT s ks=none){b:Bool}{Q:Unit->World->Prop}(hq:∀w',TextMap w' M (ks++[(s,b)])->Keeps (fun n=>n=M) w w'->Q () w'):wq Try.prog (fun _=>True) E (Instr.mapUpdate 76 (.map (some M)) (.string s) (.bool b)) Q w:=by
 have hlt:=MapIs.lt h
 obtain⟨arr,clk,h1,h2⟩:=h
 simp only[Instr.mapUpdate,wq_bind,wq_underlying mapU]
 refine wq_getObj h1 (by intros;simp) trivial ?_
 simp only[wq_bind]
 refine wq_checkText ?_
 refine wq_findText h2 fun r hr=>?_
 rw[hn]at hr
 cases r with
 |some p=>cases hr
 |none=>
  refine wq_setObj h1 (by intros;simp) trivial ?_
  refine hq _ ⟨arr.push {key:=.string s,val:=.bool b,born:=clk},clk+1,?_,?_⟩ ⟨fun n hn=>?_,?_,rfl,rfl,rfl⟩
  ·simp[hlt]
  ·rw[Array.toList_push,List.map_append,h2,List.map_append]
   rfl
  ·have:M≠n:=fun e=>hn e.symm
   simp[this]
  ·simp
end
noncomputable def q55(l:List Nat):Code:=pc (bodyOf Try.f55) l
theorem ent55:enterA Try.prog 55 [.opq 0] .normal=.ok ⟨55,11,entT 55 [.opq 0],[.code (bodyOf Try.f55)],[],.run,.normal⟩:=by kernel_rfl
theorem ret55:RetC 55 11 2:=fun st=>by kernel_rfl
noncomputable def q53(l:List Nat):Code:=pc (bodyOf Try.f53) l
theorem ent53:enterA Try.prog 53 [.opq 0] .normal=.ok ⟨53,29,entT 53 [.opq 0],[.code (bodyOf Try.f53)],[],.run,.normal⟩:=by kernel_rfl
theorem ret53:RetC 53 29 2:=fun st=>by kernel_rfl
noncomputable def q54(l:List Nat):Code:=pc (bodyOf Try.f54) l
theorem ent54:enterA Try.prog 54 [] .normal=.ok ⟨54,3,entT 54 [],[.code (bodyOf Try.f54)],[],.run,.normal⟩:=by kernel_rfl
theorem ret54:RetC 54 3 0:=fun st=>by kernel_rfl
noncomputable def q44(l:List Nat):Code:=pc (bodyOf Try.f44) l
theorem ent44:enterA Try.prog 44 [.opq 0] .normal=.ok ⟨44,43,entT 44 [.opq 0],[.code (bodyOf Try.f44)],[],.run,.normal⟩:=by kernel_rfl
theorem ret44:RetC 44 43 2:=fun st=>by kernel_rfl
noncomputable def q56(l:List Nat):Code:=pc (bodyOf Try.f56) l
theorem ent56:enterA Try.prog 56 [.opq 0,.opq 1] .normal=.ok ⟨56,34,entT 56 [.opq 0,.opq 1],[.code (bodyOf Try.f56)],[],.run,.normal⟩:=by kernel_rfl
theorem ret56:RetC 56 34 4:=fun st=>by kernel_rfl
theorem rk4:Pc 55 11 [.code (q55 [])] [(0,i8 (v 1))] [((.cmp .eql (v 1) (.lit 4)),true)] [] [] 23 [] [2] [.code .ret,.inBlock 0,.code (q55 [1,1])] [i64 (.lit 1)] []:=⟨fun st=>by kernel_rfl,fun st=>by kernel_rfl,by kernel_rfl,of_decide_eq_true (by kernel_rfl)⟩
theorem rk5:Pc 55 11 [.code (q55 [])] [(0,i8 (v 1))] [((.cmp .eql (v 1) (.lit 4)),false),((.cmp .eql (v 1) (.lit 5)),true)] [] [] 26 [] [2] [.code .ret,.inBlock 0,.code (q55 [1,1])] [i64 (.lit 1)] []:=⟨fun st=>by kernel_rfl,fun st=>by kernel_rfl,by kernel_rfl,of_decide_eq_true (by kernel_rfl)⟩
theorem rk6:Pc 55 11 [.code (q55 [])] [(0,i8 (v 1))] [((.cmp .eql (v 1) (.lit 4)),false),((.cmp .eql (v 1) (.lit 5)),false),((.cmp .eql (v 1) (.lit 6)),true)] [] [] 32 [] [2] [.code .ret,.inBlock 0,.code (q55 [1,1])] [i64 (.lit 2)] []:=⟨fun st=>by kernel_rfl,fun st=>by kernel_rfl,by kernel_rfl,of_decide_eq_true (by kernel_rfl)⟩
theorem rk3:Pc 55 11 [.code (q55 [])] [(0,i8 (v 1))] [((.cmp .eql (v 1) (.lit 4)),false),((.cmp .eql (v 1) (.lit 5)),false),((.cmp .eql (v 1) (.lit 6)),false),((.cmp .eql (v 1) (.lit 3)),true)] [] [] 38 [] [2] [.code .ret,.inBlock 0,.code (q55 [1,1])] [i64 (.lit 3)] []:=⟨fun st=>by kernel_rfl,fun st=>by kernel_rfl,by kernel_rfl,of_decide_eq_true (by kernel_rfl)⟩
theorem rk0:Pc 55 11 [.code (q55 [])] [(0,i8 (v 1))] [((.cmp .eql (v 1) (.lit 4)),false),((.cmp .eql (v 1) (.lit 5)),false),((.cmp .eql (v 1) (.lit 6)),false),((.cmp .eql (v 1) (.lit 3)),false)] [] [] 40 [] [2] [.code .ret] [i64 (.lit 4)] []:=⟨fun st=>by kernel_rfl,fun st=>by kernel_rfl,by kernel_rfl,of_decide_eq_true (by kernel_rfl)⟩
theorem inAll(a b c d e f g:Bool):Pc 53 29 [.code (q53 [])] [(0,.int .u8 (v 1))] [((.cmp .geq (v 1) (.lit 97)),a),((.cmp .leq (v 1) (.lit 122)),b),((.cmp .geq (v 1) (.lit 65)),c),((.cmp .leq (v 1) (.lit 90)),d),((.cmp .geq (v 1) (.lit 48)),e),((.cmp .leq (v 1) (.lit 57)),f),((.cmp .eql (v 1) (.lit 95)),g)] [] [] 34 [] [2] [.code .ret] [.bool (.lit (a&&b||c&&d||e&&f||g))] []:=⟨fun st=>by cases a<;>cases b<;>cases c<;>cases d<;>cases e<;>cases f<;>cases g<;>kernel_rfl,fun st=>by kernel_rfl,by cases a<;>cases b<;>cases c<;>cases d<;>cases e<;>cases f<;>cases g<;>kernel_rfl,of_decide_eq_true (by kernel_rfl)⟩
theorem wdAll:Pc 54 3 [.code (q54 [])] [] [] [] [] 21 [100] [0] [.code .ret] [.map (some (.dyn 100))] [(100,.map [(.str ⟨#[108,101,116]⟩,FB),(.str ⟨#[111,117,116]⟩,FB),(.str ⟨#[114,97,99,101]⟩,FB),(.str ⟨#[99,97,110,99,101,108]⟩,FB),(.str ⟨#[97,108,108]⟩,TB),(.str ⟨#[102,105,114,115,116]⟩,TB),(.str ⟨#[119,104,101,110]⟩,TB),(.str ⟨#[102,97,105,108]⟩,TB),(.str ⟨#[112,97,110,105,99]⟩,TB),(.str ⟨#[109,101,109,111]⟩,TB),(.str ⟨#[98,117,114,110]⟩,TB)])]:=⟨fun st=>by kernel_rfl,fun st=>by kernel_rfl,by kernel_rfl,of_decide_eq_true (by kernel_rfl)⟩
theorem nm1:Pc 44 43 [.code (q44 [])] [(0,ss 1)] [((.cmp .lss (.slen (.var 1)) (.lit 1)),true)] [] [] 31 [] [2] [.code .ret,.code (q44 [1,1])] [FB] []:=⟨fun st=>by kernel_rfl,fun st=>by kernel_rfl,by kernel_rfl,of_decide_eq_true (by kernel_rfl)⟩
theorem nm2:Pc 44 43 [.code (q44 [])] [(0,ss 1)] [((.cmp .lss (.slen (.var 1)) (.lit 1)),false),((.cmp .gtr (.slen (.var 1)) (.lit 32)),true)] [] [] 31 [] [2] [.code .ret,.code (q44 [1,1])] [FB] []:=⟨fun st=>by kernel_rfl,fun st=>by kernel_rfl,by kernel_rfl,of_decide_eq_true (by kernel_rfl)⟩
theorem nm3:Pc 44 43 [.code (q44 [])] [(0,ss 1)] [((.cmp .lss (.slen (.var 1)) (.lit 1)),false),((.cmp .gtr (.slen (.var 1)) (.lit 32)),false)] [] [] 17 [] [0,14,15] [.inRegion (opsOf (q44 [1,0,0])) [10,11,12,13,14,15,16,17],.code (q44 [1,0,1]),.code (q44 [1,1])] [ss 1,FB,ss 1] []:=⟨fun st=>by kernel_rfl,fun st=>by kernel_rfl,by kernel_rfl,of_decide_eq_true (by kernel_rfl)⟩
theorem nmA:OpW 43 (opsOf (q44 [1,0,0])) 10 [(14,FB)] (.index 9 (.tmp 15) (.const (.int .i64 0))) 5 (some 16):=⟨fun st=>by kernel_rfl,fun st=>by kernel_rfl,by kernel_rfl⟩
theorem nm4t:Pc 44 43 [.inRegion (opsOf (q44 [1,0,0])) [11,12,13,14,15,16,17],.code (q44 [1,0,1]),.code (q44 [1,1])] [(0,ss 1),(14,FB),(16,.int .u8 (v 2))] [((.cmp .lss (v 2) (.lit 97)),true)] [] [] 13 [] [2] [.code .ret,.code (q44 [1,1])] [FB] []:=⟨fun st=>by kernel_rfl,fun st=>by kernel_rfl,by kernel_rfl,of_decide_eq_true (by kernel_rfl)⟩
theorem nm4f:Pc 44 43 [.inRegion (opsOf (q44 [1,0,0])) [11,12,13,14,15,16,17],.code (q44 [1,0,1]),.code (q44 [1,1])] [(0,ss 1),(14,FB),(16,.int .u8 (v 2))] [((.cmp .lss (v 2) (.lit 97)),false)] [] [] 4 [] [0,19,20] [.inRegion (opsOf (q44 [1,0,0])) [15,16,17],.code (q44 [1,0,1]),.code (q44 [1,1])] [ss 1,FB,ss 1] []:=⟨fun st=>by kernel_rfl,fun st=>by kernel_rfl,by kernel_rfl,of_decide_eq_true (by kernel_rfl)⟩
theorem nmB:OpW 43 (opsOf (q44 [1,0,0])) 15 [(19,FB)] (.index 9 (.tmp 20) (.const (.int .i64 0))) 5 (some 21):=⟨fun st=>by kernel_rfl,fun st=>by kernel_rfl,by kernel_rfl⟩
theorem nm5t:Pc 44 43 [.inRegion (opsOf (q44 [1,0,0])) [16,17],.code (q44 [1,0,1]),.code (q44 [1,1])] [(0,ss 1),(19,FB),(21,.int .u8 (v 2))] [((.cmp .gtr (v 2) (.lit 122)),true)] [] [] 8 [] [2] [.code .ret,.code (q44 [1,1])] [FB] []:=⟨fun st=>by kernel_rfl,fun st=>by kernel_rfl,by kernel_rfl,of_decide_eq_true (by kernel_rfl)⟩
theorem nm5f:Pc 44 43 [.inRegion (opsOf (q44 [1,0,0])) [16,17],.code (q44 [1,0,1]),.code (q44 [1,1])] [(0,ss 1),(19,FB),(21,.int .u8 (v 2))] [((.cmp .gtr (v 2) (.lit 122)),false)] [] [] 14 [] [0,25,26] [.code (q44 [1,1,0,1,0,0]),.inLoop (q44 [1,1,0,1,0,0]),.inBlock 0,.code (q44 [1,1,1])] [ss 1,i64 (.slen (.var 1)),i64 (.lit 0)] []:=⟨fun st=>by kernel_rfl,fun st=>by kernel_rfl,by kernel_rfl,of_decide_eq_true (by kernel_rfl)⟩
theorem nmR:Pc 44 43 [.code (q44 [1,1,0,1,0,0]),.inLoop (q44 [1,1,0,1,0,0]),.inBlock 0,.code (q44 [1,1,1])] [(0,ss 1),(25,i64 (.slen (.var 1))),(26,i64 (v 6))] [((.cmp .lss (v 6) (.slen (.var 1))),true)] [] [] 18 [] [0,25,26,29,30] [.inRegion (opsOf (q44 [1,1,0,1,0,0,1,1,0,0,1,0])) [2,3,4],.code (q44 [1,1,0,1,0,0,1,1,0,0,1,1]),.inBlock 1,.code (q44 [1,1,0,1,0,0,1,1,1]),.inLoop (q44 [1,1,0,1,0,0]),.inBlock 0,.code (q44 [1,1,1])] [ss 1,i64 (.slen (.var 1)),i64 (v 6),ss 1,i64 (v 6)] []:=⟨fun st=>by kernel_rfl,fun st=>by kernel_rfl,by kernel_rfl,of_decide_eq_true (by kernel_rfl)⟩
theorem nmC:OpW 43 (opsOf (q44 [1,1,0,1,0,0,1,1,0,0,1,0])) 2 [] (.index 9 (.tmp 29) (.tmp 30)) 5 (some 31):=⟨fun st=>by kernel_rfl,fun st=>by kernel_rfl,by kernel_rfl⟩
theorem nmD:OpC 43 (opsOf (q44 [1,1,0,1,0,0,1,1,0,0,1,0])) 3 [(31,.opq 31)] 53 [.opq 31] 32:=⟨fun st=>by kernel_rfl,fun st=>by kernel_rfl,fun st=>by kernel_rfl,by kernel_rfl,by decide,rfl⟩
theorem nmF:Pc 44 43 [.inRegion (opsOf (q44 [1,1,0,1,0,0,1,1,0,0,1,0])) [4],.code (q44 [1,1,0,1,0,0,1,1,0,0,1,1]),.inBlock 1,.code (q44 [1,1,0,1,0,0,1,1,1]),.inLoop (q44 [1,1,0,1,0,0]),.inBlock 0,.code (q44 [1,1,1])] [(0,ss 1),(25,i64 (.slen (.var 1))),(26,i64 (v 6)),(32,FB)] [] [] [] 7 [] [2] [.code .ret,.inBlock 1,.code (q44 [1,1,0,1,0,0,1,1,1]),.inLoop (q44 [1,1,0,1,0,0]),.inBlock 0,.code (q44 [1,1,1])] [FB] []:=⟨fun st=>by kernel_rfl,fun st=>by kernel_rfl,by kernel_rfl,of_decide_eq_true (by kernel_rfl)⟩
theorem nmT:Pc 44 43 [.inRegion (opsOf (q44 [1,1,0,1,0,0,1,1,0,0,1,0])) [4],.code (q44 [1,1,0,1,0,0,1,1,0,0,1,1]),.inBlock 1,.code (q44 [1,1,0,1,0,0,1,1,1]),.inLoop (q44 [1,1,0,1,0,0]),.inBlock 0,.code (q44 [1,1,1])] [(0,ss 1),(25,i64 (.slen (.var 1))),(26,i64 (v 6)),(32,TB)] [] [] [] 10 [] [0,25,26] [.code (q44 [1,1,0,1,0,0]),.inLoop (q44 [1,1,0,1,0,0]),.inBlock 0,.code (q44 [1,1,1])] [ss 1,i64 (.slen (.var 1)),i64 (.op .add .i64 (v 6) (.lit 1))] []:=⟨fun st=>by kernel_rfl,fun st=>by kernel_rfl,by kernel_rfl,of_decide_eq_true (by kernel_rfl)⟩
theorem nmE:Pc 44 43 [.code (q44 [1,1,0,1,0,0]),.inLoop (q44 [1,1,0,1,0,0]),.inBlock 0,.code (q44 [1,1,1])] [(0,ss 1),(25,i64 (.slen (.var 1))),(26,i64 (v 6))] [((.cmp .lss (v 6) (.slen (.var 1))),false)] [] [] 9 [] [0] [.inRegion (opsOf (q44 [1,1,1,0])) [0,1,2,3,4,5,6,7],.code (q44 [1,1,1,1])] [ss 1] []:=⟨fun st=>by kernel_rfl,fun st=>by kernel_rfl,by kernel_rfl,of_decide_eq_true (by kernel_rfl)⟩
theorem nmG:OpC 43 (opsOf (q44 [1,1,1,0])) 0 [] 54 [] 36:=⟨fun st=>by kernel_rfl,fun st=>by kernel_rfl,fun st=>by kernel_rfl,by kernel_rfl,by decide,rfl⟩
theorem nmH:Pc 44 43 [.inRegion (opsOf (q44 [1,1,1,0])) [1,2,3,4,5,6,7],.code (q44 [1,1,1,1])] [(0,ss 1),(36,.opq 36)] [] [] [] 1 [] [36,37] [.inRegion (opsOf (q44 [1,1,1,0])) [2,3,4,5,6,7],.code (q44 [1,1,1,1])] [.opq 36,ss 1] []:=⟨fun st=>by kernel_rfl,fun st=>by kernel_rfl,by kernel_rfl,of_decide_eq_true (by kernel_rfl)⟩
theorem nmI:OpW 43 (opsOf (q44 [1,1,1,0])) 2 [] (.lookup 76 (.tmp 36) (.tmp 37) true) 103 (some 38):=⟨fun st=>by kernel_rfl,fun st=>by kernel_rfl,by kernel_rfl⟩
theorem nmJtrue:Pc 44 43 [.inRegion (opsOf (q44 [1,1,1,0])) [3,4,5,6,7],.code (q44 [1,1,1,1])] [(38,.tuple [.opq 0,TB])] [] [] [] 12 [] [2] [.code .ret] [FB] []:=⟨fun st=>by kernel_rfl,fun st=>by kernel_rfl,by kernel_rfl,of_decide_eq_true (by kernel_rfl)⟩
theorem nmJfalse:Pc 44 43 [.inRegion (opsOf (q44 [1,1,1,0])) [3,4,5,6,7],.code (q44 [1,1,1,1])] [(38,.tuple [.opq 0,FB])] [] [] [] 12 [] [2] [.code .ret] [TB] []:=⟨fun st=>by kernel_rfl,fun st=>by kernel_rfl,by kernel_rfl,of_decide_eq_true (by kernel_rfl)⟩
def rkOf(op:Int):Int:=if op=4 then 1 else if op=5 then 1 else if op=6 then 2 else if op=3 then 3 else 4
def u8V(n:Nat):Value:=.int .u8 n
section
variable {w:World}{cs:List Frame}{fr:Frame}
theorem rank_all{op:Int}:Ans 55 #[i8V op] w fun v w'=>Fresh w w'∧v=iV (rkOf op):=by
 have E:=enter1 ent55 rfl (i8V op)
 have no:∀{n:Int},op≠n->(decide (op=n))=false:=fun h=>decide_eq_false h
 unfold rkOf
 by_cases h4:op=4
 ·subst h4
  refine(rk4.ans ret55 (mkE [(1,4)] [] []) E rfl ⟨rfl,trivial⟩ trivial).mono fun v w' ⟨f,I,B,e,_⟩=>⟨f,e⟩
 ·by_cases h5:op=5
  ·subst h5
   refine(rk5.ans ret55 (mkE [(1,5)] [] []) E rfl ⟨rfl,rfl,trivial⟩ trivial).mono fun v w' ⟨f,I,B,e,_⟩=>⟨f,e⟩
  ·by_cases h6:op=6
   ·subst h6
    refine(rk6.ans ret55 (mkE [(1,6)] [] []) E rfl ⟨rfl,rfl,rfl,trivial⟩ trivial).mono fun v w' ⟨f,I,B,e,_⟩=>⟨f,e⟩
   ·by_cases h3:op=3
    ·subst h3
     refine(rk3.ans ret55 (mkE [(1,3)] [] []) E rfl ⟨rfl,rfl,rfl,rfl,trivial⟩ trivial).mono fun v w' ⟨f,I,B,e,_⟩=>⟨f,e⟩
    ·rw[if_neg h4,if_neg h5,if_neg h6,if_neg h3]
     refine(rk0.ans ret55 (mkE [(1,op)] [] []) E rfl ⟨no h4,no h5,no h6,no h3,trivial⟩ trivial).mono fun v w' ⟨f,I,B,e,_⟩=>⟨f,e⟩
def insideB(b:Int):Bool:=decide (b≥97)&&decide (b≤122)||decide (b≥65)&&decide (b≤90)||decide (b≥48)&&decide (b≤57)||decide (b=95)
theorem inside_all{b:Nat}:Ans 53 #[u8V b] w fun v w'=>Fresh w w'∧v=.bool (insideB b):=
 ((inAll (decide ((b:Int)≥97)) (decide ((b:Int)≤122)) (decide ((b:Int)≥65)) (decide ((b:Int)≤90)) (decide ((b:Int)≥48)) (decide ((b:Int)≤57)) (decide ((b:Int)=95))).ans ret53 (mkE [(1,b)] [] []) (enter1 ent53 rfl (u8V b)) rfl ⟨rfl,rfl,rfl,rfl,rfl,rfl,rfl,trivial⟩ trivial).mono fun v w' ⟨f,I,B,e,_⟩=>⟨f,e⟩
def wordL:List (ByteArray×Bool):=[(⟨#[108,101,116]⟩,false),(⟨#[111,117,116]⟩,false),(⟨#[114,97,99,101]⟩,false),(⟨#[99,97,110,99,101,108]⟩,false),(⟨#[97,108,108]⟩,true),(⟨#[102,105,114,115,116]⟩,true),(⟨#[119,104,101,110]⟩,true),(⟨#[102,97,105,108]⟩,true),(⟨#[112,97,110,105,99]⟩,true),(⟨#[109,101,109,111]⟩,true),(⟨#[98,117,114,110]⟩,true)]
theorem words_all:Ans 54 #[] w fun v w'=>Fresh w w'∧∃M,v=.map (some M)∧TextMap w' M wordL:=
 (wdAll.ans ret54 (mkE [] [] []) (enter0 ent54) rfl trivial trivial).mono fun v w' ⟨f,I,B,e,bl,_⟩=>⟨f,_,e,bl.1.2⟩
def byteAt(s:ByteArray)(i:Nat):Nat:=((s[i]?).map (·.toNat)).getD 0
theorem wq_char{Ev:Event->Prop}{E:Value->World->Prop}{s:ByteArray}{i:Nat}(hi:i<s.size){Q:Value->World->Prop}(hq:Q (u8V (byteAt s i)) w):wq Try.prog Ev E (Instr.index 9 (.string s) (iV i)) Q w:=by
 unfold Instr.index
 simp only[iV,asIntOf,wq_bind,wq_pure,wq_underlying strU]
 have h0:(0:Int)≤(i:Int):=by omega
 rw[if_pos h0]
 have e:s[(i:Int).toNat]?=some s[i]:=getElem?_pos s i hi
 rw[e]
 have:u8V (byteAt s i)=.int .u8 s[i].toNat:=by
  unfold u8V byteAt
  rw[getElem?_pos s i hi]
  rfl
 rw[this]at hq
 exact hq
def nameOk(s:ByteArray):Bool:=decide (1≤s.size)&&decide (s.size≤32)&&decide (97≤byteAt s 0)&&decide (byteAt s 0≤122)&&(List.range s.size).all (fun i=>insideB (byteAt s i))&&(findT s wordL).isNone
theorem char_go{i d nt fn:Nat}{ops:Array Oper}{lA:List (Nat×AV)}{l:List Nat}{k:List Item}{lv:List (Nat×Value)}{x y:Operand}{s:ByteArray}{j:Nat}(o:OpW nt ops i lA (.index 9 x y) 5 (some d))(ρ:Env)(hf:FA fn nt (.inRegion ops (i::l)::k) [] .normal lv fr)(hdn:d<nt)(hl:Tell lv (told ρ lA))(hj:j<s.size)
 (hx:∀tm:Array Value,(∀n x,lookV n lv=some x->(⟨tm,[]⟩:Act).eval (.tmp n)=x)->(⟨tm,[]⟩:Act).eval x=.string s∧(⟨tm,[]⟩:Act).eval y=iV j):
  Goes (G fr cs) w fun g' w'=>∃fr',g'=G fr' cs∧w'=w∧FA fn nt (.inRegion ops l::k) [] .normal (lvPut d (u8V (byteAt s j)) lv) fr':=by
 refine(o.go (R:=fun v w'=>v=u8V (byteAt s j)∧w'=w) ρ hf hdn hl fun tm htm x' e1 e2=>?_).mono fun g' w' hd=>?_
 ·obtain⟨h1,h2⟩:=hx tm htm
  unfold execOp
  simp only[e1,h1,h2,wq_bind]
  exact wq_char hj ⟨_,rfl,rfl,rfl⟩
 ·obtain⟨fr',v,rfl,⟨rfl,rfl⟩,F⟩:=hd
  exact⟨fr',rfl,rfl,F⟩
theorem nm_end{s:ByteArray}{w0:World}(fw:Fresh w0 w){P:Prop}(hP:P)(hf:FA 44 43 (.inRegion (opsOf (q44 [1,1,1,0])) [0,1,2,3,4,5,6,7]::[.code (q44 [1,1,1,1])]) [] .normal [(0,.string s)] fr):
  Goes (G fr cs) w fun g' w'=>∃fr',g'=G fr' cs∧Fresh w0 w'∧Leav 44 fr' w' (.bool (findT s wordL).isNone):=by
 refine(nmG.go (mkE [] [] []) (Q:=fun v w'=>∃M,v=.map (some M)∧TextMap w' M wordL) hf rfl fun w' f1=>words_all).trans fun g1 w1 hd=>?_
 obtain⟨fr1,v,rfl,f1,⟨M,rfl,hM⟩,F1⟩:=hd
 refine(nmH.go (Go.Proofs.Ytmobbajggkjpgaa.SX.mkS [] [] [(36,.map (some M))] [(1,s)]) F1 rfl trivial trivial).trans fun g2 w2 hd2=>?_
 obtain⟨I,B,fr2,rfl,f2,F2,_⟩:=hd2
 have hM2:TextMap w2 M wordL:=blk_keep (k:=.map _) hM f2
 refine(nmI.go (R:=fun v w'=>v=lookR true (findT s wordL)∧w'=w2) (mkE [] [] []) F2 (by decide) rfl fun tm htm x' e1 e2=>?_).trans fun g3 w3 hd3=>?_
 ·unfold execOp
  simp only[e1,wq_bind]
  rw[htm 36 (.map (some M)) rfl,htm 37 (.string s) rfl]
  exact wq_lookText hM2 ⟨_,rfl,rfl,rfl⟩
 obtain⟨fr3,v,rfl,⟨rfl,rfl⟩,F3⟩:=hd3
 cases e:findT s wordL with
 |none=>
  rw[e]at F3
  refine(nmJfalse.go (mkE [] [] [(0,.bool false)]) F3 rfl trivial trivial).trans fun g4 w4 hd4=>?_
  obtain⟨I,B,fr4,rfl,f4,F4,_⟩:=hd4
  refine(leave1 ret44 F4 rfl).mono fun g5 w5 hd5=>?_
  obtain⟨fr5,rfl,rfl,hL⟩:=hd5
  exact⟨fr5,rfl,fw.trans (f1.trans (f2.trans f4)),hL⟩
 |some b=>
  rw[e]at F3
  refine(nmJtrue.go (mkE [] [] [(0,.bool b)]) F3 rfl trivial trivial).trans fun g4 w4 hd4=>?_
  obtain⟨I,B,fr4,rfl,f4,F4,_⟩:=hd4
  refine(leave1 ret44 F4 rfl).mono fun g5 w5 hd5=>?_
  obtain⟨fr5,rfl,rfl,hL⟩:=hd5
  exact⟨fr5,rfl,fw.trans (f1.trans (f2.trans f4)),hL⟩
theorem nm_loop{s:ByteArray}{w0:World}(hs:s.size≤32):∀(m j:Nat) {w:World} {fr:Frame},j+m=s.size->Fresh w0 w->FA 44 43 [.code (q44 [1,1,0,1,0,0]),.inLoop (q44 [1,1,0,1,0,0]),.inBlock 0,.code (q44 [1,1,1])] [] .normal [(0,.string s),(25,iV s.size),(26,iV j)] fr->
  Goes (G fr cs) w fun g' w'=>∃fr',g'=G fr' cs∧Fresh w0 w'∧Leav 44 fr' w' (.bool ((List.range m).all (fun i=>insideB (byteAt s (j+i)))&&(findT s wordL).isNone))
 |0,j,w,fr,hj,fw,hf=>by
  refine(nmE.go (Go.Proofs.Ytmobbajggkjpgaa.SX.mkS [(6,j)] [] [] [(1,s)]) hf rfl ⟨decide_eq_false (by show ¬((j:Int)<((s.size:Nat):Int));omega),trivial⟩ trivial).trans fun g1 w1 hd=>?_
  obtain⟨I,B,fr1,rfl,f1,F1,_⟩:=hd
  exact nm_end (fw.trans f1) trivial F1
 |m+1,j,w,fr,hj,fw,hf=>by
  refine(nmR.go (Go.Proofs.Ytmobbajggkjpgaa.SX.mkS [(6,j)] [] [] [(1,s)]) hf rfl ⟨decide_eq_true (by show((j:Int)<((s.size:Nat):Int));omega),trivial⟩ trivial).trans fun g1 w1 hd=>?_
  obtain⟨I,B,fr1,rfl,f1,F1,_⟩:=hd
  refine(char_go (s:=s) (j:=j) nmC (mkE [] [] []) F1 (by decide) rfl (by omega) fun tm htm=>⟨htm 29 _ rfl,htm 30 _ rfl⟩).trans fun g2 w2 hd2=>?_
  obtain⟨fr2,rfl,rfl,F2⟩:=hd2
  refine(nmD.go (mkE [] [] [(31,u8V (byteAt s j))]) (Q:=fun v w'=>v=.bool (insideB (byteAt s j))) F2 rfl fun w' f1=>inside_all).trans fun g3 w3 hd3=>?_
  obtain⟨fr3,v,rfl,f3,rfl,F3⟩:=hd3
  have hsplit:(List.range (m+1)).all (fun i=>insideB (byteAt s (j+i)))=(insideB (byteAt s j)&&(List.range m).all fun i=>insideB (byteAt s (j+1+i))):=by
   rw[List.range_succ_eq_map,List.all_cons,List.all_map]
   congr 1
   refine congrArg (List.all _) (funext fun i=>?_)
   show insideB (byteAt s (j+(i+1)))=_
   rw[show j+(i+1)=j+1+i by omega]
  rw[hsplit]
  cases e:insideB (byteAt s j)with
  |false=>
   rw[e]at F3
   refine(nmF.go (Go.Proofs.Ytmobbajggkjpgaa.SX.mkS [(6,j)] [] [] [(1,s)]) F3 rfl trivial trivial).trans fun g4 w4 hd4=>?_
   obtain⟨I,B,fr4,rfl,f4,F4,_⟩:=hd4
   refine(leave1 ret44 F4 rfl).mono fun g5 w5 hd5=>?_
   obtain⟨fr5,rfl,rfl,hL⟩:=hd5
   exact⟨fr5,rfl,fw.trans (f1.trans (f3.trans f4)),hL⟩
  |true=>
   rw[e]at F3
   refine(nmT.go (Go.Proofs.Ytmobbajggkjpgaa.SX.mkS [(6,j)] [] [] [(1,s)]) F3 rfl trivial trivial).trans fun g4 w4 hd4=>?_
   obtain⟨I,B,fr4,rfl,f4,F4,_⟩:=hd4
   refine(nm_loop hs m (j+1) (by omega) (fw.trans (f1.trans (f3.trans f4))) ?_)
   have e6:iop .add .i64 (j:Int) 1=((j+1:Nat):Int):=by
    show IntKind.wrap .i64 _=_
    rw[I64_wrap (by omega)];omega
   rw[<-e6]
   exact F4
theorem isName_all{s:ByteArray}:Ans 44 #[.string s] w fun v w'=>Fresh w w'∧v=.bool (nameOk s):=by
 refine ans_of fun cs=>?_
 have E:=enter1 ent44 rfl (.string s)
 have fin:∀{k:List Item} {w1:World} {fr:Frame} {x:Bool},Fresh w w1->FA 44 43 (.code .ret::k) [] .normal [(2,.bool false)] fr->nameOk s=false->Goes (G fr cs) w1 fun g' w'=>∃fr' v,g'=G fr' cs∧Leav 44 fr' w' v∧Fresh w w'∧v=.bool (nameOk s):=fun f1 F1 h=>by
  refine(leave1 ret44 F1 rfl).mono fun g5 w5 hd5=>?_
  obtain⟨fr5,rfl,rfl,hL⟩:=hd5
  exact⟨fr5,_,rfl,hL,f1,by rw[h]⟩
 by_cases h1:(s.size:Int)<1
 ·refine(nm1.go (Go.Proofs.Ytmobbajggkjpgaa.SX.mkS [] [] [] [(1,s)]) E rfl ⟨decide_eq_true h1,trivial⟩ trivial).trans fun g1 w1 hd=>?_
  obtain⟨I,B,fr1,rfl,f1,F1,_⟩:=hd
  exact fin (x:=true) f1 F1 (by
   have:¬(1≤s.size):=by omega
   simp[nameOk,this])
 by_cases h2:(s.size:Int)>32
 ·refine(nm2.go (Go.Proofs.Ytmobbajggkjpgaa.SX.mkS [] [] [] [(1,s)]) E rfl ⟨decide_eq_false h1,decide_eq_true h2,trivial⟩ trivial).trans fun g1 w1 hd=>?_
  obtain⟨I,B,fr1,rfl,f1,F1,_⟩:=hd
  exact fin (x:=true) f1 F1 (by
   have:¬(s.size≤32):=by omega
   simp[nameOk,this])
 refine(nm3.go (Go.Proofs.Ytmobbajggkjpgaa.SX.mkS [] [] [] [(1,s)]) E rfl ⟨decide_eq_false h1,decide_eq_false h2,trivial⟩ trivial).trans fun g1 w1 hd=>?_
 obtain⟨I,B,fr1,rfl,f1,F1,_⟩:=hd
 refine(char_go (s:=s) (j:=0) nmA (mkE [] [] []) F1 (by decide) rfl (by omega) fun tm htm=>⟨htm 15 _ rfl,rfl⟩).trans fun g2 w2 hd2=>?_
 obtain⟨fr2,rfl,rfl,F2⟩:=hd2
 by_cases h3:((byteAt s 0:Nat):Int)<97
 ·refine(nm4t.go (Go.Proofs.Ytmobbajggkjpgaa.SX.mkS [(2,byteAt s 0)] [] [] [(1,s)]) F2 rfl ⟨decide_eq_true h3,trivial⟩ trivial).trans fun g3 w3 hd3=>?_
  obtain⟨I,B,fr3,rfl,f3,F3,_⟩:=hd3
  exact fin (x:=true) (f1.trans f3) F3 (by
   have:¬(97≤byteAt s 0):=by omega
   simp[nameOk,this])
 refine(nm4f.go (Go.Proofs.Ytmobbajggkjpgaa.SX.mkS [(2,byteAt s 0)] [] [] [(1,s)]) F2 rfl ⟨decide_eq_false h3,trivial⟩ trivial).trans fun g3 w3 hd3=>?_
 obtain⟨I,B,fr3,rfl,f3,F3,_⟩:=hd3
 refine(char_go (s:=s) (j:=0) nmB (mkE [] [] []) F3 (by decide) rfl (by omega) fun tm htm=>⟨htm 20 _ rfl,rfl⟩).trans fun g4 w4 hd4=>?_
 obtain⟨fr4,rfl,rfl,F4⟩:=hd4
 by_cases h4:((byteAt s 0:Nat):Int)>122
 ·refine(nm5t.go (Go.Proofs.Ytmobbajggkjpgaa.SX.mkS [(2,byteAt s 0)] [] [] [(1,s)]) F4 rfl ⟨decide_eq_true h4,trivial⟩ trivial).trans fun g5 w5 hd5=>?_
  obtain⟨I,B,fr5,rfl,f5,F5,_⟩:=hd5
  exact fin (x:=true) (f1.trans (f3.trans f5)) F5 (by
   have:¬(byteAt s 0≤122):=by omega
   simp[nameOk,this])
 refine(nm5f.go (Go.Proofs.Ytmobbajggkjpgaa.SX.mkS [(2,byteAt s 0)] [] [] [(1,s)]) F4 rfl ⟨decide_eq_false h4,trivial⟩ trivial).trans fun g5 w5 hd5=>?_
 obtain⟨I,B,fr5,rfl,f5,F5,_⟩:=hd5
 refine(nm_loop (s:=s) (by omega) s.size 0 (Nat.zero_add _) (f1.trans (f3.trans f5)) F5).mono fun g6 w6 hd6=>?_
 obtain⟨fr6,rfl,f6,hL⟩:=hd6
 refine⟨fr6,_,rfl,hL,f6,?_⟩
 have a1:1≤s.size:=by omega
 have a2:s.size≤32:=by omega
 have a3:97≤byteAt s 0:=by omega
 have a4:byteAt s 0≤122:=by omega
 simp[nameOk,a1,a2,a3,a4]
end
theorem wrA:Pc 56 34 [.code (q56 [])] [(0,ptr0 61),(1,i64 (v 6))] [] [(⟨(.dyn 61),(.lit 0)⟩,i8 (v 1))] [] 16 [] [0,1,5,11] [.inRegion (opsOf (q56 [1,1,0,0])) [5,6],.code (q56 [1,1,0,1]),.code (q56 [1,1,1])] [ptr0 61,i64 (v 6),i64 (.lit 1),i8 (v 1)] []:=⟨fun st=>by kernel_rfl,fun st=>by kernel_rfl,by kernel_rfl,of_decide_eq_true (by kernel_rfl)⟩
theorem wrB:OpC 34 (opsOf (q56 [1,1,0,0])) 5 [(11,.opq 11)] 55 [.opq 11] 12:=⟨fun st=>by kernel_rfl,fun st=>by kernel_rfl,fun st=>by kernel_rfl,by kernel_rfl,by decide,rfl⟩
theorem wrC:Pc 56 34 [.inRegion (opsOf (q56 [1,1,0,0])) [6],.code (q56 [1,1,0,1]),.code (q56 [1,1,1])] [(0,ptr0 61),(1,i64 (v 6)),(5,i64 (.lit 1)),(12,i64 (v 3))] [((.cmp .lss (v 3) (.lit 4)),false),((.cmp .lss (v 6) (.tn (v 51))),true),((.cmp .leq (.lit 0) (v 6)),true),((.cmp .lss (v 6) (.lit 0)),false),((.cmp .geq (v 6) (.tn (v 51))),false)] [(⟨(.dyn 61),(.lit 5)⟩,.slice (some ⟨(.dyn 50),(v 53)⟩) (v 51) (v 52)),(⟨(.dyn 50),(.plus (.tn (v 53)) (.tn (v 6)))⟩,ptr0 62),(⟨(.dyn 62),(.lit 0)⟩,i8 (v 2))] [] 22 [] [5,30] [.inRegion (opsOf (q56 [1,1,1,0])) [11,12,13,14],.code .ret] [i64 (.lit 1),i8 (v 2)] []:=⟨fun st=>by kernel_rfl,fun st=>by kernel_rfl,by kernel_rfl,of_decide_eq_true (by kernel_rfl)⟩
theorem wrF:OpC 34 (opsOf (q56 [1,1,1,0])) 11 [(30,.opq 30)] 55 [.opq 30] 31:=⟨fun st=>by kernel_rfl,fun st=>by kernel_rfl,fun st=>by kernel_rfl,by kernel_rfl,by decide,rfl⟩
theorem wrG:Pc 56 34 [.inRegion (opsOf (q56 [1,1,1,0])) [12,13,14],.code .ret] [(5,i64 (v 4)),(31,i64 (v 5))] [] [] [] 4 [] [4] [.code .ret] [.bool (.cmp .lss (v 5) (v 4))] []:=⟨fun st=>by kernel_rfl,fun st=>by kernel_rfl,by kernel_rfl,of_decide_eq_true (by kernel_rfl)⟩
theorem wrD:Pc 56 34 [.inRegion (opsOf (q56 [1,1,0,0])) [6],.code (q56 [1,1,0,1]),.code (q56 [1,1,1])] [(0,ptr0 61),(1,i64 (v 6)),(5,i64 (.lit 1)),(12,i64 (v 3))] [((.cmp .lss (v 3) (.lit 4)),true),((.cmp .gtr (v 6) (.lit 0)),false),((.cmp .lss (v 6) (.tn (v 51))),true),((.cmp .leq (.lit 0) (v 6)),true),((.cmp .lss (v 6) (.lit 0)),false),((.cmp .geq (v 6) (.tn (v 51))),false)] [(⟨(.dyn 61),(.lit 5)⟩,.slice (some ⟨(.dyn 50),(v 53)⟩) (v 51) (v 52)),(⟨(.dyn 50),(.plus (.tn (v 53)) (.tn (v 6)))⟩,ptr0 62),(⟨(.dyn 62),(.lit 0)⟩,i8 (v 2))] [] 33 [] [5,30] [.inRegion (opsOf (q56 [1,1,1,0])) [11,12,13,14],.code .ret] [i64 (v 3),i8 (v 2)] []:=⟨fun st=>by kernel_rfl,fun st=>by kernel_rfl,by kernel_rfl,of_decide_eq_true (by kernel_rfl)⟩
theorem wrE:Pc 56 34 [.inRegion (opsOf (q56 [1,1,0,0])) [6],.code (q56 [1,1,0,1]),.code (q56 [1,1,1])] [(0,ptr0 61),(1,i64 (v 6)),(5,i64 (.lit 1)),(12,i64 (v 3))] [((.cmp .lss (v 3) (.lit 4)),true),((.cmp .gtr (v 6) (.lit 0)),true),((.cmp .lss (v 6) (.tn (v 51))),true),((.cmp .leq (.lit 0) (v 6)),true),((.cmp .lss (v 6) (.lit 0)),false),((.cmp .geq (v 6) (.tn (v 51))),false)] [(⟨(.dyn 61),(.lit 5)⟩,.slice (some ⟨(.dyn 50),(v 53)⟩) (v 51) (v 52)),(⟨(.dyn 50),(.plus (.tn (v 53)) (.tn (v 6)))⟩,ptr0 62),(⟨(.dyn 62),(.lit 0)⟩,i8 (v 2))] [] 37 [] [5,30] [.inRegion (opsOf (q56 [1,1,1,0])) [11,12,13,14],.code .ret] [i64 (.op .add .i64 (v 3) (.lit 1)),i8 (v 2)] []:=⟨fun st=>by kernel_rfl,fun st=>by kernel_rfl,by kernel_rfl,of_decide_eq_true (by kernel_rfl)⟩
section
structure Nd where
 op:Int
 n:Int
 kids:Int
 at':Int
inductive T where
 |nd(n:Nd)(ks:List T)
def T.n:T->Nd
 |.nd n _=>n
def T.ks:T->List T
 |.nd _ ks=>ks
structure PtrsAt(w:World)(U:Nat->Prop)(s:Value)(ps:List Nat):Prop where
 ex:(s=nilV∧ps=[])∨∃A o c,U A∧A<w.heap.size∧s=slV A o ps.length c∧ps.length≤c∧∀i p,ps[i]?=some p->w.cell? ⟨A,o+i,none⟩=some (ptrV p)
mutual
inductive TreeAt(w:World)(U:Nat->Prop):Nat->T->Prop
 |mk (b:Nat) (n:Nd) (ks:List T) (ps:List Nat) (s:Value) (u:U b) (c0:w.cell? ⟨b,0,none⟩=some (i8V n.op)) (c1:w.cell? ⟨b,1,none⟩=some (iV n.n)) (c2:w.cell? ⟨b,2,none⟩=some (iV n.kids)) (c3:w.cell? ⟨b,3,none⟩=some (iV n.at')) (c5:w.cell? ⟨b,5,none⟩=some s) (hs:PtrsAt w U s ps) (hk:TreesAt w U ps ks):TreeAt w U b (.nd n ks)
inductive TreesAt(w:World)(U:Nat->Prop):List Nat->List T->Prop
 |nil:TreesAt w U [] []
 |cons (p:Nat) (ps:List Nat) (t:T) (ts:List T) (h:TreeAt w U p t) (hs:TreesAt w U ps ts):TreesAt w U (p::ps) (t::ts)
end
section
variable {w w':World}{U U' own:Nat->Prop}
theorem PtrsAt.keepBut{s:Value}{ps:List Nat}(h:PtrsAt w U s ps)(f:Keeps own w w')(hU:∀x,U x->x<w.heap.size->¬own x∧U' x):PtrsAt w' U' s ps:=by
 rcases h.ex with h|⟨A,o,c,u,lt,h1,h2,h3⟩
 ·exact⟨.inl h⟩
 ·exact⟨.inr ⟨A,o,c,(hU A u lt).2,Nat.lt_of_lt_of_le lt f.size,h1,h2,fun i p hi=>cell_keep f (h3 i p hi) (hU A u lt).1⟩⟩
mutual
theorem TreeAt.keepBut(f:Keeps own w w')(hU:∀x,U x->x<w.heap.size->¬own x∧U' x){b:Nat}{t:T}:TreeAt w U b t->TreeAt w' U' b t
 |.mk b n ks ps s u c0 c1 c2 c3 c5 hs hk=>
  have hb:=hU b u (cellLt c0)
  .mk b n ks ps s hb.2 (cell_keep f c0 hb.1) (cell_keep f c1 hb.1) (cell_keep f c2 hb.1) (cell_keep f c3 hb.1) (cell_keep f c5 hb.1) (hs.keepBut f hU) (TreesAt.keepBut f hU hk)
theorem TreesAt.keepBut(f:Keeps own w w')(hU:∀x,U x->x<w.heap.size->¬own x∧U' x){ps:List Nat}{ts:List T}:TreesAt w U ps ts->TreesAt w' U' ps ts
 |.nil=>.nil
 |.cons p ps t ts h hs=>.cons p ps t ts (TreeAt.keepBut f hU h) (TreesAt.keepBut f hU hs)
end
theorem TreeAt.keep(f:Fresh w w'){b:Nat}{t:T}(h:TreeAt w U b t):TreeAt w' U b t:=h.keepBut f fun x u lt=>⟨fun hh=>by omega,u⟩
theorem TreesAt.keep(f:Fresh w w'){ps:List Nat}{ts:List T}(h:TreesAt w U ps ts):TreesAt w' U ps ts:=h.keepBut f fun x u lt=>⟨fun hh=>by omega,u⟩
theorem TreesAt.len:∀{ps:List Nat} {ts:List T},TreesAt w U ps ts->ps.length=ts.length
 |_,_,.nil=>rfl
 |_,_,.cons p ps t ts h hs=>by simp only[List.length_cons,TreesAt.len hs]
theorem TreesAt.get:∀{ps:List Nat} {ts:List T},TreesAt w U ps ts->∀{i:Nat} {t:T},ts[i]?=some t->∃p,ps[i]?=some p∧TreeAt w U p t
 |_,_,.nil,i,t,h=>by cases h
 |_,_,.cons p ps t' ts h hs,0,t,e=>by
  obtain rfl:t'=t:=Option.some.inj e
  exact⟨p,rfl,h⟩
 |_,_,.cons p ps t' ts h hs,i+1,t,e=>TreesAt.get hs (i:=i) e
theorem TreesAt.snoc:∀{ps:List Nat} {ts:List T} {p:Nat} {t:T},TreesAt w U ps ts->TreeAt w U p t->TreesAt w U (ps++[p]) (ts++[t])
 |_,_,p,t,.nil,h=>.cons p [] t [] h .nil
 |_,_,p,t,.cons p' ps t' ts h' hs,h=>.cons p' _ t' _ h' (TreesAt.snoc hs h)
end
theorem ltB_ok{ρ:Env}{i n I N:Nat}(hi:ρ.i i=(I:Int))(hn:ρ.i n=(N:Int))(h:I<N):AllB ρ [((.cmp .lss (v i) (.tn (v n))),true),((.cmp .leq (.lit 0) (v i)),true),((.cmp .lss (v i) (.lit 0)),false),((.cmp .geq (v i) (.tn (v n))),false)]:=by
 refine⟨?_,?_,?_,?_,trivial⟩
 ·show decide (ρ.i i<(((ρ.i n).toNat:Nat):Int))=true
  rw[hi,hn];exact decide_eq_true (by omega)
 ·show decide ((0:Int)≤ρ.i i)=true
  rw[hi];exact decide_eq_true (by omega)
 ·show decide (ρ.i i<0)=false
  rw[hi];exact decide_eq_false (by omega)
 ·show decide (ρ.i i≥(((ρ.i n).toNat:Nat):Int))=false
  rw[hi,hn];exact decide_eq_false (by omega)
theorem inc{i:Nat}(h:i<1000000000000000):iop .add .i64 (i:Int) 1=((i+1:Nat):Int):=by
 show IntKind.wrap .i64 ((i:Int)+1)=_
 rw[I64_wrap (by omega)]
 omega
def wantsOf(op:Int)(i:Nat):Int:=if rkOf op<4 then(if i>0 then rkOf op+1 else rkOf op)else 1
theorem rk_range(op:Int):1≤rkOf op∧rkOf op≤4:=by
 unfold rkOf
 repeat (first|(split; · decide)|decide)
def wrapB(t:T)(i:Nat)(k:T):Bool:=decide (rkOf k.n.op<wantsOf t.n.op i)
section
variable {w:World}{cs:List Frame}{fr:Frame}
theorem wrapped_all{U:Nat->Prop}{b i:Nat}{t k:T}(h:TreeAt w U b t)(hk:t.ks[i]?=some k)(hl:t.ks.length≤1000000):Ans 56 #[ptrV b,iV i] w fun v w'=>Fresh w w'∧v=.bool (wrapB t i k):=by
 obtain⟨b,n,ks,ps,s,u,c0,c1,c2,c3,c5,hs,hks⟩:=h
 obtain⟨p,hp,hpk⟩:=hks.get hk
 obtain⟨p,m,ks',ps',s',u',d0,d1,d2,d3,d5,hs',hks'⟩:=hpk
 have hlt:i<ps.length:=(List.getElem?_eq_some_iff.1 hp).1
 rcases hs.ex with⟨_,rfl⟩|⟨A,o,c,uA,lA,rfl,hc,hel⟩
 ·cases hp
 have hlen:ps.length≤1000000:=by rw[hks.len];exact hl
 have hr:=rk_range n.op
 refine ans_of fun cs=>?_
 refine(wrA.go (mkE [(6,i),(1,n.op)] [(61,b)] []) (enter2 ent56 rfl (ptrV b) (iV i)) rfl trivial ⟨c0,trivial⟩).trans fun g1 w1 hd=>?_
 obtain⟨I,B,fr1,rfl,f1,F1,_⟩:=hd
 refine(wrB.go (mkE [] [] [(11,i8V n.op)]) (Q:=fun v w'=>v=iV (rkOf n.op)) F1 rfl fun w' f1=>rank_all).trans fun g2 w2 hd2=>?_
 obtain⟨fr2,v,rfl,f2,rfl,F2⟩:=hd2
 have f12:=f1.trans f2
 obtain⟨ρ,hρ⟩:∃ρ:Env,ρ=mkE [(6,i),(3,rkOf n.op),(51,ps.length),(52,c),(53,o),(2,m.op)] [(61,b),(50,A),(62,p)] []:=⟨_,rfl⟩
 have mm:AllM ρ w2 [(⟨(.dyn 61),(.lit 5)⟩,.slice (some ⟨(.dyn 50),(v 53)⟩) (v 51) (v 52)),(⟨(.dyn 50),(.plus (.tn (v 53)) (.tn (v 6)))⟩,ptr0 62),(⟨(.dyn 62),(.lit 0)⟩,i8 (v 2))]:=by
  rw[hρ]
  exact⟨f12.cell c5,f12.cell (hel i p hp),f12.cell d0,trivial⟩
 have bb:=ltB_ok (ρ:=ρ) (i:=6) (n:=51) (I:=i) (N:=ps.length) (by rw[hρ];rfl) (by rw[hρ];rfl) hlt
 have rest:∀{w3:World} {fr3:Frame} {x:Int},Fresh w2 w3->FA 56 34 (.inRegion (opsOf (q56 [1,1,1,0])) [11,12,13,14]::[.code .ret]) [] .normal [(5,iV x),(30,i8V m.op)] fr3->x=wantsOf n.op i->Goes (G fr3 cs) w3 fun g' w'=>∃fr' v,g'=G fr' cs∧Leav 56 fr' w' v∧Fresh w w'∧v=.bool (wrapB (.nd n ks) i (.nd m ks')):=fun{w3 fr3 x} f3 F3 hx=>by
  refine(wrF.go (mkE [] [] [(30,i8V m.op)]) (Q:=fun v w'=>v=iV (rkOf m.op)) F3 rfl fun w' f1=>rank_all).trans fun g4 w4 hd4=>?_
  obtain⟨fr4,v,rfl,f4,rfl,F4⟩:=hd4
  refine(wrG.go (mkE [(4,x),(5,rkOf m.op)] [] []) F4 rfl trivial trivial).trans fun g5 w5 hd5=>?_
  obtain⟨I,B,fr5,rfl,f5,F5,_⟩:=hd5
  refine(leave1 ret56 F5 rfl).mono fun g6 w6 hd6=>?_
  obtain⟨fr6,rfl,rfl,hL⟩:=hd6
  exact⟨fr6,_,rfl,hL,f12.trans (f3.trans (f4.trans f5)),by subst hx;rfl⟩
 by_cases h4:rkOf n.op<4
 ·by_cases h0:(i:Int)>0
  ·refine(wrE.go ρ F2 (by rw[hρ];rfl) ⟨by rw[hρ];exact decide_eq_true h4,by rw[hρ];exact decide_eq_true h0,bb⟩ mm).trans fun g3 w3 hd3=>?_
   obtain⟨I,B,fr3,rfl,f3,F3,_⟩:=hd3
   refine rest (x:=iop .add .i64 (rkOf n.op) 1) f3 (by rw[hρ]at F3;exact F3) ?_
   unfold wantsOf
   rw[if_pos h4,if_pos (by omega)]
   exact I64_wrap (by omega)
  ·refine(wrD.go ρ F2 (by rw[hρ];rfl) ⟨by rw[hρ];exact decide_eq_true h4,by rw[hρ];exact decide_eq_false h0,bb⟩ mm).trans fun g3 w3 hd3=>?_
   obtain⟨I,B,fr3,rfl,f3,F3,_⟩:=hd3
   refine rest (x:=rkOf n.op) f3 (by rw[hρ]at F3;exact F3) ?_
   unfold wantsOf
   rw[if_pos h4,if_neg (by omega)]
 ·refine(wrC.go ρ F2 (by rw[hρ];rfl) ⟨by rw[hρ];exact decide_eq_false h4,bb⟩ mm).trans fun g3 w3 hd3=>?_
  obtain⟨I,B,fr3,rfl,f3,F3,_⟩:=hd3
  refine rest (x:=1) f3 (by rw[hρ]at F3;exact F3) ?_
  unfold wantsOf
  rw[if_neg h4]
end
end
noncomputable def q46(l:List Nat):Code:=pc (bodyOf Try.f46) l
theorem ent46:enterA Try.prog 46 [.opq 0,.opq 1] .normal=.ok ⟨46,87,entT 46 [.opq 0,.opq 1],[.code (bodyOf Try.f46)],[],.run,.normal⟩:=by kernel_rfl
theorem ret46:RetC2 46 87 4 5:=fun st=>by kernel_rfl
theorem dpA:Pc 46 87 [.code (q46 [])] [(0,ptr0 61),(1,i64 (v 7))] [] [(⟨(.dyn 61),(.lit 0)⟩,i8 (v 2))] [] 12 [] [0,1,5,16] [.inRegion (opsOf (q46 [1,0])) [5,6],.code (q46 [1,1])] [ptr0 61,i64 (v 7),i64 (.lit 0),i8 (v 2)] []:=⟨fun st=>by kernel_rfl,fun st=>by kernel_rfl,by kernel_rfl,of_decide_eq_true (by kernel_rfl)⟩
theorem dpB:OpC 87 (opsOf (q46 [1,0])) 5 [(16,.opq 16)] 55 [.opq 16] 17:=⟨fun st=>by kernel_rfl,fun st=>by kernel_rfl,fun st=>by kernel_rfl,by kernel_rfl,by decide,rfl⟩
theorem dpC0:Pc 46 87 [.inRegion (opsOf (q46 [1,0])) [6],.code (q46 [1,1])] [(0,ptr0 61),(1,i64 (v 7)),(5,i64 (.lit 0)),(17,i64 (v 3))] [((.cmp .gtr (v 3) (.lit 2)),false)] [(⟨(.dyn 61),(.lit 5)⟩,.slice (some ⟨(.dyn 50),(v 53)⟩) (v 51) (v 52))] [] 35 [] [0,1,4,5,6,34,35,36] [.code (q46 [1,1,1,1,0,1,0,0]),.inLoop (q46 [1,1,1,1,0,1,0,0]),.inBlock 0,.code (q46 [1,1,1,1,1])] [ptr0 61,i64 (v 7),i64 (v 7),i64 (.lit 0),i64 (v 3),.slice (some ⟨(.dyn 50),(v 53)⟩) (v 51) (v 52),i64 (.tn (v 51)),i64 (.lit 0)] []:=⟨fun st=>by kernel_rfl,fun st=>by kernel_rfl,by kernel_rfl,of_decide_eq_true (by kernel_rfl)⟩
theorem dpC1:Pc 46 87 [.inRegion (opsOf (q46 [1,0])) [6],.code (q46 [1,1])] [(0,ptr0 61),(1,i64 (v 7)),(5,i64 (.lit 0)),(17,i64 (v 3))] [((.cmp .gtr (v 3) (.lit 2)),true),((.cmp .gtr (.tn (v 51)) (.lit 0)),false)] [(⟨(.dyn 61),(.lit 5)⟩,.slice (some ⟨(.dyn 50),(v 53)⟩) (v 51) (v 52))] [] 35 [] [0,1,4,5,6,34,35,36] [.code (q46 [1,1,1,1,0,1,0,0]),.inLoop (q46 [1,1,1,1,0,1,0,0]),.inBlock 0,.code (q46 [1,1,1,1,1])] [ptr0 61,i64 (v 7),i64 (v 7),i64 (.lit 0),i64 (v 3),.slice (some ⟨(.dyn 50),(v 53)⟩) (v 51) (v 52),i64 (.tn (v 51)),i64 (.lit 0)] []:=⟨fun st=>by kernel_rfl,fun st=>by kernel_rfl,by kernel_rfl,of_decide_eq_true (by kernel_rfl)⟩
theorem dpC2:Pc 46 87 [.inRegion (opsOf (q46 [1,0])) [6],.code (q46 [1,1])] [(0,ptr0 61),(1,i64 (v 7)),(5,i64 (.lit 0)),(17,i64 (v 3))] [((.cmp .gtr (v 3) (.lit 2)),true),((.cmp .gtr (.tn (v 51)) (.lit 0)),true)] [(⟨(.dyn 61),(.lit 5)⟩,.slice (some ⟨(.dyn 50),(v 53)⟩) (v 51) (v 52))] [] 39 [] [0,1,4,5,6,34,35,36] [.code (q46 [1,1,1,1,0,1,0,0]),.inLoop (q46 [1,1,1,1,0,1,0,0]),.inBlock 0,.code (q46 [1,1,1,1,1])] [ptr0 61,i64 (.op .add .i64 (v 7) (.lit 1)),i64 (.op .add .i64 (v 7) (.lit 1)),i64 (.lit 0),i64 (v 3),.slice (some ⟨(.dyn 50),(v 53)⟩) (v 51) (v 52),i64 (.tn (v 51)),i64 (.lit 0)] []:=⟨fun st=>by kernel_rfl,fun st=>by kernel_rfl,by kernel_rfl,of_decide_eq_true (by kernel_rfl)⟩
theorem dpN0:Pc 46 87 [.inRegion (opsOf (q46 [1,0])) [6],.code (q46 [1,1])] [(0,ptr0 61),(1,i64 (v 7)),(5,i64 (.lit 0)),(17,i64 (v 3))] [((.cmp .gtr (v 3) (.lit 2)),false)] [(⟨(.dyn 61),(.lit 5)⟩,nilA)] [] 35 [] [0,1,4,5,6,34,35,36] [.code (q46 [1,1,1,1,0,1,0,0]),.inLoop (q46 [1,1,1,1,0,1,0,0]),.inBlock 0,.code (q46 [1,1,1,1,1])] [ptr0 61,i64 (v 7),i64 (v 7),i64 (.lit 0),i64 (v 3),nilA,i64 (.lit 0),i64 (.lit 0)] []:=⟨fun st=>by kernel_rfl,fun st=>by kernel_rfl,by kernel_rfl,of_decide_eq_true (by kernel_rfl)⟩
theorem dpN1:Pc 46 87 [.inRegion (opsOf (q46 [1,0])) [6],.code (q46 [1,1])] [(0,ptr0 61),(1,i64 (v 7)),(5,i64 (.lit 0)),(17,i64 (v 3))] [((.cmp .gtr (v 3) (.lit 2)),true)] [(⟨(.dyn 61),(.lit 5)⟩,nilA)] [] 35 [] [0,1,4,5,6,34,35,36] [.code (q46 [1,1,1,1,0,1,0,0]),.inLoop (q46 [1,1,1,1,0,1,0,0]),.inBlock 0,.code (q46 [1,1,1,1,1])] [ptr0 61,i64 (v 7),i64 (v 7),i64 (.lit 0),i64 (v 3),nilA,i64 (.lit 0),i64 (.lit 0)] []:=⟨fun st=>by kernel_rfl,fun st=>by kernel_rfl,by kernel_rfl,of_decide_eq_true (by kernel_rfl)⟩
theorem dpR0:Pc 46 87 [.code (q46 [1,1,1,1,0,1,0,0]),.inLoop (q46 [1,1,1,1,0,1,0,0]),.inBlock 0,.code (q46 [1,1,1,1,1])] [(0,ptr0 61),(1,i64 (v 7)),(4,i64 (v 8)),(5,i64 (v 9)),(6,i64 (v 3)),(34,.slice (some ⟨(.dyn 50),(v 53)⟩) (v 51) (v 52)),(35,i64 (.tn (v 51))),(36,i64 (v 10))] [((.cmp .lss (v 10) (.tn (v 51))),true),((.cmp .leq (.lit 0) (v 10)),true),((.cmp .lss (v 10) (.lit 0)),false),((.cmp .geq (v 10) (.tn (v 51))),false),((.cmp .lss (v 3) (.lit 3)),false)] [(⟨(.dyn 50),(.plus (.tn (v 53)) (.tn (v 10)))⟩,ptr0 62)] [] 39 [] [0,1,4,5,6,7,8,9,34,35,36,51,52] [.inRegion (opsOf (q46 [1,1,1,1,0,1,0,0,1,1,0,0,1,1,1,0,0])) [2],.code (q46 [1,1,1,1,0,1,0,0,1,1,0,0,1,1,1,0,1]),.code (q46 [1,1,1,1,0,1,0,0,1,1,0,0,1,1,1,1]),.inBlock 1,.code (q46 [1,1,1,1,0,1,0,0,1,1,1]),.inLoop (q46 [1,1,1,1,0,1,0,0]),.inBlock 0,.code (q46 [1,1,1,1,1])] [ptr0 61,i64 (v 7),i64 (v 8),i64 (v 9),i64 (v 3),i64 (v 10),ptr0 62,i64 (v 7),.slice (some ⟨(.dyn 50),(v 53)⟩) (v 51) (v 52),i64 (.tn (v 51)),i64 (v 10),ptr0 61,i64 (v 10)] []:=⟨fun st=>by kernel_rfl,fun st=>by kernel_rfl,by kernel_rfl,of_decide_eq_true (by kernel_rfl)⟩
theorem dpR1:Pc 46 87 [.code (q46 [1,1,1,1,0,1,0,0]),.inLoop (q46 [1,1,1,1,0,1,0,0]),.inBlock 0,.code (q46 [1,1,1,1,1])] [(0,ptr0 61),(1,i64 (v 7)),(4,i64 (v 8)),(5,i64 (v 9)),(6,i64 (v 3)),(34,.slice (some ⟨(.dyn 50),(v 53)⟩) (v 51) (v 52)),(35,i64 (.tn (v 51))),(36,i64 (v 10))] [((.cmp .lss (v 10) (.tn (v 51))),true),((.cmp .leq (.lit 0) (v 10)),true),((.cmp .lss (v 10) (.lit 0)),false),((.cmp .geq (v 10) (.tn (v 51))),false),((.cmp .lss (v 3) (.lit 3)),true),((.cmp .eql (v 10) (.lit 1)),false)] [(⟨(.dyn 50),(.plus (.tn (v 53)) (.tn (v 10)))⟩,ptr0 62)] [] 39 [] [0,1,4,5,6,7,8,9,34,35,36,51,52] [.inRegion (opsOf (q46 [1,1,1,1,0,1,0,0,1,1,0,0,1,1,1,0,0])) [2],.code (q46 [1,1,1,1,0,1,0,0,1,1,0,0,1,1,1,0,1]),.code (q46 [1,1,1,1,0,1,0,0,1,1,0,0,1,1,1,1]),.inBlock 1,.code (q46 [1,1,1,1,0,1,0,0,1,1,1]),.inLoop (q46 [1,1,1,1,0,1,0,0]),.inBlock 0,.code (q46 [1,1,1,1,1])] [ptr0 61,i64 (v 7),i64 (v 8),i64 (v 9),i64 (v 3),i64 (v 10),ptr0 62,i64 (v 7),.slice (some ⟨(.dyn 50),(v 53)⟩) (v 51) (v 52),i64 (.tn (v 51)),i64 (v 10),ptr0 61,i64 (v 10)] []:=⟨fun st=>by kernel_rfl,fun st=>by kernel_rfl,by kernel_rfl,of_decide_eq_true (by kernel_rfl)⟩
theorem dpR2:Pc 46 87 [.code (q46 [1,1,1,1,0,1,0,0]),.inLoop (q46 [1,1,1,1,0,1,0,0]),.inBlock 0,.code (q46 [1,1,1,1,1])] [(0,ptr0 61),(1,i64 (v 7)),(4,i64 (v 8)),(5,i64 (v 9)),(6,i64 (v 3)),(34,.slice (some ⟨(.dyn 50),(v 53)⟩) (v 51) (v 52)),(35,i64 (.tn (v 51))),(36,i64 (v 10))] [((.cmp .lss (v 10) (.tn (v 51))),true),((.cmp .leq (.lit 0) (v 10)),true),((.cmp .lss (v 10) (.lit 0)),false),((.cmp .geq (v 10) (.tn (v 51))),false),((.cmp .lss (v 3) (.lit 3)),true),((.cmp .eql (v 10) (.lit 1)),true)] [(⟨(.dyn 50),(.plus (.tn (v 53)) (.tn (v 10)))⟩,ptr0 62)] [] 44 [] [0,1,4,5,6,7,8,9,34,35,36,51,52] [.inRegion (opsOf (q46 [1,1,1,1,0,1,0,0,1,1,0,0,1,1,1,0,0])) [2],.code (q46 [1,1,1,1,0,1,0,0,1,1,0,0,1,1,1,0,1]),.code (q46 [1,1,1,1,0,1,0,0,1,1,0,0,1,1,1,1]),.inBlock 1,.code (q46 [1,1,1,1,0,1,0,0,1,1,1]),.inLoop (q46 [1,1,1,1,0,1,0,0]),.inBlock 0,.code (q46 [1,1,1,1,1])] [ptr0 61,i64 (v 7),i64 (v 8),i64 (v 9),i64 (v 3),i64 (v 10),ptr0 62,i64 (.op .add .i64 (v 7) (v 9)),.slice (some ⟨(.dyn 50),(v 53)⟩) (v 51) (v 52),i64 (.tn (v 51)),i64 (v 10),ptr0 61,i64 (v 10)] []:=⟨fun st=>by kernel_rfl,fun st=>by kernel_rfl,by kernel_rfl,of_decide_eq_true (by kernel_rfl)⟩
theorem dpS:OpC 87 (opsOf (q46 [1,1,1,1,0,1,0,0,1,1,0,0,1,1,1,0,0])) 2 [(51,.opq 51),(52,.opq 52)] 56 [.opq 51,.opq 52] 53:=⟨fun st=>by kernel_rfl,fun st=>by kernel_rfl,fun st=>by kernel_rfl,by kernel_rfl,by decide,rfl⟩
theorem dpT0:Pc 46 87 [.inRegion (opsOf (q46 [1,1,1,1,0,1,0,0,1,1,0,0,1,1,1,0,0])) [],.code (q46 [1,1,1,1,0,1,0,0,1,1,0,0,1,1,1,0,1]),.code (q46 [1,1,1,1,0,1,0,0,1,1,0,0,1,1,1,1]),.inBlock 1,.code (q46 [1,1,1,1,0,1,0,0,1,1,1]),.inLoop (q46 [1,1,1,1,0,1,0,0]),.inBlock 0,.code (q46 [1,1,1,1,1])] [(0,ptr0 61),(1,i64 (v 7)),(4,i64 (v 8)),(5,i64 (v 9)),(6,i64 (v 3)),(7,i64 (v 10)),(8,ptr0 62),(9,i64 (v 11)),(34,.slice (some ⟨(.dyn 50),(v 53)⟩) (v 51) (v 52)),(35,i64 (.tn (v 51))),(36,i64 (v 10)),(53,FB)] [] [] [] 7 [] [0,1,4,5,6,7,8,9,34,35,36,57,58] [.inRegion (opsOf (q46 [1,1,1,1,0,1,0,0,1,1,0,0,1,1,1,1,0])) [2,3,4,5,6,7],.code (q46 [1,1,1,1,0,1,0,0,1,1,0,0,1,1,1,1,1]),.inBlock 1,.code (q46 [1,1,1,1,0,1,0,0,1,1,1]),.inLoop (q46 [1,1,1,1,0,1,0,0]),.inBlock 0,.code (q46 [1,1,1,1,1])] [ptr0 61,i64 (v 7),i64 (v 8),i64 (v 9),i64 (v 3),i64 (v 10),ptr0 62,i64 (v 11),.slice (some ⟨(.dyn 50),(v 53)⟩) (v 51) (v 52),i64 (.tn (v 51)),i64 (v 10),ptr0 62,i64 (v 11)] []:=⟨fun st=>by kernel_rfl,fun st=>by kernel_rfl,by kernel_rfl,of_decide_eq_true (by kernel_rfl)⟩
theorem dpT1:Pc 46 87 [.inRegion (opsOf (q46 [1,1,1,1,0,1,0,0,1,1,0,0,1,1,1,0,0])) [],.code (q46 [1,1,1,1,0,1,0,0,1,1,0,0,1,1,1,0,1]),.code (q46 [1,1,1,1,0,1,0,0,1,1,0,0,1,1,1,1]),.inBlock 1,.code (q46 [1,1,1,1,0,1,0,0,1,1,1]),.inLoop (q46 [1,1,1,1,0,1,0,0]),.inBlock 0,.code (q46 [1,1,1,1,1])] [(0,ptr0 61),(1,i64 (v 7)),(4,i64 (v 8)),(5,i64 (v 9)),(6,i64 (v 3)),(7,i64 (v 10)),(8,ptr0 62),(9,i64 (v 11)),(34,.slice (some ⟨(.dyn 50),(v 53)⟩) (v 51) (v 52)),(35,i64 (.tn (v 51))),(36,i64 (v 10)),(53,TB)] [] [] [] 11 [] [0,1,4,5,6,7,8,9,34,35,36,57,58] [.inRegion (opsOf (q46 [1,1,1,1,0,1,0,0,1,1,0,0,1,1,1,1,0])) [2,3,4,5,6,7],.code (q46 [1,1,1,1,0,1,0,0,1,1,0,0,1,1,1,1,1]),.inBlock 1,.code (q46 [1,1,1,1,0,1,0,0,1,1,1]),.inLoop (q46 [1,1,1,1,0,1,0,0]),.inBlock 0,.code (q46 [1,1,1,1,1])] [ptr0 61,i64 (v 7),i64 (v 8),i64 (v 9),i64 (v 3),i64 (v 10),ptr0 62,i64 (.op .add .i64 (v 11) (.lit 1)),.slice (some ⟨(.dyn 50),(v 53)⟩) (v 51) (v 52),i64 (.tn (v 51)),i64 (v 10),ptr0 62,i64 (.op .add .i64 (v 11) (.lit 1))] []:=⟨fun st=>by kernel_rfl,fun st=>by kernel_rfl,by kernel_rfl,of_decide_eq_true (by kernel_rfl)⟩
theorem dpU:OpC 87 (opsOf (q46 [1,1,1,1,0,1,0,0,1,1,0,0,1,1,1,1,0])) 2 [(57,.opq 57),(58,.opq 58)] 46 [.opq 57,.opq 58] 59:=⟨fun st=>by kernel_rfl,fun st=>by kernel_rfl,fun st=>by kernel_rfl,by kernel_rfl,by decide,rfl⟩
theorem dpV0:Pc 46 87 [.inRegion (opsOf (q46 [1,1,1,1,0,1,0,0,1,1,0,0,1,1,1,1,0])) [3,4,5,6,7],.code (q46 [1,1,1,1,0,1,0,0,1,1,0,0,1,1,1,1,1]),.inBlock 1,.code (q46 [1,1,1,1,0,1,0,0,1,1,1]),.inLoop (q46 [1,1,1,1,0,1,0,0]),.inBlock 0,.code (q46 [1,1,1,1,1])] [(0,ptr0 61),(1,i64 (v 7)),(4,i64 (v 8)),(5,i64 (v 9)),(6,i64 (v 3)),(7,i64 (v 10)),(8,ptr0 62),(9,i64 (v 11)),(34,.slice (some ⟨(.dyn 50),(v 53)⟩) (v 51) (v 52)),(35,i64 (.tn (v 51))),(36,i64 (v 10)),(59,.tuple [i64 (v 12),i64 (v 13)])] [((.cmp .eql (v 10) (.lit 0)),false)] [] [] 32 [] [0,1,5,6,34,35,36,79,80,81] [.inRegion (opsOf (q46 [1,1,1,1,0,1,0,0,1,1,0,0,1,1,1,1,1,1])) [3,4],.inBlock 1,.code (q46 [1,1,1,1,0,1,0,0,1,1,1]),.inLoop (q46 [1,1,1,1,0,1,0,0]),.inBlock 0,.code (q46 [1,1,1,1,1])] [ptr0 61,i64 (v 7),i64 (v 9),i64 (v 3),.slice (some ⟨(.dyn 50),(v 53)⟩) (v 51) (v 52),i64 (.tn (v 51)),i64 (v 10),i64 (v 8),i64 (v 12),i64 (v 11)] []:=⟨fun st=>by kernel_rfl,fun st=>by kernel_rfl,by kernel_rfl,of_decide_eq_true (by kernel_rfl)⟩
theorem dpV1:Pc 46 87 [.inRegion (opsOf (q46 [1,1,1,1,0,1,0,0,1,1,0,0,1,1,1,1,0])) [3,4,5,6,7],.code (q46 [1,1,1,1,0,1,0,0,1,1,0,0,1,1,1,1,1]),.inBlock 1,.code (q46 [1,1,1,1,0,1,0,0,1,1,1]),.inLoop (q46 [1,1,1,1,0,1,0,0]),.inBlock 0,.code (q46 [1,1,1,1,1])] [(0,ptr0 61),(1,i64 (v 7)),(4,i64 (v 8)),(5,i64 (v 9)),(6,i64 (v 3)),(7,i64 (v 10)),(8,ptr0 62),(9,i64 (v 11)),(34,.slice (some ⟨(.dyn 50),(v 53)⟩) (v 51) (v 52)),(35,i64 (.tn (v 51))),(36,i64 (v 10)),(59,.tuple [i64 (v 12),i64 (v 13)])] [((.cmp .eql (v 10) (.lit 0)),true),((.cmp .lss (v 3) (.lit 3)),false)] [] [] 32 [] [0,1,5,6,34,35,36,79,80,81] [.inRegion (opsOf (q46 [1,1,1,1,0,1,0,0,1,1,0,0,1,1,1,1,1,1])) [3,4],.inBlock 1,.code (q46 [1,1,1,1,0,1,0,0,1,1,1]),.inLoop (q46 [1,1,1,1,0,1,0,0]),.inBlock 0,.code (q46 [1,1,1,1,1])] [ptr0 61,i64 (v 7),i64 (v 9),i64 (v 3),.slice (some ⟨(.dyn 50),(v 53)⟩) (v 51) (v 52),i64 (.tn (v 51)),i64 (v 10),i64 (v 8),i64 (v 12),i64 (v 11)] []:=⟨fun st=>by kernel_rfl,fun st=>by kernel_rfl,by kernel_rfl,of_decide_eq_true (by kernel_rfl)⟩
theorem dpW:OpW 87 (opsOf (q46 [1,1,1,1,0,1,0,0,1,1,0,0,1,1,1,1,1,1])) 3 [] (.call {callee:=.builtin .max,args:=#[.tmp 79,.tmp 80,.tmp 81],argTypes:=#[3,3,3]}) 3 (some 82):=⟨fun st=>by kernel_rfl,fun st=>by kernel_rfl,by kernel_rfl⟩
theorem dpX:Pc 46 87 [.inRegion (opsOf (q46 [1,1,1,1,0,1,0,0,1,1,0,0,1,1,1,1,0])) [3,4,5,6,7],.code (q46 [1,1,1,1,0,1,0,0,1,1,0,0,1,1,1,1,1]),.inBlock 1,.code (q46 [1,1,1,1,0,1,0,0,1,1,1]),.inLoop (q46 [1,1,1,1,0,1,0,0]),.inBlock 0,.code (q46 [1,1,1,1,1])] [(0,ptr0 61),(1,i64 (v 7)),(4,i64 (v 8)),(5,i64 (v 9)),(6,i64 (v 3)),(7,i64 (v 10)),(8,ptr0 62),(9,i64 (v 11)),(34,.slice (some ⟨(.dyn 50),(v 53)⟩) (v 51) (v 52)),(35,i64 (.tn (v 51))),(36,i64 (v 10)),(59,.tuple [i64 (v 12),i64 (v 13)])] [((.cmp .eql (v 10) (.lit 0)),true),((.cmp .lss (v 3) (.lit 3)),true)] [(⟨(.dyn 62),(.lit 0)⟩,i8 (v 14))] [] 21 [] [0,1,4,5,6,7,8,9,10,11,34,35,36,68,73] [.inRegion (opsOf (q46 [1,1,1,1,0,1,0,0,1,1,0,0,1,1,1,1,1,0,0])) [12,13,14,15],.code (q46 [1,1,1,1,0,1,0,0,1,1,0,0,1,1,1,1,1,0,1]),.code (q46 [1,1,1,1,0,1,0,0,1,1,0,0,1,1,1,1,1,1]),.inBlock 1,.code (q46 [1,1,1,1,0,1,0,0,1,1,1]),.inLoop (q46 [1,1,1,1,0,1,0,0]),.inBlock 0,.code (q46 [1,1,1,1,1])] [ptr0 61,i64 (v 7),i64 (v 8),i64 (v 9),i64 (v 3),i64 (v 10),ptr0 62,i64 (v 11),i64 (v 12),i64 (v 13),.slice (some ⟨(.dyn 50),(v 53)⟩) (v 51) (v 52),i64 (.tn (v 51)),i64 (v 10),TB,i8 (v 14)] []:=⟨fun st=>by kernel_rfl,fun st=>by kernel_rfl,by kernel_rfl,of_decide_eq_true (by kernel_rfl)⟩
theorem dpY:OpC 87 (opsOf (q46 [1,1,1,1,0,1,0,0,1,1,0,0,1,1,1,1,1,0,0])) 12 [(68,TB),(73,.opq 73)] 55 [.opq 73] 74:=⟨fun st=>by kernel_rfl,fun st=>by kernel_rfl,fun st=>by kernel_rfl,by kernel_rfl,by decide,rfl⟩
theorem dpZ0:Pc 46 87 [.inRegion (opsOf (q46 [1,1,1,1,0,1,0,0,1,1,0,0,1,1,1,1,1,0,0])) [13,14,15],.code (q46 [1,1,1,1,0,1,0,0,1,1,0,0,1,1,1,1,1,0,1]),.code (q46 [1,1,1,1,0,1,0,0,1,1,0,0,1,1,1,1,1,1]),.inBlock 1,.code (q46 [1,1,1,1,0,1,0,0,1,1,1]),.inLoop (q46 [1,1,1,1,0,1,0,0]),.inBlock 0,.code (q46 [1,1,1,1,1])] [(0,ptr0 61),(1,i64 (v 7)),(4,i64 (v 8)),(5,i64 (v 9)),(6,i64 (v 3)),(7,i64 (v 10)),(8,ptr0 62),(9,i64 (v 11)),(34,.slice (some ⟨(.dyn 50),(v 53)⟩) (v 51) (v 52)),(35,i64 (.tn (v 51))),(36,i64 (v 10)),(10,i64 (v 12)),(11,i64 (v 13)),(68,TB),(74,i64 (v 15))] [((.cmp .eql (v 15) (v 3)),false)] [] [] 10 [] [0,1,5,6,34,35,36,79,80,81] [.inRegion (opsOf (q46 [1,1,1,1,0,1,0,0,1,1,0,0,1,1,1,1,1,1])) [3,4],.inBlock 1,.code (q46 [1,1,1,1,0,1,0,0,1,1,1]),.inLoop (q46 [1,1,1,1,0,1,0,0]),.inBlock 0,.code (q46 [1,1,1,1,1])] [ptr0 61,i64 (v 7),i64 (v 9),i64 (v 3),.slice (some ⟨(.dyn 50),(v 53)⟩) (v 51) (v 52),i64 (.tn (v 51)),i64 (v 10),i64 (v 8),i64 (v 12),i64 (v 11)] []:=⟨fun st=>by kernel_rfl,fun st=>by kernel_rfl,by kernel_rfl,of_decide_eq_true (by kernel_rfl)⟩
theorem dpZ1:Pc 46 87 [.inRegion (opsOf (q46 [1,1,1,1,0,1,0,0,1,1,0,0,1,1,1,1,1,0,0])) [13,14,15],.code (q46 [1,1,1,1,0,1,0,0,1,1,0,0,1,1,1,1,1,0,1]),.code (q46 [1,1,1,1,0,1,0,0,1,1,0,0,1,1,1,1,1,1]),.inBlock 1,.code (q46 [1,1,1,1,0,1,0,0,1,1,1]),.inLoop (q46 [1,1,1,1,0,1,0,0]),.inBlock 0,.code (q46 [1,1,1,1,1])] [(0,ptr0 61),(1,i64 (v 7)),(4,i64 (v 8)),(5,i64 (v 9)),(6,i64 (v 3)),(7,i64 (v 10)),(8,ptr0 62),(9,i64 (v 11)),(34,.slice (some ⟨(.dyn 50),(v 53)⟩) (v 51) (v 52)),(35,i64 (.tn (v 51))),(36,i64 (v 10)),(10,i64 (v 12)),(11,i64 (v 13)),(68,TB),(74,i64 (v 15))] [((.cmp .eql (v 15) (v 3)),true)] [] [] 13 [] [0,1,5,6,34,35,36,79,80,81] [.inRegion (opsOf (q46 [1,1,1,1,0,1,0,0,1,1,0,0,1,1,1,1,1,1])) [3,4],.inBlock 1,.code (q46 [1,1,1,1,0,1,0,0,1,1,1]),.inLoop (q46 [1,1,1,1,0,1,0,0]),.inBlock 0,.code (q46 [1,1,1,1,1])] [ptr0 61,i64 (v 7),i64 (v 13),i64 (v 3),.slice (some ⟨(.dyn 50),(v 53)⟩) (v 51) (v 52),i64 (.tn (v 51)),i64 (v 10),i64 (v 8),i64 (v 12),i64 (v 11)] []:=⟨fun st=>by kernel_rfl,fun st=>by kernel_rfl,by kernel_rfl,of_decide_eq_true (by kernel_rfl)⟩
theorem dpK:Pc 46 87 [.inRegion (opsOf (q46 [1,1,1,1,0,1,0,0,1,1,0,0,1,1,1,1,1,1])) [4],.inBlock 1,.code (q46 [1,1,1,1,0,1,0,0,1,1,1]),.inLoop (q46 [1,1,1,1,0,1,0,0]),.inBlock 0,.code (q46 [1,1,1,1,1])] [(0,ptr0 61),(1,i64 (v 7)),(5,i64 (v 9)),(6,i64 (v 3)),(34,.slice (some ⟨(.dyn 50),(v 53)⟩) (v 51) (v 52)),(35,i64 (.tn (v 51))),(36,i64 (v 10)),(82,i64 (v 16))] [] [] [] 8 [] [0,1,4,5,6,34,35,36] [.code (q46 [1,1,1,1,0,1,0,0]),.inLoop (q46 [1,1,1,1,0,1,0,0]),.inBlock 0,.code (q46 [1,1,1,1,1])] [ptr0 61,i64 (v 7),i64 (v 16),i64 (v 9),i64 (v 3),.slice (some ⟨(.dyn 50),(v 53)⟩) (v 51) (v 52),i64 (.tn (v 51)),i64 (.op .add .i64 (v 10) (.lit 1))] []:=⟨fun st=>by kernel_rfl,fun st=>by kernel_rfl,by kernel_rfl,of_decide_eq_true (by kernel_rfl)⟩
theorem dpE:Pc 46 87 [.code (q46 [1,1,1,1,0,1,0,0]),.inLoop (q46 [1,1,1,1,0,1,0,0]),.inBlock 0,.code (q46 [1,1,1,1,1])] [(0,ptr0 61),(1,i64 (v 7)),(4,i64 (v 8)),(5,i64 (v 9)),(6,i64 (v 3)),(34,.slice (some ⟨(.dyn 50),(v 53)⟩) (v 51) (v 52)),(35,i64 (.tn (v 51))),(36,i64 (v 10))] [((.cmp .lss (v 10) (.tn (v 51))),false)] [] [] 15 [] [4,5] [.code .ret] [i64 (v 8),i64 (.op .add .i64 (v 9) (.lit 1))] []:=⟨fun st=>by kernel_rfl,fun st=>by kernel_rfl,by kernel_rfl,of_decide_eq_true (by kernel_rfl)⟩
theorem dpEn:Pc 46 87 [.code (q46 [1,1,1,1,0,1,0,0]),.inLoop (q46 [1,1,1,1,0,1,0,0]),.inBlock 0,.code (q46 [1,1,1,1,1])] [(0,ptr0 61),(1,i64 (v 7)),(4,i64 (v 8)),(5,i64 (v 9)),(6,i64 (v 3)),(34,nilA),(35,i64 (.lit 0)),(36,i64 (.lit 0))] [] [] [] 15 [] [4,5] [.code .ret] [i64 (v 8),i64 (.op .add .i64 (v 9) (.lit 1))] []:=⟨fun st=>by kernel_rfl,fun st=>by kernel_rfl,by kernel_rfl,of_decide_eq_true (by kernel_rfl)⟩
def wadd(a b:Int):Int:=iop .add .i64 a b
def max2(a b:Int):Int:=if b>a then b else a
mutual
def flat:T->List Nd
 |.nd n ks=>n::flatL ks
def flatL:List T->List Nd
 |[]=>[]
 |k::ks=>flat k++flatL ks
end
mutual
def deepF:T->Int->Int×Int
 |.nd n ks,d=>((deepL n.op (if rkOf n.op>2∧ks≠[]then wadd d 1 else d) 0 ks (if rkOf n.op>2∧ks≠[]then wadd d 1 else d) 0).1,wadd (deepL n.op (if rkOf n.op>2∧ks≠[]then wadd d 1 else d) 0 ks (if rkOf n.op>2∧ks≠[]then wadd d 1 else d) 0).2 1)
def deepL(op d:Int):Nat->List T->Int->Int->Int×Int
 |i,[],most,marks=>(most,marks)
 |i,k::ks,most,marks=>
  let a1:=if rkOf op<3∧i=1 then wadd d marks else d
  let a2:=if decide (rkOf k.n.op<wantsOf op i)then wadd a1 1 else a1
  let r:=deepF k a2
  deepL op d (i+1) ks (max2 (max2 most r.1) a2) (if i=0∧rkOf op<3∧rkOf k.n.op=rkOf op then r.2 else marks)
end
theorem flatL_len:∀ks:List T,ks.length≤(flatL ks).length
 |[]=>Nat.le_refl _
 |.nd n l::ks=>by
  have:=flatL_len ks
  simp only[flatL,flat,List.length_cons,List.length_append]
  omega
noncomputable abbrev dpH:List Item:=[.code (q46 [1,1,1,1,0,1,0,0]),.inLoop (q46 [1,1,1,1,0,1,0,0]),.inBlock 0,.code (q46 [1,1,1,1,1])]
section
variable {w:World}{cs:List Frame}{fr:Frame}
theorem wq_max3{Ev:Event->Prop}{E:Value->World->Prop}{a b c:Int}{ts:Array TypeId}{ty:TypeId}{Q:Value->World->Prop}(hq:Q (iV (max2 (max2 a b) c)) w):wq Try.prog Ev E (Builtin.max_ ts ty #[iV a,iV b,iV c]) Q w:=by
 simp only[Builtin.max_,iV,List.foldlM_cons,List.foldlM_nil,Builtin.max2,wq_bind,wq_pure]
 exact hq
theorem drop_get{α:Type}{l:List α}{i:Nat}{a:α}{r:List α}(h:l.drop i=a::r):l[i]?=some a∧l.drop (i+1)=r∧i<l.length:=by
 have h1:l[i]?=some a:=by
  have:=congrArg (·[0]?) h
  simpa using this
 refine⟨h1,?_,(List.getElem?_eq_some_iff.1 h1).1⟩
 have:=congrArg List.tail h
 rw[List.tail_drop]at this
 simpa using this
mutual
theorem deep_all:∀(t:T) {w:World} {U:Nat->Prop} {b:Nat} {d:Int},TreeAt w U b t->(flat t).length≤1000000->Ans 46 #[ptrV b,iV d] w fun v w'=>Fresh w w'∧v=.tuple #[iV (deepF t d).1,iV (deepF t d).2]
 |.nd n ks,w,U,b,d,h,hl=>by
  have h':=h
  obtain⟨b,n,ks,ps,s,u,c0,c1,c2,c3,c5,hs,hks⟩:=h
  have hlen:(flatL ks).length≤1000000:=by
   simp only[flat,List.length_cons]at hl
   omega
  have hlk:=flatL_len ks
  refine ans_of fun cs=>?_
  refine(dpA.go (mkE [(7,d),(2,n.op)] [(61,b)] []) (enter2 ent46 rfl (ptrV b) (iV d)) rfl trivial ⟨c0,trivial⟩).trans fun g1 w1 hd=>?_
  obtain⟨I,B,fr1,rfl,f1,F1,_⟩:=hd
  refine(dpB.go (mkE [] [] [(16,i8V n.op)]) (Q:=fun v w'=>v=iV (rkOf n.op)) F1 rfl fun w' f1=>rank_all).trans fun g2 w2 hd2=>?_
  obtain⟨fr2,v,rfl,f2,rfl,F2⟩:=hd2
  have f12:=f1.trans f2
  rcases hs.ex with⟨rfl,rfl⟩|⟨A,o,c,uA,lA,rfl,hc,hel⟩
  ·obtain rfl:ks=[]:=List.eq_nil_of_length_eq_zero hks.len.symm
   have e0:deepF (.nd n []) d=(d,wadd 0 1):=by simp[deepF,deepL]
   rw[e0]
   have fin:∀{w3:World} {fr3:Frame},Fresh w2 w3->FA 46 87 dpH [] .normal [(0,ptrV b),(1,iV d),(4,iV d),(5,iV 0),(6,iV (rkOf n.op)),(34,nilV),(35,iV 0),(36,iV 0)] fr3->Goes (G fr3 cs) w3 fun g' w'=>∃fr' v,g'=G fr' cs∧Leav 46 fr' w' v∧Fresh w w'∧v=.tuple #[iV d,iV (wadd 0 1)]:=fun{w3 fr3} f3 F3=>by
    refine(dpEn.go (mkE [(7,d),(8,d),(9,0),(3,rkOf n.op)] [(61,b)] []) F3 rfl trivial trivial).trans fun g4 w4 hd4=>?_
    obtain⟨I,B,fr4,rfl,f4,F4,_⟩:=hd4
    refine(leave2 ret46 F4 rfl rfl).mono fun g6 w6 hd6=>?_
    obtain⟨fr6,rfl,rfl,hL⟩:=hd6
    exact⟨fr6,_,rfl,hL,f12.trans (f3.trans f4),rfl⟩
   by_cases h2:rkOf n.op>2
   ·refine(dpN1.go (mkE [(7,d),(3,rkOf n.op)] [(61,b)] []) F2 rfl ⟨decide_eq_true h2,trivial⟩ ⟨f12.cell c5,trivial⟩).trans fun g3 w3 hd3=>?_
    obtain⟨I,B,fr3,rfl,f3,F3,_⟩:=hd3
    exact fin f3 F3
   ·refine(dpN0.go (mkE [(7,d),(3,rkOf n.op)] [(61,b)] []) F2 rfl ⟨decide_eq_false h2,trivial⟩ ⟨f12.cell c5,trivial⟩).trans fun g3 w3 hd3=>?_
    obtain⟨I,B,fr3,rfl,f3,F3,_⟩:=hd3
    exact fin f3 F3
  ·obtain⟨ρ,hρ⟩:∃ρ:Env,ρ=mkE [(7,d),(3,rkOf n.op),(51,ps.length),(52,c),(53,o)] [(61,b),(50,A)] []:=⟨_,rfl⟩
   have ed:∀{x:Int},x=(if rkOf n.op>2∧ks≠[]then wadd d 1 else d)->deepF (.nd n ks) d=((deepL n.op x 0 ks x 0).1,wadd (deepL n.op x 0 ks x 0).2 1):=fun h=>by
    subst h
    simp only[deepF]
   have go:∀{w3:World} {fr3:Frame} {x:Int},Fresh w2 w3->x=(if rkOf n.op>2∧ks≠[]then wadd d 1 else d)->FA 46 87 dpH [] .normal [(0,ptrV b),(1,iV x),(4,iV x),(5,iV 0),(6,iV (rkOf n.op)),(34,slV A o ps.length c),(35,iV ps.length),(36,iV 0)] fr3->Goes (G fr3 cs) w3 fun g' w'=>∃fr' v,g'=G fr' cs∧Leav 46 fr' w' v∧Fresh w w'∧v=.tuple #[iV (deepF (.nd n ks) d).1,iV (deepF (.nd n ks) d).2]:=fun{w3 fr3 x} f3 hx F3=>by
    rw[ed hx]
    refine(deep_loop ks (i:=0) h' hks hel rfl (by omega) hlen (f12.trans f3) F3).mono fun g4 w4 hd4=>?_
    obtain⟨fr4,rfl,f4,hL⟩:=hd4
    exact⟨fr4,_,rfl,hL,f4,rfl⟩
   have hk0:ks≠[]↔0<ps.length:=by
    rw[hks.len]
    exact List.length_pos_iff.symm
   by_cases h2:rkOf n.op>2
   ·by_cases h0:((ps.length:Nat):Int)>0
    ·refine(dpC2.go ρ F2 (by rw[hρ];rfl) ⟨by rw[hρ];exact decide_eq_true h2,by rw[hρ];exact decide_eq_true h0,trivial⟩ ⟨by rw[hρ];exact f12.cell c5,trivial⟩).trans fun g3 w3 hd3=>?_
     obtain⟨I,B,fr3,rfl,f3,F3,_⟩:=hd3
     exact go (x:=wadd d 1) f3 (by rw[if_pos ⟨h2,hk0.2 (by omega)⟩]) (by rw[hρ]at F3;exact F3)
    ·refine(dpC1.go ρ F2 (by rw[hρ];rfl) ⟨by rw[hρ];exact decide_eq_true h2,by rw[hρ];exact decide_eq_false h0,trivial⟩ ⟨by rw[hρ];exact f12.cell c5,trivial⟩).trans fun g3 w3 hd3=>?_
     obtain⟨I,B,fr3,rfl,f3,F3,_⟩:=hd3
     exact go (x:=d) f3 (by rw[if_neg fun hh=>by have:=hk0.1 hh.2;omega]) (by rw[hρ]at F3;exact F3)
   ·refine(dpC0.go ρ F2 (by rw[hρ];rfl) ⟨by rw[hρ];exact decide_eq_false h2,trivial⟩ ⟨by rw[hρ];exact f12.cell c5,trivial⟩).trans fun g3 w3 hd3=>?_
    obtain⟨I,B,fr3,rfl,f3,F3,_⟩:=hd3
    exact go (x:=d) f3 (by rw[if_neg fun hh=>h2 hh.1]) (by rw[hρ]at F3;exact F3)
theorem deep_loop:∀(ks:List T) {n:Nd} {all:List T} {U:Nat->Prop} {b A o c i:Nat} {ps:List Nat} {d most marks:Int} {w0 w:World} {cs:List Frame} {fr:Frame},TreeAt w0 U b (.nd n all)->TreesAt w0 U ps all->(∀i p,ps[i]?=some p->w0.cell? ⟨A,o+i,none⟩=some (ptrV p))->all.drop i=ks->all.length≤1000000->(flatL ks).length≤1000000->Fresh w0 w->
  FA 46 87 dpH [] .normal [(0,ptrV b),(1,iV d),(4,iV most),(5,iV marks),(6,iV (rkOf n.op)),(34,slV A o ps.length c),(35,iV ps.length),(36,iV i)] fr->
  Goes (G fr cs) w fun g' w'=>∃fr',g'=G fr' cs∧Fresh w0 w'∧Leav 46 fr' w' (.tuple #[iV (deepL n.op d i ks most marks).1,iV (wadd (deepL n.op d i ks most marks).2 1)])
 |[],n,all,U,b,A,o,c,i,ps,d,most,marks,w0,w,cs,fr,ht,hks,hel,hd0,hla,hfl,fw,hf=>by
  have hi:ps.length≤i:=by
   rw[hks.len]
   exact List.drop_eq_nil_iff.1 hd0
  obtain⟨ρ,hρ⟩:∃ρ:Env,ρ=mkE [(7,d),(8,most),(9,marks),(3,rkOf n.op),(51,ps.length),(52,c),(53,o),(10,i)] [(61,b),(50,A)] []:=⟨_,rfl⟩
  refine(dpE.go ρ hf (by rw[hρ];rfl) ⟨by rw[hρ];exact decide_eq_false (by show ¬((i:Int)<((ps.length:Nat):Int));omega),trivial⟩ trivial).trans fun g4 w4 hd4=>?_
  obtain⟨I,B,fr4,rfl,f4,F4,_⟩:=hd4
  rw[hρ]at F4
  refine(leave2 ret46 F4 rfl rfl).mono fun g6 w6 hd6=>?_
  obtain⟨fr6,rfl,rfl,hL⟩:=hd6
  exact⟨fr6,rfl,fw.trans f4,hL⟩
 |k::ks,n,all,U,b,A,o,c,i,ps,d,most,marks,w0,w,cs,fr,ht,hks,hel,hd0,hla,hfl,fw,hf=>by
  obtain⟨hk,hd1,hi⟩:=drop_get hd0
  obtain⟨p,hp,hpk⟩:=hks.get hk
  have hip:i<ps.length:=(List.getElem?_eq_some_iff.1 hp).1
  have hfk:(flat k).length≤1000000:=by
   simp only[flatL,List.length_append]at hfl
   omega
  have hfk2:(flatL ks).length≤1000000:=by
   simp only[flatL,List.length_append]at hfl
   omega
  have bb:∀{ρ:Env},ρ=mkE [(7,d),(8,most),(9,marks),(3,rkOf n.op),(51,ps.length),(52,c),(53,o),(10,i)] [(61,b),(50,A),(62,p)] []->AllB ρ _:=fun{ρ} hρ=>ltB_ok (ρ:=ρ) (i:=10) (n:=51) (I:=i) (N:=ps.length) (by rw[hρ];rfl) (by rw[hρ];rfl) hip
  obtain⟨ρ,hρ⟩:∃ρ:Env,ρ=mkE [(7,d),(8,most),(9,marks),(3,rkOf n.op),(51,ps.length),(52,c),(53,o),(10,i)] [(61,b),(50,A),(62,p)] []:=⟨_,rfl⟩
  have mm:AllM ρ w [(⟨(.dyn 50),(.plus (.tn (v 53)) (.tn (v 10)))⟩,ptr0 62)]:=by
   rw[hρ]
   exact⟨fw.cell (hel i p hp),trivial⟩
  have step3:∀{a1:Int} {w3:World} {fr3:Frame},a1=(if rkOf n.op<3∧i=1 then wadd d marks else d)->Fresh w0 w3->FA 46 87 (.inRegion (opsOf (q46 [1,1,1,1,0,1,0,0,1,1,0,0,1,1,1,0,0])) [2]::[.code (q46 [1,1,1,1,0,1,0,0,1,1,0,0,1,1,1,0,1]),.code (q46 [1,1,1,1,0,1,0,0,1,1,0,0,1,1,1,1]),.inBlock 1,.code (q46 [1,1,1,1,0,1,0,0,1,1,1]),.inLoop (q46 [1,1,1,1,0,1,0,0]),.inBlock 0,.code (q46 [1,1,1,1,1])]) [] .normal [(0,ptrV b),(1,iV d),(4,iV most),(5,iV marks),(6,iV (rkOf n.op)),(7,iV i),(8,ptrV p),(9,iV a1),(34,slV A o ps.length c),(35,iV ps.length),(36,iV i),(51,ptrV b),(52,iV i)] fr3->
    Goes (G fr3 cs) w3 fun g' w'=>∃fr',g'=G fr' cs∧Fresh w0 w'∧Leav 46 fr' w' (.tuple #[iV (deepL n.op d i (k::ks) most marks).1,iV (wadd (deepL n.op d i (k::ks) most marks).2 1)]):=fun{a1 w3 fr3} ha f3 F3=>by
   refine(dpS.go (mkE [] [] [(51,ptrV b),(52,iV i)]) (Q:=fun v w'=>v=.bool (wrapB (.nd n all) i k)) F3 rfl fun w' f4=>wrapped_all (TreeAt.keep (f3.trans f4) ht) hk hla).trans fun g4 w4 hd4=>?_
   obtain⟨fr4,vv,rfl,f4,rfl,F4⟩:=hd4
   have step5:∀{a2:Int} {w5:World} {fr5:Frame},a2=(if decide (rkOf k.n.op<wantsOf n.op i)then wadd a1 1 else a1)->Fresh w0 w5->FA 46 87 (.inRegion (opsOf (q46 [1,1,1,1,0,1,0,0,1,1,0,0,1,1,1,1,0])) [2,3,4,5,6,7]::[.code (q46 [1,1,1,1,0,1,0,0,1,1,0,0,1,1,1,1,1]),.inBlock 1,.code (q46 [1,1,1,1,0,1,0,0,1,1,1]),.inLoop (q46 [1,1,1,1,0,1,0,0]),.inBlock 0,.code (q46 [1,1,1,1,1])]) [] .normal [(0,ptrV b),(1,iV d),(4,iV most),(5,iV marks),(6,iV (rkOf n.op)),(7,iV i),(8,ptrV p),(9,iV a2),(34,slV A o ps.length c),(35,iV ps.length),(36,iV i),(57,ptrV p),(58,iV a2)] fr5->
     Goes (G fr5 cs) w5 fun g' w'=>∃fr',g'=G fr' cs∧Fresh w0 w'∧Leav 46 fr' w' (.tuple #[iV (deepL n.op d i (k::ks) most marks).1,iV (wadd (deepL n.op d i (k::ks) most marks).2 1)]):=fun{a2 w5 fr5} ha2 f5 F5=>by
    refine(dpU.go (mkE [] [] [(57,ptrV p),(58,iV a2)]) (Q:=fun v w'=>v=.tuple #[iV (deepF k a2).1,iV (deepF k a2).2]) F5 rfl fun w' f6=>deep_all k (TreeAt.keep (f5.trans f6) hpk) hfk).trans fun g6 w6 hd6=>?_
    obtain⟨fr6,vv,rfl,f6,rfl,F6⟩:=hd6
    obtain⟨σ,hσ⟩:∃σ:Env,σ=mkE [(7,d),(8,most),(9,marks),(3,rkOf n.op),(51,ps.length),(52,c),(53,o),(10,i),(11,a2),(12,(deepF k a2).1),(13,(deepF k a2).2),(14,k.n.op),(15,rkOf k.n.op)] [(61,b),(50,A),(62,p)] []:=⟨_,rfl⟩
    have step7:∀{mk':Int} {w7:World} {fr7:Frame},mk'=(if i=0∧rkOf n.op<3∧rkOf k.n.op=rkOf n.op then(deepF k a2).2 else marks)->Fresh w0 w7->FA 46 87 (.inRegion (opsOf (q46 [1,1,1,1,0,1,0,0,1,1,0,0,1,1,1,1,1,1])) [3,4]::[.inBlock 1,.code (q46 [1,1,1,1,0,1,0,0,1,1,1]),.inLoop (q46 [1,1,1,1,0,1,0,0]),.inBlock 0,.code (q46 [1,1,1,1,1])]) [] .normal [(0,ptrV b),(1,iV d),(5,iV mk'),(6,iV (rkOf n.op)),(34,slV A o ps.length c),(35,iV ps.length),(36,iV i),(79,iV most),(80,iV (deepF k a2).1),(81,iV a2)] fr7->
      Goes (G fr7 cs) w7 fun g' w'=>∃fr',g'=G fr' cs∧Fresh w0 w'∧Leav 46 fr' w' (.tuple #[iV (deepL n.op d i (k::ks) most marks).1,iV (wadd (deepL n.op d i (k::ks) most marks).2 1)]):=fun{mk' w7 fr7} hm f7 F7=>by
     refine(dpW.go (R:=fun v w'=>v=iV (max2 (max2 most (deepF k a2).1) a2)∧w'=w7) (mkE [] [] []) F7 (by decide) rfl fun tm htm x' e1 e2=>?_).trans fun g8 w8 hd8=>?_
     ·unfold execOp
      simp only[e1,resolve,wq_bind,wq_pure,invoke,builtin]
      rw[show Array.map (⟨tm,[]⟩:Act).eval #[Operand.tmp 79,Operand.tmp 80,Operand.tmp 81]=#[(⟨tm,[]⟩:Act).eval (.tmp 79),(⟨tm,[]⟩:Act).eval (.tmp 80),(⟨tm,[]⟩:Act).eval (.tmp 81)]from by simp]
      rw[htm 79 _ rfl,htm 80 _ rfl,htm 81 _ rfl]
      exact wq_max3 ⟨_,rfl,rfl,rfl⟩
     obtain⟨fr8,vv,rfl,⟨rfl,rfl⟩,F8⟩:=hd8
     refine(dpK.go (mkE [(7,d),(9,mk'),(3,rkOf n.op),(51,ps.length),(52,c),(53,o),(10,i),(16,max2 (max2 most (deepF k a2).1) a2)] [(61,b),(50,A)] []) F8 rfl trivial trivial).trans fun g9 w9 hd9=>?_
     obtain⟨I,B,fr9,rfl,f9,F9,_⟩:=hd9
     have hgo:=deep_loop ks (i:=i+1) (c:=c) (d:=d) (most:=max2 (max2 most (deepF k a2).1) a2) (marks:=mk') (w:=w9) (cs:=cs) (fr:=fr9) ht hks hel hd1 hla hfk2 (f7.trans f9) (by
      rw[<-inc (i:=i) (by omega)]
      exact F9)
     have e:deepL n.op d i (k::ks) most marks=deepL n.op d (i+1) ks (max2 (max2 most (deepF k a2).1) a2) mk':=by
      subst hm ha2 ha
      simp only[deepL]
     rw[e]
     exact hgo
    by_cases h0:i=0
    ·subst h0
     by_cases h3:rkOf n.op<3
     ·refine(dpX.go σ F6 (by rw[hσ];rfl) ⟨by rw[hσ];rfl,by rw[hσ];exact decide_eq_true h3,trivial⟩ ⟨?_,trivial⟩).trans fun g7 w7 hd7=>?_
      ·have:=TreeAt.keep (f5.trans f6) hpk
       obtain⟨_,m,ks',ps',s',u',d0,_⟩:=this
       rw[hσ]
       exact d0
      obtain⟨I,B,fr7,rfl,f7,F7,_⟩:=hd7
      rw[hσ]at F7
      refine(dpY.go (mkE [] [] [(73,i8V k.n.op)]) (Q:=fun v w'=>v=iV (rkOf k.n.op)) F7 rfl fun w' f1=>rank_all).trans fun g8 w8 hd8=>?_
      obtain⟨fr8,vv,rfl,f8,rfl,F8⟩:=hd8
      by_cases hr:rkOf k.n.op=rkOf n.op
      ·refine(dpZ1.go σ F8 (by rw[hσ];rfl) ⟨by rw[hσ];exact decide_eq_true hr,trivial⟩ trivial).trans fun g9 w9 hd9=>?_
       obtain⟨I,B,fr9,rfl,f9,F9,_⟩:=hd9
       rw[hσ]at F9
       exact step7 (mk':=(deepF k a2).2) (by rw[if_pos ⟨rfl,h3,hr⟩]) (f5.trans (f6.trans (f7.trans (f8.trans f9)))) F9
      ·refine(dpZ0.go σ F8 (by rw[hσ];rfl) ⟨by rw[hσ];exact decide_eq_false hr,trivial⟩ trivial).trans fun g9 w9 hd9=>?_
       obtain⟨I,B,fr9,rfl,f9,F9,_⟩:=hd9
       rw[hσ]at F9
       exact step7 (mk':=marks) (by rw[if_neg fun hh=>hr hh.2.2]) (f5.trans (f6.trans (f7.trans (f8.trans f9)))) F9
     ·refine(dpV1.go σ F6 (by rw[hσ];rfl) ⟨by rw[hσ];rfl,by rw[hσ];exact decide_eq_false h3,trivial⟩ trivial).trans fun g7 w7 hd7=>?_
      obtain⟨I,B,fr7,rfl,f7,F7,_⟩:=hd7
      rw[hσ]at F7
      exact step7 (mk':=marks) (by rw[if_neg fun hh=>h3 hh.2.1]) (f5.trans (f6.trans f7)) F7
    ·refine(dpV0.go σ F6 (by rw[hσ];rfl) ⟨by rw[hσ];exact decide_eq_false (by show ¬((i:Int)=0);omega),trivial⟩ trivial).trans fun g7 w7 hd7=>?_
     obtain⟨I,B,fr7,rfl,f7,F7,_⟩:=hd7
     rw[hσ]at F7
     exact step7 (mk':=marks) (by rw[if_neg fun hh=>h0 hh.1]) (f5.trans (f6.trans f7)) F7
   obtain⟨σ,hσ⟩:∃σ:Env,σ=mkE [(7,d),(8,most),(9,marks),(3,rkOf n.op),(51,ps.length),(52,c),(53,o),(10,i),(11,a1)] [(61,b),(50,A),(62,p)] []:=⟨_,rfl⟩
   cases e:wrapB (.nd n all) i k with
   |false=>
    rw[e]at F4
    refine(dpT0.go σ F4 (by rw[hσ];rfl) trivial trivial).trans fun g5 w5 hd5=>?_
    obtain⟨I,B,fr5,rfl,f5,F5,_⟩:=hd5
    rw[hσ]at F5
    exact step5 (a2:=a1) (by rw[show decide (rkOf k.n.op<wantsOf n.op i)=false from e];rfl) (f3.trans (f4.trans f5)) F5
   |true=>
    rw[e]at F4
    refine(dpT1.go σ F4 (by rw[hσ];rfl) trivial trivial).trans fun g5 w5 hd5=>?_
    obtain⟨I,B,fr5,rfl,f5,F5,_⟩:=hd5
    rw[hσ]at F5
    exact step5 (a2:=wadd a1 1) (by rw[show decide (rkOf k.n.op<wantsOf n.op i)=true from e];rfl) (f3.trans (f4.trans f5)) F5
  by_cases h3:rkOf n.op<3
  ·by_cases h1:i=1
   ·refine(dpR2.go ρ hf (by rw[hρ];rfl) (AllB.app (bb hρ) ⟨by rw[hρ];exact decide_eq_true h3,by rw[hρ];exact decide_eq_true (by show(i:Int)=1;omega),trivial⟩) mm).trans fun g3 w3 hd3=>?_
    obtain⟨I,B,fr3,rfl,f3,F3,_⟩:=hd3
    rw[hρ]at F3
    exact step3 (a1:=wadd d marks) (by rw[if_pos ⟨h3,h1⟩]) (fw.trans f3) F3
   ·refine(dpR1.go ρ hf (by rw[hρ];rfl) (AllB.app (bb hρ) ⟨by rw[hρ];exact decide_eq_true h3,by rw[hρ];exact decide_eq_false (by show ¬((i:Int)=1);omega),trivial⟩) mm).trans fun g3 w3 hd3=>?_
    obtain⟨I,B,fr3,rfl,f3,F3,_⟩:=hd3
    rw[hρ]at F3
    exact step3 (a1:=d) (by rw[if_neg fun hh=>h1 hh.2]) (fw.trans f3) F3
  ·refine(dpR0.go ρ hf (by rw[hρ];rfl) (AllB.app (bb hρ) ⟨by rw[hρ];exact decide_eq_false h3,trivial⟩) mm).trans fun g3 w3 hd3=>?_
   obtain⟨I,B,fr3,rfl,f3,F3,_⟩:=hd3
   rw[hρ]at F3
   exact step3 (a1:=d) (by rw[if_neg fun hh=>h3 hh.1]) (fw.trans f3) F3
end
end
noncomputable def q45(l:List Nat):Code:=pc (bodyOf Try.f45) l
theorem ent45:enterA Try.prog 45 [.opq 0,.opq 1] .normal=.ok ⟨45,135,entT 45 [.opq 0,.opq 1],[.code (bodyOf Try.f45)],[],.run,.normal⟩:=by kernel_rfl
theorem ret45:RetC2 45 135 4 5:=fun st=>by kernel_rfl
theorem gr0:Pc 45 135 [.code (q45 [])] [(0,nilA)] [] [] [] 18 [] [4,5] [.code .ret,.code (q45 [1,1])] [nilP,nilA] []:=⟨fun st=>by kernel_rfl,fun st=>by kernel_rfl,by kernel_rfl,of_decide_eq_true (by kernel_rfl)⟩
theorem gr1:Pc 45 135 [.code (q45 [])] [(0,.slice (some ⟨(.dyn 50),(v 53)⟩) (v 51) (v 52))] [((.cmp .eql (.tn (v 51)) (.lit 0)),true)] [] [] 18 [] [4,5] [.code .ret,.code (q45 [1,1])] [nilP,nilA] []:=⟨fun st=>by kernel_rfl,fun st=>by kernel_rfl,by kernel_rfl,of_decide_eq_true (by kernel_rfl)⟩
theorem grS1:Pc 45 135 [.code (q45 [])] [(0,.slice (some ⟨(.dyn 50),(v 53)⟩) (v 51) (v 52)),(1,.opq 1)] [((.cmp .eql (.tn (v 51)) (.lit 0)),false),((.cmp .lss (.lit 0) (.tn (v 51))),true)] [(⟨(.dyn 50),(v 53)⟩,i8 (.lit 1)),(⟨(.dyn 50),(.plus (.tn (v 53)) (.lit 1))⟩,i64 (v 2)),(⟨(.dyn 50),(.plus (.tn (v 53)) (.lit 2))⟩,i64 (v 3)),(⟨(.dyn 50),(.plus (.tn (v 53)) (.lit 3))⟩,i64 (v 4))] [] 46 [100] [0,1,6,7,8,9] [.code (q45 [1,1,1,1,1])] [.slice (some ⟨(.dyn 50),(v 53)⟩) (v 51) (v 52),.opq 1,ptr0 100,i64 (.lit 0),i64 (.lit 0),FB] [(100,.cells [i8 (.lit 1),i64 (v 2),i64 (v 3),i64 (v 4)] 75)]:=⟨fun st=>by kernel_rfl,fun st=>by kernel_rfl,by kernel_rfl,of_decide_eq_true (by kernel_rfl)⟩
theorem grS2:Pc 45 135 [.code (q45 [])] [(0,.slice (some ⟨(.dyn 50),(v 53)⟩) (v 51) (v 52)),(1,.opq 1)] [((.cmp .eql (.tn (v 51)) (.lit 0)),false),((.cmp .lss (.lit 0) (.tn (v 51))),true)] [(⟨(.dyn 50),(v 53)⟩,i8 (.lit 2)),(⟨(.dyn 50),(.plus (.tn (v 53)) (.lit 1))⟩,i64 (v 2)),(⟨(.dyn 50),(.plus (.tn (v 53)) (.lit 2))⟩,i64 (v 3)),(⟨(.dyn 50),(.plus (.tn (v 53)) (.lit 3))⟩,i64 (v 4))] [] 49 [100] [0,1,6,7,8,9] [.code (q45 [1,1,1,1,1])] [.slice (some ⟨(.dyn 50),(v 53)⟩) (v 51) (v 52),.opq 1,ptr0 100,i64 (.lit 0),i64 (.lit 0),FB] [(100,.cells [i8 (.lit 2),i64 (v 2),i64 (v 3),i64 (v 4)] 75)]:=⟨fun st=>by kernel_rfl,fun st=>by kernel_rfl,by kernel_rfl,of_decide_eq_true (by kernel_rfl)⟩
theorem grS3:Pc 45 135 [.code (q45 [])] [(0,.slice (some ⟨(.dyn 50),(v 53)⟩) (v 51) (v 52)),(1,.opq 1)] [((.cmp .eql (.tn (v 51)) (.lit 0)),false),((.cmp .lss (.lit 0) (.tn (v 51))),true)] [(⟨(.dyn 50),(v 53)⟩,i8 (.lit 3)),(⟨(.dyn 50),(.plus (.tn (v 53)) (.lit 1))⟩,i64 (v 2)),(⟨(.dyn 50),(.plus (.tn (v 53)) (.lit 2))⟩,i64 (v 3)),(⟨(.dyn 50),(.plus (.tn (v 53)) (.lit 3))⟩,i64 (v 4))] [] 61 [100] [0,1,6,7,8,9] [.code (q45 [1,1,1,1,1])] [.slice (some ⟨(.dyn 50),(v 53)⟩) (v 51) (v 52),.opq 1,ptr0 100,i64 (.lit 1),i64 (.lit 1),FB] [(100,.cells [i8 (.lit 3),i64 (v 2),i64 (v 3),i64 (v 4)] 75)]:=⟨fun st=>by kernel_rfl,fun st=>by kernel_rfl,by kernel_rfl,of_decide_eq_true (by kernel_rfl)⟩
theorem grS13:Pc 45 135 [.code (q45 [])] [(0,.slice (some ⟨(.dyn 50),(v 53)⟩) (v 51) (v 52)),(1,.opq 1)] [((.cmp .eql (.tn (v 51)) (.lit 0)),false),((.cmp .lss (.lit 0) (.tn (v 51))),true)] [(⟨(.dyn 50),(v 53)⟩,i8 (.lit 13)),(⟨(.dyn 50),(.plus (.tn (v 53)) (.lit 1))⟩,i64 (v 2)),(⟨(.dyn 50),(.plus (.tn (v 53)) (.lit 2))⟩,i64 (v 3)),(⟨(.dyn 50),(.plus (.tn (v 53)) (.lit 3))⟩,i64 (v 4))] [] 67 [100] [0,1,6,7,8,9] [.code (q45 [1,1,1,1,1])] [.slice (some ⟨(.dyn 50),(v 53)⟩) (v 51) (v 52),.opq 1,ptr0 100,i64 (.lit 1),i64 (.lit 1),FB] [(100,.cells [i8 (.lit 13),i64 (v 2),i64 (v 3),i64 (v 4)] 75)]:=⟨fun st=>by kernel_rfl,fun st=>by kernel_rfl,by kernel_rfl,of_decide_eq_true (by kernel_rfl)⟩
theorem grS14:Pc 45 135 [.code (q45 [])] [(0,.slice (some ⟨(.dyn 50),(v 53)⟩) (v 51) (v 52)),(1,.opq 1)] [((.cmp .eql (.tn (v 51)) (.lit 0)),false),((.cmp .lss (.lit 0) (.tn (v 51))),true)] [(⟨(.dyn 50),(v 53)⟩,i8 (.lit 14)),(⟨(.dyn 50),(.plus (.tn (v 53)) (.lit 1))⟩,i64 (v 2)),(⟨(.dyn 50),(.plus (.tn (v 53)) (.lit 2))⟩,i64 (v 3)),(⟨(.dyn 50),(.plus (.tn (v 53)) (.lit 3))⟩,i64 (v 4))] [] 73 [100] [0,1,6,7,8,9] [.code (q45 [1,1,1,1,1])] [.slice (some ⟨(.dyn 50),(v 53)⟩) (v 51) (v 52),.opq 1,ptr0 100,i64 (.lit 1),i64 (.lit 1),FB] [(100,.cells [i8 (.lit 14),i64 (v 2),i64 (v 3),i64 (v 4)] 75)]:=⟨fun st=>by kernel_rfl,fun st=>by kernel_rfl,by kernel_rfl,of_decide_eq_true (by kernel_rfl)⟩
theorem grS15:Pc 45 135 [.code (q45 [])] [(0,.slice (some ⟨(.dyn 50),(v 53)⟩) (v 51) (v 52)),(1,.opq 1)] [((.cmp .eql (.tn (v 51)) (.lit 0)),false),((.cmp .lss (.lit 0) (.tn (v 51))),true)] [(⟨(.dyn 50),(v 53)⟩,i8 (.lit 15)),(⟨(.dyn 50),(.plus (.tn (v 53)) (.lit 1))⟩,i64 (v 2)),(⟨(.dyn 50),(.plus (.tn (v 53)) (.lit 2))⟩,i64 (v 3)),(⟨(.dyn 50),(.plus (.tn (v 53)) (.lit 3))⟩,i64 (v 4))] [] 79 [100] [0,1,6,7,8,9] [.code (q45 [1,1,1,1,1])] [.slice (some ⟨(.dyn 50),(v 53)⟩) (v 51) (v 52),.opq 1,ptr0 100,i64 (.lit 1),i64 (.lit 1),FB] [(100,.cells [i8 (.lit 15),i64 (v 2),i64 (v 3),i64 (v 4)] 75)]:=⟨fun st=>by kernel_rfl,fun st=>by kernel_rfl,by kernel_rfl,of_decide_eq_true (by kernel_rfl)⟩
theorem grS16:Pc 45 135 [.code (q45 [])] [(0,.slice (some ⟨(.dyn 50),(v 53)⟩) (v 51) (v 52)),(1,.opq 1)] [((.cmp .eql (.tn (v 51)) (.lit 0)),false),((.cmp .lss (.lit 0) (.tn (v 51))),true)] [(⟨(.dyn 50),(v 53)⟩,i8 (.lit 16)),(⟨(.dyn 50),(.plus (.tn (v 53)) (.lit 1))⟩,i64 (v 2)),(⟨(.dyn 50),(.plus (.tn (v 53)) (.lit 2))⟩,i64 (v 3)),(⟨(.dyn 50),(.plus (.tn (v 53)) (.lit 3))⟩,i64 (v 4))] [] 82 [100] [0,1,6,7,8,9] [.code (q45 [1,1,1,1,1])] [.slice (some ⟨(.dyn 50),(v 53)⟩) (v 51) (v 52),.opq 1,ptr0 100,i64 (.lit 1),i64 (.lit 1),FB] [(100,.cells [i8 (.lit 16),i64 (v 2),i64 (v 3),i64 (v 4)] 75)]:=⟨fun st=>by kernel_rfl,fun st=>by kernel_rfl,by kernel_rfl,of_decide_eq_true (by kernel_rfl)⟩
theorem grS18:Pc 45 135 [.code (q45 [])] [(0,.slice (some ⟨(.dyn 50),(v 53)⟩) (v 51) (v 52)),(1,.opq 1)] [((.cmp .eql (.tn (v 51)) (.lit 0)),false),((.cmp .lss (.lit 0) (.tn (v 51))),true)] [(⟨(.dyn 50),(v 53)⟩,i8 (.lit 18)),(⟨(.dyn 50),(.plus (.tn (v 53)) (.lit 1))⟩,i64 (v 2)),(⟨(.dyn 50),(.plus (.tn (v 53)) (.lit 2))⟩,i64 (v 3)),(⟨(.dyn 50),(.plus (.tn (v 53)) (.lit 3))⟩,i64 (v 4))] [] 89 [100] [0,1,6,7,8,9] [.code (q45 [1,1,1,1,1])] [.slice (some ⟨(.dyn 50),(v 53)⟩) (v 51) (v 52),.opq 1,ptr0 100,i64 (.lit 1),i64 (.lit 1),TB] [(100,.cells [i8 (.lit 18),i64 (v 2),i64 (v 3),i64 (v 4)] 75)]:=⟨fun st=>by kernel_rfl,fun st=>by kernel_rfl,by kernel_rfl,of_decide_eq_true (by kernel_rfl)⟩
theorem grS4:Pc 45 135 [.code (q45 [])] [(0,.slice (some ⟨(.dyn 50),(v 53)⟩) (v 51) (v 52)),(1,.opq 1)] [((.cmp .eql (.tn (v 51)) (.lit 0)),false),((.cmp .lss (.lit 0) (.tn (v 51))),true)] [(⟨(.dyn 50),(v 53)⟩,i8 (.lit 4)),(⟨(.dyn 50),(.plus (.tn (v 53)) (.lit 1))⟩,i64 (v 2)),(⟨(.dyn 50),(.plus (.tn (v 53)) (.lit 2))⟩,i64 (v 3)),(⟨(.dyn 50),(.plus (.tn (v 53)) (.lit 3))⟩,i64 (v 4))] [] 97 [100] [0,1,6,7,8,9] [.code (q45 [1,1,1,1,1])] [.slice (some ⟨(.dyn 50),(v 53)⟩) (v 51) (v 52),.opq 1,ptr0 100,i64 (.lit 2),i64 (.lit 2),FB] [(100,.cells [i8 (.lit 4),i64 (v 2),i64 (v 3),i64 (v 4)] 75)]:=⟨fun st=>by kernel_rfl,fun st=>by kernel_rfl,by kernel_rfl,of_decide_eq_true (by kernel_rfl)⟩
theorem grS5:Pc 45 135 [.code (q45 [])] [(0,.slice (some ⟨(.dyn 50),(v 53)⟩) (v 51) (v 52)),(1,.opq 1)] [((.cmp .eql (.tn (v 51)) (.lit 0)),false),((.cmp .lss (.lit 0) (.tn (v 51))),true)] [(⟨(.dyn 50),(v 53)⟩,i8 (.lit 5)),(⟨(.dyn 50),(.plus (.tn (v 53)) (.lit 1))⟩,i64 (v 2)),(⟨(.dyn 50),(.plus (.tn (v 53)) (.lit 2))⟩,i64 (v 3)),(⟨(.dyn 50),(.plus (.tn (v 53)) (.lit 3))⟩,i64 (v 4))] [] 103 [100] [0,1,6,7,8,9] [.code (q45 [1,1,1,1,1])] [.slice (some ⟨(.dyn 50),(v 53)⟩) (v 51) (v 52),.opq 1,ptr0 100,i64 (.lit 2),i64 (.lit 2),FB] [(100,.cells [i8 (.lit 5),i64 (v 2),i64 (v 3),i64 (v 4)] 75)]:=⟨fun st=>by kernel_rfl,fun st=>by kernel_rfl,by kernel_rfl,of_decide_eq_true (by kernel_rfl)⟩
theorem grS6:Pc 45 135 [.code (q45 [])] [(0,.slice (some ⟨(.dyn 50),(v 53)⟩) (v 51) (v 52)),(1,.opq 1)] [((.cmp .eql (.tn (v 51)) (.lit 0)),false),((.cmp .lss (.lit 0) (.tn (v 51))),true)] [(⟨(.dyn 50),(v 53)⟩,i8 (.lit 6)),(⟨(.dyn 50),(.plus (.tn (v 53)) (.lit 1))⟩,i64 (v 2)),(⟨(.dyn 50),(.plus (.tn (v 53)) (.lit 2))⟩,i64 (v 3)),(⟨(.dyn 50),(.plus (.tn (v 53)) (.lit 3))⟩,i64 (v 4))] [] 106 [100] [0,1,6,7,8,9] [.code (q45 [1,1,1,1,1])] [.slice (some ⟨(.dyn 50),(v 53)⟩) (v 51) (v 52),.opq 1,ptr0 100,i64 (.lit 2),i64 (.lit 2),FB] [(100,.cells [i8 (.lit 6),i64 (v 2),i64 (v 3),i64 (v 4)] 75)]:=⟨fun st=>by kernel_rfl,fun st=>by kernel_rfl,by kernel_rfl,of_decide_eq_true (by kernel_rfl)⟩
theorem grS12:Pc 45 135 [.code (q45 [])] [(0,.slice (some ⟨(.dyn 50),(v 53)⟩) (v 51) (v 52)),(1,.opq 1)] [((.cmp .eql (.tn (v 51)) (.lit 0)),false),((.cmp .lss (.lit 0) (.tn (v 51))),true)] [(⟨(.dyn 50),(v 53)⟩,i8 (.lit 12)),(⟨(.dyn 50),(.plus (.tn (v 53)) (.lit 1))⟩,i64 (v 2)),(⟨(.dyn 50),(.plus (.tn (v 53)) (.lit 2))⟩,i64 (v 3)),(⟨(.dyn 50),(.plus (.tn (v 53)) (.lit 3))⟩,i64 (v 4))] [] 112 [100] [0,1,6,7,8,9] [.code (q45 [1,1,1,1,1])] [.slice (some ⟨(.dyn 50),(v 53)⟩) (v 51) (v 52),.opq 1,ptr0 100,i64 (.lit 3),i64 (.lit 3),FB] [(100,.cells [i8 (.lit 12),i64 (v 2),i64 (v 3),i64 (v 4)] 75)]:=⟨fun st=>by kernel_rfl,fun st=>by kernel_rfl,by kernel_rfl,of_decide_eq_true (by kernel_rfl)⟩
theorem grS10:Pc 45 135 [.code (q45 [])] [(0,.slice (some ⟨(.dyn 50),(v 53)⟩) (v 51) (v 52)),(1,.opq 1)] [((.cmp .eql (.tn (v 51)) (.lit 0)),false),((.cmp .lss (.lit 0) (.tn (v 51))),true)] [(⟨(.dyn 50),(v 53)⟩,i8 (.lit 10)),(⟨(.dyn 50),(.plus (.tn (v 53)) (.lit 1))⟩,i64 (v 2)),(⟨(.dyn 50),(.plus (.tn (v 53)) (.lit 2))⟩,i64 (v 3)),(⟨(.dyn 50),(.plus (.tn (v 53)) (.lit 3))⟩,i64 (v 4))] [] 124 [100] [0,1,6,7,8,9] [.code (q45 [1,1,1,1,1])] [.slice (some ⟨(.dyn 50),(v 53)⟩) (v 51) (v 52),.opq 1,ptr0 100,i64 (.lit 1),i64 (.tn (v 51)),TB] [(100,.cells [i8 (.lit 10),i64 (v 2),i64 (v 3),i64 (v 4)] 75)]:=⟨fun st=>by kernel_rfl,fun st=>by kernel_rfl,by kernel_rfl,of_decide_eq_true (by kernel_rfl)⟩
theorem grS11:Pc 45 135 [.code (q45 [])] [(0,.slice (some ⟨(.dyn 50),(v 53)⟩) (v 51) (v 52)),(1,.opq 1)] [((.cmp .eql (.tn (v 51)) (.lit 0)),false),((.cmp .lss (.lit 0) (.tn (v 51))),true)] [(⟨(.dyn 50),(v 53)⟩,i8 (.lit 11)),(⟨(.dyn 50),(.plus (.tn (v 53)) (.lit 1))⟩,i64 (v 2)),(⟨(.dyn 50),(.plus (.tn (v 53)) (.lit 2))⟩,i64 (v 3)),(⟨(.dyn 50),(.plus (.tn (v 53)) (.lit 3))⟩,i64 (v 4))] [] 130 [100] [0,1,6,7,8,9] [.code (q45 [1,1,1,1,1])] [.slice (some ⟨(.dyn 50),(v 53)⟩) (v 51) (v 52),.opq 1,ptr0 100,i64 (.lit 1),i64 (.tn (v 51)),TB] [(100,.cells [i8 (.lit 11),i64 (v 2),i64 (v 3),i64 (v 4)] 75)]:=⟨fun st=>by kernel_rfl,fun st=>by kernel_rfl,by kernel_rfl,of_decide_eq_true (by kernel_rfl)⟩
theorem grS17:Pc 45 135 [.code (q45 [])] [(0,.slice (some ⟨(.dyn 50),(v 53)⟩) (v 51) (v 52)),(1,.opq 1)] [((.cmp .eql (.tn (v 51)) (.lit 0)),false),((.cmp .lss (.lit 0) (.tn (v 51))),true)] [(⟨(.dyn 50),(v 53)⟩,i8 (.lit 17)),(⟨(.dyn 50),(.plus (.tn (v 53)) (.lit 1))⟩,i64 (v 2)),(⟨(.dyn 50),(.plus (.tn (v 53)) (.lit 2))⟩,i64 (v 3)),(⟨(.dyn 50),(.plus (.tn (v 53)) (.lit 3))⟩,i64 (v 4))] [] 133 [100] [0,1,6,7,8,9] [.code (q45 [1,1,1,1,1])] [.slice (some ⟨(.dyn 50),(v 53)⟩) (v 51) (v 52),.opq 1,ptr0 100,i64 (.lit 1),i64 (.tn (v 51)),TB] [(100,.cells [i8 (.lit 17),i64 (v 2),i64 (v 3),i64 (v 4)] 75)]:=⟨fun st=>by kernel_rfl,fun st=>by kernel_rfl,by kernel_rfl,of_decide_eq_true (by kernel_rfl)⟩
theorem grSx:Pc 45 135 [.code (q45 [])] [(0,.slice (some ⟨(.dyn 50),(v 53)⟩) (v 51) (v 52)),(1,.opq 1)] [((.cmp .eql (.tn (v 51)) (.lit 0)),false),((.cmp .lss (.lit 0) (.tn (v 51))),true),((.cmp .eql (v 1) (.lit 1)),false),((.cmp .eql (v 1) (.lit 2)),false),((.cmp .eql (v 1) (.lit 3)),false),((.cmp .eql (v 1) (.lit 13)),false),((.cmp .eql (v 1) (.lit 14)),false),((.cmp .eql (v 1) (.lit 15)),false),((.cmp .eql (v 1) (.lit 16)),false),((.cmp .eql (v 1) (.lit 18)),false),((.cmp .eql (v 1) (.lit 4)),false),((.cmp .eql (v 1) (.lit 5)),false),((.cmp .eql (v 1) (.lit 6)),false),((.cmp .eql (v 1) (.lit 12)),false),((.cmp .eql (v 1) (.lit 10)),false),((.cmp .eql (v 1) (.lit 11)),false),((.cmp .eql (v 1) (.lit 17)),false)] [(⟨(.dyn 50),(v 53)⟩,i8 (v 1)),(⟨(.dyn 50),(.plus (.tn (v 53)) (.lit 1))⟩,i64 (v 2)),(⟨(.dyn 50),(.plus (.tn (v 53)) (.lit 2))⟩,i64 (v 3)),(⟨(.dyn 50),(.plus (.tn (v 53)) (.lit 3))⟩,i64 (v 4))] [] 130 [100] [4,5] [.code .ret,.inBlock 0,.code (q45 [1,1,1,1,1])] [nilP,nilA] [(100,.cells [i8 (v 1),i64 (v 2),i64 (v 3),i64 (v 4)] 75)]:=⟨fun st=>by kernel_rfl,fun st=>by kernel_rfl,by kernel_rfl,of_decide_eq_true (by kernel_rfl)⟩
theorem grB(a b c d:Bool):Pc 45 135 [.code (q45 [1,1,1,1,1])] [(0,.slice (some ⟨(.dyn 50),(v 53)⟩) (v 51) (v 52)),(1,.opq 1),(6,ptr0 64),(7,i64 (v 5)),(8,i64 (v 6)),(9,.opq 9)] [((.cmp .eql (v 2) (.lit 0)),a),((.cmp .eql (v 1) (.lit 2)),b),((.cmp .eql (v 1) (.lit 1)),c),((.cmp .gtr (v 2) (.lit 0)),d)] [(⟨(.dyn 64),(.lit 0)⟩,i8 (v 1)),(⟨(.dyn 64),(.lit 1)⟩,i64 (v 2)),(⟨(.dyn 64),(.lit 2)⟩,i64 (v 3)),(⟨(.dyn 64),(.lit 3)⟩,i64 (v 4))] [] 22 [] [0,1,6,7,8,9,10] [.code (q45 [1,1,1,1,1,1])] [.slice (some ⟨(.dyn 50),(v 53)⟩) (v 51) (v 52),.opq 1,ptr0 64,i64 (v 5),i64 (v 6),.opq 9,.bool (.lit (a||b||c&&d))] []:=⟨fun st=>by cases a<;>cases b<;>cases c<;>cases d<;>kernel_rfl,fun st=>by kernel_rfl,by cases a<;>cases b<;>cases c<;>cases d<;>kernel_rfl,of_decide_eq_true (by kernel_rfl)⟩
theorem grG(h z e f g i j:Bool):Pc 45 135 [.code (q45 [1,1,1,1,1,1])] [(0,.slice (some ⟨(.dyn 50),(v 53)⟩) (v 51) (v 52)),(1,.bool (.lit h)),(6,ptr0 64),(7,i64 (v 5)),(8,i64 (v 6)),(9,.opq 9),(10,.bool (.lit z))] [((.cmp .lss (v 3) (v 5)),e),((.cmp .gtr (v 3) (v 6)),f),((.cmp .lss (v 4) (.lit 0)),g),((.cmp .eql (v 1) (.lit 17)),i),((.cmp .eql (v 1) (.lit 18)),j)] [(⟨(.dyn 64),(.lit 0)⟩,i8 (v 1)),(⟨(.dyn 64),(.lit 1)⟩,i64 (v 2)),(⟨(.dyn 64),(.lit 2)⟩,i64 (v 3)),(⟨(.dyn 64),(.lit 3)⟩,i64 (v 4))] [] 37 [] [0,1,6,9,94] [.code (q45 [1,1,1,1,1,1,0,1]),.code (q45 [1,1,1,1,1,1,1])] [.slice (some ⟨(.dyn 50),(v 53)⟩) (v 51) (v 52),.bool (.lit h),ptr0 64,.opq 9,.bool (.lit (e||f||g||!z||!h&&(i||j)))] []:=⟨fun st=>by cases h<;>cases z<;>cases e<;>cases f<;>cases g<;>cases i<;>cases j<;>kernel_rfl,fun st=>by cases h<;>cases z<;>kernel_rfl,by cases e<;>cases f<;>cases g<;>cases i<;>cases j<;>kernel_rfl,of_decide_eq_true (by kernel_rfl)⟩
theorem grX:Pc 45 135 [.code (q45 [1,1,1,1,1,1,0,1]),.code (q45 [1,1,1,1,1,1,1])] [(94,TB)] [] [] [] 6 [] [4,5] [.code .ret,.code (q45 [1,1,1,1,1,1,1])] [nilP,nilA] []:=⟨fun st=>by kernel_rfl,fun st=>by kernel_rfl,by kernel_rfl,of_decide_eq_true (by kernel_rfl)⟩
theorem grY:Pc 45 135 [.code (q45 [1,1,1,1,1,1,0,1]),.code (q45 [1,1,1,1,1,1,1])] [(0,.slice (some ⟨(.dyn 50),(v 53)⟩) (v 51) (v 52)),(6,ptr0 64),(9,.opq 9),(94,FB)] [] [(⟨(.dyn 64),(.lit 0)⟩,i8 (v 1)),(⟨(.dyn 64),(.lit 1)⟩,i64 (v 2)),(⟨(.dyn 64),(.lit 2)⟩,i64 (v 3)),(⟨(.dyn 64),(.lit 3)⟩,i64 (v 4))] [] 12 [100] [0,6,9,11,98] [.inRegion (opsOf (q45 [1,1,1,1,1,1,1,1,0])) [1,2],.code (q45 [1,1,1,1,1,1,1,1,1])] [.slice (some ⟨(.dyn 50),(v 53)⟩) (v 51) (v 52),ptr0 64,.opq 9,ptr0 100,.slice (some ⟨(.dyn 50),(v 53)⟩) (v 51) (v 52)] [(100,.cells [i8 (v 1),i64 (v 2),i64 (v 3),i64 (v 4),.str ⟨#[]⟩,nilA] 107)]:=⟨fun st=>by kernel_rfl,fun st=>by kernel_rfl,by kernel_rfl,of_decide_eq_true (by kernel_rfl)⟩
theorem grZ:OpW 135 (opsOf (q45 [1,1,1,1,1,1,1,1,0])) 1 [] (.slice 49 (.tmp 98) (some (.const (.int .i64 1))) none none) 49 (some 99):=⟨fun st=>by kernel_rfl,fun st=>by kernel_rfl,by kernel_rfl⟩
theorem grH:Pc 45 135 [.inRegion (opsOf (q45 [1,1,1,1,1,1,1,1,0])) [2],.code (q45 [1,1,1,1,1,1,1,1,1])] [(6,ptr0 64),(9,.opq 9),(11,ptr0 63),(99,.opq 8)] [] [(⟨(.dyn 64),(.lit 2)⟩,i64 (v 3))] [] 11 [] [0,9,11,101,102] [.code (q45 [1,1,1,1,1,1,1,1,1,0,1,0,0]),.inLoop (q45 [1,1,1,1,1,1,1,1,1,0,1,0,0]),.inBlock 1,.code (q45 [1,1,1,1,1,1,1,1,1,1])] [.opq 8,.opq 9,ptr0 63,i64 (v 3),i64 (.lit 0)] []:=⟨fun st=>by kernel_rfl,fun st=>by kernel_rfl,by kernel_rfl,of_decide_eq_true (by kernel_rfl)⟩
theorem grL:Pc 45 135 [.code (q45 [1,1,1,1,1,1,1,1,1,0,1,0,0]),.inLoop (q45 [1,1,1,1,1,1,1,1,1,0,1,0,0]),.inBlock 1,.code (q45 [1,1,1,1,1,1,1,1,1,1])] [(0,.opq 8),(9,.opq 9),(11,ptr0 63),(101,i64 (v 3)),(102,i64 (v 7))] [((.cmp .lss (v 7) (v 3)),true)] [] [] 17 [] [0,9,11,101,102,105] [.inRegion (opsOf (q45 [1,1,1,1,1,1,1,1,1,0,1,0,0,1,1,0,0,1,0,0])) [1,2,3,4,5,6],.code (q45 [1,1,1,1,1,1,1,1,1,0,1,0,0,1,1,0,0,1,0,1]),.code (q45 [1,1,1,1,1,1,1,1,1,0,1,0,0,1,1,0,0,1,1]),.inBlock 2,.code (q45 [1,1,1,1,1,1,1,1,1,0,1,0,0,1,1,1]),.inLoop (q45 [1,1,1,1,1,1,1,1,1,0,1,0,0]),.inBlock 1,.code (q45 [1,1,1,1,1,1,1,1,1,1])] [.opq 8,.opq 9,ptr0 63,i64 (v 3),i64 (v 7),.opq 8] []:=⟨fun st=>by kernel_rfl,fun st=>by kernel_rfl,by kernel_rfl,of_decide_eq_true (by kernel_rfl)⟩
theorem grM:OpC 135 (opsOf (q45 [1,1,1,1,1,1,1,1,1,0,1,0,0,1,1,0,0,1,0,0])) 1 [(105,.opq 105)] 45 [.opq 105,FB] 106:=⟨fun st=>by kernel_rfl,fun st=>by kernel_rfl,fun st=>by kernel_rfl,by kernel_rfl,by decide,rfl⟩
theorem grNtrue:Pc 45 135 [.inRegion (opsOf (q45 [1,1,1,1,1,1,1,1,1,0,1,0,0,1,1,0,0,1,0,0])) [2,3,4,5,6],.code (q45 [1,1,1,1,1,1,1,1,1,0,1,0,0,1,1,0,0,1,0,1]),.code (q45 [1,1,1,1,1,1,1,1,1,0,1,0,0,1,1,0,0,1,1]),.inBlock 2,.code (q45 [1,1,1,1,1,1,1,1,1,0,1,0,0,1,1,1]),.inLoop (q45 [1,1,1,1,1,1,1,1,1,0,1,0,0]),.inBlock 1,.code (q45 [1,1,1,1,1,1,1,1,1,1])] [(9,TB),(11,ptr0 63),(101,i64 (v 3)),(102,i64 (v 7)),(106,.tuple [nilP,.opq 8])] [] [] [] 28 [] [4,5] [.code .ret,.code (q45 [1,1,1,1,1,1,1,1,1,0,1,0,0,1,1,0,0,1,1]),.inBlock 2,.code (q45 [1,1,1,1,1,1,1,1,1,0,1,0,0,1,1,1]),.inLoop (q45 [1,1,1,1,1,1,1,1,1,0,1,0,0]),.inBlock 1,.code (q45 [1,1,1,1,1,1,1,1,1,1])] [nilP,nilA] []:=⟨fun st=>by kernel_rfl,fun st=>by kernel_rfl,by kernel_rfl,of_decide_eq_true (by kernel_rfl)⟩
theorem grNfalse:Pc 45 135 [.inRegion (opsOf (q45 [1,1,1,1,1,1,1,1,1,0,1,0,0,1,1,0,0,1,0,0])) [2,3,4,5,6],.code (q45 [1,1,1,1,1,1,1,1,1,0,1,0,0,1,1,0,0,1,0,1]),.code (q45 [1,1,1,1,1,1,1,1,1,0,1,0,0,1,1,0,0,1,1]),.inBlock 2,.code (q45 [1,1,1,1,1,1,1,1,1,0,1,0,0,1,1,1]),.inLoop (q45 [1,1,1,1,1,1,1,1,1,0,1,0,0]),.inBlock 1,.code (q45 [1,1,1,1,1,1,1,1,1,1])] [(9,FB),(11,ptr0 63),(101,i64 (v 3)),(102,i64 (v 7)),(106,.tuple [nilP,.opq 8])] [] [] [] 28 [] [4,5] [.code .ret,.code (q45 [1,1,1,1,1,1,1,1,1,0,1,0,0,1,1,0,0,1,1]),.inBlock 2,.code (q45 [1,1,1,1,1,1,1,1,1,0,1,0,0,1,1,1]),.inLoop (q45 [1,1,1,1,1,1,1,1,1,0,1,0,0]),.inBlock 1,.code (q45 [1,1,1,1,1,1,1,1,1,1])] [nilP,nilA] []:=⟨fun st=>by kernel_rfl,fun st=>by kernel_rfl,by kernel_rfl,of_decide_eq_true (by kernel_rfl)⟩
theorem grO:Pc 45 135 [.inRegion (opsOf (q45 [1,1,1,1,1,1,1,1,1,0,1,0,0,1,1,0,0,1,0,0])) [2,3,4,5,6],.code (q45 [1,1,1,1,1,1,1,1,1,0,1,0,0,1,1,0,0,1,0,1]),.code (q45 [1,1,1,1,1,1,1,1,1,0,1,0,0,1,1,0,0,1,1]),.inBlock 2,.code (q45 [1,1,1,1,1,1,1,1,1,0,1,0,0,1,1,1]),.inLoop (q45 [1,1,1,1,1,1,1,1,1,0,1,0,0]),.inBlock 1,.code (q45 [1,1,1,1,1,1,1,1,1,1])] [(9,TB),(11,ptr0 63),(101,i64 (v 3)),(102,i64 (v 7)),(106,.tuple [ptr0 62,.opq 8])] [((.cmp .neq (v 1) (.lit 2)),true)] [(⟨(.dyn 62),(.lit 0)⟩,i8 (v 1))] [] 28 [] [4,5] [.code .ret,.code (q45 [1,1,1,1,1,1,1,1,1,0,1,0,0,1,1,0,0,1,1]),.inBlock 2,.code (q45 [1,1,1,1,1,1,1,1,1,0,1,0,0,1,1,1]),.inLoop (q45 [1,1,1,1,1,1,1,1,1,0,1,0,0]),.inBlock 1,.code (q45 [1,1,1,1,1,1,1,1,1,1])] [nilP,nilA] []:=⟨fun st=>by kernel_rfl,fun st=>by kernel_rfl,by kernel_rfl,of_decide_eq_true (by kernel_rfl)⟩
theorem grPt:Pc 45 135 [.inRegion (opsOf (q45 [1,1,1,1,1,1,1,1,1,0,1,0,0,1,1,0,0,1,0,0])) [2,3,4,5,6],.code (q45 [1,1,1,1,1,1,1,1,1,0,1,0,0,1,1,0,0,1,0,1]),.code (q45 [1,1,1,1,1,1,1,1,1,0,1,0,0,1,1,0,0,1,1]),.inBlock 2,.code (q45 [1,1,1,1,1,1,1,1,1,0,1,0,0,1,1,1]),.inLoop (q45 [1,1,1,1,1,1,1,1,1,0,1,0,0]),.inBlock 1,.code (q45 [1,1,1,1,1,1,1,1,1,1])] [(9,TB),(11,ptr0 63),(101,i64 (v 3)),(102,i64 (v 7)),(106,.tuple [ptr0 62,.opq 8])] [((.cmp .neq (v 1) (.lit 2)),false)] [(⟨(.dyn 62),(.lit 0)⟩,i8 (v 1))] [(63,.cells [i8 (v 21),i64 (v 22),i64 (v 3),i64 (v 24),.str ⟨#[]⟩,nilA] 107)] 43 [101,63] [0,9,11,101,102] [.code (q45 [1,1,1,1,1,1,1,1,1,0,1,0,0]),.inLoop (q45 [1,1,1,1,1,1,1,1,1,0,1,0,0]),.inBlock 1,.code (q45 [1,1,1,1,1,1,1,1,1,1])] [.opq 8,TB,ptr0 63,i64 (v 3),i64 (.op .add .i64 (v 7) (.lit 1))] [(101,.row [ptr0 62] 91 (v 101)),(63,.cells [i8 (v 21),i64 (v 22),i64 (v 3),i64 (v 24),.str ⟨#[]⟩,.slice (some ⟨(.dyn 101),(.lit 0)⟩) (.lit 1) (v 101)] 107)]:=⟨fun st=>by kernel_rfl,fun st=>by kernel_rfl,by kernel_rfl,of_decide_eq_true (by kernel_rfl)⟩
theorem grPf:Pc 45 135 [.inRegion (opsOf (q45 [1,1,1,1,1,1,1,1,1,0,1,0,0,1,1,0,0,1,0,0])) [2,3,4,5,6],.code (q45 [1,1,1,1,1,1,1,1,1,0,1,0,0,1,1,0,0,1,0,1]),.code (q45 [1,1,1,1,1,1,1,1,1,0,1,0,0,1,1,0,0,1,1]),.inBlock 2,.code (q45 [1,1,1,1,1,1,1,1,1,0,1,0,0,1,1,1]),.inLoop (q45 [1,1,1,1,1,1,1,1,1,0,1,0,0]),.inBlock 1,.code (q45 [1,1,1,1,1,1,1,1,1,1])] [(9,FB),(11,ptr0 63),(101,i64 (v 3)),(102,i64 (v 7)),(106,.tuple [ptr0 62,.opq 8])] [] [] [(63,.cells [i8 (v 21),i64 (v 22),i64 (v 3),i64 (v 24),.str ⟨#[]⟩,nilA] 107)] 43 [101,63] [0,9,11,101,102] [.code (q45 [1,1,1,1,1,1,1,1,1,0,1,0,0]),.inLoop (q45 [1,1,1,1,1,1,1,1,1,0,1,0,0]),.inBlock 1,.code (q45 [1,1,1,1,1,1,1,1,1,1])] [.opq 8,FB,ptr0 63,i64 (v 3),i64 (.op .add .i64 (v 7) (.lit 1))] [(101,.row [ptr0 62] 91 (v 101)),(63,.cells [i8 (v 21),i64 (v 22),i64 (v 3),i64 (v 24),.str ⟨#[]⟩,.slice (some ⟨(.dyn 101),(.lit 0)⟩) (.lit 1) (v 101)] 107)]:=⟨fun st=>by kernel_rfl,fun st=>by kernel_rfl,by kernel_rfl,of_decide_eq_true (by kernel_rfl)⟩
theorem grQt:Pc 45 135 [.inRegion (opsOf (q45 [1,1,1,1,1,1,1,1,1,0,1,0,0,1,1,0,0,1,0,0])) [2,3,4,5,6],.code (q45 [1,1,1,1,1,1,1,1,1,0,1,0,0,1,1,0,0,1,0,1]),.code (q45 [1,1,1,1,1,1,1,1,1,0,1,0,0,1,1,0,0,1,1]),.inBlock 2,.code (q45 [1,1,1,1,1,1,1,1,1,0,1,0,0,1,1,1]),.inLoop (q45 [1,1,1,1,1,1,1,1,1,0,1,0,0]),.inBlock 1,.code (q45 [1,1,1,1,1,1,1,1,1,1])] [(9,TB),(11,ptr0 63),(101,i64 (v 3)),(102,i64 (v 7)),(106,.tuple [ptr0 62,.opq 8])] [((.cmp .leq (.plus (.tn (v 8)) (.lit 1)) (.lit 1048576)),true),((.cmp .neq (v 1) (.lit 2)),false)] [(⟨(.dyn 62),(.lit 0)⟩,i8 (v 1))] [(52,.pre false 65 (v 8) [] [] [] 91 (v 57)),(63,.cells [i8 (v 21),i64 (v 22),i64 (v 3),i64 (v 24),.str ⟨#[]⟩,.slice (some ⟨(.dyn 52),(.lit 0)⟩) (v 8) (v 57)] 107)] 43 [101,63] [0,9,11,101,102] [.code (q45 [1,1,1,1,1,1,1,1,1,0,1,0,0]),.inLoop (q45 [1,1,1,1,1,1,1,1,1,0,1,0,0]),.inBlock 1,.code (q45 [1,1,1,1,1,1,1,1,1,1])] [.opq 8,TB,ptr0 63,i64 (v 3),i64 (.op .add .i64 (v 7) (.lit 1))] [(101,.pre false 65 (v 8) [] [] [ptr0 62] 91 (v 101)),(63,.cells [i8 (v 21),i64 (v 22),i64 (v 3),i64 (v 24),.str ⟨#[]⟩,.slice (some ⟨(.dyn 101),(.lit 0)⟩) (.plus (.tn (v 8)) (.lit 1)) (v 101)] 107)]:=⟨fun st=>by kernel_rfl,fun st=>by kernel_rfl,by kernel_rfl,of_decide_eq_true (by kernel_rfl)⟩
theorem grQf:Pc 45 135 [.inRegion (opsOf (q45 [1,1,1,1,1,1,1,1,1,0,1,0,0,1,1,0,0,1,0,0])) [2,3,4,5,6],.code (q45 [1,1,1,1,1,1,1,1,1,0,1,0,0,1,1,0,0,1,0,1]),.code (q45 [1,1,1,1,1,1,1,1,1,0,1,0,0,1,1,0,0,1,1]),.inBlock 2,.code (q45 [1,1,1,1,1,1,1,1,1,0,1,0,0,1,1,1]),.inLoop (q45 [1,1,1,1,1,1,1,1,1,0,1,0,0]),.inBlock 1,.code (q45 [1,1,1,1,1,1,1,1,1,1])] [(9,FB),(11,ptr0 63),(101,i64 (v 3)),(102,i64 (v 7)),(106,.tuple [ptr0 62,.opq 8])] [((.cmp .leq (.plus (.tn (v 8)) (.lit 1)) (.lit 1048576)),true)] [] [(52,.pre false 65 (v 8) [] [] [] 91 (v 57)),(63,.cells [i8 (v 21),i64 (v 22),i64 (v 3),i64 (v 24),.str ⟨#[]⟩,.slice (some ⟨(.dyn 52),(.lit 0)⟩) (v 8) (v 57)] 107)] 43 [101,63] [0,9,11,101,102] [.code (q45 [1,1,1,1,1,1,1,1,1,0,1,0,0]),.inLoop (q45 [1,1,1,1,1,1,1,1,1,0,1,0,0]),.inBlock 1,.code (q45 [1,1,1,1,1,1,1,1,1,1])] [.opq 8,FB,ptr0 63,i64 (v 3),i64 (.op .add .i64 (v 7) (.lit 1))] [(101,.pre false 65 (v 8) [] [] [ptr0 62] 91 (v 101)),(63,.cells [i8 (v 21),i64 (v 22),i64 (v 3),i64 (v 24),.str ⟨#[]⟩,.slice (some ⟨(.dyn 101),(.lit 0)⟩) (.plus (.tn (v 8)) (.lit 1)) (v 101)] 107)]:=⟨fun st=>by kernel_rfl,fun st=>by kernel_rfl,by kernel_rfl,of_decide_eq_true (by kernel_rfl)⟩
theorem grE:Pc 45 135 [.code (q45 [1,1,1,1,1,1,1,1,1,0,1,0,0]),.inLoop (q45 [1,1,1,1,1,1,1,1,1,0,1,0,0]),.inBlock 1,.code (q45 [1,1,1,1,1,1,1,1,1,1])] [(0,.opq 8),(9,.opq 9),(11,ptr0 63),(101,i64 (v 3)),(102,i64 (v 7))] [((.cmp .lss (v 7) (v 3)),false)] [] [] 14 [] [4,5] [.code .ret] [ptr0 63,.opq 8] []:=⟨fun st=>by kernel_rfl,fun st=>by kernel_rfl,by kernel_rfl,of_decide_eq_true (by kernel_rfl)⟩
structure NdAt(w:World)(A o:Nat)(n:Nd):Prop where
 c0:w.cell? ⟨A,o,none⟩=some (i8V n.op)
 c1:w.cell? ⟨A,o+1,none⟩=some (iV n.n)
 c2:w.cell? ⟨A,o+2,none⟩=some (iV n.kids)
 c3:w.cell? ⟨A,o+3,none⟩=some (iV n.at')
structure NodesAt(w:World)(s:Value)(l:List Nd):Prop where
 ex:(s=nilV∧l=[])∨∃A o c,s=slV A o l.length c∧l.length≤c∧∀i n,l[i]?=some n->NdAt w A (o+i*4) n
theorem NdAt.keep{w w':World}{A o:Nat}{n:Nd}(h:NdAt w A o n)(f:Fresh w w'):NdAt w' A o n:=⟨f.cell h.c0,f.cell h.c1,f.cell h.c2,f.cell h.c3⟩
theorem NodesAt.keep{w w':World}{s:Value}{l:List Nd}(h:NodesAt w s l)(f:Fresh w w'):NodesAt w' s l:=by
 rcases h.ex with h|⟨A,o,c,h1,h2,h3⟩
 ·exact⟨.inl h⟩
 ·exact⟨.inr ⟨A,o,c,h1,h2,fun i n hi=>(h3 i n hi).keep f⟩⟩
def lowHigh(op:Int)(len:Nat):Option (Int×Int×Bool):=
 if op=1∨op=2 then some (0,0,false)
 else if op=3∨op=13∨op=14∨op=15∨op=16 then some (1,1,false)
 else if op=18 then some (1,1,true)
 else if op=4∨op=5∨op=6 then some (2,2,false)
 else if op=12 then some (3,3,false)
 else if op=10∨op=11∨op=17 then some (1,len,true)
 else none
def badNd(n:Nd)(root:Bool)(lo hi:Int):Bool:=
 decide (n.kids<lo)||decide (n.kids>hi)||decide (n.at'<0)||!(decide (n.n=0)||decide (n.op=2)||decide (n.op=1)&&decide (n.n>0))||!root&&(decide (n.op=17)||decide (n.op=18))
def kidsWith(g:List Nd->Option (T×List Nd))(names:Bool):Nat->List Nd->Option (List T×List Nd)
 |0,l=>some ([],l)
 |k+1,l=>match g l with
  |none=>none
  |some (t,r)=>if names&&decide (t.n.op≠2)then none else match kidsWith g names k r with
   |none=>none
   |some (ts,r')=>some (t::ts,r')
def grownF:Nat->List Nd->Bool->Option (T×List Nd)
 |0,_,_=>none
 |_+1,[],_=>none
 |f+1,n::l,root=>match lowHigh n.op (l.length+1)with
  |none=>none
  |some (lo,hi,names)=>if badNd n root lo hi then none else match kidsWith (fun r=>grownF f r false) names n.kids.toNat l with
   |none=>none
   |some (ts,r)=>some (.nd n ts,r)
theorem kidsWith_len{g:List Nd->Option (T×List Nd)}{names:Bool}(hg:∀l t r,g l=some (t,r)->r.length≤l.length):∀(k:Nat) (l:List Nd) (ts:List T) (r:List Nd),kidsWith g names k l=some (ts,r)->r.length≤l.length
 |0,l,ts,r,h=>by
  cases h
  exact Nat.le_refl _
 |k+1,l,ts,r,h=>by
  unfold kidsWith at h
  split at h
  ·cases h
  ·rename_i t r' e
   split at h
   ·cases h
   ·split at h
    ·cases h
    ·rename_i ts' r'' e2
     cases h
     exact Nat.le_trans (kidsWith_len hg k _ _ _ e2) (hg _ _ _ e)
theorem grownF_len:∀(f:Nat) (l:List Nd) (root:Bool) (t:T) (r:List Nd),grownF f l root=some (t,r)->r.length≤l.length
 |0,l,root,t,r,h=>by cases h
 |f+1,[],root,t,r,h=>by cases h
 |f+1,n::l,root,t,r,h=>by
  unfold grownF at h
  split at h
  ·cases h
  ·split at h
   ·cases h
   ·split at h
    ·cases h
    ·rename_i ts r' e
     cases h
     have:=kidsWith_len (fun l t r h=>grownF_len f l false t r h) _ _ _ _ e
     simp only[List.length_cons]
     omega
theorem nodeU:under? Try.prog 49=.ok (.slice 75):=by kernel_rfl
theorem nodeS:sizeOf? Try.prog 75=.ok 4:=by kernel_rfl
theorem drop_op{t elem size:Nat}(hU:under? Try.prog t=.ok (.slice elem))(hS:sizeOf? Try.prog elem=.ok size){off n c k:Nat}(h:k≤n)(hn:n≤c):sliceOp? Try.prog t (.slice (some ⟨.dyn 50,.lit (Int.ofNat off)⟩) (.lit (Int.ofNat n)) (.lit (Int.ofNat c))) (some (.int .i64 (.lit (Int.ofNat k)))) none none=.ok (.slice (if c=k then some ⟨.dyn 50,.lit (Int.ofNat off)⟩else some ⟨.dyn 50,.lit (Int.ofNat (off+k*size))⟩) (.lit (Int.ofNat (n-k))) (.lit (Int.ofNat (c-k)))):=by
 unfold sliceOp?
 rw[hU]
 simp only[bind,Except.bind,litNat?,bounds?,bound?,high?,hS,pure,Except.pure]
 simp[h,hn,AA.add,addN]
section
variable {w:World}{cs:List Frame}{fr:Frame}
theorem wq_drop{E:Value->World->Prop}{t elem size:Nat}(hU:under? Try.prog t=.ok (.slice elem))(hS:sizeOf? Try.prog elem=.ok size){A off n c k:Nat}(h:k≤n)(hn:n≤c){Q:Value->World->Prop}(hq:∀o',(n=k∨o'=off+k*size)->Q (slV A o' (n-k) (c-k)) w):
  wq Try.prog (fun _=>True) E (Instr.sliceAt t (slV A off n c) (some (iV k)) none none) Q w:=by
 let K:Ctx:=⟨Try.prog,{},fun _=>True,fun _=>True,True,fun _ _=>False⟩
 let ρ:Env:=mkE [] [(50,A)] []
 refine wq_sliceAt (K:=K) (ρ:=ρ) (w:=w) (drop_op (off:=off) (k:=k) hU hS h hn) (Q:=Q) ?_
 by_cases hc:c=k
 ·rw[if_pos hc]
  exact hq off (.inl (by omega))
 ·rw[if_neg hc]
  exact hq (off+k*size) (.inr rfl)
end
abbrev grSl:AV:=.slice (some ⟨(.dyn 50),(v 53)⟩) (v 51) (v 52)
noncomputable abbrev grMem(op:AV):List (AA×AV):=[(⟨(.dyn 50),(v 53)⟩,op),(⟨(.dyn 50),(.plus (.tn (v 53)) (.lit 1))⟩,i64 (v 2)),(⟨(.dyn 50),(.plus (.tn (v 53)) (.lit 2))⟩,i64 (v 3)),(⟨(.dyn 50),(.plus (.tn (v 53)) (.lit 3))⟩,i64 (v 4))]
noncomputable abbrev grCells(op:AV):List (AA×AV):=[(⟨(.dyn 64),(.lit 0)⟩,op),(⟨(.dyn 64),(.lit 1)⟩,i64 (v 2)),(⟨(.dyn 64),(.lit 2)⟩,i64 (v 3)),(⟨(.dyn 64),(.lit 3)⟩,i64 (v 4))]
abbrev grPz:List (BE×Bool):=[((.cmp .eql (.tn (v 51)) (.lit 0)),false),((.cmp .lss (.lit 0) (.tn (v 51))),true)]
def noneV:Value:=.tuple #[.pointer none,nilV]
section
variable {w:World}{cs:List Frame}{fr:Frame}{nd:Nd}{A o N c:Nat}{root:Bool}
noncomputable def grE0(nd:Nd)(A o N c:Nat)(root:Bool):Env:=mkE [(51,N),(52,c),(53,o),(1,nd.op),(2,nd.n),(3,nd.kids),(4,nd.at')] [(50,A)] [(1,.bool root)]
def SwOut(nd:Nd)(A o N c:Nat)(root:Bool)(w:World)(cs:List Frame)(r:Option (Int×Int×Bool))(g':Goroutine)(w':World):Prop:=match r with
 |none=>∃fr',g'=G fr' cs∧Fresh w w'∧Leav 45 fr' w' noneV
 |some (lo,hi,nm)=>∃fr' X,g'=G fr' cs∧Fresh w w'∧NdAt w' X 0 nd∧FA 45 135 [.code (q45 [1,1,1,1,1])] [] .normal [(0,slV A o N c),(1,.bool root),(6,ptrV X),(7,iV lo),(8,iV hi),(9,.bool nm)] fr'
theorem gr_one{n:Nat}{ks:List Nat}{lo hi:IE}{nm:Bool}{k LO HI:Int}(P:Pc 45 135 [.code (q45 [])] [(0,grSl),(1,.opq 1)] grPz (grMem (i8 (.lit k))) [] n ks [0,1,6,7,8,9] [.code (q45 [1,1,1,1,1])] [grSl,.opq 1,ptr0 100,i64 lo,i64 hi,.bool (.lit nm)] [(100,.cells [i8 (.lit k),i64 (v 2),i64 (v 3),i64 (v 4)] 75)])
 (hk:nd.op=k)(hN:0<N)(h:NdAt w A o nd)(hlo:∀I B,lo.ev (mixE (grE0 nd A o N c root) I B)=LO)(hhi:∀I B,hi.ev (mixE (grE0 nd A o N c root) I B)=HI)(hf:FA 45 135 [.code (q45 [])] [] .normal [(0,slV A o N c),(1,.bool root)] fr){r:Option (Int×Int×Bool)}(hr:r=some (LO,HI,nm)):
  Goes (G fr cs) w (SwOut nd A o N c root w cs r):=by
 subst hr hk
 refine(P.go (grE0 nd A o N c root) hf rfl ⟨decide_eq_false (by show ¬(((N:Nat):Int)=0);omega),decide_eq_true (by show(0:Int)<((N:Nat):Int);omega),trivial⟩ ⟨h.c0,h.c1,h.c2,h.c3,trivial⟩).mono fun g1 w1 hd=>?_
 obtain⟨I,B,fr1,rfl,f1,F1,bl,_⟩:=hd
 have hX:=bl.1.2
 refine⟨fr1,B 100,rfl,f1,⟨blk_cell hX (i:=0) rfl,blk_cell hX (i:=1) rfl,blk_cell hX (i:=2) rfl,blk_cell hX (i:=3) rfl⟩,?_⟩
 rw[<-hlo I B,<-hhi I B]
 exact F1
theorem gr_sw(hN:0<N)(h:NdAt w A o nd)(hf:FA 45 135 [.code (q45 [])] [] .normal [(0,slV A o N c),(1,.bool root)] fr):Goes (G fr cs) w (SwOut nd A o N c root w cs (lowHigh nd.op N)):=by
 have no:∀{n:Int},nd.op≠n->(decide (nd.op=n))=false:=fun h=>decide_eq_false h
 have L0:∀{x:Int} (I:Nat->Int) (B:Nat->Nat),(IE.lit x).ev (mixE (grE0 nd A o N c root) I B)=x:=fun _ _=>rfl
 have L1:∀(I:Nat->Int) (B:Nat->Nat),(IE.tn (v 51)).ev (mixE (grE0 nd A o N c root) I B)=(N:Int):=fun _ _=>rfl
 by_cases e1:nd.op=1
 ·exact gr_one grS1 e1 hN h L0 L0 hf (by rw[e1];rfl)
 by_cases e2:nd.op=2
 ·exact gr_one grS2 e2 hN h L0 L0 hf (by rw[e2];rfl)
 by_cases e3:nd.op=3
 ·exact gr_one grS3 e3 hN h L0 L0 hf (by rw[e3];rfl)
 by_cases e13:nd.op=13
 ·exact gr_one grS13 e13 hN h L0 L0 hf (by rw[e13];rfl)
 by_cases e14:nd.op=14
 ·exact gr_one grS14 e14 hN h L0 L0 hf (by rw[e14];rfl)
 by_cases e15:nd.op=15
 ·exact gr_one grS15 e15 hN h L0 L0 hf (by rw[e15];rfl)
 by_cases e16:nd.op=16
 ·exact gr_one grS16 e16 hN h L0 L0 hf (by rw[e16];rfl)
 by_cases e18:nd.op=18
 ·exact gr_one grS18 e18 hN h L0 L0 hf (by rw[e18];rfl)
 by_cases e4:nd.op=4
 ·exact gr_one grS4 e4 hN h L0 L0 hf (by rw[e4];rfl)
 by_cases e5:nd.op=5
 ·exact gr_one grS5 e5 hN h L0 L0 hf (by rw[e5];rfl)
 by_cases e6:nd.op=6
 ·exact gr_one grS6 e6 hN h L0 L0 hf (by rw[e6];rfl)
 by_cases e12:nd.op=12
 ·exact gr_one grS12 e12 hN h L0 L0 hf (by rw[e12];rfl)
 by_cases e10:nd.op=10
 ·exact gr_one grS10 e10 hN h L0 L1 hf (by rw[e10];rfl)
 by_cases e11:nd.op=11
 ·exact gr_one grS11 e11 hN h L0 L1 hf (by rw[e11];rfl)
 by_cases e17:nd.op=17
 ·exact gr_one grS17 e17 hN h L0 L1 hf (by rw[e17];rfl)
 have er:lowHigh nd.op N=none:=by simp[lowHigh, *]
 rw[er]
 refine(grSx.go (grE0 nd A o N c root) hf rfl ⟨decide_eq_false (by show ¬(((N:Nat):Int)=0);omega),decide_eq_true (by show(0:Int)<((N:Nat):Int);omega),no e1,no e2,no e3,no e13,no e14,no e15,no e16,no e18,no e4,no e5,no e6,no e12,no e10,no e11,no e17,trivial⟩ ⟨h.c0,h.c1,h.c2,h.c3,trivial⟩).trans fun g1 w1 hd=>?_
 obtain⟨I,B,fr1,rfl,f1,F1,_⟩:=hd
 refine(leave2 ret45 F1 rfl rfl).mono fun g6 w6 hd6=>?_
 obtain⟨fr6,rfl,rfl,hL⟩:=hd6
 exact⟨fr6,rfl,f1,hL⟩
noncomputable abbrev GrH:List Item:=[.code (q45 [1,1,1,1,1,1,1,1,1,0,1,0,0]),.inLoop (q45 [1,1,1,1,1,1,1,1,1,0,1,0,0]),.inBlock 1,.code (q45 [1,1,1,1,1,1,1,1,1,1])]
theorem gr_mid{X:Nat}{lo hi:Int}{nm:Bool}(hN:0<N)(hNc:N≤c)(hX:NdAt w X 0 nd)(hf:FA 45 135 [.code (q45 [1,1,1,1,1])] [] .normal [(0,slV A o N c),(1,.bool root),(6,ptrV X),(7,iV lo),(8,iV hi),(9,.bool nm)] fr):
  Goes (G fr cs) w fun g' w'=>(badNd nd root lo hi=true∧∃fr',g'=G fr' cs∧Fresh w w'∧Leav 45 fr' w' noneV)∨(badNd nd root lo hi=false∧∃fr' P o',g'=G fr' cs∧Fresh w w'∧w.heap.size≤P∧(Blk.obj 107 [i8V nd.op,iV nd.n,iV nd.kids,iV nd.at',.string ⟨#[]⟩,nilV]).at Try.prog w' P∧(N=1∨o'=o+4)∧FA 45 135 GrH [] .normal [(0,slV A o' (N-1) (c-1)),(9,.bool nm),(11,ptrV P),(101,iV nd.kids),(102,iV 0)] fr'):=by
 obtain⟨ρ,hρ⟩:∃ρ:Env,ρ=mkE [(51,N),(52,c),(53,o),(1,nd.op),(2,nd.n),(3,nd.kids),(4,nd.at'),(5,lo),(6,hi)] [(50,A),(64,X)] [(1,.bool root),(9,.bool nm)]:=⟨_,rfl⟩
 have hm:∀{w':World},Fresh w w'->AllM ρ w' (grCells (i8 (v 1))):=fun f=>by
  rw[hρ]
  exact⟨f.cell hX.c0,f.cell hX.c1,f.cell hX.c2,f.cell hX.c3,trivial⟩
 refine((grB (decide (nd.n=0)) (decide (nd.op=2)) (decide (nd.op=1)) (decide (nd.n>0))).go ρ hf (by rw[hρ];rfl) ⟨by rw[hρ];rfl,by rw[hρ];rfl,by rw[hρ];rfl,by rw[hρ];rfl,trivial⟩ (hm (Fresh.refl w))).trans fun g1 w1 hd=>?_
 obtain⟨I,B,fr1,rfl,f1,F1,_⟩:=hd
 rw[hρ]at F1
 refine((grG root (decide (nd.n=0)||decide (nd.op=2)||decide (nd.op=1)&&decide (nd.n>0)) (decide (nd.kids<lo)) (decide (nd.kids>hi)) (decide (nd.at'<0)) (decide (nd.op=17)) (decide (nd.op=18))).go ρ F1 (by rw[hρ];rfl) ⟨by rw[hρ];rfl,by rw[hρ];rfl,by rw[hρ];rfl,by rw[hρ];rfl,by rw[hρ];rfl,trivial⟩ (hm f1)).trans fun g2 w2 hd2=>?_
 obtain⟨I,B,fr2,rfl,f2,F2,_⟩:=hd2
 rw[hρ]at F2
 have F2':FA 45 135 [.code (q45 [1,1,1,1,1,1,0,1]),.code (q45 [1,1,1,1,1,1,1])] [] .normal [(0,slV A o N c),(1,.bool root),(6,ptrV X),(9,.bool nm),(94,.bool (badNd nd root lo hi))] fr2:=F2
 cases hb:badNd nd root lo hi with
 |true=>
  rw[hb]at F2'
  refine(grX.go ρ F2' (by rw[hρ];rfl) trivial trivial).trans fun g3 w3 hd3=>?_
  obtain⟨I,B,fr3,rfl,f3,F3,_⟩:=hd3
  refine(leave2 ret45 F3 rfl rfl).mono fun g6 w6 hd6=>?_
  obtain⟨fr6,rfl,rfl,hL⟩:=hd6
  exact .inl ⟨rfl,fr6,rfl,f1.trans (f2.trans f3),hL⟩
 |false=>
  rw[hb]at F2'
  have f12:=f1.trans f2
  refine(grY.go ρ F2' (by rw[hρ];rfl) trivial (hm f12)).trans fun g3 w3 hd3=>?_
  obtain⟨I,B,fr3,rfl,f3,F3,bl,_⟩:=hd3
  rw[hρ]at F3 bl
  refine(grZ.go (R:=fun x w'=>(∃o',(N=1∨o'=o+4)∧x=slV A o' (N-1) (c-1))∧w'=w3) (mkE [] [] []) F3 (by decide) rfl fun tm htm x' e1 e2=>?_).trans fun g4 w4 hd4=>?_
  ·unfold execOp
   simp only[e1,wq_bind,Option.map_some,Option.map_none]
   rw[htm 98 (slV A o N c) rfl]
   exact wq_drop nodeU nodeS (k:=1) hN hNc fun o' ho'=>⟨_,rfl,⟨o',ho',rfl⟩,rfl⟩
  obtain⟨fr4,x,rfl,⟨⟨o',ho',rfl⟩,rfl⟩,F4⟩:=hd4
  have gP:w.heap.size≤B 100:=Nat.le_trans f12.size bl.1.1
  have hP:(Blk.obj 107 [i8V nd.op,iV nd.n,iV nd.kids,iV nd.at',.string ⟨#[]⟩,nilV]).at Try.prog w4 (B 100):=bl.1.2
  refine(grH.go (mkE [(3,nd.kids)] [(63,B 100),(64,X)] [(9,.bool nm),(8,slV A o' (N-1) (c-1))]) F4 rfl trivial ⟨(f12.trans f3).cell hX.c2,trivial⟩).mono fun g5 w5 hd5=>?_
  obtain⟨I,B',fr5,rfl,f5,F5,_⟩:=hd5
  exact .inr ⟨rfl,fr5,B 100,o',rfl,f12.trans (f3.trans f5),gP,blk_keep hP f5,ho',F5⟩
end
theorem size91(inf:TypeInfo)(hi:Try.prog.info? 91=some inf):inf.size=1:=by
 have e2:(Try.prog.info? 91).map (fun x=>x.size)=some 1:=by kernel_rfl
 rw[hi]at e2
 exact Option.some.inj e2
theorem slV_block{a o n c a' o' n' c':Nat}(h:slV a o n c=slV a' o' n' c'):a=a':=congrArg (fun v=>match v with|.slice (some x) _ _=>x.block|_=>0) h
def KidsIn(w:World)(base P:Nat)(sl:Value)(ps:List Nat):Prop:=(sl=nilV∧ps=[])∨∃Bk c,sl=slV Bk 0 ps.length c∧base≤Bk∧Bk≠P∧ps≠[]∧(Blk.vec 91 c (ps.map ptrV)).at Try.prog w Bk
def Off(base P:Nat)(sl:Value)(x:Nat):Prop:=base≤x∧x≠P∧∀Bk n c,sl=slV Bk 0 n c->x≠Bk
theorem KidsIn.keep{w w':World}{base P:Nat}{sl:Value}{ps:List Nat}(h:KidsIn w base P sl ps)(f:Fresh w w'):KidsIn w' base P sl ps:=by
 rcases h with h|⟨Bk,c,h1,h2,h3,h4,h5⟩
 ·exact .inl h
 ·exact .inr ⟨Bk,c,h1,h2,h3,h4,blk_keep h5 f⟩
abbrev nodeB(nd:Nd)(sl:Value):Blk:=.obj 107 [i8V nd.op,iV nd.n,iV nd.kids,iV nd.at',.string ⟨#[]⟩,sl]
noncomputable abbrev GrT(l:List Nat):List Item:=.inRegion (opsOf (q45 [1,1,1,1,1,1,1,1,1,0,1,0,0,1,1,0,0,1,0,0])) l::[.code (q45 [1,1,1,1,1,1,1,1,1,0,1,0,0,1,1,0,0,1,0,1]),.code (q45 [1,1,1,1,1,1,1,1,1,0,1,0,0,1,1,0,0,1,1]),.inBlock 2,.code (q45 [1,1,1,1,1,1,1,1,1,0,1,0,0,1,1,1]),.inLoop (q45 [1,1,1,1,1,1,1,1,1,0,1,0,0]),.inBlock 1,.code (q45 [1,1,1,1,1,1,1,1,1,1])]
noncomputable def grR(nd:Nd)(i n c P p Bk op:Int)(s xs:Value):Env:=mkE [(1,op),(21,nd.op),(22,nd.n),(3,nd.kids),(24,nd.at'),(7,i),(8,n),(57,c)] [(63,P.toNat),(62,p.toNat),(52,Bk.toNat)] [(8,s),(65,xs)]
noncomputable abbrev grPre0:List (Nat×ABlk):=[(63,.cells [i8 (v 21),i64 (v 22),i64 (v 3),i64 (v 24),.str ⟨#[]⟩,nilA] 107)]
noncomputable abbrev grPre1:List (Nat×ABlk):=[(52,.pre false 65 (v 8) [] [] [] 91 (v 57)),(63,.cells [i8 (v 21),i64 (v 22),i64 (v 3),i64 (v 24),.str ⟨#[]⟩,.slice (some ⟨(.dyn 52),(.lit 0)⟩) (v 8) (v 57)] 107)]
noncomputable abbrev grPost0:List (Nat×ABlk):=[(101,.row [ptr0 62] 91 (v 101)),(63,.cells [i8 (v 21),i64 (v 22),i64 (v 3),i64 (v 24),.str ⟨#[]⟩,.slice (some ⟨(.dyn 101),(.lit 0)⟩) (.lit 1) (v 101)] 107)]
noncomputable abbrev grPost1:List (Nat×ABlk):=[(101,.pre false 65 (v 8) [] [] [ptr0 62] 91 (v 101)),(63,.cells [i8 (v 21),i64 (v 22),i64 (v 3),i64 (v 24),.str ⟨#[]⟩,.slice (some ⟨(.dyn 101),(.lit 0)⟩) (.plus (.tn (v 8)) (.lit 1)) (v 101)] 107)]
section
variable {w w0:World}{cs:List Frame}{fr:Frame}{nd:Nd}{base P p i:Nat}{nm:Bool}{s sl:Value}{ps:List Nat}{ts:List T}{t:T}
theorem gr_push(hP0:base≤P)(hb:base≤w.heap.size)(hP:(nodeB nd sl).at Try.prog w P)(hk:KidsIn w base P sl ps)(ht:TreesAt w (Off base P sl) ps ts)(hpt:TreeAt w (Off base P sl) p t)(hop:nm=true->t.n.op=2)(hlen:ps.length≤1000000)(hi:i≤1000000)
 (hf:FA 45 135 (GrT [2,3,4,5,6]) [] .normal [(9,.bool nm),(11,ptrV P),(101,iV nd.kids),(102,iV i),(106,.tuple #[ptrV p,s])] fr):
  Goes (G fr cs) w fun g' w'=>∃fr' sl',g'=G fr' cs∧Keeps (fun x=>base≤x) w w'∧(nodeB nd sl').at Try.prog w' P∧KidsIn w' base P sl' (ps++[p])∧TreesAt w' (Off base P sl') (ps++[p]) (ts++[t])∧FA 45 135 GrH [] .normal [(0,s),(9,.bool nm),(11,ptrV P),(101,iV nd.kids),(102,iV ((i+1:Nat):Int))] fr':=by
 obtain⟨hpU,hpop⟩:Off base P sl p∧w.cell? ⟨p,0,none⟩=some (i8V t.n.op):=by
  cases hpt with
  |mk b n ks ps s u c0=>exact⟨u,c0⟩
 rcases hk with⟨rfl,rfl⟩|⟨Bk,c,rfl,hBk,hBP,hne,hv⟩
 ·obtain⟨ρ,hρ⟩:∃ρ:Env,ρ=grR nd i 0 0 P p 0 t.n.op s undef:=⟨_,rfl⟩
  have hgo:Goes (G fr cs) w fun g' w'=>∃I B fr',g'=G fr' cs∧Keeps (ownP ρ w grPre0) w w'∧FA 45 135 GrH [] .normal [(0,s),(9,.bool nm),(11,ptrV P),(101,iV nd.kids),(102,iV (iop .add .i64 i 1))] fr'∧AllP (mixE ρ I B) (ownP ρ w grPre0) w' grPost0∧∀x∈grPost0,∀y∈grPost0,(mixE ρ I B).b x.1=(mixE ρ I B).b y.1->x.1=y.1:=by
   subst hρ
   cases nm with
   |true=>exact grPt.goW (grR nd i 0 0 P p 0 t.n.op s undef) hf rfl ⟨by show(!decide (t.n.op=2))=false;rw[hop rfl];rfl,trivial⟩ ⟨hpop,trivial⟩ (fun q hq x hx=>by
     obtain rfl:=List.mem_singleton.1 hq
     obtain rfl:=List.mem_singleton.1 hx
     exact fun e=>hpU.2.1 e.symm) ⟨⟨_,hP,rfl,rfl⟩,trivial⟩ one_nodup
   |false=>exact grPf.goW (grR nd i 0 0 P p 0 t.n.op s undef) hf rfl trivial trivial (nofun) ⟨⟨_,hP,rfl,rfl⟩,trivial⟩ one_nodup
  refine hgo.mono fun g' w' hd=>?_
  obtain⟨I,B,fr',rfl,kp,F,bl,inj⟩:=hd
  have b63:(mixE ρ I B).b 63=P:=by rw[hρ];rfl
  have e63:ρ.b 63=P:=by rw[hρ];rfl
  have own:∀x,ownP ρ w grPre0 x->w.heap.size≤x∨x=P:=fun x hx=>by
   rcases hx with h|⟨y,hy,e⟩
   ·exact .inl h
   ·obtain rfl:=List.mem_singleton.1 hy
    exact .inr (e.symm.trans e63)
  obtain⟨⟨o1,v1⟩,⟨o2,v2⟩,_⟩:=bl
  have hB:(Blk.vec 91 (I 101).toNat [ptrV p]).at Try.prog w' (B 101):=by rw[hρ]at v1;exact v1
  have hP':(nodeB nd (slV (B 101) 0 1 (I 101).toNat)).at Try.prog w' P:=by
   rw[b63]at v2
   rw[hρ]at v2
   exact v2
  have hne:B 101≠P:=fun e=>by
   have:=inj _ (List.mem_cons_self ..) _ (List.mem_cons_of_mem _ (List.mem_singleton.2 rfl)) (by rw[b63];exact e)
   cases this
  have hB0:w.heap.size≤B 101:=by
   rcases own _ o1 with h|h
   ·exact h
   ·exact(hne h).elim
  refine⟨fr',_,rfl,kp.mono fun x hx=>?_,hP',.inr ⟨B 101,(I 101).toNat,rfl,Nat.le_trans hb hB0,hne,by simp,hB⟩,?_,by rw[<-inc (i:=i) (by omega)];exact F⟩
  ·rcases own x hx with h|rfl
   ·exact Nat.le_trans hb h
   ·exact hP0
  ·have hU:∀x,Off base P nilV x->x<w.heap.size->¬ownP ρ w grPre0 x∧Off base P (slV (B 101) 0 1 (I 101).toNat) x:=fun x hx hlt=>⟨fun hh=>by
    rcases own x hh with h|h
    ·omega
    ·exact hx.2.1 h,hx.1,hx.2.1,fun Bk n c e=>by
    have:B 101=Bk:=slV_block e
    omega⟩
   exact(ht.keepBut kp hU).snoc (hpt.keepBut kp hU)
 ·obtain⟨ρ,hρ⟩:∃ρ:Env,ρ=grR nd i ps.length c P p Bk t.n.op s (.agg (ps.map ptrV).toArray):=⟨_,rfl⟩
  have e52:ρ.b 52=Bk:=by rw[hρ];rfl
  have e63:ρ.b 63=P:=by rw[hρ];rfl
  have hO:AllO ρ w grPre1:=by
   refine⟨⟨.vec 91 c (ps.map ptrV),by rw[e52];exact hv,rfl,by rw[hρ];rfl,fun inf hinf=>?_,(nofun),by rw[hρ];rfl⟩,⟨nodeB nd (slV Bk 0 ps.length c),by rw[e63];exact hP,rfl,by rw[hρ];rfl⟩,trivial⟩
   rw[size91 inf hinf,List.length_map,hρ]
   show ps.length=((ps.length:Nat):Int).toNat*1
   omega
  have hnd:(grPre1.map fun p=>ρ.b p.1).Nodup:=by
   show[ρ.b 52,ρ.b 63].Nodup
   rw[e52,e63]
   exact List.nodup_cons.2 ⟨fun h=>hBP (List.mem_singleton.1 h),one_nodup⟩
  have hap:(BE.cmp .leq (.plus (.tn (v 8)) (.lit 1)) (.lit 1048576)).ev ρ=true:=by
   rw[hρ]
   show decide ((((ps.length:Int).toNat:Nat):Int)+1≤1048576)=true
   exact decide_eq_true (by omega)
  have hgo:Goes (G fr cs) w fun g' w'=>∃I B fr',g'=G fr' cs∧Keeps (ownP ρ w grPre1) w w'∧FA 45 135 GrH [] .normal [(0,s),(9,.bool nm),(11,ptrV P),(101,iV nd.kids),(102,iV (iop .add .i64 i 1))] fr'∧AllP (mixE ρ I B) (ownP ρ w grPre1) w' grPost1∧∀x∈grPost1,∀y∈grPost1,(mixE ρ I B).b x.1=(mixE ρ I B).b y.1->x.1=y.1:=by
   subst hρ
   cases nm with
   |true=>exact grQt.goW (grR nd i ps.length c P p Bk t.n.op s (.agg (ps.map ptrV).toArray)) hf rfl ⟨hap,by show(!decide (t.n.op=2))=false;rw[hop rfl];rfl,trivial⟩ ⟨hpop,trivial⟩ (fun q hq x hx=>by
     obtain rfl:=List.mem_singleton.1 hq
     have hx':x.1=52∨x.1=63:=by
      simp only[List.mem_cons,List.not_mem_nil,or_false]at hx
      rcases hx with rfl|rfl
      ·exact .inl rfl
      ·exact .inr rfl
     rcases hx' with h|h<;>rw[h]
     ·exact fun e=>hpU.2.2 Bk _ _ rfl e.symm
     ·exact fun e=>hpU.2.1 e.symm) hO hnd
   |false=>exact grQf.goW (grR nd i ps.length c P p Bk t.n.op s (.agg (ps.map ptrV).toArray)) hf rfl ⟨hap,trivial⟩ trivial (nofun) hO hnd
  refine hgo.mono fun g' w' hd=>?_
  obtain⟨I,B,fr',rfl,kp,F,bl,inj⟩:=hd
  have b63:(mixE ρ I B).b 63=P:=by rw[hρ];rfl
  have own:∀x,ownP ρ w grPre1 x->w.heap.size≤x∨x=P∨x=Bk:=fun x hx=>by
   rcases hx with h|⟨y,hy,e⟩
   ·exact .inl h
   ·simp only[List.mem_cons,List.not_mem_nil,or_false]at hy
    rcases hy with rfl|rfl
    ·exact .inr (.inr (e.symm.trans e52))
    ·exact .inr (.inl (e.symm.trans e63))
  obtain⟨⟨o1,v1⟩,⟨o2,v2⟩,_⟩:=bl
  have hB:(Blk.vec 91 (I 101).toNat ((ps++[p]).map ptrV)).at Try.prog w' (B 101):=by
   rw[hρ]at v1
   rw[List.map_append]
   exact v1
  have hn:((((ps.length:Int).toNat:Nat):Int)+1).toNat=(ps++[p]).length:=by
   rw[List.length_append,List.length_singleton]
   omega
  have hP':(nodeB nd (slV (B 101) 0 (ps++[p]).length (I 101).toNat)).at Try.prog w' P:=by
   rw[b63]at v2
   rw[hρ]at v2
   rw[<-hn]
   exact v2
  have hne:B 101≠P:=fun e=>by
   have:=inj _ (List.mem_cons_self ..) _ (List.mem_cons_of_mem _ (List.mem_singleton.2 rfl)) (by rw[b63];exact e)
   cases this
  have hB0:w.heap.size≤B 101∨B 101=Bk:=by
   rcases own _ o1 with h|h|h
   ·exact .inl h
   ·exact(hne h).elim
   ·exact .inr h
  refine⟨fr',_,rfl,kp.mono fun x hx=>?_,hP',.inr ⟨B 101,(I 101).toNat,rfl,?_,hne,by simp,hB⟩,?_,by rw[<-inc (i:=i) (by omega)];exact F⟩
  ·rcases own x hx with h|rfl|rfl
   ·exact Nat.le_trans hb h
   ·exact hP0
   ·exact hBk
  ·rcases hB0 with h|h
   ·exact Nat.le_trans hb h
   ·rw[h];exact hBk
  ·have hU:∀x,Off base P (slV Bk 0 ps.length c) x->x<w.heap.size->¬ownP ρ w grPre1 x∧Off base P (slV (B 101) 0 (ps++[p]).length (I 101).toNat) x:=fun x hx hlt=>⟨fun hh=>by
    rcases own x hh with h|h|h
    ·omega
    ·exact hx.2.1 h
    ·exact hx.2.2 Bk _ _ rfl h,hx.1,hx.2.1,fun Bk' n' c' e=>by
    have:B 101=Bk':=slV_block e
    subst this
    rcases hB0 with h|h
    ·omega
    ·rw[h];exact hx.2.2 Bk _ _ rfl⟩
   exact(ht.keepBut kp hU).snoc (hpt.keepBut kp hU)
end
theorem lowHigh_bounds{op:Int}{len:Nat}{lo hi:Int}{nm:Bool}(e:lowHigh op len=some (lo,hi,nm)):0≤lo∧(hi≤3∨hi=len):=by
 unfold lowHigh at e
 repeat' split at e
 all_goals cases e
 all_goals exact⟨by omega,by omega⟩
def GrOut(base:Nat)(s:Value)(l:List Nd)(w':World)(v:Value)(r:Option (T×List Nd)):Prop:=match r with
 |none=>v=noneV
 |some (t,rest)=>∃p s',v=.tuple #[ptrV p,s']∧TreeAt w' (fun x=>base≤x) p t∧∀W,NodesAt W s l->NodesAt W s' rest
def LoopOut(base P:Nat)(nd:Nd)(s:Value)(l:List Nd)(ts:List T)(w':World)(v:Value)(r:Option (List T×List Nd)):Prop:=match r with
 |none=>v=noneV
 |some (ts',rest)=>∃s',v=.tuple #[ptrV P,s']∧TreeAt w' (fun x=>base≤x) P (.nd nd (ts++ts'))∧∀W,NodesAt W s l->NodesAt W s' rest
theorem fresh_keeps{w0 w w':World}(h:Fresh w0 w)(k:Keeps (fun x=>w0.heap.size≤x) w w'):Fresh w0 w':=Keeps.trans h k
section
variable {w w0:World}{cs:List Frame}{fr:Frame}
theorem gr_fin{k:List Item}{w0 w:World}{P:Value->Prop}(fw:Fresh w0 w)(hf:FA 45 135 (.code .ret::k) [] .normal [(4,.pointer none),(5,nilV)] fr)(hP:P noneV):Goes (G fr cs) w fun g' w'=>∃fr' v,g'=G fr' cs∧Fresh w0 w'∧Leav 45 fr' w' v∧P v:=by
 refine(leave2 ret45 hf rfl rfl).mono fun g6 w6 hd6=>?_
 obtain⟨fr6,rfl,rfl,hL⟩:=hd6
 exact⟨fr6,_,rfl,fw,hL,hP⟩
theorem gr_loop{f:Nat}{names:Bool}(IH:∀{w:World} {s:Value} {l:List Nd},NodesAt w s l->l.length<f->l.length≤1000000->Ans 45 #[s,.bool false] w fun v w'=>Fresh w w'∧GrOut w.heap.size s l w' v (grownF f l false)){P:Nat}{nd:Nd}(hP0:w0.heap.size≤P)(hkb:nd.kids≤1000000):
  ∀(m i:Nat) {w:World} {cs:List Frame} {fr:Frame} {s sl:Value} {l:List Nd} {ps:List Nat} {ts:List T},(i:Int)+m=nd.kids->l.length<f->l.length≤1000000->Fresh w0 w->NodesAt w0 s l->(nodeB nd sl).at Try.prog w P->KidsIn w w0.heap.size P sl ps->TreesAt w (Off w0.heap.size P sl) ps ts->ps.length=i->
   FA 45 135 GrH [] .normal [(0,s),(9,.bool names),(11,ptrV P),(101,iV nd.kids),(102,iV i)] fr->
   Goes (G fr cs) w fun g' w'=>∃fr' v,g'=G fr' cs∧Fresh w0 w'∧Leav 45 fr' w' v∧LoopOut w0.heap.size P nd s l ts w' v (kidsWith (fun r=>grownF f r false) names m l)
 |0,i,w,cs,fr,s,sl,l,ps,ts,hi,hlf,hl,fw,hn,hP,hk,ht,hpi,hf=>by
  refine(grE.go (mkE [(3,nd.kids),(7,i)] [(63,P)] [(8,s),(9,.bool names)]) hf rfl ⟨decide_eq_false (by show ¬((i:Int)<nd.kids);omega),trivial⟩ trivial).trans fun g1 w1 hd=>?_
  obtain⟨I,B,fr1,rfl,f1,F1,_⟩:=hd
  refine(leave2 ret45 F1 rfl rfl).mono fun g6 w6 hd6=>?_
  obtain⟨fr6,rfl,rfl,hL⟩:=hd6
  refine⟨fr6,_,rfl,fw.trans f1,hL,s,rfl,?_,fun W h=>h⟩
  rw[List.append_nil]
  have hP1:=blk_keep hP f1
  have hs:PtrsAt w6 (fun x=>w0.heap.size≤x) sl ps:=by
   rcases hk.keep f1 with⟨h1,h2⟩|⟨Bk,c,h1,h2,h3,h4,h5⟩
   ·exact⟨.inl ⟨h1,h2⟩⟩
   ·refine⟨.inr ⟨Bk,0,c,h2,Blk.at_lt h5,h1,?_,fun j p hj=>?_⟩⟩
    ·obtain⟨arr,rest,inf,e1,e2,e3,e4⟩:=h5
     have:=congrArg List.length e3
     rw[size91 inf e2]at e4
     rw[List.length_append,List.length_map]at this
     have:arr.size=arr.toList.length:=rfl
     omega
    ·rw[Nat.zero_add]
     refine Blk.at_cell h5 ?_
     show(ps.map ptrV)[j]?=some (ptrV p)
     rw[List.getElem?_map,hj];rfl
  exact .mk P nd ts ps sl hP0 (blk_cell hP1 (i:=0) rfl) (blk_cell hP1 (i:=1) rfl) (blk_cell hP1 (i:=2) rfl) (blk_cell hP1 (i:=3) rfl) (blk_cell hP1 (i:=5) rfl) hs (ht.keepBut f1 fun x u lt=>⟨fun hh=>by omega,u.1⟩)
 |m+1,i,w,cs,fr,s,sl,l,ps,ts,hi,hlf,hl,fw,hn,hP,hk,ht,hpi,hf=>by
  refine(grL.go (mkE [(3,nd.kids),(7,i)] [(63,P)] [(8,s),(9,.bool names)]) hf rfl ⟨decide_eq_true (by show((i:Int)<nd.kids);omega),trivial⟩ trivial).trans fun g1 w1 hd=>?_
  obtain⟨I,B,fr1,rfl,f1,F1,_⟩:=hd
  have fw1:=fw.trans f1
  refine(grM.go (mkE [] [] [(105,s)]) (Q:=fun v w'=>GrOut w1.heap.size s l w' v (grownF f l false)) F1 rfl fun w' f2=>(IH (hn.keep (fw1.trans f2)) hlf hl).mono fun v w3 O=>⟨O.1,?_⟩).trans fun g2 w2 hd2=>?_
  ·unfold GrOut at O⊢
   cases e:grownF f l false with
   |none=>rw[e]at O;exact O.2
   |some x=>
    rw[e]at O
    obtain⟨_,p,s',h1,h2,h3⟩:=O
    exact⟨p,s',h1,h2.keepBut (Fresh.refl _) fun x u lt=>⟨fun hh=>by omega,Nat.le_trans f2.size u⟩,h3⟩
  obtain⟨fr2,vv,rfl,f2,hO,F2⟩:=hd2
  have fw2:=fw1.trans f2
  unfold kidsWith
  unfold GrOut at hO
  cases e:grownF f l false with
  |none=>
   rw[e]at hO
   have hO:vv=noneV:=hO
   subst hO
   cases names with
   |true=>
    refine(grNtrue.go (mkE [(3,nd.kids),(7,i)] [(63,P)] [(8,nilV)]) F2 rfl trivial trivial).trans fun g3 w3 hd3=>?_
    obtain⟨I,B,fr3,rfl,f3,F3,_⟩:=hd3
    refine(gr_fin (P:=fun v=>v=noneV) (fw2.trans f3) F3 rfl).mono fun g4 w4 hd4=>?_
    obtain⟨fr4,v,h1,h2,h3,h4⟩:=hd4
    exact⟨fr4,v,h1,h2,h3,h4⟩
   |false=>
    refine(grNfalse.go (mkE [(3,nd.kids),(7,i)] [(63,P)] [(8,nilV)]) F2 rfl trivial trivial).trans fun g3 w3 hd3=>?_
    obtain⟨I,B,fr3,rfl,f3,F3,_⟩:=hd3
    refine(gr_fin (P:=fun v=>v=noneV) (fw2.trans f3) F3 rfl).mono fun g4 w4 hd4=>?_
    obtain⟨fr4,v,h1,h2,h3,h4⟩:=hd4
    exact⟨fr4,v,h1,h2,h3,h4⟩
  |some x=>
   obtain⟨t,r⟩:=x
   rw[e]at hO
   obtain⟨p,s',rfl,hpt,hrest⟩:=hO
   have hlen:=grownF_len _ _ _ _ _ e
   by_cases hbad:(names&&decide (t.n.op≠2))=true
   ·have hnames:names=true:=by
     cases names with
     |true=>rfl
     |false=>cases hbad
    subst hnames
    have hop:t.n.op≠2:=by simpa using hbad
    have hpop:w2.cell? ⟨p,0,none⟩=some (i8V t.n.op):=by
     cases hpt with
     |mk b n ks ps s u c0=>exact c0
    refine(grO.go (mkE [(1,t.n.op),(3,nd.kids),(7,i)] [(63,P),(62,p)] [(8,s')]) F2 rfl ⟨by show(!decide (t.n.op=2))=true;rw[decide_eq_false hop];rfl,trivial⟩ ⟨hpop,trivial⟩).trans fun g3 w3 hd3=>?_
    obtain⟨I,B,fr3,rfl,f3,F3,_⟩:=hd3
    refine(gr_fin (P:=fun v=>v=noneV) (fw2.trans f3) F3 rfl).mono fun g4 w4 hd4=>?_
    obtain⟨fr4,v,h1,h2,h3,h4⟩:=hd4
    refine⟨fr4,v,h1,h2,h3,?_⟩
    dsimp only
    rw[if_pos hbad]
    exact h4
   ·have hop:names=true->t.n.op=2:=fun h=>by
     subst h
     simpa using hbad
    dsimp only
    rw[if_neg hbad]
    have hPk:=blk_keep hP (f1.trans f2)
    have hkk:=hk.keep (f1.trans f2)
    have htk:=ht.keep (f1.trans f2)
    have hPlt:P<w1.heap.size:=Blk.at_lt (blk_keep hP f1)
    have hoff:∀x,w1.heap.size≤x->Off w0.heap.size P sl x:=fun x hx=>⟨Nat.le_trans fw1.size hx,by omega,fun Bk n c e'=>by
     rcases hk.keep f1 with⟨h1,h2⟩|⟨Bk',c',h1,h2,h3,h4,h5⟩
     ·rw[h1]at e';cases e'
     ·have:=Blk.at_lt h5
      have:Bk'=Bk:=slV_block (h1.symm.trans e')
      omega⟩
    have hpt':TreeAt w2 (Off w0.heap.size P sl) p t:=hpt.keepBut (Fresh.refl _) fun x u lt=>⟨fun hh=>by omega,hoff x u⟩
    refine(gr_push (s:=s') (i:=i) hP0 (Nat.le_trans fw2.size (Nat.le_refl _)) hPk hkk htk hpt' hop (by omega) (by omega) (F2.only rfl)).trans fun g3 w3 hd3=>?_
    obtain⟨fr3,sl',rfl,kp3,hP3,hk3,ht3,F3⟩:=hd3
    have fw3:=fresh_keeps fw2 kp3
    refine(gr_loop IH hP0 hkb m (i+1) (by omega) (by omega) (by omega) fw3 (hrest _ hn) hP3 hk3 ht3 (by rw[List.length_append,List.length_singleton,hpi]) F3).mono fun g4 w4 hd4=>?_
    obtain⟨fr4,v,h1,h2,h3,h4⟩:=hd4
    refine⟨fr4,v,h1,h2,h3,?_⟩
    unfold LoopOut at h4⊢
    cases e2:kidsWith (fun r=>grownF f r false) names m r with
    |none=>rw[e2]at h4;exact h4
    |some y=>
     obtain⟨ts',r'⟩:=y
     rw[e2]at h4
     obtain⟨s'',g1,g2,g3⟩:=h4
     refine⟨s'',g1,?_,fun W h=>g3 W (hrest W h)⟩
     rw[List.append_assoc]at g2
     exact g2
theorem grown_all:∀(f:Nat) {w:World} {s:Value} {l:List Nd} {root:Bool},NodesAt w s l->l.length<f->l.length≤1000000->Ans 45 #[s,.bool root] w fun v w'=>Fresh w w'∧GrOut w.heap.size s l w' v (grownF f l root)
 |0,w,s,l,root,h,hlt,hl=>by omega
 |f+1,w,s,[],root,h,hlt,hl=>by
  refine ans_of fun cs=>?_
  rcases h.ex with⟨rfl,_⟩|⟨A,o,c,rfl,_,_⟩
  ·refine(gr0.go (mkE [] [] []) (enter2 ent45 rfl nilV (.bool root)) rfl trivial trivial).trans fun g3 w3 hd3=>?_
   obtain⟨I,B,fr3,rfl,f3,F3,_⟩:=hd3
   refine(gr_fin (P:=fun v=>v=noneV) f3 F3 rfl).mono fun g4 w4 hd4=>?_
   obtain⟨fr4,v,h1,h2,h3,h4⟩:=hd4
   exact⟨fr4,v,h1,h3,h2,h4⟩
  ·refine(gr1.go (mkE [(51,0),(52,c),(53,o)] [(50,A)] []) (enter2 ent45 rfl (slV A o 0 c) (.bool root)) rfl ⟨rfl,trivial⟩ trivial).trans fun g3 w3 hd3=>?_
   obtain⟨I,B,fr3,rfl,f3,F3,_⟩:=hd3
   refine(gr_fin (P:=fun v=>v=noneV) f3 F3 rfl).mono fun g4 w4 hd4=>?_
   obtain⟨fr4,v,h1,h2,h3,h4⟩:=hd4
   exact⟨fr4,v,h1,h3,h2,h4⟩
 |f+1,w,s,nd::l,root,h,hlt,hl=>by
  rcases h.ex with⟨_,e⟩|⟨A,o,c,rfl,hc,hel⟩
  ·cases e
  refine ans_of fun cs=>?_
  have hnd:NdAt w A o nd:=by
   have:=hel 0 nd rfl
   simpa using this
  have hN:0<(nd::l).length:=by simp
  refine(gr_sw (c:=c) hN hnd (enter2 ent45 rfl (slV A o (nd::l).length c) (.bool root))).trans fun g1 w1 hd=>?_
  unfold grownF
  rw[show(nd::l).length=l.length+1 from rfl]at hd
  cases e:lowHigh nd.op (l.length+1)with
  |none=>
   rw[e]at hd
   obtain⟨fr1,rfl,f1,hL⟩:=hd
   exact .here ⟨fr1,_,rfl,hL,f1,rfl⟩
  |some x=>
   obtain⟨lo,hi,names⟩:=x
   rw[e]at hd
   obtain⟨fr1,X,rfl,f1,hX,F1⟩:=hd
   refine(gr_mid hN hc hX F1).trans fun g2 w2 hd2=>?_
   dsimp only
   rcases hd2 with⟨hb,fr2,rfl,f2,hL⟩|⟨hb,fr2,P,o',rfl,f2,gP,hP,ho',F2⟩
   ·rw[if_pos hb]
    exact .here ⟨fr2,_,rfl,hL,f1.trans f2,rfl⟩
   ·rw[if_neg (by rw[hb];decide)]
    have hk:0≤nd.kids∧nd.kids≤1000000:=by
     have hb1:¬(nd.kids<lo)∧¬(nd.kids>hi):=by
      simp only[badNd,Bool.or_eq_false_iff,decide_eq_false_iff_not]at hb
      exact⟨hb.1.1.1.1,hb.1.1.1.2⟩
     have hlh:=lowHigh_bounds e
     simp only[List.length_cons]at hl
     omega
    have f12:=f1.trans f2
    have hrest:∀W,NodesAt W (slV A o (nd::l).length c) (nd::l)->NodesAt W (slV A o' ((nd::l).length-1) (c-1)) l:=fun W hW=>by
     rcases hW.ex with⟨e',_⟩|⟨A',o2,c',e',hc',hel'⟩
     ·cases e'
     ·obtain⟨rfl,rfl,rfl⟩:A'=A∧o2=o∧c'=c:=by
       refine⟨(slV_block e').symm,?_,?_⟩
       ·exact(congrArg (fun v=>match v with|.slice (some x) _ _=>x.off|_=>0) e').symm
       ·exact(congrArg (fun v=>match v with|.slice (some x) _ c=>c|_=>0) e').symm
      refine⟨.inr ⟨A',o',c'-1,rfl,by simp only[List.length_cons]at hc';omega,fun i n hi=>?_⟩⟩
      have:=hel' (i+1) n hi
      rcases ho' with h1|rfl
      ·simp only[List.length_cons]at h1
       have:l=[]:=List.eq_nil_of_length_eq_zero (by omega)
       subst this
       cases hi
      ·rw[show o2+4+i*4=o2+(i+1)*4 by omega]
       exact this
    refine(gr_loop (f:=f) (names:=names) (fun h1 h2 h3=>grown_all f h1 h2 h3) (w0:=w) (P:=P) (nd:=nd) (Nat.le_trans f1.size gP) hk.2 nd.kids.toNat 0 (by omega) (by simp only[List.length_cons]at hlt;omega) (by simp only[List.length_cons]at hl;omega) f12 (hrest w h) hP (.inl ⟨rfl,rfl⟩) .nil rfl F2).mono fun g4 w4 hd4=>?_
    obtain⟨fr4,v,h1,h2,h3,h4⟩:=hd4
    refine⟨fr4,v,h1,h3,h2,?_⟩
    unfold LoopOut at h4
    cases e2:kidsWith (fun r=>grownF f r false) names nd.kids.toNat l with
    |none=>rw[e2]at h4;exact h4
    |some y=>
     obtain⟨ts',r'⟩:=y
     rw[e2]at h4
     obtain⟨s'',g1,g2,g3⟩:=h4
     exact⟨P,s'',g1,g2,fun W hW=>g3 W (hrest W hW)⟩
end
noncomputable def q31(l:List Nat):Code:=pc (bodyOf Try.f31) l
theorem ent31:enterA Try.prog 31 [.opq 0,.opq 1,.opq 2] .normal=.ok ⟨31,87,entT 31 [.opq 0,.opq 1,.opq 2],[.code (bodyOf Try.f31)],[],.run,.normal⟩:=by kernel_rfl
theorem ret31:RetC 31 87 6:=fun st=>by kernel_rfl
theorem so1:Pc 31 87 [.code (q31 [])] [(0,.agg [ss 1,.slice (some ⟨(.dyn 50),(v 53)⟩) (v 51) (v 52),i64 (v 4)]),(1,i64 (v 7)),(2,.opq 2)] [((.cmp .geq (v 7) (.lit 4096)),true)] [] [] 18 [] [6] [.code .ret,.inBlock 0,.code (q31 [1,1])] [i64 (.lit 34)] []:=⟨fun st=>by kernel_rfl,fun st=>by kernel_rfl,by kernel_rfl,of_decide_eq_true (by kernel_rfl)⟩
theorem so1n:Pc 31 87 [.code (q31 [])] [(0,.agg [ss 1,nilA,i64 (v 4)]),(1,i64 (v 7)),(2,.opq 2)] [((.cmp .geq (v 7) (.lit 4096)),true)] [] [] 18 [] [6] [.code .ret,.inBlock 0,.code (q31 [1,1])] [i64 (.lit 34)] []:=⟨fun st=>by kernel_rfl,fun st=>by kernel_rfl,by kernel_rfl,of_decide_eq_true (by kernel_rfl)⟩
theorem so2n:Pc 31 87 [.code (q31 [])] [(0,.agg [ss 1,nilA,i64 (v 4)]),(1,i64 (v 7)),(2,.opq 2)] [((.cmp .geq (v 7) (.lit 4096)),false)] [] [] 18 [100] [1,2,3,20] [.inRegion (opsOf (q31 [1,0,0,1,1,0])) [2,3,4,5,6,7,8,9,10],.code (q31 [1,0,0,1,1,1]),.inBlock 0,.code (q31 [1,1])] [i64 (v 7),.opq 2,ptr0 100,ss 1] [(100,.cells [ss 1,nilA,i64 (v 4)] 51)]:=⟨fun st=>by kernel_rfl,fun st=>by kernel_rfl,by kernel_rfl,of_decide_eq_true (by kernel_rfl)⟩
theorem so2:Pc 31 87 [.code (q31 [])] [(0,.agg [ss 1,.slice (some ⟨(.dyn 50),(v 53)⟩) (v 51) (v 52),i64 (v 4)]),(1,i64 (v 7)),(2,.opq 2)] [((.cmp .geq (v 7) (.lit 4096)),false)] [] [] 18 [100] [1,2,3,20] [.inRegion (opsOf (q31 [1,0,0,1,1,0])) [2,3,4,5,6,7,8,9,10],.code (q31 [1,0,0,1,1,1]),.inBlock 0,.code (q31 [1,1])] [i64 (v 7),.opq 2,ptr0 100,ss 1] [(100,.cells [ss 1,.slice (some ⟨(.dyn 50),(v 53)⟩) (v 51) (v 52),i64 (v 4)] 51)]:=⟨fun st=>by kernel_rfl,fun st=>by kernel_rfl,by kernel_rfl,of_decide_eq_true (by kernel_rfl)⟩
theorem so3:OpC 87 (opsOf (q31 [1,0,0,1,1,0])) 2 [(20,.opq 20)] 44 [.opq 20] 21:=⟨fun st=>by kernel_rfl,fun st=>by kernel_rfl,fun st=>by kernel_rfl,by kernel_rfl,by decide,rfl⟩
theorem so4:Pc 31 87 [.inRegion (opsOf (q31 [1,0,0,1,1,0])) [3,4,5,6,7,8,9,10],.code (q31 [1,0,0,1,1,1]),.inBlock 0,.code (q31 [1,1])] [(1,i64 (v 7)),(2,.opq 2),(3,ptr0 64),(21,FB)] [] [(⟨(.dyn 64),(.lit 0)⟩,ss 1),(⟨(.dyn 64),(.lit 1)⟩,.opq 8),(⟨(.dyn 64),(.lit 2)⟩,i64 (v 4))] [] 14 [] [6] [.code .ret,.inBlock 0,.code (q31 [1,1])] [i64 (.lit 43)] []:=⟨fun st=>by kernel_rfl,fun st=>by kernel_rfl,by kernel_rfl,of_decide_eq_true (by kernel_rfl)⟩
theorem so5:Pc 31 87 [.inRegion (opsOf (q31 [1,0,0,1,1,0])) [3,4,5,6,7,8,9,10],.code (q31 [1,0,0,1,1,1]),.inBlock 0,.code (q31 [1,1])] [(1,i64 (v 7)),(2,.opq 2),(3,ptr0 64),(21,TB)] [] [(⟨(.dyn 64),(.lit 0)⟩,ss 1),(⟨(.dyn 64),(.lit 1)⟩,.opq 8),(⟨(.dyn 64),(.lit 2)⟩,i64 (v 4))] [] 5 [] [1,2,3,23,24,26] [.inRegion (opsOf (q31 [1,0,0,1,1,0])) [8,9,10],.code (q31 [1,0,0,1,1,1]),.inBlock 0,.code (q31 [1,1])] [i64 (v 7),.opq 2,ptr0 64,FB,.opq 2,ss 1] []:=⟨fun st=>by kernel_rfl,fun st=>by kernel_rfl,by kernel_rfl,of_decide_eq_true (by kernel_rfl)⟩
theorem so6:OpW 87 (opsOf (q31 [1,0,0,1,1,0])) 8 [(23,FB)] (.lookup 76 (.tmp 24) (.tmp 26) false) 4 (some 27):=⟨fun st=>by kernel_rfl,fun st=>by kernel_rfl,by kernel_rfl⟩
theorem so7:Pc 31 87 [.inRegion (opsOf (q31 [1,0,0,1,1,0])) [9,10],.code (q31 [1,0,0,1,1,1]),.inBlock 0,.code (q31 [1,1])] [(1,i64 (v 7)),(2,.opq 2),(3,ptr0 64),(23,FB),(27,TB)] [] [(⟨(.dyn 64),(.lit 0)⟩,ss 1),(⟨(.dyn 64),(.lit 1)⟩,.opq 8),(⟨(.dyn 64),(.lit 2)⟩,i64 (v 4))] [] 8 [] [6] [.code .ret,.inBlock 0,.code (q31 [1,1])] [i64 (.lit 43)] []:=⟨fun st=>by kernel_rfl,fun st=>by kernel_rfl,by kernel_rfl,of_decide_eq_true (by kernel_rfl)⟩
theorem so8:Pc 31 87 [.inRegion (opsOf (q31 [1,0,0,1,1,0])) [9,10],.code (q31 [1,0,0,1,1,1]),.inBlock 0,.code (q31 [1,1])] [(1,i64 (v 7)),(2,.opq 2),(3,ptr0 64),(23,FB),(27,FB)] [] [(⟨(.dyn 64),(.lit 0)⟩,ss 1),(⟨(.dyn 64),(.lit 1)⟩,.opq 8),(⟨(.dyn 64),(.lit 2)⟩,i64 (v 4))] [] 10 [] [1,3,31] [.inRegion (opsOf (q31 [1,1,0])) [2,3,4,5,6,7],.code (q31 [1,1,1])] [i64 (v 7),ptr0 64,.opq 8] []:=⟨fun st=>by kernel_rfl,fun st=>by kernel_rfl,by kernel_rfl,of_decide_eq_true (by kernel_rfl)⟩
theorem so9:OpC 87 (opsOf (q31 [1,1,0])) 2 [(31,.opq 31)] 45 [.opq 31,TB] 32:=⟨fun st=>by kernel_rfl,fun st=>by kernel_rfl,fun st=>by kernel_rfl,by kernel_rfl,by decide,rfl⟩
theorem soA:Pc 31 87 [.inRegion (opsOf (q31 [1,1,0])) [3,4,5,6,7],.code (q31 [1,1,1])] [(1,i64 (v 7)),(3,ptr0 64),(32,.tuple [nilP,nilA])] [] [(⟨(.dyn 64),(.lit 0)⟩,ss 1),(⟨(.dyn 64),(.lit 1)⟩,.opq 8),(⟨(.dyn 64),(.lit 2)⟩,i64 (v 4))] [] 27 [] [6] [.code .ret,.code (q31 [1,1,1,1])] [i64 (.lit 1)] []:=⟨fun st=>by kernel_rfl,fun st=>by kernel_rfl,by kernel_rfl,of_decide_eq_true (by kernel_rfl)⟩
theorem soB:Pc 31 87 [.inRegion (opsOf (q31 [1,1,0])) [3,4,5,6,7],.code (q31 [1,1,1])] [(1,i64 (v 7)),(3,ptr0 64),(32,.tuple [ptr0 62,.slice (some ⟨(.dyn 55),(v 56)⟩) (v 57) (v 58)])] [((.cmp .gtr (.tn (v 57)) (.lit 0)),true)] [(⟨(.dyn 64),(.lit 0)⟩,ss 1),(⟨(.dyn 64),(.lit 1)⟩,.opq 8),(⟨(.dyn 64),(.lit 2)⟩,i64 (v 4))] [] 27 [] [6] [.code .ret,.code (q31 [1,1,1,1])] [i64 (.lit 1)] []:=⟨fun st=>by kernel_rfl,fun st=>by kernel_rfl,by kernel_rfl,of_decide_eq_true (by kernel_rfl)⟩
theorem soCx:Pc 31 87 [.inRegion (opsOf (q31 [1,1,0])) [3,4,5,6,7],.code (q31 [1,1,1])] [(1,i64 (v 7)),(3,ptr0 64),(32,.tuple [ptr0 62,.slice (some ⟨(.dyn 55),(v 56)⟩) (v 57) (v 58)])] [((.cmp .gtr (.tn (v 57)) (.lit 0)),false),((.cmp .lss (v 4) (.lit 0)),true)] [(⟨(.dyn 64),(.lit 0)⟩,ss 1),(⟨(.dyn 64),(.lit 1)⟩,.opq 8),(⟨(.dyn 64),(.lit 2)⟩,i64 (v 4))] [] 27 [] [6] [.code .ret,.code (q31 [1,1,1,1])] [i64 (.lit 1)] []:=⟨fun st=>by kernel_rfl,fun st=>by kernel_rfl,by kernel_rfl,of_decide_eq_true (by kernel_rfl)⟩
theorem soCy:Pc 31 87 [.inRegion (opsOf (q31 [1,1,0])) [3,4,5,6,7],.code (q31 [1,1,1])] [(1,i64 (v 7)),(3,ptr0 64),(32,.tuple [ptr0 62,.slice (some ⟨(.dyn 55),(v 56)⟩) (v 57) (v 58)])] [((.cmp .gtr (.tn (v 57)) (.lit 0)),false),((.cmp .lss (v 4) (.lit 0)),false)] [(⟨(.dyn 64),(.lit 0)⟩,ss 1),(⟨(.dyn 64),(.lit 1)⟩,.slice (some ⟨(.dyn 50),(v 53)⟩) (v 51) (v 52)),(⟨(.dyn 64),(.lit 2)⟩,i64 (v 4))] [] 34 [] [1,3,7,48,49,50] [.code (q31 [1,1,1,1,0,1,0,0]),.inLoop (q31 [1,1,1,1,0,1,0,0]),.inBlock 1,.code (q31 [1,1,1,1,1])] [i64 (v 7),ptr0 64,ptr0 62,.slice (some ⟨(.dyn 50),(v 53)⟩) (v 51) (v 52),i64 (.tn (v 51)),i64 (.lit 0)] []:=⟨fun st=>by kernel_rfl,fun st=>by kernel_rfl,by kernel_rfl,of_decide_eq_true (by kernel_rfl)⟩
theorem soE:Pc 31 87 [.code (q31 [1,1,1,1,0,1,0,0]),.inLoop (q31 [1,1,1,1,0,1,0,0]),.inBlock 1,.code (q31 [1,1,1,1,1])] [(1,i64 (v 7)),(3,ptr0 64),(7,ptr0 62),(48,.slice (some ⟨(.dyn 50),(v 53)⟩) (v 51) (v 52)),(49,i64 (.tn (v 51))),(50,i64 (v 10))] [((.cmp .lss (v 10) (.tn (v 51))),true),((.cmp .leq (.lit 0) (v 10)),true),((.cmp .lss (v 10) (.lit 0)),false),((.cmp .geq (v 10) (.tn (v 51))),false),((.cmp .gtr (v 13) (.lit 16)),true)] [(⟨(.dyn 50),(.plus (.tn (v 53)) (.times (.tn (v 10)) (.lit 4)))⟩,i8 (v 11)),(⟨(.dyn 50),(.plus (.tn (.plus (.tn (v 53)) (.times (.tn (v 10)) (.lit 4)))) (.lit 1))⟩,i64 (v 12)),(⟨(.dyn 50),(.plus (.tn (.plus (.tn (v 53)) (.times (.tn (v 10)) (.lit 4)))) (.lit 2))⟩,i64 (v 13)),(⟨(.dyn 50),(.plus (.tn (.plus (.tn (v 53)) (.times (.tn (v 10)) (.lit 4)))) (.lit 3))⟩,i64 (v 14))] [] 27 [] [6] [.code .ret,.inBlock 2,.code (q31 [1,1,1,1,0,1,0,0,1,1,1]),.inLoop (q31 [1,1,1,1,0,1,0,0]),.inBlock 1,.code (q31 [1,1,1,1,1])] [i64 (.lit 44)] []:=⟨fun st=>by kernel_rfl,fun st=>by kernel_rfl,by kernel_rfl,of_decide_eq_true (by kernel_rfl)⟩
theorem soF:Pc 31 87 [.code (q31 [1,1,1,1,0,1,0,0]),.inLoop (q31 [1,1,1,1,0,1,0,0]),.inBlock 1,.code (q31 [1,1,1,1,1])] [(1,i64 (v 7)),(3,ptr0 64),(7,ptr0 62),(48,.slice (some ⟨(.dyn 50),(v 53)⟩) (v 51) (v 52)),(49,i64 (.tn (v 51))),(50,i64 (v 10))] [((.cmp .lss (v 10) (.tn (v 51))),true),((.cmp .leq (.lit 0) (v 10)),true),((.cmp .lss (v 10) (.lit 0)),false),((.cmp .geq (v 10) (.tn (v 51))),false),((.cmp .gtr (v 13) (.lit 16)),false)] [(⟨(.dyn 50),(.plus (.tn (v 53)) (.times (.tn (v 10)) (.lit 4)))⟩,i8 (v 11)),(⟨(.dyn 50),(.plus (.tn (.plus (.tn (v 53)) (.times (.tn (v 10)) (.lit 4)))) (.lit 1))⟩,i64 (v 12)),(⟨(.dyn 50),(.plus (.tn (.plus (.tn (v 53)) (.times (.tn (v 10)) (.lit 4)))) (.lit 2))⟩,i64 (v 13)),(⟨(.dyn 50),(.plus (.tn (.plus (.tn (v 53)) (.times (.tn (v 10)) (.lit 4)))) (.lit 3))⟩,i64 (v 14))] [] 30 [] [1,3,7,48,49,50] [.code (q31 [1,1,1,1,0,1,0,0]),.inLoop (q31 [1,1,1,1,0,1,0,0]),.inBlock 1,.code (q31 [1,1,1,1,1])] [i64 (v 7),ptr0 64,ptr0 62,.slice (some ⟨(.dyn 50),(v 53)⟩) (v 51) (v 52),i64 (.tn (v 51)),i64 (.op .add .i64 (v 10) (.lit 1))] []:=⟨fun st=>by kernel_rfl,fun st=>by kernel_rfl,by kernel_rfl,of_decide_eq_true (by kernel_rfl)⟩
theorem soG:Pc 31 87 [.code (q31 [1,1,1,1,0,1,0,0]),.inLoop (q31 [1,1,1,1,0,1,0,0]),.inBlock 1,.code (q31 [1,1,1,1,1])] [(1,i64 (v 7)),(3,ptr0 64),(7,ptr0 62),(48,.slice (some ⟨(.dyn 50),(v 53)⟩) (v 51) (v 52)),(49,i64 (.tn (v 51))),(50,i64 (v 10))] [((.cmp .lss (v 10) (.tn (v 51))),false)] [(⟨(.dyn 64),(.lit 0)⟩,ss 1),(⟨(.dyn 64),(.lit 1)⟩,.slice (some ⟨(.dyn 50),(v 53)⟩) (v 51) (v 52)),(⟨(.dyn 64),(.lit 2)⟩,i64 (v 4))] [] 17 [] [1,3,7,59,60,61] [.code (q31 [1,1,1,1,1,0,1,0,0]),.inLoop (q31 [1,1,1,1,1,0,1,0,0]),.inBlock 3,.code (q31 [1,1,1,1,1,1])] [i64 (v 7),ptr0 64,ptr0 62,.slice (some ⟨(.dyn 50),(v 53)⟩) (v 51) (v 52),i64 (.tn (v 51)),i64 (.lit 0)] []:=⟨fun st=>by kernel_rfl,fun st=>by kernel_rfl,by kernel_rfl,of_decide_eq_true (by kernel_rfl)⟩
theorem soH:Pc 31 87 [.code (q31 [1,1,1,1,1,0,1,0,0]),.inLoop (q31 [1,1,1,1,1,0,1,0,0]),.inBlock 3,.code (q31 [1,1,1,1,1,1])] [(1,i64 (v 7)),(3,ptr0 64),(7,ptr0 62),(59,.slice (some ⟨(.dyn 50),(v 53)⟩) (v 51) (v 52)),(60,i64 (.tn (v 51))),(61,i64 (v 10))] [((.cmp .lss (v 10) (.tn (v 51))),true),((.cmp .leq (.lit 0) (v 10)),true),((.cmp .lss (v 10) (.lit 0)),false),((.cmp .geq (v 10) (.tn (v 51))),false),((.cmp .eql (v 11) (.lit 2)),false)] [(⟨(.dyn 50),(.plus (.tn (v 53)) (.times (.tn (v 10)) (.lit 4)))⟩,i8 (v 11)),(⟨(.dyn 50),(.plus (.tn (.plus (.tn (v 53)) (.times (.tn (v 10)) (.lit 4)))) (.lit 1))⟩,i64 (v 12)),(⟨(.dyn 50),(.plus (.tn (.plus (.tn (v 53)) (.times (.tn (v 10)) (.lit 4)))) (.lit 2))⟩,i64 (v 13)),(⟨(.dyn 50),(.plus (.tn (.plus (.tn (v 53)) (.times (.tn (v 10)) (.lit 4)))) (.lit 3))⟩,i64 (v 14))] [] 41 [] [1,3,7,59,60,61] [.code (q31 [1,1,1,1,1,0,1,0,0]),.inLoop (q31 [1,1,1,1,1,0,1,0,0]),.inBlock 3,.code (q31 [1,1,1,1,1,1])] [i64 (v 7),ptr0 64,ptr0 62,.slice (some ⟨(.dyn 50),(v 53)⟩) (v 51) (v 52),i64 (.tn (v 51)),i64 (.op .add .i64 (v 10) (.lit 1))] []:=⟨fun st=>by kernel_rfl,fun st=>by kernel_rfl,by kernel_rfl,of_decide_eq_true (by kernel_rfl)⟩
theorem soI:Pc 31 87 [.code (q31 [1,1,1,1,1,0,1,0,0]),.inLoop (q31 [1,1,1,1,1,0,1,0,0]),.inBlock 3,.code (q31 [1,1,1,1,1,1])] [(1,i64 (v 7)),(3,ptr0 64),(7,ptr0 62),(59,.slice (some ⟨(.dyn 50),(v 53)⟩) (v 51) (v 52)),(60,i64 (.tn (v 51))),(61,i64 (v 10))] [((.cmp .lss (v 10) (.tn (v 51))),true),((.cmp .leq (.lit 0) (v 10)),true),((.cmp .lss (v 10) (.lit 0)),false),((.cmp .geq (v 10) (.tn (v 51))),false),((.cmp .eql (v 11) (.lit 2)),true),((.cmp .lss (v 12) (.lit 0)),true)] [(⟨(.dyn 50),(.plus (.tn (v 53)) (.times (.tn (v 10)) (.lit 4)))⟩,i8 (v 11)),(⟨(.dyn 50),(.plus (.tn (.plus (.tn (v 53)) (.times (.tn (v 10)) (.lit 4)))) (.lit 1))⟩,i64 (v 12)),(⟨(.dyn 50),(.plus (.tn (.plus (.tn (v 53)) (.times (.tn (v 10)) (.lit 4)))) (.lit 2))⟩,i64 (v 13)),(⟨(.dyn 50),(.plus (.tn (.plus (.tn (v 53)) (.times (.tn (v 10)) (.lit 4)))) (.lit 3))⟩,i64 (v 14))] [] 38 [] [6] [.code .ret,.inBlock 4,.code (q31 [1,1,1,1,1,0,1,0,0,1,1,1]),.inLoop (q31 [1,1,1,1,1,0,1,0,0]),.inBlock 3,.code (q31 [1,1,1,1,1,1])] [i64 (.lit 43)] []:=⟨fun st=>by kernel_rfl,fun st=>by kernel_rfl,by kernel_rfl,of_decide_eq_true (by kernel_rfl)⟩
theorem soJ:Pc 31 87 [.code (q31 [1,1,1,1,1,0,1,0,0]),.inLoop (q31 [1,1,1,1,1,0,1,0,0]),.inBlock 3,.code (q31 [1,1,1,1,1,1])] [(1,i64 (v 7)),(3,ptr0 64),(7,ptr0 62),(59,.slice (some ⟨(.dyn 50),(v 53)⟩) (v 51) (v 52)),(60,i64 (.tn (v 51))),(61,i64 (v 10))] [((.cmp .lss (v 10) (.tn (v 51))),true),((.cmp .leq (.lit 0) (v 10)),true),((.cmp .lss (v 10) (.lit 0)),false),((.cmp .geq (v 10) (.tn (v 51))),false),((.cmp .eql (v 11) (.lit 2)),true),((.cmp .lss (v 12) (.lit 0)),false),((.cmp .geq (v 12) (v 7)),true)] [(⟨(.dyn 50),(.plus (.tn (v 53)) (.times (.tn (v 10)) (.lit 4)))⟩,i8 (v 11)),(⟨(.dyn 50),(.plus (.tn (.plus (.tn (v 53)) (.times (.tn (v 10)) (.lit 4)))) (.lit 1))⟩,i64 (v 12)),(⟨(.dyn 50),(.plus (.tn (.plus (.tn (v 53)) (.times (.tn (v 10)) (.lit 4)))) (.lit 2))⟩,i64 (v 13)),(⟨(.dyn 50),(.plus (.tn (.plus (.tn (v 53)) (.times (.tn (v 10)) (.lit 4)))) (.lit 3))⟩,i64 (v 14))] [] 38 [] [6] [.code .ret,.inBlock 4,.code (q31 [1,1,1,1,1,0,1,0,0,1,1,1]),.inLoop (q31 [1,1,1,1,1,0,1,0,0]),.inBlock 3,.code (q31 [1,1,1,1,1,1])] [i64 (.lit 43)] []:=⟨fun st=>by kernel_rfl,fun st=>by kernel_rfl,by kernel_rfl,of_decide_eq_true (by kernel_rfl)⟩
theorem soK:Pc 31 87 [.code (q31 [1,1,1,1,1,0,1,0,0]),.inLoop (q31 [1,1,1,1,1,0,1,0,0]),.inBlock 3,.code (q31 [1,1,1,1,1,1])] [(1,i64 (v 7)),(3,ptr0 64),(7,ptr0 62),(59,.slice (some ⟨(.dyn 50),(v 53)⟩) (v 51) (v 52)),(60,i64 (.tn (v 51))),(61,i64 (v 10))] [((.cmp .lss (v 10) (.tn (v 51))),true),((.cmp .leq (.lit 0) (v 10)),true),((.cmp .lss (v 10) (.lit 0)),false),((.cmp .geq (v 10) (.tn (v 51))),false),((.cmp .eql (v 11) (.lit 2)),true),((.cmp .lss (v 12) (.lit 0)),false),((.cmp .geq (v 12) (v 7)),false)] [(⟨(.dyn 50),(.plus (.tn (v 53)) (.times (.tn (v 10)) (.lit 4)))⟩,i8 (v 11)),(⟨(.dyn 50),(.plus (.tn (.plus (.tn (v 53)) (.times (.tn (v 10)) (.lit 4)))) (.lit 1))⟩,i64 (v 12)),(⟨(.dyn 50),(.plus (.tn (.plus (.tn (v 53)) (.times (.tn (v 10)) (.lit 4)))) (.lit 2))⟩,i64 (v 13)),(⟨(.dyn 50),(.plus (.tn (.plus (.tn (v 53)) (.times (.tn (v 10)) (.lit 4)))) (.lit 3))⟩,i64 (v 14))] [] 41 [] [1,3,7,59,60,61] [.code (q31 [1,1,1,1,1,0,1,0,0]),.inLoop (q31 [1,1,1,1,1,0,1,0,0]),.inBlock 3,.code (q31 [1,1,1,1,1,1])] [i64 (v 7),ptr0 64,ptr0 62,.slice (some ⟨(.dyn 50),(v 53)⟩) (v 51) (v 52),i64 (.tn (v 51)),i64 (.op .add .i64 (v 10) (.lit 1))] []:=⟨fun st=>by kernel_rfl,fun st=>by kernel_rfl,by kernel_rfl,of_decide_eq_true (by kernel_rfl)⟩
theorem soL:Pc 31 87 [.code (q31 [1,1,1,1,1,0,1,0,0]),.inLoop (q31 [1,1,1,1,1,0,1,0,0]),.inBlock 3,.code (q31 [1,1,1,1,1,1])] [(1,i64 (v 7)),(3,ptr0 64),(7,ptr0 62),(59,.slice (some ⟨(.dyn 50),(v 53)⟩) (v 51) (v 52)),(60,i64 (.tn (v 51))),(61,i64 (v 10))] [((.cmp .lss (v 10) (.tn (v 51))),false)] [] [] 11 [] [81] [.inRegion (opsOf (q31 [1,1,1,1,1,1,0,0])) [1,2,3,4,5,6],.code (q31 [1,1,1,1,1,1,0,1]),.code (q31 [1,1,1,1,1,1,1])] [ptr0 62] []:=⟨fun st=>by kernel_rfl,fun st=>by kernel_rfl,by kernel_rfl,of_decide_eq_true (by kernel_rfl)⟩
theorem soM:OpC 87 (opsOf (q31 [1,1,1,1,1,1,0,0])) 1 [(81,.opq 81)] 46 [.opq 81,i64 (.lit 0)] 82:=⟨fun st=>by kernel_rfl,fun st=>by kernel_rfl,fun st=>by kernel_rfl,by kernel_rfl,by decide,rfl⟩
theorem soNtrue:Pc 31 87 [.inRegion (opsOf (q31 [1,1,1,1,1,1,0,0])) [2,3,4,5,6],.code (q31 [1,1,1,1,1,1,0,1]),.code (q31 [1,1,1,1,1,1,1])] [(82,.tuple [i64 (v 5),i64 (v 6)])] [((.cmp .gtr (v 5) (.lit 64)),true)] [] [] 16 [] [6] [.code .ret,.code (q31 [1,1,1,1,1,1,1])] [i64 (.lit 42)] []:=⟨fun st=>by kernel_rfl,fun st=>by kernel_rfl,by kernel_rfl,of_decide_eq_true (by kernel_rfl)⟩
theorem soNfalse:Pc 31 87 [.inRegion (opsOf (q31 [1,1,1,1,1,1,0,0])) [2,3,4,5,6],.code (q31 [1,1,1,1,1,1,0,1]),.code (q31 [1,1,1,1,1,1,1])] [(82,.tuple [i64 (v 5),i64 (v 6)])] [((.cmp .gtr (v 5) (.lit 64)),false)] [] [] 17 [] [6] [.code .ret] [i64 (.lit 0)] []:=⟨fun st=>by kernel_rfl,fun st=>by kernel_rfl,by kernel_rfl,of_decide_eq_true (by kernel_rfl)⟩
theorem soDx:Pc 31 87 [.inRegion (opsOf (q31 [1,1,0])) [3,4,5,6,7],.code (q31 [1,1,1])] [(1,i64 (v 7)),(3,ptr0 64),(32,.tuple [ptr0 62,nilA])] [((.cmp .lss (v 4) (.lit 0)),true)] [(⟨(.dyn 64),(.lit 0)⟩,ss 1),(⟨(.dyn 64),(.lit 1)⟩,.opq 8),(⟨(.dyn 64),(.lit 2)⟩,i64 (v 4))] [] 27 [] [6] [.code .ret,.code (q31 [1,1,1,1])] [i64 (.lit 1)] []:=⟨fun st=>by kernel_rfl,fun st=>by kernel_rfl,by kernel_rfl,of_decide_eq_true (by kernel_rfl)⟩
theorem soDy:Pc 31 87 [.inRegion (opsOf (q31 [1,1,0])) [3,4,5,6,7],.code (q31 [1,1,1])] [(1,i64 (v 7)),(3,ptr0 64),(32,.tuple [ptr0 62,nilA])] [((.cmp .lss (v 4) (.lit 0)),false)] [(⟨(.dyn 64),(.lit 0)⟩,ss 1),(⟨(.dyn 64),(.lit 1)⟩,.slice (some ⟨(.dyn 50),(v 53)⟩) (v 51) (v 52)),(⟨(.dyn 64),(.lit 2)⟩,i64 (v 4))] [] 34 [] [1,3,7,48,49,50] [.code (q31 [1,1,1,1,0,1,0,0]),.inLoop (q31 [1,1,1,1,0,1,0,0]),.inBlock 1,.code (q31 [1,1,1,1,1])] [i64 (v 7),ptr0 64,ptr0 62,.slice (some ⟨(.dyn 50),(v 53)⟩) (v 51) (v 52),i64 (.tn (v 51)),i64 (.lit 0)] []:=⟨fun st=>by kernel_rfl,fun st=>by kernel_rfl,by kernel_rfl,of_decide_eq_true (by kernel_rfl)⟩
end Go.Proofs.Ytmobbajggkjpgaa
