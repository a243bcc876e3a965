/-
  A symbolic run of the model, proved sound, and the walk of the code: a text of its parts. Conditions: none.
-/
import Derived.Test.YtmobbajggkjpgaaGD
set_option linter.unusedSectionVars false
set_option maxRecDepth 100000
set_option linter.unusedVariables false
set_option linter.unusedSimpArgs false
namespace Go.Proofs.Ytmobbajggkjpgaa.SX
open Go.Conc
noncomputable def lookN{α:Type}(d:α)(n:Nat)(l:List (Nat×α)):α:=(look (fun a b=>Nat.beq a b) n l).getD d
noncomputable def mkE(is:List (Nat×Int))(bs:List (Nat×Nat))(vs:List (Nat×Value)):Env:={i:=fun n=>lookN 0 n is,p:=fun _=>false,v:=fun n=>lookN undef n vs,b:=fun n=>lookN 0 n bs,bt:=(none,[])}
noncomputable def mkS(is:List (Nat×Int))(bs:List (Nat×Nat))(vs:List (Nat×Value))(ss:List (Nat×ByteArray)):Env:={mkE is bs vs with s:=fun n=>lookN ⟨#[]⟩ n ss}
noncomputable def tmpsOf(nt:Nat)(st:Nat->Value)(live:List (Nat×AV)):TT:=TT.fill ((List.range nt).map fun n=>(look (fun a b=>Nat.beq a b) n live).getD (.raw (st n))) 0 .leaf
theorem tmpsOf_get{nt:Nat}(hn:nt≤60000)(st:Nat->Value)(live:List (Nat×AV))(n:Nat):(tmpsOf nt st live).get n=if n<nt then(look (fun a b=>Nat.beq a b) n live).getD (.raw (st n))else undefA:=by
 unfold tmpsOf
 rw[TT.get_fill _ 0 .leaf n (by simpa using hn)]
 simp only[List.length_map,List.length_range,Nat.zero_add,Nat.sub_zero,Nat.zero_le,true_and]
 by_cases h:n<nt
 ·rw[if_pos h,if_pos h]
  simp[List.getD_eq_getElem?_getD,List.getElem?_map,List.getElem?_range h]
 ·rw[if_neg h,if_neg h];rfl
section
variable {P:Program}{ρ ρ':Env}
theorem FrRel.move{fr fr':AFrame}{g:Frame}(h:FrRel P ρ fr g)(e1:fr'.fn=fr.fn)(e2:fr'.nt=fr.nt)(e3:fr'.todo=fr.todo)(e4:fr.mode=.run)(e5:fr'.mode=.run)(e6:fr'.kind=fr.kind)(e7:plainK fr.kind)(e8:fr'.defers.map (AD.ev ρ')=fr.defers.map (AD.ev ρ))
 (ht:∀n,n<fr.nt->(fr'.tmps.get n).ev ρ'=(fr.tmps.get n).ev ρ)(ho:∀n,fr.nt≤n->fr'.tmps.get n=undefA):FrRel P ρ' fr' g:=by
 obtain⟨fn,nt,t,todo,defers,mode,kind⟩:=fr
 obtain⟨fn',nt',t',todo',defers',mode',kind'⟩:=fr'
 dsimp only at*
 subst e1;subst e2;subst e3;subst e4;subst e5;subst e6
 obtain⟨tm,td,i,rfl⟩:=h
 refine⟨tm,td,⟨⟨i.tmps.size,i.tmps.le,fun n hn=>by rw[ht n hn];exact i.tmps.get n hn,fun n hn=>ho n hn⟩,i.kind,fun _=>i.todo rfl,i.fn⟩,?_⟩
 unfold frameOf
 dsimp only
 have e9:aB ρ' kind' tm defers'=aB ρ kind' tm defers:=by rw[plain_aB e7,plain_aB e7,e8]
 rw[e9,plain_bB e7,plain_bB e7]
 rfl
theorem FrRel.tell{fr:AFrame}{g:Frame}(h:FrRel P ρ fr g)(e4:fr.mode=.run)(e7:plainK fr.kind)(e8:fr.defers=[]){live:List (Nat×AV)}(hl:∀n a,look (fun a b=>Nat.beq a b) n live=some a->a.ev ρ'=(fr.tmps.get n).ev ρ):
  FrRel P ρ' ⟨fr.fn,fr.nt,tmpsOf fr.nt (fun n=>(fr.tmps.get n).ev ρ) live,fr.todo,[],.run,fr.kind⟩ g:=by
 have hle:fr.nt≤60000:=by obtain⟨tm,td,i,_⟩:=h;exact i.tmps.le
 refine h.move rfl rfl rfl e4 rfl rfl e7 (by rw[e8];rfl) (fun n hn=>?_) (fun n hn=>?_)
 ·dsimp only
  rw[tmpsOf_get hle,if_pos hn]
  cases e:look (fun a b=>Nat.beq a b) n live with
  |none=>simp[AV.ev]
  |some a=>exact hl n a e
 ·dsimp only
  rw[tmpsOf_get hle,if_neg (by omega)]
structure Seen where
 fn:FuncId
 nt:Nat
 todo:List Item
 defers:List AD
 mode:AMode
 kind:CallKind
 callers:List AFrame
 hp:List (Nat×ABlk)
 vals:List AV
noncomputable def seenOf(c:ACfg)(live:List Nat):Seen:=⟨c.cur.fn,c.cur.nt,c.cur.todo,c.cur.defers,c.cur.mode,c.cur.kind,c.callers,c.h.hp,live.map fun n=>c.cur.tmps.get n⟩
noncomputable def see(r:M ACfg)(live:List Nat):Option Seen:=
 match r with
 |.ok c=>some (seenOf c live)
 |.error _=>none
theorem see_ok{r:M ACfg}{live:List Nat}{s:Seen}(h:see r live=some s):∃c,r=.ok c∧seenOf c live=s:=by
 cases r with
 |ok c=>exact⟨c,rfl,Option.some.inj h⟩
 |error e=>cases h
end
def EvS(still:Nat->Nat->Prop)(e:Event):Prop:=∀b n s,e=⟨.cell ⟨b,n,none⟩,true,s⟩->¬still b n
def Ctx.sub(K:Ctx)(O:Orc)(own:Nat->Prop)(still:Nat->Nat->Prop):Ctx:=⟨K.P,O,own,fun e=>K.Ev e∧EvS still e,K.lock,fun b n=>K.still b n∨still b n⟩
section
variable {K:Ctx}{O:Orc}{own:Nat->Prop}{still:Nat->Nat->Prop}
theorem sub_good(Gd:K.Good)(h:∀n,own n->K.own n):(K.sub O own still).Good:=by
 refine⟨fun a s ho=>⟨Gd.rd a s (h _ ho),fun b n s' e=>by cases e⟩,fun a s ho hn=>⟨Gd.wr a s (h _ ho) fun x=>hn (.inl x),fun b n s' e=>?_⟩,fun b n s hs he=>?_,fun m hm=>⟨Gd.ext m hm,fun b n s e=>by cases e⟩,⟨Gd.noRoom,fun b n s e=>by cases e⟩,fun L m=>⟨Gd.lock L m,fun b n s e=>by cases e⟩,fun r wr s ho=>⟨Gd.obj r wr s (h _ ho),fun b n s' e=>by cases e⟩⟩
 ·cases e
  exact fun x=>hn (.inr x)
 ·rcases hs with hs|hs
  ·exact Gd.noWr b n s hs he.1
  ·exact he.2 b n s rfl hs
theorem sub_dk(h:∀n,own n->K.own n)(w w':World)(es:Array Event)(d:DK (K.sub O own still) w w' es):DK K w w' es:=
 ⟨d.1.mono h,fun e he=>(d.2.1 e he).1,fun b n v hs hc=>d.2.2 b n v (.inl hs) hc⟩
end
theorem Walk.along{P:Program}{main:Bool}{D:World->World->Array Event->Prop}{S:Goroutine->World->Prop}{R:World->World->Prop}(r0:∀w,R w w)(rd:∀w d w',R (drawnAt w d) w'->R w w')(rd':∀w d,R w (drawnAt w d))(rt:∀w w' w'',R w w'->R w' w''->R w w'')(rD:∀w w' es,D w w' es->R w w'){n:Nat}{g:Goroutine}{w:World}(h:Walk P main D S n g w):
  Walk P main D (fun g' w'=>S g' w'∧R w w') n g w:=by
 have key:∀{k:Nat} {g:Goroutine} {w:World},WalkI P main D S k g w->∀w0,R w0 w->WalkI P main D (fun g' w'=>S g' w'∧R w0 w') k g w:=by
  intro k g w h
  induction h with
  |stop g w hs=>exact fun w0 hr=>WalkI.stop g w ⟨hs,hr⟩
  |step n g w g' w' es hr hs hdd _ ih=>exact fun w0 h0=>WalkI.step n g w g' w' es hr hs hdd fun d=>ih d w0 (rt _ _ _ h0 (rd _ d _ (rD _ _ _ (hdd d))))
  |off n g w g' hr hs _ ih=>exact fun w0 h0=>WalkI.off n g w g' hr hs fun d=>ih d w0 (rt _ _ _ h0 (rd' _ d))
  |on n g w g' hr hs _ ih=>exact fun w0 h0=>WalkI.on n g w g' hr hs fun d=>ih d w0 (rt _ _ _ h0 (rd' _ d))
 exact key h w (r0 w)
theorem Stays.refl(S:Nat->Nat->Prop)(w:World):Stays S w w:=fun _ _ _ _ h=>h
theorem Stays.trans{S:Nat->Nat->Prop}{w w' w'':World}(h:Stays S w w')(h':Stays S w' w''):Stays S w w'':=fun b n v hs hc=>h' b n v hs (h b n v hs hc)
structure Came1(K:Ctx)(U:Nat->Prop)(ρ:Env)(own:Nat->Prop)(still:Nat->Nat->Prop)(O:Orc)(cs:List Frame)(live:List Nat)(V:Seen)(w:World)(g':Goroutine)(w':World)(ρ':Env)(c':ACfg)(fr':Frame)(frs':List Frame):Prop where
 agree:Agree U ρ ρ'
 keeps:Keeps own w w'
 stays:Stays still w w'
 seen:seenOf c' live=V
 fr:FrRel K.P ρ' c'.cur fr'
 frs:FrRels K.P ρ' c'.callers frs'
 rel:Rel (K.sub O own still) ρ' c'.h w'
 gor:g'=G fr' (frs'++cs)
theorem piece{K:Ctx}{main:Bool}(Gd:K.Good){own:Nat->Prop}{still:Nat->Nat->Prop}(hown:∀n,own n->K.own n){O:Orc}{ext:Ext}{sum:Sums}(F:(K.sub O own still).Facts)(X:ExtOk (K.sub O own still) ext)(Z:SumOk (K.sub O own still) main sum){f n:Nat}{ks:List Nat}{c:ACfg}{live:List Nat}{V:Seen}
 (hv:see (chunkTo? K.P O ext sum f n ks c) live=some V){nb:Nat}(hl:cfgLow nb c=true)(hnb:c.h.nb=nb)(hO:O.low nb=true){ρ:Env}{fr:Frame}{frs cs:List Frame}{w:World}(hf:FrRel K.P ρ c.cur fr)(hfs:FrRels K.P ρ c.callers frs)(R:Rel (K.sub O own still) ρ c.h w):
  Walk K.P main (DK K) (fun g' w'=>∃ρ' c' fr' frs',Came1 K (Below nb) ρ own still O cs live V w g' w' ρ' c' fr' frs') 0 (G fr (frs++cs)) w:=by
 obtain⟨c',hc,hs⟩:=see_ok hv
 obtain⟨_,N,L⟩:=chunkTo_ok (K:=K.sub O own still) (main:=main) (sub_good Gd hown) F X Z hc
 have W:=L (Below nb) ρ cs (G fr (frs++cs)) w (cfgLow_in (K:=K.sub O own still) hl hnb hO) ⟨R,fr,frs,hf,hfs,rfl⟩
 have W2:=Walk.along (R:=fun w w'=>Stays still w w') (fun w=>Stays.refl _ w) (fun w d w' h=>h) (fun w d=>fun _ _ _ _ h=>h) (fun _ _ _ h h'=>h.trans h') (fun w w' es h=>fun b n v hs hc=>h.2.2 b n v (.inr hs) hc) W
 refine(Walk.weaken (fun g' w' hd=>?_) (W2.lax (sub_dk hown))).any
 obtain⟨⟨ρ',A,kp,gr,hin,R',fr',frs',h1,h2,h3⟩,hst⟩:=hd
 exact⟨ρ',c',fr',frs',A,kp,hst,hs,h1,h2,R',h3⟩
theorem look_map{P:Nat->AV->Prop}:∀{lv:List (Nat×AV)},(∀p∈lv,P p.1 p.2)->∀n a,look (fun a b=>Nat.beq a b) n lv=some a->P n a
 |lv,h,n,a,hk=>by
  obtain⟨x,hx,he⟩:=look_some hk
  obtain rfl:=Nat.eq_of_beq_eq_true he
  exact h _ hx
theorem told_pairs{ρ ρ2:Env}{t:TT}:∀{lv:List (Nat×AV)},AV.evs ρ2 (lv.map (·.2))=AV.evs ρ (lv.map fun p=>t.get p.1)->∀p∈lv,p.2.ev ρ2=(t.get p.1).ev ρ
 |[],_,p,hp=>by cases hp
 |q::lv,h,p,hp=>by
  simp only[List.map_cons,AV.evs,List.cons.injEq]at h
  rcases List.mem_cons.1 hp with rfl|hp
  ·exact h.1
  ·exact told_pairs h.2 p hp
section
variable {K:Ctx}{U:Nat->Prop}{ρ ρ':Env}{own:Nat->Prop}{still:Nat->Nat->Prop}{O:Orc}{cs:List Frame}{w:World}{g':Goroutine}{w':World}{c':ACfg}{fr':Frame}{frs':List Frame}
theorem Came1.told{lv:List (Nat×AV)}{fn:FuncId}{nt:Nat}{todo:List Item}{kind:CallKind}{callers:List AFrame}{hp:List (Nat×ABlk)}{vals:List AV}(C:Came1 K U ρ own still O cs (lv.map (·.1)) ⟨fn,nt,todo,[],.run,kind,callers,hp,vals⟩ w g' w' ρ' c' fr' frs')(hk:plainK kind):
  ∃st,∀ρ2:Env,AV.evs ρ2 (lv.map (·.2))=AV.evs ρ' vals->FrRel K.P ρ2 ⟨fn,nt,tmpsOf nt st lv,todo,[],.run,kind⟩ fr':=by
 obtain⟨⟨fn',nt',t,todo',ds,mode,kind'⟩,callers',hp',nb,lim⟩:=c'
 have s:=C.seen
 simp only[seenOf,Seen.mk.injEq]at s
 obtain⟨rfl,rfl,rfl,rfl,rfl,rfl,rfl,rfl,s4⟩:=s
 refine⟨_,fun ρ2 hv=>C.fr.tell (ρ':=ρ2) rfl hk rfl (live:=lv) ?_⟩
 refine look_map (P:=fun n a=>a.ev ρ2=(t.get n).ev ρ') (told_pairs ?_)
 rw[hv,<-s4,List.map_map]
 rfl
theorem Came1.alone{live:List Nat}{fn:FuncId}{nt:Nat}{todo:List Item}{ds:List AD}{mode:AMode}{kind:CallKind}{hp:List (Nat×ABlk)}{vals:List AV}(C:Came1 K U ρ own still O cs live ⟨fn,nt,todo,ds,mode,kind,[],hp,vals⟩ w g' w' ρ' c' fr' frs'):g'=G fr' cs∧c'.h.hp=hp:=by
 have s:=C.seen
 simp only[seenOf,Seen.mk.injEq]at s
 obtain⟨_,_,_,_,_,_,hc,hh,_⟩:=s
 have hfs:=C.frs
 rw[hc]at hfs
 cases frs' with
 |cons a b=>exact absurd hfs (by simp[FrRels])
 |nil=>exact⟨C.gor,hh⟩
end
section
variable {K:Ctx}{ρ ρ':Env}{w w':World}
theorem Rel.kept{h:AH}(R:Rel K ρ h w){own:Nat->Prop}(kp:Keeps own w w')(hb:∀i b,findB i h.hp=some b->¬own (ρ.b i))(hm:∀p∈K.O.mem,¬own (p.1.ev ρ).block):Rel K ρ h w':=by
 refine⟨fun i b hb'=>?_,R.own',R.inj,R.bs,R.is,fun p hp=>?_,fun n hn=>R.room n (Nat.le_trans kp.size hn),R.lent,fun b n hs=>Nat.lt_of_lt_of_le (R.low b n hs) kp.size⟩
 ·obtain⟨o,h1,h2⟩:=R.blk i b hb'
  exact⟨o,by rw[kp.heap _ (hb i b hb')];exact h1,h2⟩
 ·obtain⟨m1,m2,m3⟩:=R.mem p hp
  refine⟨m1,?_,m3⟩
  simp only[World.cell?]at m2⊢
  rw[kp.heap _ (hm p hp)];exact m2
theorem cellLt{a:Addr}{v:Value}(hc:w.cell? a=some v):a.block<w.heap.size:=by
 rcases Nat.lt_or_ge a.block w.heap.size with h'|h'
 ·exact h'
 ·simp[World.cell?,Array.getElem?_eq_none h']at hc
end
theorem rel_blocks{K:Ctx}{ρ:Env}{w:World}{O:Orc}{own:Nat->Prop}{still:Nat->Nat->Prop}{hp:List (Nat×ABlk)}{nb lim:Nat}(h1:∀p∈hp,∃o,w.heap[ρ.b p.1]?=some o∧p.2.is K.P ρ o)(h2:∀p∈hp,own (ρ.b p.1))(h3:(hp.map fun p=>ρ.b p.1).Nodup)(h4:∀p∈hp,∀n,(K.still (ρ.b p.1) n∨still (ρ.b p.1) n)->p.2.lentAt K.P ρ n)
 (F:FactsAt (K.sub O own still) O ρ w)(hnew:∀n,w.heap.size≤n->own n)(hlow:∀b n,K.still b n∨still b n->b<w.heap.size):Rel (K.sub O own still) ρ ⟨hp,nb,lim⟩ w:=
 ⟨fun i b hb=>h1 (i,b) (find_mem hb),fun i b hb=>.inl (h2 (i,b) (find_mem hb)),fun i j b c hb hc e=>by
   have:=inj_of_nodup (f:=fun p:Nat×ABlk=>ρ.b p.1) h3 (find_mem hb) (find_mem hc) e
   exact congrArg Prod.fst this,F.bs,F.is,F.mem,hnew,fun i b hb n hs=>h4 (i,b) (find_mem hb) n hs,hlow⟩
def ArrAt(w:World)(b off:Nat)(xs:List Value):Prop:=∀k v,xs[k]?=some v->w.cell? ⟨b,off+k,none⟩=some v
theorem ArrAt.keep{w w':World}{b off:Nat}{xs:List Value}(h:ArrAt w b off xs){own:Nat->Prop}(kp:Keeps own w w')(hb:¬own b):ArrAt w' b off xs:=fun k v hk=>by
 have:=h k v hk
 simp only[World.cell?]at this⊢
 rw[kp.heap b hb];exact this
theorem ArrAt.stay{w w':World}{b off:Nat}{xs:List Value}(h:ArrAt w b off xs){still:Nat->Nat->Prop}(st:Stays still w w')(hb:∀k,k<xs.length->still b (off+k)):ArrAt w' b off xs:=fun k v hk=>st _ _ _ (hb k (List.getElem?_eq_some_iff.1 hk).1) (h k v hk)
theorem ArrAt.lt{w:World}{b off:Nat}{xs:List Value}(h:ArrAt w b off xs){k:Nat}{v:Value}(hk:xs[k]?=some v):b<w.heap.size:=cellLt (h k v hk)
section
variable {P:Program}{ρ:Env}
theorem pre_anew{lk:Bool}{s:Nat}{n c:IE}{fs:List (IE×AV)}{e:TypeId}{i:TypeInfo}{arr:Array Value}{xs rest:List Value}(hx:arr.toList=xs++rest)(hi:P.info? e=some i)(hv:ρ.v s=.agg xs.toArray)(hn:xs.length=(n.ev ρ).toNat*i.size)(hf:∀p∈fs,xs[(p.1.ev ρ).toNat]?=some (p.2.ev ρ))(hc:arr.size=(c.ev ρ).toNat*i.size):
  (ABlk.pre lk s n fs [] [] e c).is P ρ (.cells arr e (0,0)):=
 .inl ⟨arr,rfl,xs.toArray,rest,i,⟨hv,hi,by simpa using hn,fun p hp=>by simpa using hf p hp,fun p hp=>by cases hp⟩,by simpa[wrote,AV.evs] using hx,hc⟩
end
structure VecAt(P:Program)(w:World)(e L:Nat)(xs:List Value)(cap:Nat):Prop where
 ex:∃arr rest i,w.heap[L]?=some (.cells arr e (0,0))∧P.info? e=some i∧arr.toList=xs++rest∧arr.size=cap*i.size
theorem VecAt.arr{P:Program}{w:World}{e L:Nat}{xs:List Value}{cap:Nat}(h:VecAt P w e L xs cap):ArrAt w L 0 xs:=fun k v hk=>by
 obtain⟨arr,rest,i,h1,h2,h3,h4⟩:=h.ex
 rw[cell?_of h1,Nat.zero_add,<-Array.getElem?_toList,h3,List.getElem?_append_left (List.getElem?_eq_some_iff.1 hk).1]
 exact hk
theorem VecAt.lt{P:Program}{w:World}{e L:Nat}{xs:List Value}{cap:Nat}(h:VecAt P w e L xs cap):L<w.heap.size:=by
 obtain⟨arr,rest,i,h1,_⟩:=h.ex
 exact heap_lt h1
theorem VecAt.keep{P:Program}{w w':World}{e L:Nat}{xs:List Value}{cap:Nat}(h:VecAt P w e L xs cap){own:Nat->Prop}(kp:Keeps own w w')(hb:¬own L):VecAt P w' e L xs cap:=by
 obtain⟨arr,rest,i,h1,h2⟩:=h.ex
 exact⟨arr,rest,i,by rw[kp.heap L hb];exact h1,h2⟩
theorem VecAt.is{P:Program}{w:World}{e L:Nat}{xs:List Value}{cap:Nat}(h:VecAt P w e L xs cap){ρ:Env}{lk:Bool}{s:Nat}{n c:IE}{fs:List (IE×AV)}(hv:ρ.v s=.agg xs.toArray)(hn:∀i,P.info? e=some i->xs.length=(n.ev ρ).toNat*i.size)(hf:∀p∈fs,xs[(p.1.ev ρ).toNat]?=some (p.2.ev ρ))(hc:(c.ev ρ).toNat=cap):
  ∃o,w.heap[L]?=some o∧(ABlk.pre lk s n fs [] [] e c).is P ρ o:=by
 obtain⟨arr,rest,i,h1,h2,h3,h4⟩:=h.ex
 exact⟨_,h1,pre_anew h3 h2 hv (hn i h2) hf (by rw[hc];exact h4)⟩
end Go.Proofs.Ytmobbajggkjpgaa.SX
namespace Go.Proofs.Ytmobbajggkjpgaa.SX
noncomputable section
mutual
def AV.noq(y:Nat):AV->Bool
 |.opq i=>!(Nat.beq i y)
 |.func _ x z=>AV.noqs y x&&AV.noqs y z
 |.iface _ v=>v.noq y
 |.agg x=>AV.noqs y x
 |.tuple x=>AV.noqs y x
 |.bool _=>true
 |.int _ _=>true
 |.str _=>true
 |.ptr _=>true
 |.slice _ _ _=>true
 |.map _=>true
 |.chan _=>true
 |.nilFunc=>true
 |.nilIface=>true
 |.raw _=>true
 |.ss _=>true
def AV.noqs(y:Nat):List AV->Bool
 |[]=>true
 |a::l=>a.noq y&&AV.noqs y l
end
def TT.noq(y:Nat):TT->Bool
 |.leaf=>true
 |.node v l r=>v.noq y&&l.noq y&&r.noq y
def ABlk.noq(y:Nat):ABlk->Bool
 |.cells cs _=>AV.noqs y cs
 |.row cs _ _=>AV.noqs y cs
 |.lent cs _ _=>AV.noqs y cs
 |.map es=>es.all fun p=>p.1.noq y&&p.2.noq y
 |.chan=>true
 |.vmap _ _ _ _=>false
 |.pre _ s _ fs ws cs _ _=>!(Nat.beq s y)&&fs.all (fun p=>p.2.noq y)&&ws.all (fun p=>p.2.noq y)&&AV.noqs y cs
def hpNoq(y:Nat):List (Nat×ABlk)->Bool
 |[]=>true
 |p::l=>p.2.noq y&&hpNoq y l
def Orc.noq(y:Nat)(O:Orc):Bool:=O.mem.all fun p=>p.2.noq y
end
end Go.Proofs.Ytmobbajggkjpgaa.SX
namespace Go.Proofs.Ytmobbajggkjpgaa.SX
open Go.Conc
section
def Env.set(ρ:Env)(y:Nat)(v:Value)(bt:Option Nat×List Deferred):Env:={ρ with v:=fun n=>if n=y then v else ρ.v n,bt:=bt}
section
variable {ρ:Env}{y:Nat}{v:Value}{bt:Option Nat×List Deferred}
theorem SE.ev_set:∀(e:SE),e.ev (ρ.set y v bt)=e.ev ρ:=by
 intro e
 induction e with
 |lit t=>rfl
 |var i=>rfl
 |cat a b iha ihb=>simp only[SE.ev,iha,ihb]
theorem IE.ev_set:∀(e:IE),e.ev (ρ.set y v bt)=e.ev ρ:=by
 intro e
 induction e with
 |lit n=>rfl
 |var i=>rfl
 |op o k a b iha ihb=>simp only[IE.ev,iha,ihb]
 |conv k a ih=>simp only[IE.ev,ih]
 |plus a b iha ihb=>simp only[IE.ev,iha,ihb]
 |times a b iha ihb=>simp only[IE.ev,iha,ihb]
 |tn a ih=>simp only[IE.ev,ih]
 |slen a=>simp only[IE.ev,SE.ev_set]
theorem BE.ev_set(e:BE):e.ev (ρ.set y v bt)=e.ev ρ:=by
 cases e<;>simp only[BE.ev,IE.ev_set,SE.ev_set]<;>rfl
theorem BR.ev_set(e:BR):e.ev (ρ.set y v bt)=e.ev ρ:=by cases e<;>rfl
theorem AA.ev_set(a:AA):a.ev (ρ.set y v bt)=a.ev ρ:=by simp only[AA.ev,BR.ev_set,IE.ev_set]
theorem opt_set{α β:Type}{g h:α->β}(e:∀a,g a=h a)(o:Option α):o.map g=o.map h:=by cases o<;>simp[e]
mutual
theorem AV.ev_set:∀(a:AV),(v=ρ.v y∨a.noq y=true)->a.ev (ρ.set y v bt)=a.ev ρ
 |.bool b,_=>by simp only[AV.ev,BE.ev_set]
 |.int k e,_=>by simp only[AV.ev,IE.ev_set]
 |.str t,_=>rfl
 |.ptr a,_=>by simp only[AV.ev];rw[opt_set AA.ev_set]
 |.slice a l c,_=>by simp only[AV.ev,IE.ev_set];rw[opt_set AA.ev_set]
 |.map r,_=>by simp only[AV.ev];rw[opt_set BR.ev_set]
 |.chan r,_=>by simp only[AV.ev];rw[opt_set BR.ev_set]
 |.func f x z,h=>by
  have h1:v=ρ.v y∨AV.noqs y x=true:=h.imp id fun h=>by simp only[AV.noq,Bool.and_eq_true]at h;exact h.1
  have h2:v=ρ.v y∨AV.noqs y z=true:=h.imp id fun h=>by simp only[AV.noq,Bool.and_eq_true]at h;exact h.2
  simp only[AV.ev,AV.evs_set x h1,AV.evs_set z h2]
 |.nilFunc,_=>rfl
 |.iface t a,h=>by simp only[AV.ev,AV.ev_set a (h.imp id fun h=>by simp only[AV.noq]at h;exact h)]
 |.nilIface,_=>rfl
 |.agg x,h=>by simp only[AV.ev,AV.evs_set x (h.imp id fun h=>by simp only[AV.noq]at h;exact h)]
 |.tuple x,h=>by simp only[AV.ev,AV.evs_set x (h.imp id fun h=>by simp only[AV.noq]at h;exact h)]
 |.opq i,h=>by
  simp only[AV.ev]
  show(if i=y then v else ρ.v i)=ρ.v i
  split
  ·rename_i e
   rcases h with h|h
   ·rw[h,e]
   ·simp only[AV.noq,Bool.not_eq_true']at h
    rw[e]at h
    simp at h
  ·rfl
 |.raw u,_=>rfl
 |.ss e,_=>by simp only[AV.ev,SE.ev_set]
theorem AV.evs_set:∀(l:List AV),(v=ρ.v y∨AV.noqs y l=true)->AV.evs (ρ.set y v bt) l=AV.evs ρ l
 |[],_=>rfl
 |a::l,h=>by
  have h1:v=ρ.v y∨a.noq y=true:=h.imp id fun h=>by simp only[AV.noqs,Bool.and_eq_true]at h;exact h.1
  have h2:v=ρ.v y∨AV.noqs y l=true:=h.imp id fun h=>by simp only[AV.noqs,Bool.and_eq_true]at h;exact h.2
  simp only[AV.evs,AV.ev_set a h1,AV.evs_set l h2]
end
theorem TT.get_noq:∀{t:TT},t.noq y=true->∀n,(t.get n).noq y=true:=by
 intro t
 induction t with
 |leaf=>intro _ n;rfl
 |node a l r ihl ihr=>
  intro h n
  simp only[TT.noq,Bool.and_eq_true]at h
  cases n with
  |zero=>exact h.1.1
  |succ m=>
   rw[TT.get_node_succ]
   split
   ·exact ihr h.2 _
   ·exact ihl h.1.2 _
theorem TmpR.set{nt:Nat}{t:TT}{tm:Array Value}(h:TmpR ρ nt t tm)(hn:v=ρ.v y∨t.noq y=true):TmpR (ρ.set y v bt) nt t tm:=
 ⟨h.size,h.le,fun n hl=>by rw[h.get n hl,AV.ev_set _ (hn.imp id fun hn=>TT.get_noq hn n)],h.out⟩
theorem is_set{P:Program}{b:ABlk}{o:Obj}(hb:v=ρ.v y∨b.noq y=true)(h:b.is P ρ o):b.is P (ρ.set y v bt) o:=by
 rcases h with⟨arr,e,hf⟩|h
 ·refine .inl ⟨arr,e,?_⟩
  cases b with
  |cells cs e=>simp only[ABlk.fits]at hf⊢;rw[AV.evs_set cs hb];exact hf
  |lent cs e l=>simp only[ABlk.fits]at hf⊢;rw[AV.evs_set cs hb];exact hf
  |row cs e c=>simp only[ABlk.fits]at hf⊢;rw[AV.evs_set cs hb,IE.ev_set];exact hf
  |map es=>exact hf.elim
  |chan=>exact hf.elim
  |vmap s n fs ws=>exact hf.elim
  |pre lk s n fs ws cs e c=>
   obtain⟨pre,rest,i,h1,h2,h3⟩:=hf
   have hb':v=ρ.v y∨(s≠y∧(∀p∈fs,p.2.noq y=true)∧(∀p∈ws,p.2.noq y=true)∧AV.noqs y cs=true):=hb.imp id fun hb=>by
    simp only[ABlk.noq,Bool.and_eq_true]at hb
    obtain⟨⟨⟨b1,b2⟩,b3⟩,b4⟩:=hb
    exact⟨fun e=>by subst e;simp at b1,fun p hp=>List.all_eq_true.1 b2 p hp,fun p hp=>List.all_eq_true.1 b3 p hp,b4⟩
   refine⟨pre,rest,i,⟨?_,h1.info,by rw[IE.ev_set];exact h1.size,fun p hp=>by rw[IE.ev_set,AV.ev_set _ (hb'.imp id fun h=>h.2.1 p hp)];exact h1.fs p hp,fun p hp=>by rw[IE.ev_set];exact h1.ws p hp⟩,?_,by rw[IE.ev_set];exact h3⟩
   ·rw[<-h1.val]
    show(if s=y then v else ρ.v s)=ρ.v s
    split
    ·rename_i e
     subst e
     rcases hb' with h|h
     ·exact h
     ·exact absurd rfl h.1
    ·rfl
   ·rw[AV.evs_set cs (hb'.imp id fun h=>h.2.2.2),h2]
    congr 1
    have:∀{l:List (IE×AV)},(v=ρ.v y∨∀p∈l,p.2.noq y=true)->wrote (ρ.set y v bt) pre.toList l=wrote ρ pre.toList l:=by
     intro l
     induction l with
     |nil=>intro _;rfl
     |cons p l ih=>
      intro hl
      show(wrote _ _ l).set _ _=(wrote _ _ l).set _ _
      rw[ih (hl.imp id fun h q hq=>h q (List.mem_cons_of_mem _ hq)),IE.ev_set,AV.ev_set _ (hl.imp id fun h=>h p (List.mem_cons_self ..))]
    exact(this (hb'.imp id fun h=>h.2.2.1)).symm
 ·refine .inr ?_
  cases b with
  |map es=>
   obtain⟨arr,clk,h1,h2⟩:=h
   refine⟨arr,clk,h1,h2.trans (List.map_congr_left fun p hp=>?_)⟩
   have hx:v=ρ.v y∨(p.1.noq y=true∧p.2.noq y=true):=hb.imp id fun hb=>by
    have:=List.all_eq_true.1 hb p hp
    simpa using this
   rw[AV.ev_set p.1 (hx.imp id And.left),AV.ev_set p.2 (hx.imp id And.right)]
  |chan=>exact h
  |vmap s n fs ws=>
   rcases hb with hv|hb
   rotate_left
   ·cases hb
   have hs:(ρ.set y v bt).v=ρ.v:=by
    funext k
    show(if k=y then v else ρ.v k)=ρ.v k
    split
    ·rename_i e;rw[e];exact hv
    ·rfl
   obtain⟨arr,clk,E,h1,h2,h3,h4,h5⟩:=h
   refine⟨arr,clk,E,h1,by rw[hs];exact h2,by rw[IE.ev_set];exact h3,h4.trans ?_,fun p hp=>?_⟩
   ·congr 1
    refine List.map_congr_left fun p hp=>?_
    rw[AV.ev_set p.1 (.inl hv),AV.ev_set p.2 (.inl hv)]
   ·have hK:=h5 p hp
    obtain⟨a,r⟩:=p
    unfold KeyIs at hK⊢
    have ea:a.ev (ρ.set y v bt)=a.ev ρ:=AA.ev_set a
    cases r with
    |none=>
     rw[ea]
     exact hK
    |some u=>
     dsimp only at hK⊢
     rw[ea,AV.ev_set u (.inl hv)]
     exact hK
  |_=>exact h.elim
theorem hpNoq_find:∀{l:List (Nat×ABlk)},hpNoq y l=true->∀{i:Nat} {b:ABlk},findB i l=some b->b.noq y=true
 |[],_,i,b,h=>by cases h
 |p::l,hn,i,b,h=>by
  simp only[hpNoq,Bool.and_eq_true]at hn
  rw[find_cons]at h
  cases e:Nat.beq i p.1 with
  |true=>rw[e]at h;have h':some p.2=some b:=h;cases h';exact hn.1
  |false=>rw[e]at h;exact hpNoq_find hn.2 h
theorem lentAt_set{P:Program}{b:ABlk}{n:Nat}(h:b.lentAt P ρ n):b.lentAt P (ρ.set y v bt) n:=by
 cases b with
 |pre lk s m fs ws cs e c=>simp only[ABlk.lentAt,IE.ev_set];exact h
 |_=>exact h
theorem Rel.set{K:Ctx}{h:AH}{w:World}(R:Rel K ρ h w)(hn:v=ρ.v y∨(hpNoq y h.hp=true∧K.O.noq y=true)):Rel K (ρ.set y v bt) h w:=
 ⟨fun i b hb=>by
  obtain⟨o,h1,h2⟩:=R.blk i b hb
  exact⟨o,h1,is_set (hn.imp id fun hn=>hpNoq_find hn.1 hb) h2⟩,R.own',R.inj,fun p hp=>by rw[BE.ev_set];exact R.bs p hp,fun p hp=>by rw[IE.ev_set,IE.ev_set];exact R.is p hp,fun p hp=>by
  rw[AA.ev_set,AV.ev_set p.2 (hn.imp id fun hn=>List.all_eq_true.1 hn.2 p hp)];exact R.mem p hp,R.room,fun i b hb n hs=>lentAt_set (R.lent i b hb n hs),R.low⟩
end
def Ctx.less(K:Ctx)(D l:Nat):Ctx:={K with own:=fun n=>K.own n∧n≠D∧n≠l}
section
variable {K:Ctx}{D l:Nat}
theorem less_D{w w':World}(h:Keeps (K.less D l).own w w'):w'.heap[D]?=w.heap[D]?:=h.heap D fun x=>x.2.1 rfl
theorem less_l{w w':World}(h:Keeps (K.less D l).own w w'):w'.heap[l]?=w.heap[l]?:=h.heap l fun x=>x.2.2 rfl
structure Lp(w:World)(D l:Nat)(r:Loop):Prop where
 loop:w.heap[l]?=some (.loop r)
 dfr:w.heap[D]?=some (.deferred (some []))
theorem Lp.kept{w w':World}{r:Loop}(h:Lp w D l r)(k:Keeps (K.less D l).own w w'):Lp w' D l r:=⟨by rw[less_l k];exact h.loop,by rw[less_D k];exact h.dfr⟩
theorem Lp.drawn{w:World}{r:Loop}(h:Lp w D l r)(d:Nat):Lp (drawnAt w d) D l r:=⟨h.1,h.2⟩
end
section
variable {K:Ctx}{main:Bool}{ext:Ext}{call:FuncId->List AV->AH->M (AE×AH)}
variable {D l:Nat}{cs:List Frame}
theorem Ids.less{U:Nat->Prop}{h:AH}(I:Ids K U h):Ids (K.less D l) U h:=⟨I.hp,I.keys,I.nodup,I.fresh,I.orc⟩
theorem Rel.less{ρ:Env}{h:AH}{w w':World}(R:Rel K ρ h w)(R':Rel K ρ h w')(hD:w.heap.size≤D)(hl:w.heap.size≤l)(hD':D<w'.heap.size)(hl':l<w'.heap.size):Rel (K.less D l) ρ h w':=by
 have hne:∀i b,findB i h.hp=some b->ρ.b i≠D∧ρ.b i≠l:=fun i b hb=>by
  obtain⟨o,h1,_⟩:=R.blk i b hb
  have:=heap_lt h1
  omega
 exact⟨R'.blk,fun i b hb=>(R'.own' i b hb).imp (fun x=>⟨x,hne i b hb⟩) id,R'.inj,R'.bs,R'.is,fun p hp=>⟨fun x=>(R'.mem p hp).1 x.1,(R'.mem p hp).2⟩,fun n hn=>⟨R'.room n hn,by omega,by omega⟩,R'.lent,R'.low⟩
end
end
noncomputable def frSeen(fr:AFrame)(live:List Nat):Seen:=⟨fr.fn,fr.nt,fr.todo,fr.defers,fr.mode,fr.kind,[],[],live.map fun n=>fr.tmps.get n⟩
noncomputable def seeF(r:M ACfg)(live:List Nat)(lives:FuncId->List Nat):Option (Seen×List Seen):=
 match r with
 |.ok ⟨cur,callers,h⟩=>some (seenOf ⟨cur,[],h⟩ live,callers.map fun fr=>frSeen fr (lives fr.fn))
 |.error _=>none
noncomputable def Seen.under(V:Seen)(cl:List AFrame):Seen:=⟨V.fn,V.nt,V.todo,V.defers,V.mode,V.kind,cl,V.hp,V.vals⟩
theorem seeF_ok{r:M ACfg}{live:List Nat}{lives:FuncId->List Nat}{V:Seen}{Vs:List Seen}(h:seeF r live lives=some (V,Vs)):∃cl,see r live=some (V.under cl)∧cl.map (fun fr=>frSeen fr (lives fr.fn))=Vs:=by
 cases r with
 |error e=>cases h
 |ok c=>
  obtain⟨cur,cl,hh⟩:=c
  have h':(seenOf ⟨cur,[],hh⟩ live,cl.map fun fr=>frSeen fr (lives fr.fn))=(V,Vs):=Option.some.inj h
  obtain⟨h1,h2⟩:=Prod.mk.inj h'
  subst h1
  exact⟨cl,rfl,h2⟩
end Go.Proofs.Ytmobbajggkjpgaa.SX
namespace Go.Proofs.Ytmobbajggkjpgaa.SX
open Go.Conc
open Go.ConcN (upd upd_ne upd_same)
structure SeatOk(base:Nat)(s:Tok.Seat):Prop where
 ge:base≤s.c
 cell:∀l,s.still l->∃b n,l=.cell ⟨b,n,none⟩
 stable:∀w w':World,(∀b n v,s.still (.cell ⟨b,n,none⟩)->w.cell? ⟨b,n,none⟩=some v->w'.cell? ⟨b,n,none⟩=some v)->s.keep w->s.keep w'
 held:∀w b n,s.keep w->s.still (.cell ⟨b,n,none⟩)->∃v,w.cell? ⟨b,n,none⟩=some v
def chanOf(Inb:Nat->Option Tok.Seat)(b:Nat):Prop:=∃i t,Inb i=some t∧t.c=b
def stillI(Inb:Nat->Option Tok.Seat)(b n:Nat):Prop:=∃i t,Inb i=some t∧t.still (.cell ⟨b,n,none⟩)
def SK(P:Program)(base:Nat)(Inb:Nat->Option Tok.Seat):Ctx:=⟨P,{},fun n=>base≤n∧¬chanOf Inb n,crewEv (fun a=>stillI Inb a.block a.off),False,stillI Inb⟩
def ChanAt(w:World)(b:Nat):Prop:=∃k,w.heap[b]?=some (.chan 0 #[] false k k false)
theorem ChanAt.keep{w w':World}{b:Nat}(h:ChanAt w b){own:Nat->Prop}(kp:Keeps own w w')(hb:¬own b):ChanAt w' b:=by
 obtain⟨k,hk⟩:=h
 exact⟨k,by rw[kp.heap b hb];exact hk⟩
theorem ChanAt.lt{w:World}{b:Nat}(h:ChanAt w b):b<w.heap.size:=by
 obtain⟨k,hk⟩:=h
 exact heap_lt hk
section
variable {P:Program}{base:Nat}{W0:World}{Inb:Nat->Option Tok.Seat}{h N:Nat}{m:Machine}{T:Trace}{a:Goroutine}{w:World}
structure SAt(P:Program)(base:Nat)(W0:World)(Inb:Nat->Option Tok.Seat)(h N:Nat)(m:Machine)(T:Trace)(a:Goroutine)(w:World):Prop where
 ex:∃gs sl q,m=crowd gs w sl∧gs.size=N∧gs[h]?=some a∧Tok.Core P Inb h 0 T gs w q
 ok:∀i t,Inb i=some t->SeatOk base t
 keeps:Keeps (fun n=>base≤n) W0 w
 size:base≤w.heap.size
theorem SAt.new(A:SAt P base W0 Inb h N m T a w)(n:Nat)(hn:w.heap.size≤n):(SK P base Inb).own n:=by
 obtain⟨gs,sl,q,_,_,_,C⟩:=A.ex
 refine⟨Nat.le_trans A.size hn,fun⟨i,t,e,ec⟩=>?_⟩
 obtain⟨k,hk⟩:=C.chans i t e
 have:=heap_lt hk
 omega
theorem SAt.low(A:SAt P base W0 Inb h N m T a w)(b n:Nat)(hs:(SK P base Inb).still b n):b<w.heap.size:=by
 obtain⟨gs,sl,q,_,_,_,C⟩:=A.ex
 obtain⟨i,t,e,hl⟩:=hs
 obtain⟨v,hv⟩:=(A.ok i t e).held w b n (C.keep i t e) hl
 exact cellLt hv
theorem SAt.chan(A:SAt P base W0 Inb h N m T a w){i:Nat}{t:Tok.Seat}(e:Inb i=some t):ChanAt w t.c:=by
 obtain⟨gs,sl,q,_,_,_,C⟩:=A.ex
 exact C.chans i t e
theorem SAt.keep(A:SAt P base W0 Inb h N m T a w){i:Nat}{t:Tok.Seat}(e:Inb i=some t):t.keep w:=by
 obtain⟨gs,sl,q,_,_,_,C⟩:=A.ex
 exact C.keep i t e
theorem SAt.lt(A:SAt P base W0 Inb h N m T a w){i:Nat}{t:Tok.Seat}(e:Inb i=some t):i<N:=by
 obtain⟨gs,sl,q,_,hsz,_,C⟩:=A.ex
 rcases Nat.lt_or_ge i gs.size with hi|hi
 ·omega
 ·rw[(C.above i hi).2]at e;cases e
theorem SAt.hlt(A:SAt P base W0 Inb h N m T a w):h<N:=by
 obtain⟨gs,sl,q,_,hsz,ha,C⟩:=A.ex
 have:=(Array.getElem?_eq_some_iff.1 ha).1
 omega
theorem SAt.free(A:SAt P base W0 Inb h N m T a w):Inb h=none:=by
 obtain⟨gs,sl,q,_,_,_,C⟩:=A.ex
 exact C.free
theorem SAt.inj(A:SAt P base W0 Inb h N m T a w){i i':Nat}{t t':Tok.Seat}(e:Inb i=some t)(e':Inb i'=some t')(ec:t.c=t'.c):i=i':=by
 obtain⟨gs,sl,q,_,_,_,C⟩:=A.ex
 exact C.inj i i' t t' e e' ec
def Gets(P:Program)(m:Machine)(T:Trace)(Φ:Machine->Trace->Prop):Prop:=∃M m' T',runNT P M m T=(.next m',T')∧Φ m' T'
theorem Gets.refl{Φ:Machine->Trace->Prop}(h:Φ m T):Gets P m T Φ:=⟨0,m,T,rfl,h⟩
theorem Gets.trans{Φ Ψ:Machine->Trace->Prop}(h:Gets P m T Φ)(k:∀m' T',Φ m' T'->Gets P m' T' Ψ):Gets P m T Ψ:=by
 obtain⟨M,m1,T1,h1,hp⟩:=h
 obtain⟨M2,m2,T2,h2,hq⟩:=k m1 T1 hp
 exact⟨M+M2,m2,T2,runNT_then h1 h2,hq⟩
theorem Gets.mono{Φ Ψ:Machine->Trace->Prop}(h:Gets P m T Φ)(k:∀m' T',Φ m' T'->Ψ m' T'):Gets P m T Ψ:=by
 obtain⟨M,m1,T1,h1,hp⟩:=h
 exact⟨M,m1,T1,h1,k m1 T1 hp⟩
end
end Go.Proofs.Ytmobbajggkjpgaa.SX
namespace Go.Proofs.Ytmobbajggkjpgaa.SX
open Go.Conc
def ObjAt(w:World)(b:Nat)(cs:List Value)(e:TypeId):Prop:=∃arr,w.heap[b]?=some (.cells arr e (0,0))∧arr.toList=cs
def Ty(w:World)(b:Nat)(e:TypeId):Prop:=∃arr f,w.heap[b]?=some (.cells arr e f)
section
variable {w w':World}{b b':Nat}{cs cs':List Value}{e e':TypeId}{own:Nat->Prop}
theorem ObjAt.keep(h:ObjAt w b cs e)(kp:Keeps own w w')(hb:¬own b):ObjAt w' b cs e:=by
 obtain⟨arr,h1,h2⟩:=h
 exact⟨arr,by rw[kp.heap b hb];exact h1,h2⟩
theorem Ty.keep(h:Ty w b e)(kp:Keeps own w w')(hb:¬own b):Ty w' b e:=by
 obtain⟨arr,f,h1⟩:=h
 exact⟨arr,f,by rw[kp.heap b hb];exact h1⟩
theorem ObjAt.ty(h:ObjAt w b cs e):Ty w b e:=by
 obtain⟨arr,h1,_⟩:=h
 exact⟨arr,_,h1⟩
theorem ObjAt.lt(h:ObjAt w b cs e):b<w.heap.size:=by
 obtain⟨arr,h1,_⟩:=h
 exact heap_lt h1
theorem Ty.lt(h:Ty w b e):b<w.heap.size:=by
 obtain⟨arr,f,h1⟩:=h
 exact heap_lt h1
theorem Ty.ne(h:Ty w b e)(h':Ty w b' e')(hn:e≠e'):b≠b':=by
 rintro rfl
 obtain⟨arr,f,h1⟩:=h
 obtain⟨arr',f',h2⟩:=h'
 rw[h1]at h2
 cases h2
 exact hn rfl
theorem Ty.noChan(h:Ty w b e)(h':ChanAt w b'):b≠b':=by
 rintro rfl
 obtain⟨arr,f,h1⟩:=h
 obtain⟨k,h2⟩:=h'
 rw[h1]at h2
 cases h2
theorem ObjAt.cell(h:ObjAt w b cs e){n:Nat}{v:Value}(hn:cs[n]?=some v):w.cell? ⟨b,n,none⟩=some v:=by
 obtain⟨arr,h1,h2⟩:=h
 rw[cell?_of h1,<-Array.getElem?_toList,h2]
 exact hn
theorem VecAt.ty{P:Program}{xs:List Value}{c:Nat}(h:VecAt P w e b xs c):Ty w b e:=by
 obtain⟨arr,rest,i,h1,_⟩:=h.ex
 exact⟨arr,_,h1⟩
theorem ObjAt.is{P:Program}{ρ:Env}{l:List AV}(h:ObjAt w b (AV.evs ρ l) e):∃o,w.heap[b]?=some o∧(ABlk.cells l e).is P ρ o:=by
 obtain⟨arr,h1,h2⟩:=h
 exact⟨_,h1,.inl ⟨arr,rfl,h2⟩⟩
theorem ObjAt.isLent{P:Program}{ρ:Env}{l:List AV}{ls:List Nat}(h:ObjAt w b (AV.evs ρ l) e):∃o,w.heap[b]?=some o∧(ABlk.lent l e ls).is P ρ o:=by
 obtain⟨arr,h1,h2⟩:=h
 exact⟨_,h1,.inl ⟨arr,rfl,h2⟩⟩
end
section
variable {P:Program}{base:Nat}{W0:World}{N:Nat}{m:Machine}{T:Trace}{a:Goroutine}{w:World}
theorem SAt.finish{Inb:Nat->Option Tok.Seat}(hnone:∀i,Inb i=none)(A:SAt P base W0 Inb 0 N m T a w){f:FuncId}(hE:∃ρ,EndsAs (SK P base Inb) f ρ (.returned (.bool (.lit true))) [] a w)(hone:oneTmp P f=true):
  ∃K last o w3 t3,runNT P (K+1) m T=(.ended o w3,t3)∧runN P K m=.next last∧step P last=.ended o w3∧Conc.Good P (fun v W'=>v=.bool true∧Keeps (fun n=>base≤n) W0 W') last o w3 t3:=by
 obtain⟨gs,sl,q,rfl,hsz,ha,C⟩:=A.ex
 obtain⟨ρ,fr',fn',rfl,hb,hd,hf,hmode,hkind,hq⟩:=hE
 obtain⟨hL,B,hP⟩:=Tok.over C hnone
 have hAll:∀d,stepG P true (G fr' []) (w.at d)=.ended (.done (.bool true)) (w.at d) #[]:=by
  intro d
  have hb':fr'.fn=f:=hb
  unfold oneTmp at hone
  have hf':P.funcs[fr'.fn]?=some fn':=hf
  rw[<-hb']at hone
  rw[hf']at hone
  dsimp only at hone
  split at hone
  ·rename_i tt ht
   have hres:fn'.results=#[.tmp tt]:=by apply Array.toList_inj.1;exact ht
   have hq':=hq d (Q:=fun x w2=>x=.bool true∧w2=drawnAt w d) ⟨rfl,rfl⟩
   rw[results_tmp hres]at hq'
   have hv:fr'.tmps.getD tt undef=.bool true:=((wq_pure _).1 hq').1
   have hi:P.inits.idxOf? fr'.fn=none:=by simpa using hone
   simp[G,stepG,unwind,doReturn,hmode,hd,hf',results_tmp hres,hkind,GStep.after,hv,hi,seen_none]
  ·cases hone
 have hgo:Goes P true AtRel (fun _ _ _=>False) (AtEnd P (fun _=>False) B (fun v W'=>v=.bool true∧Keeps (fun n=>base≤n) W0 W')) 0 (G fr' []) w:=by
  intro w₁ hw
  obtain⟨d,rfl⟩:=hw
  exact⟨rfl,_,_,hAll d,(by simp),rfl,A.keeps.trans ⟨fun _ _=>rfl,Nat.le_refl _,rfl,rfl,rfl⟩⟩
 obtain⟨K,last,o,w3,t3,b1,b2,b3,b4⟩:=beside_ends (D:=fun _ _ _=>False) (fun _ _ _ h=>h.elim) (sl:=sl) ha hL hP hgo
 exact⟨K,last,o,w3,t3,b1,b2,b3,b4⟩
theorem SAt.start(P:Program)(a:Goroutine)(W:World)(C0:Tok.Core P (fun _=>none) 0 0 #[] #[a] W (fun _=>0)):SAt P W.heap.size W (fun _=>none) 0 1 (crowd #[a] W none) #[] a W:=
 ⟨⟨_,none,_,rfl,rfl,rfl,C0⟩,fun i t e=>(by cases e),Keeps.refl _ _,Nat.le_refl _⟩
end
def MapIs(w:World)(b:Nat)(es:List (Value×Value)):Prop:=∃arr clk,w.heap[b]?=some (.map arr clk)∧arr.toList.map (fun e=>(e.key,e.val))=es
section
variable {w w':World}{b b':Nat}{es:List (Value×Value)}{own:Nat->Prop}
theorem MapIs.keep(h:MapIs w b es)(kp:Keeps own w w')(hb:¬own b):MapIs w' b es:=by
 obtain⟨arr,clk,h1,h2⟩:=h
 exact⟨arr,clk,by rw[kp.heap b hb];exact h1,h2⟩
theorem MapIs.lt(h:MapIs w b es):b<w.heap.size:=by
 obtain⟨arr,clk,h1,h2⟩:=h
 exact heap_lt h1
end
inductive Blk where
 |obj(e:TypeId)(cs:List Value)
 |vec(e:TypeId)(cap:Nat)(xs:List Value)
 |map(es:List (Value×Value))
 |chan
def Blk.at(P:Program)(w:World)(b:Nat):Blk->Prop
 |.obj e cs=>ObjAt w b cs e
 |.vec e cap xs=>VecAt P w e b xs cap
 |.map es=>MapIs w b es
 |.chan=>ChanAt w b
def Blk.cell:Blk->Nat->Option Value
 |.obj _ cs,n=>cs[n]?
 |.vec _ _ xs,n=>xs[n]?
 |_,_=>none
def Blk.isChan:Blk->Bool
 |.chan=>true
 |_=>false
section
variable {P:Program}{w w':World}{b:Nat}{k:Blk}{own:Nat->Prop}
theorem Blk.at_keep(h:k.at P w b)(kp:Keeps own w w')(hb:¬own b):k.at P w' b:=by
 cases k with
 |obj e cs=>exact ObjAt.keep h kp hb
 |vec e cap xs=>exact VecAt.keep h kp hb
 |map es=>exact MapIs.keep h kp hb
 |chan=>exact ChanAt.keep h kp hb
theorem Blk.at_lt(h:k.at P w b):b<w.heap.size:=by
 cases k with
 |obj e cs=>exact ObjAt.lt h
 |vec e cap xs=>exact VecAt.lt h
 |map es=>exact MapIs.lt h
 |chan=>exact ChanAt.lt h
theorem Blk.at_cell(h:k.at P w b){n:Nat}{v:Value}(hn:k.cell n=some v):w.cell? ⟨b,n,none⟩=some v:=by
 cases k with
 |obj e cs=>exact ObjAt.cell h hn
 |vec e cap xs=>
  have:=VecAt.arr h n v hn
  rwa[Nat.zero_add]at this
 |map es=>cases hn
 |chan=>cases hn
theorem Blk.noChan(h:k.at P w b)(hk:k.isChan=false)(hc:ChanAt w b):False:=by
 cases k with
 |obj e cs=>exact(ObjAt.ty h).noChan hc rfl
 |vec e cap xs=>exact(VecAt.ty h).noChan hc rfl
 |map es=>
  obtain⟨arr,clk,h1,_⟩:=h
  obtain⟨n,h2⟩:=hc
  rw[h1]at h2;cases h2
 |chan=>cases hk
theorem Blk.at_set(h:k.at P w b){d c n m:Nat}(hc:w.heap[c]?=some (.chan 0 #[] false n n false)):k.at P ((w.at d).setChan c 0 #[] false m m false) b:=by
 by_cases e:b=c
 ·subst e
  cases hk:k.isChan with
  |false=>exact(Blk.noChan h hk ⟨n,hc⟩).elim
  |true=>
   cases k with
   |chan=>exact⟨m,heap_setChan_self (w.at d) (c:=b) hc _ _ _ _ _ _⟩
   |_=>cases hk
 ·exact Blk.at_keep (own:=fun b=>b=c) h ⟨fun n hn=>heap_setChan_ne (w.at d) _ _ _ _ _ _ (fun e=>hn e.symm),by rw[Go.Proofs.Ytmobbajggkjpgaa.SX.size_setChan];exact Nat.le_refl _,rfl,rfl,rfl⟩ e
end
def AbsIs(P:Program)(ρ:Env):ABlk->Blk->Prop
 |.cells l e,.obj e' cs=>e=e'∧AV.evs ρ l=cs
 |.lent l e _,.obj e' cs=>e=e'∧AV.evs ρ l=cs
 |.pre _ s n fs [] [] e c,.vec e' cap xs=>e=e'∧ρ.v s=.agg xs.toArray∧(∀i,P.info? e=some i->xs.length=(n.ev ρ).toNat*i.size)∧(∀p∈fs,xs[(p.1.ev ρ).toNat]?=some (p.2.ev ρ))∧(c.ev ρ).toNat=cap
 |.map l,.map es=>es=l.map fun p=>(p.1.ev ρ,p.2.ev ρ)
 |.vmap s n fs ws,.map es=>∃E,ρ.v s=encE E∧E.length=(n.ev ρ).toNat∧es=E++ws.map (fun p=>(p.1.ev ρ,p.2.ev ρ))∧∀p∈fs,KeyIs ρ E p.1 p.2
 |_,_=>False
theorem abs_is{P:Program}{w:World}{b:Nat}{k:Blk}{ρ:Env}{a:ABlk}(h:k.at P w b)(ha:AbsIs P ρ a k):∃o,w.heap[b]?=some o∧a.is P ρ o:=by
 unfold AbsIs at ha
 split at ha
 ·obtain⟨rfl,rfl⟩:=ha
  exact ObjAt.is h
 ·obtain⟨rfl,rfl⟩:=ha
  exact ObjAt.isLent h
 ·obtain⟨rfl,h1,h2,h3,h4⟩:=ha
  exact VecAt.is h h1 h2 h3 h4
 ·subst ha
  obtain⟨arr,clk,h1,h2⟩:=h
  exact⟨_,h1,.inr ⟨arr,clk,rfl,h2⟩⟩
 ·obtain⟨E,h1,h2,rfl,h4⟩:=ha
  obtain⟨arr,clk,h5,h6⟩:=h
  exact⟨_,h5,.inr ⟨arr,clk,E,rfl,h1,h2,h6,h4⟩⟩
 ·exact ha.elim
def listV:Value->List Value
 |.agg a=>a.toList
 |_=>[]
def decE(v:Value):List (Value×Value):=(listV v).map fun p=>((listV p).getD 0 undef,(listV p).getD 1 undef)
theorem decE_enc(E:List (Value×Value)):decE (encE E)=E:=by
 unfold decE encE listV
 simp only[List.map_map]
 conv=>rhs;rw[<-List.map_id E]
 refine List.map_congr_left fun p hp=>?_
 rfl
def blkOf(ρ:Env):ABlk->Blk
 |.cells l e=>.obj e (AV.evs ρ l)
 |.lent l e _=>.obj e (AV.evs ρ l)
 |.row l e c=>.vec e (c.ev ρ).toNat (AV.evs ρ l)
 |.pre _ s _ _ ws cs e c=>.vec e (c.ev ρ).toNat (wrote ρ (listV (ρ.v s)) ws++AV.evs ρ cs)
 |.map l=>.map (l.map fun p=>(p.1.ev ρ,p.2.ev ρ))
 |.vmap s _ _ ws=>.map (decE (ρ.v s)++ws.map fun p=>(p.1.ev ρ,p.2.ev ρ))
 |.chan=>.chan
theorem is_blk{P:Program}{w:World}{b:Nat}{ρ:Env}{a:ABlk}{o:Obj}(ho:w.heap[b]?=some o)(h:a.is P ρ o):(blkOf ρ a).at P w b:=by
 rcases h with⟨arr,rfl,hf⟩|h
 ·cases a with
  |cells l e=>exact⟨arr,ho,hf⟩
  |lent l e ls=>exact⟨arr,ho,hf⟩
  |row l e c=>
   obtain⟨rest,i,h1,h2,h3⟩:=hf
   exact⟨arr,rest,i,ho,h2,h1,h3⟩
  |pre lk s n fs ws cs e c=>
   obtain⟨pre,rest,i,h1,h2,h3⟩:=hf
   refine⟨arr,rest,i,ho,h1.info,?_,h3⟩
   rw[h1.val,h2]
   simp[listV]
  |map l=>exact hf.elim
  |vmap s n fs ws=>exact hf.elim
  |chan=>exact hf.elim
 ·cases a with
  |map l=>
   obtain⟨arr,clk,rfl,h2⟩:=h
   exact⟨arr,clk,ho,h2⟩
  |vmap s n fs ws=>
   obtain⟨arr,clk,E,rfl,h2,h3,h4,h5⟩:=h
   refine⟨arr,clk,ho,?_⟩
   rw[h4,h2,decE_enc]
  |chan=>
   obtain⟨n,rfl⟩:=h
   exact⟨n,ho⟩
  |_=>exact h.elim
structure HeapIs{ι:Type}(P:Program)(base:Nat)(w:World)(L:ι->Option (Nat×Blk)):Prop where
 at':∀r b k,L r=some (b,k)->k.at P w b
 inj:∀r r' b k k',L r=some (b,k)->L r'=some (b,k')->r=r'
 ge:∀r b k,L r=some (b,k)->base≤b
section
variable {ι:Type}{P:Program}{base:Nat}{w w':World}{L L':ι->Option (Nat×Blk)}
theorem HeapIs.sub(H:HeapIs P base w L)(h:∀r x,L' r=some x->L r=some x):HeapIs P base w L':=
 ⟨fun r b k e=>H.at' r b k (h _ _ e),fun r r' b k k' e e'=>H.inj r r' b k k' (h _ _ e) (h _ _ e'),fun r b k e=>H.ge r b k (h _ _ e)⟩
theorem HeapIs.keep(H:HeapIs P base w L){own:Nat->Prop}(kp:Keeps own w w')(hk:∀r b k,L r=some (b,k)->¬own b):HeapIs P base w' L:=
 ⟨fun r b k e=>Blk.at_keep (H.at' r b k e) kp (hk r b k e),H.inj,H.ge⟩
theorem HeapIs.keepN(H:HeapIs P base w L)(kp:Keeps (fun b=>w.heap.size≤b) w w'):HeapIs P base w' L:=
 H.keep kp fun r b k e=>Nat.not_le.2 (Blk.at_lt (H.at' r b k e))
theorem HeapIs.set(H:HeapIs P base w L){d c n m:Nat}(hc:w.heap[c]?=some (.chan 0 #[] false n n false)):HeapIs P base ((w.at d).setChan c 0 #[] false m m false) L:=
 ⟨fun r b k e=>Blk.at_set (H.at' r b k e) hc,H.inj,H.ge⟩
theorem HeapIs.draw(H:HeapIs P base w L)(d:Nat):HeapIs P base (w.at d) L:=
 H.keep (own:=fun _=>False) ⟨fun n hn=>rfl,Nat.le_refl _,rfl,rfl,rfl⟩ fun r b k e h=>h
theorem HeapIs.cell(H:HeapIs P base w L){r:ι}{b:Nat}{k:Blk}(e:L r=some (b,k)){n:Nat}{v:Value}(hn:k.cell n=some v):w.cell? ⟨b,n,none⟩=some v:=Blk.at_cell (H.at' r b k e) hn
theorem HeapIs.chan(H:HeapIs P base w L){r:ι}{b:Nat}(e:L r=some (b,.chan)):ChanAt w b:=H.at' r b _ e
theorem HeapIs.lt(H:HeapIs P base w L){r:ι}{b:Nat}{k:Blk}(e:L r=some (b,k)):b<w.heap.size:=Blk.at_lt (H.at' r b k e)
variable [DecidableEq ι]
end
def MemL{ι:Type}(L:ι->Option (Nat×Blk))(drop:List ι)(w:World)(base:Nat)(ρ:Env)(p:AA×AV):Prop:=
 (∃r k,L r=some ((p.1.ev ρ).block,k)∧r∉drop∧k.cell (p.1.ev ρ).off=some (p.2.ev ρ))∨((p.1.ev ρ).block<base∧w.cell? (p.1.ev ρ)=some (p.2.ev ρ))
structure FAt(P:Program)(fn:FuncId)(nt:Nat)(todo:List Item)(ds:List Deferred)(kind:CallKind)(lv:List (Nat×Value))(fr:Frame):Prop where
 ex:∃tm,fr=(mkF fn kind).at ⟨tm,ds⟩ todo∧tm.size=nt∧∀p∈lv,tm.getD p.1 undef=p.2
 le:nt≤60000
 fn:∃f,P.funcs[fn]?=some f
def stOf(fr:Frame)(n:Nat):Value:=fr.tmps.getD n undef
def told(ρ:Env)(lv:List (Nat×AV)):List (Nat×Value):=lv.map fun p=>(p.1,p.2.ev ρ)
section
variable {P:Program}{ρ:Env}{fn:FuncId}{nt:Nat}{todo:List Item}{ds:List Deferred}{kind:CallKind}{lv:List (Nat×Value)}{fr:Frame}
theorem FAt.sub(h:FAt P fn nt todo ds kind lv fr){lv':List (Nat×Value)}(hs:∀p∈lv',p∈lv):FAt P fn nt todo ds kind lv' fr:=by
 obtain⟨⟨tm,h1,h2,h3⟩,h4,h5⟩:=h
 exact⟨⟨tm,h1,h2,fun p hp=>h3 p (hs p hp)⟩,h4,h5⟩
theorem told_tmps{tm:Array Value}(hsz:tm.size=nt)(hle:nt≤60000){lA:List (Nat×AV)}(h:∀p∈told ρ lA,tm.getD p.1 undef=p.2):TmpR ρ nt (tmpsOf nt (fun n=>tm.getD n undef) lA) tm:=by
 refine⟨hsz,hle,fun n hn=>?_,fun n hn=>?_⟩
 ·rw[tmpsOf_get hle,if_pos hn]
  have hg:tm[n]?=some (tm.getD n undef):=by
   rw[Array.getD_eq_getD_getElem?]
   rw[Array.getElem?_eq_getElem (by omega)]
   rfl
  rw[hg]
  cases e:look (fun a b=>Nat.beq a b) n lA with
  |none=>simp[AV.ev]
  |some a=>
   obtain⟨x,hx,he⟩:=look_some e
   obtain rfl:=Nat.eq_of_beq_eq_true he
   have:=h (n,a.ev ρ) (List.mem_map.2 ⟨(n,a),hx,rfl⟩)
   dsimp only at this
   rw[this]
   rfl
 ·rw[tmpsOf_get hle,if_neg (by omega)]
theorem FAt.rel(h:FAt P fn nt todo ds kind lv fr)(hk:plainK kind)(lA:List (Nat×AV))(hl:told ρ lA=lv){dA:List AD}(hd:dA.map (AD.ev ρ)=ds):FrRel P ρ ⟨fn,nt,tmpsOf nt (stOf fr) lA,todo,dA,.run,kind⟩ fr:=by
 obtain⟨⟨tm,rfl,h2,h3⟩,h4,h5⟩:=h
 subst hl
 refine⟨tm,todo,⟨told_tmps h2 h4 h3,.inl hk,fun _=>rfl,h5⟩,?_⟩
 unfold frameOf
 dsimp only
 rw[plain_at hk,hd]
 rfl
theorem zip_told{t:TT}:∀{live:List Nat} {p:Nat×Value},p∈live.zip (AV.evs ρ (live.map fun n=>t.get n))->p.2=(t.get p.1).ev ρ
 |[],p,h=>by cases h
 |n::l,p,h=>by
  simp only[List.map_cons,AV.evs,List.zip_cons_cons,List.mem_cons]at h
  rcases h with rfl|h
  ·rfl
  ·exact zip_told h
theorem FAt.of{a:AFrame}{live:List Nat}{vals:List AV}{dA:List AD}(h:FrRel P ρ a fr)(s:frSeen a live=⟨fn,nt,todo,dA,.run,kind,[],[],vals⟩)(hk:plainK kind):FAt P fn nt todo (dA.map (AD.ev ρ)) kind (live.zip (AV.evs ρ vals)) fr:=by
 obtain⟨fn',nt',t,todo',ds',mode,kind'⟩:=a
 simp only[frSeen,Seen.mk.injEq]at s
 obtain⟨rfl,rfl,rfl,rfl,rfl,rfl,_,_,rfl⟩:=s
 obtain⟨tm,td,i,rfl⟩:=h
 refine⟨⟨tm,?_,i.tmps.size,fun p hp=>?_⟩,i.tmps.le,i.fn⟩
 ·have ht:td=todo':=i.todo rfl
  unfold frameOf
  dsimp only
  rw[plain_at hk,ht]
  rfl
 ·rw[zip_told hp]
  exact i.tmps.getD p.1
end
end Go.Proofs.Ytmobbajggkjpgaa.SX
namespace Go.Proofs.Ytmobbajggkjpgaa
open Go.Proofs.Ytmobbajggkjpgaa.SX Go.Conc
noncomputable def OO(bs:List (BE×Bool))(mem:List (AA×AV)):Orc:={bs:=bs,mem:=mem,fns:=fns,ext:=ext}
noncomputable abbrev XX(bs:List (BE×Bool))(mem:List (AA×AV)):Ext:=ext? Try.prog (OO bs mem) tab
noncomputable def runZ(bs:List (BE×Bool))(mem:List (AA×AV))(n:Nat)(ks:List Nat)(c:ACfg):M ACfg:=chunkTo? Try.prog (OO bs mem) (XX bs mem) noSums 4000 n ks c
noncomputable def cfg(cur:AFrame)(callers:List AFrame)(hp:List (Nat×ABlk)):ACfg:=⟨cur,callers,⟨hp,100,5192296858534827628530496329220096⟩⟩
noncomputable def KZ(base:Nat):Ctx:=⟨Try.prog,OO [] [],fun n=>base≤n,fun _=>True,True,fun _ _=>False⟩
theorem KZ_good(base:Nat):(KZ base).Good:=⟨fun _ _ _=>trivial,fun _ _ _ _=>trivial,fun _ _ _ h=>h.elim,fun _ _=>trivial,trivial,fun _ _=>trivial,fun _ _ _ _=>trivial⟩
abbrev Go1(base:Nat)(g:Goroutine)(w:World)(Q:Goroutine->World->Prop):Prop:=Walk Try.prog true (DK (KZ base)) Q 0 g w
theorem find_of{α:Type}:∀{l:List (Nat×α)} {i:Nat} {b:α},(l.map (·.1)).Nodup->(i,b)∈l->Go.Proofs.Ytmobbajggkjpgaa.SX.look (fun a b=>Nat.beq a b) i l=some b
 |p::l,i,b,h,hm=>by
  rw[List.map_cons,List.nodup_cons]at h
  have e1:Go.Proofs.Ytmobbajggkjpgaa.SX.look (fun a b=>Nat.beq a b) i (p::l)=Bool.rec (Go.Proofs.Ytmobbajggkjpgaa.SX.look (fun a b=>Nat.beq a b) i l) (some p.2) (Nat.beq i p.1):=rfl
  rw[e1]
  rcases List.mem_cons.1 hm with e|hm
  ·subst e
   have:Nat.beq i i=true:=Nat.beq_refl i
   rw[this]
  ·have:Nat.beq i p.1=false:=by
    cases e:Nat.beq i p.1 with
    |false=>rfl
    |true=>
     have:=Nat.eq_of_beq_eq_true e
     exact absurd (List.mem_map.2 ⟨_,hm,this⟩) h.1
   rw[this]
   exact find_of h.2 hm
abbrev Role:=Nat×Nat
abbrev Lay:=Role->Option (Nat×Blk)
structure On(base:Nat)(W0:World)(L:Lay)(w:World):Prop where
 heap:HeapIs Try.prog base w L
 keeps:Keeps (fun n=>base≤n) W0 w
 le:base≤W0.heap.size
def MemO(L:Lay)(drop:List Role)(base:Nat)(W0:World)(ρ:Env)(p:AA×AV):Prop:=
 (∃r k,L r=some ((p.1.ev ρ).block,k)∧r∉drop∧k.cell (p.1.ev ρ).off=some (p.2.ev ρ))∨((p.1.ev ρ).block<base∧W0.cell? (p.1.ev ρ)=some (p.2.ev ρ))
abbrev FA:=FAt Try.prog
def isRun:AMode->Bool
 |.run=>true
 |_=>false
def isPlain:CallKind->Bool
 |.normal=>true
 |.deferred=>true
 |_=>false
theorem plain_is{k:CallKind}(h:isPlain k=true):plainK k:=by
 cases k<;>first|exact .inl rfl|exact .inr rfl|cases h
def tellable(V:Seen):Bool:=isRun V.mode&&isPlain V.kind
section
variable {base:Nat}{W0 w:World}{L:Lay}{main:Bool}
theorem cell_keep{w w':World}{own:Nat->Prop}(kp:Keeps own w w'){a:Addr}{v:Value}(h:w.cell? a=some v)(hb:¬own a.block):w'.cell? a=some v:=by
 unfold World.cell? at h⊢
 rw[kp.heap _ hb]
 exact h
theorem On.new(o:On base W0 L w){n:Nat}(h:w.heap.size≤n):base≤n:=by
 have:=o.le
 have:=o.keeps.size
 omega
theorem MemO.to(o:On base W0 L w){drop:List Role}{ρ:Env}{p:AA×AV}(h:MemO L drop base W0 ρ p):MemL L drop w base ρ p:=by
 rcases h with h|⟨h1,h2⟩
 ·exact .inl h
 ·exact .inr ⟨h1,cell_keep o.keeps h2 (Nat.not_le.2 h1)⟩
end
def Goes(g:Goroutine)(w:World)(Q:Goroutine->World->Prop):Prop:=∃g' w',Steps Try.prog (loneG g w) (loneG g' w')∧Q g' w'
abbrev Fresh(w w':World):Prop:=Keeps (fun n=>w.heap.size≤n) w w'
def Ans(f:FuncId)(args:Array Value)(w:World)(Q:Value->World->Prop):Prop:=Calls Try.prog f args w fun e w'=>∃v,e=.returned v∧Q v w'
section
variable {g:Goroutine}{w:World}{Q R:Goroutine->World->Prop}
theorem Goes.here(h:Q g w):Goes g w Q:=⟨g,w,.refl _ _,h⟩
theorem Goes.trans(h:Goes g w Q)(k:∀g' w',Q g' w'->Goes g' w' R):Goes g w R:=by
 obtain⟨g1,w1,s1,q1⟩:=h
 obtain⟨g2,w2,s2,q2⟩:=k _ _ q1
 exact⟨g2,w2,s1.trans s2,q2⟩
theorem Goes.mono(h:Goes g w Q)(k:∀g' w',Q g' w'->R g' w'):Goes g w R:=by
 obtain⟨g1,w1,s1,q1⟩:=h
 exact⟨g1,w1,s1,k _ _ q1⟩
theorem Goes.of{base:Nat}(h:Go1 base g w Q):Goes g w Q:=walk_steps h
theorem Goes.one{g':Goroutine}{w':World}{es:Array Event}(hr:g.status=.running)(hs:stepG Try.prog true g w=.go g' w' es)(hq:Q g' w'):Goes g w Q:=⟨g',w',.head (step_loneG hr hs) (.refl _ _),hq⟩
end
theorem Fresh.refl(w:World):Fresh w w:=Keeps.refl _ _
theorem Fresh.trans{w w1 w2:World}(h:Fresh w w1)(h2:Fresh w1 w2):Fresh w w2:=Keeps.trans h (h2.mono fun n hn=>Nat.le_trans h.size hn)
theorem Fresh.cell{w w':World}(h:Fresh w w'){a:Addr}{v:Value}(hc:w.cell? a=some v):w'.cell? a=some v:=cell_keep h hc fun hh=>by
 have:=cellLt hc
 omega
theorem Ans.mono{f:FuncId}{args:Array Value}{w:World}{Q R:Value->World->Prop}(h:Ans f args w Q)(k:∀v w',Q v w'->R v w'):Ans f args w R:=by
 intro cs
 obtain⟨e,w',fr,⟨v,h1,h2⟩,h3⟩:=h cs
 exact⟨e,w',fr,⟨v,h1,k _ _ h2⟩,h3⟩
noncomputable def hN:AH:=⟨[],100,5192296858534827628530496329220096⟩
noncomputable def opA(bs:List (BE×Bool))(mem:List (AA×AV))(t:TT)(ops:Array Oper)(i:Nat):M (AN×AH):=match ops[i]? with
 |some o=>op? Try.prog (OO bs mem) (XX bs mem) hN (evalA t) o
 |none=>.error "no operation"
noncomputable def wantA(bs:List (BE×Bool))(mem:List (AA×AV))(t:TT)(ops:Array Oper)(i:Nat):M Bool:=match ops[i]? with
 |some o=>wantedA (OO bs mem) ops t o
 |none=>.error "no operation"
noncomputable def dstOf(ops:Array Oper)(i:Nat):Option Nat:=(ops[i]?).bind (·.dst)
noncomputable def lowT(bs:List (BE×Bool))(mem:List (AA×AV))(t:TT):Bool:=cfgLow 100 ⟨⟨0,0,t,[],[],.run,.normal⟩,[],hN⟩&&(OO bs mem).low 100
theorem put_getD{tm:Array Value}{d n:Nat}{v:Value}:(tm.setIfInBounds d v).getD n undef=if n=d∧d<tm.size then v else tm.getD n undef:=by
 rw[Array.getD_eq_getD_getElem?,Array.getD_eq_getD_getElem?,Array.getElem?_setIfInBounds]
 by_cases h:d=n
 ·subst h
  by_cases h2:d<tm.size
  ·simp[h2]
  ·simp[h2]
 ·have:¬(n=d):=fun e=>h e.symm
  simp[h,this]
abbrev lvPut(d:Nat)(v:Value)(lv:List (Nat×Value)):List (Nat×Value):=(d,v)::lv.filter fun p=>!(p.1==d)
section
variable {w:World}{cs:List Frame}{fr:Frame}{fn nt i d:Nat}{ops:Array Oper}{l:List Nat}{k:List Item}{ds:List Deferred}{kind:CallKind}{lv:List (Nat×Value)}{lA:List (Nat×AV)}{bs:List (BE×Bool)}{mem:List (AA×AV)}{ρ:Env}
theorem put_fa{tm:Array Value}{v:Value}(h2:tm.size=nt)(h3:∀p∈lv,tm.getD p.1 undef=p.2)(h4:nt≤60000)(h5:∃f,Try.prog.funcs[fn]?=some f)(hdn:d<nt):
  FA fn nt (.inRegion ops l::k) ds kind (lvPut d v lv) ((mkF fn kind).at ((⟨tm,ds⟩:Act).put (some d) v) (.inRegion ops l::k)):=by
 refine⟨⟨tm.setIfInBounds d v,rfl,by rw[Array.size_setIfInBounds];exact h2,fun p hp=>?_⟩,h4,h5⟩
 rw[put_getD]
 rcases List.mem_cons.1 hp with rfl|hp
 ·rw[if_pos ⟨rfl,by omega⟩]
 ·obtain⟨q1,q2⟩:=List.mem_filter.1 hp
  have:¬(p.1=d):=by simpa using q2
  rw[if_neg fun e=>this e.1]
  exact h3 p q1
theorem op_run{tm:Array Value}(h2:tm.size=nt)(h4:nt≤60000)(ht:∀p∈told ρ lA,tm.getD p.1 undef=p.2){b:Bool}(hw:wantA bs mem (tmpsOf nt (fun n=>tm.getD n undef) lA) ops i=.ok b)(hlow:lowT bs mem (tmpsOf nt (fun n=>tm.getD n undef) lA)=true)
 (hb:∀p∈bs,p.1.ev ρ=p.2)(hm:∀p∈mem,w.cell? (p.1.ev ρ)=some (p.2.ev ρ)):
  ∃o,ops[i]?=some o∧Region.wanted o (yielded ops tm)=b∧∀{n:AN},opA bs mem (tmpsOf nt (fun n=>tm.getD n undef) lA) ops i=.ok (n,hN)->(∀v,n≠.panic v)->∃nx w' ρ',(execOp (⟨tm,ds⟩:Act).eval o).run Try.prog w=.ok nx w'∧Fresh w w'∧Agree (Below 100) ρ ρ'∧n.is ρ' nx:=by
 have T:=told_tmps (ρ:=ρ) h2 h4 ht
 unfold wantA at hw
 unfold opA
 cases ho:ops[i]? with
 |none=>rw[ho]at hw;cases hw
 |some o=>
  rw[ho]at hw
  simp only[lowT,Bool.and_eq_true]at hlow
  let K:=(KZ w.heap.size).sub (OO bs mem) (fun n=>w.heap.size≤n) fun _ _=>False
  have hown:∀n,w.heap.size≤n->(KZ w.heap.size).own n:=fun n hn=>hn
  have Gd2:K.Good:=sub_good (KZ_good w.heap.size) hown
  have R:Rel K ρ hN w:=rel_blocks (nofun) (nofun) List.nodup_nil (nofun) ⟨hb,(nofun),fun p hp=>⟨fun hh=>by
   have:=cellLt (hm p hp)
   have:w.heap.size≤(p.1.ev ρ).block:=hh
   omega,hm p hp,fun s=>⟨trivial,fun b n s e=>by cases e⟩⟩⟩ (fun n hn=>hn) fun b n h=>h.elim False.elim False.elim
  have I:=cfgLow_in (K:=K) (c:=⟨⟨0,0,tmpsOf nt (fun n=>tm.getD n undef) lA,[],[],.run,.normal⟩,[],hN⟩) hlow.1 rfl hlow.2
  refine⟨o,rfl,wantedA_ok (K:=K) R T hw,fun{n} he hn=>?_⟩
  have N:=op?_ok (K:=K) Gd2 ⟨fns_ok,ext_facts,mixed⟩ (ext_ok Gd2 (.inl trivial) tab_facts) R I.ids (evalA_in I.cur.tmps) he
  have hev:(⟨tm,ds⟩:Act).eval=fun x=>(evalA (tmpsOf nt (fun n=>tm.getD n undef) lA) x).ev ρ:=funext fun x=>evalA_ev T _ x
  rw[hev]
  have W:=N.run (E:=fun _ _=>False) (Q:=fun nx w'=>∃ρ',Fresh w w'∧Agree (Below 100) ρ ρ'∧n.is ρ' nx) (fun nx w' ⟨ρ',a1,a2,a3,a4⟩=>⟨ρ',a3,a1,a4⟩) (fun v hv=>(hn v hv).elim)
  have q1:((execOp (fun x=>(evalA (tmpsOf nt (fun n=>tm.getD n undef) lA) x).ev ρ) o).run Try.prog w).goes (fun nx w'=>∃ρ',Fresh w w'∧Agree (Below 100) ρ ρ'∧n.is ρ' nx) (fun _ _=>False):=(wq_run W).1
  generalize(execOp (fun x=>(evalA (tmpsOf nt (fun n=>tm.getD n undef) lA) x).ev ρ) o).run Try.prog w=r at q1
  cases r with
  |ok nx w'=>
   obtain⟨ρ',a1,a2,a3⟩:=q1
   exact⟨nx,w',ρ',rfl,a1,a2,a3⟩
  |halt x w'=>cases x<;>exact q1.elim
theorem stR_unwanted'{P:Program}{b:Frame}{a:Act}{o:Oper}{rest:List Nat}(ho:ops[i]?=some o)(hw:Region.wanted o (yielded ops a.tmps)=false):
  step P (lone (b.at a (.inRegion ops (i::rest)::k)) cs w)=.next (lone (b.at (a.put ((ops[i]?).bind (·.dst)) undef) (.inRegion ops rest::k)) cs w):=
 step_op_skip (by simp[ho,hw])
theorem op_skip(hf:FA fn nt (.inRegion ops (i::l)::k) ds kind lv fr)(hl:∀p∈told ρ lA,p∈lv)(hw:∀st,wantA bs mem (tmpsOf nt st lA) ops i=.ok false)(hlow:∀st,lowT bs mem (tmpsOf nt st lA)=true)
 (hb:∀p∈bs,p.1.ev ρ=p.2)(hm:∀p∈mem,w.cell? (p.1.ev ρ)=some (p.2.ev ρ))(hd:dstOf ops i=some d)(hdn:d<nt):
  Goes (G fr cs) w fun g' w'=>∃fr',g'=G fr' cs∧Fresh w w'∧FA fn nt (.inRegion ops l::k) ds kind (lvPut d undef lv) fr':=by
 obtain⟨⟨tm,rfl,h2,h3⟩,h4,h5⟩:=hf
 obtain⟨o,ho,hwt,_⟩:=op_run (ds:=ds) (w:=w) h2 h4 (fun p hp=>h3 p (hl p hp)) (hw _) (hlow _) hb hm
 have s:=stR_unwanted' (P:=Try.prog) (b:=mkF fn kind) (a:=⟨tm,ds⟩) (rest:=l) (k:=k) (cs:=cs) (w:=w) ho hwt
 refine⟨_,w,.head s (.refl _ _),_,rfl,Fresh.refl w,?_⟩
 rw[show(ops[i]?).bind (·.dst)=some d from hd]
 exact put_fa h2 h3 h4 h5 hdn
theorem op_value(hf:FA fn nt (.inRegion ops (i::l)::k) ds kind lv fr)(hk:plainK kind){a:AV}(hl:∀p∈told ρ lA,p∈lv)(hw:∀st,wantA bs mem (tmpsOf nt st lA) ops i=.ok true)(he:∀st,opA bs mem (tmpsOf nt st lA) ops i=.ok (.value a,hN))(hlow:∀st,lowT bs mem (tmpsOf nt st lA)=true)
 (hb:∀p∈bs,p.1.ev ρ=p.2)(hm:∀p∈mem,w.cell? (p.1.ev ρ)=some (p.2.ev ρ))(hd:dstOf ops i=some d)(hdn:d<nt)(ha:AV.low 100 a=true):
  Goes (G fr cs) w fun g' w'=>∃fr',g'=G fr' cs∧Fresh w w'∧FA fn nt (.inRegion ops l::k) ds kind (lvPut d (a.ev ρ) lv) fr':=by
 obtain⟨⟨tm,rfl,h2,h3⟩,h4,h5⟩:=hf
 obtain⟨o,ho,hwt,run⟩:=op_run (ds:=ds) (w:=w) h2 h4 (fun p hp=>h3 p (hl p hp)) (hw _) (hlow _) hb hm
 obtain⟨nx,w',ρ',r1,fr1,Ag,e⟩:=run (he _) (fun v h=>by cases h)
 have e:nx=.value (a.ev ρ'):=e
 rw[AV.ev_agree Ag a (AV.low_in a ha)]at e
 subst e
 have hg:=stepG_op (P:=Try.prog) (b:=mkF fn kind) (k:=k) (cs:=cs) (w:=w) (rest:=l) (a:=⟨tm,ds⟩) ho hwt
 have s:step Try.prog (lone ((mkF fn kind).at ⟨tm,ds⟩ (.inRegion ops (i::l)::k)) cs w)=.next (lone ((mkF fn kind).at ((⟨tm,ds⟩:Act).put ((ops[i]?).bind (·.dst)) (a.ev ρ)) (.inRegion ops l::k)) cs w'):=by
  refine step_lone_go ?_
  rw[hg,<-Frame.finish_at]
  simp[stepG.apply,r1]
 refine⟨_,w',.head s (.refl _ _),_,rfl,fr1,?_⟩
 rw[show(ops[i]?).bind (·.dst)=some d from hd]
 exact put_fa h2 h3 h4 h5 hdn
theorem op_call(hf:FA fn nt (.inRegion ops (i::l)::k) ds kind lv fr){f:FuncId}{args:List AV}{Q:Value->World->Prop}(hl:∀p∈told ρ lA,p∈lv)(hw:∀st,wantA bs mem (tmpsOf nt st lA) ops i=.ok true)(he:∀st,opA bs mem (tmpsOf nt st lA) ops i=.ok (.enter f args,hN))(hlow:∀st,lowT bs mem (tmpsOf nt st lA)=true)
 (hb:∀p∈bs,p.1.ev ρ=p.2)(hm:∀p∈mem,w.cell? (p.1.ev ρ)=some (p.2.ev ρ))(hd:dstOf ops i=some d)(hdn:d<nt)(ha:AV.lows 100 args=true)(h:∀w',Fresh w w'->Ans f (AV.evs ρ args).toArray w' Q):
  Goes (G fr cs) w fun g' w'=>∃fr' v,g'=G fr' cs∧Q v w'∧FA fn nt (.inRegion ops l::k) ds kind (lvPut d v lv) fr':=by
 obtain⟨⟨tm,rfl,h2,h3⟩,h4,h5⟩:=hf
 obtain⟨o,ho,hwt,run⟩:=op_run (ds:=ds) (w:=w) h2 h4 (fun p hp=>h3 p (hl p hp)) (hw _) (hlow _) hb hm
 obtain⟨nx,w',ρ',r1,fr1,Ag,e⟩:=run (he _) (fun v h=>by cases h)
 have e:nx=.enter f (AV.evs ρ' args).toArray:=e
 rw[AV.evs_agree Ag args (AV.lows_in args ha)]at e
 subst e
 have hg:=stepG_op (P:=Try.prog) (b:=mkF fn kind) (k:=k) (cs:=cs) (w:=w) (rest:=l) (a:=⟨tm,ds⟩) ho hwt
 have s:step Try.prog (lone ((mkF fn kind).at ⟨tm,ds⟩ (.inRegion ops (i::l)::k)) cs w)=.next (lone (Frame.enter Try.prog f (AV.evs ρ args).toArray .normal) ((mkF fn kind).at ⟨tm,ds⟩ (.inRegion ops (i::l)::k)::cs) w'):=by
  refine step_lone_go ?_
  rw[hg]
  simp[stepG.apply,r1,Frame.at]
 obtain⟨en,w2,fr2,⟨v,rfl,hq⟩,st,_,lv'⟩:=h w' fr1 ((mkF fn kind).at ⟨tm,ds⟩ (.inRegion ops (i::l)::k)::cs)
 have s2:=step_leave_returned (c:=(mkF fn kind).at ⟨tm,ds⟩ (.inRegion ops (i::l)::k)) (cs:=cs) lv'
 rw[Frame.finish_at,show(ops[i]?).bind (·.dst)=some d from hd]at s2
 exact⟨_,w2,.head s (Steps.trans st (.head s2 (.refl _ _))),_,v,rfl,hq,put_fa h2 h3 h4 h5 hdn⟩
end
def Leav(f:FuncId)(fr:Frame)(w:World)(v:Value):Prop:=fr.fn=f∧fr.leaving Try.prog w (.returned v)
theorem ans_of{f:FuncId}{args:Array Value}{w:World}{Q:Value->World->Prop}(h:∀cs,Goes (G (Frame.enter Try.prog f args .normal) cs) w fun g' w'=>∃fr' v,g'=G fr' cs∧Leav f fr' w' v∧Q v w'):Ans f args w Q:=by
 intro cs
 obtain⟨g',w',st,fr',v,rfl,⟨h1,h2⟩,hq⟩:=h cs
 exact⟨.returned v,w',fr',⟨v,rfl,hq⟩,st,h1,h2⟩
section
variable {w:World}{cs:List Frame}{fr:Frame}{fn nt:Nat}{k:List Item}{lv:List (Nat×Value)}{lA:List (Nat×AV)}{bs:List (BE×Bool)}{mem:List (AA×AV)}{ρ:Env}
theorem leave_at(hf:FA fn nt (.code .ret::k) [] .normal lv fr){a:AV}(hl:∀p∈told ρ lA,p∈lv)(he:∀st,results? Try.prog (OO bs mem) hN fn (tmpsOf nt st lA)=.ok a)
 (hb:∀p∈bs,p.1.ev ρ=p.2)(hm:∀p∈mem,w.cell? (p.1.ev ρ)=some (p.2.ev ρ)):
  Goes (G fr cs) w fun g' w'=>∃fr',g'=G fr' cs∧w'=w∧Leav fn fr' w' (a.ev ρ):=by
 obtain⟨⟨tm,rfl,h2,h3⟩,h4,h5⟩:=hf
 have T:=told_tmps (ρ:=ρ) h2 h4 (fun p hp=>h3 p (hl p hp))
 let K:=(KZ w.heap.size).sub (OO bs mem) (fun n=>w.heap.size≤n) fun _ _=>False
 have hown:∀n,w.heap.size≤n->(KZ w.heap.size).own n:=fun n hn=>hn
 have Gd2:K.Good:=sub_good (KZ_good w.heap.size) hown
 have R:Rel K ρ hN w:=rel_blocks (nofun) (nofun) List.nodup_nil (nofun) ⟨hb,(nofun),fun p hp=>⟨fun hh=>by
  have:=cellLt (hm p hp)
  have:w.heap.size≤(p.1.ev ρ).block:=hh
  omega,hm p hp,fun s=>⟨trivial,fun b n s e=>by cases e⟩⟩⟩ (fun n hn=>hn) fun b n h=>h.elim False.elim False.elim
 obtain⟨f,hf,_,run⟩:=results?_ok (K:=K) Gd2 (he (fun n=>tm.getD n undef))
 have W:=run (E:=fun _ _=>False) R T (Q:=fun x w'=>x=a.ev ρ∧w'=w) ⟨rfl,rfl⟩
 have q1:((results f tm).run Try.prog w).goes (fun x w'=>x=a.ev ρ∧w'=w) (fun _ _=>False):=(wq_run W).1
 refine⟨_,w,.head step_ret (.refl _ _),_,rfl,rfl,rfl,rfl,rfl,rfl,f,hf,?_⟩
 show(results f tm).run Try.prog w=.ok (a.ev ρ) w
 generalize(results f tm).run Try.prog w=r at q1
 cases r with
 |ok x w'=>obtain⟨rfl,rfl⟩:=q1;rfl
 |halt x w'=>cases x<;>exact q1.elim
end
theorem enter1{f nt:Nat}{t:TT}{body:Code}(h:enterA Try.prog f [.opq 0] .normal=.ok ⟨f,nt,t,[.code body],[],.run,.normal⟩)(hs:frSeen (⟨f,nt,t,[.code body],[],.run,.normal⟩:AFrame) [0]=⟨f,nt,[.code body],[],.run,.normal,[],[],[.opq 0]⟩)(x:Value):
  FA f nt [.code body] [] .normal [(0,x)] (Frame.enter Try.prog f #[x] .normal):=by
 let ρ:Env:=mkE [] [] [(0,x)]
 exact FAt.of (live:=[0]) (vals:=[.opq 0]) (dA:=[]) (enterA_ok (U:=fun _=>True) h (.inl rfl) ⟨trivial,trivial⟩ (ρ:=ρ)).1 hs (.inl rfl)
theorem enter2{f nt:Nat}{t:TT}{body:Code}(h:enterA Try.prog f [.opq 0,.opq 1] .normal=.ok ⟨f,nt,t,[.code body],[],.run,.normal⟩)(hs:frSeen (⟨f,nt,t,[.code body],[],.run,.normal⟩:AFrame) [0,1]=⟨f,nt,[.code body],[],.run,.normal,[],[],[.opq 0,.opq 1]⟩)(x y:Value):
  FA f nt [.code body] [] .normal [(0,x),(1,y)] (Frame.enter Try.prog f #[x,y] .normal):=by
 let ρ:Env:=mkE [] [] [(0,x),(1,y)]
 exact FAt.of (live:=[0,1]) (vals:=[.opq 0,.opq 1]) (dA:=[]) (enterA_ok (U:=fun _=>True) h (.inl rfl) ⟨trivial,trivial,trivial⟩ (ρ:=ρ)).1 hs (.inl rfl)
theorem enter4{f nt:Nat}{t:TT}{body:Code}(h:enterA Try.prog f [.opq 0,.opq 1,.opq 2,.opq 3] .normal=.ok ⟨f,nt,t,[.code body],[],.run,.normal⟩)(hs:frSeen (⟨f,nt,t,[.code body],[],.run,.normal⟩:AFrame) [0,1,2,3]=⟨f,nt,[.code body],[],.run,.normal,[],[],[.opq 0,.opq 1,.opq 2,.opq 3]⟩)(x y z u:Value):
  FA f nt [.code body] [] .normal [(0,x),(1,y),(2,z),(3,u)] (Frame.enter Try.prog f #[x,y,z,u] .normal):=by
 let ρ:Env:=mkE [] [] [(0,x),(1,y),(2,z),(3,u)]
 exact FAt.of (live:=[0,1,2,3]) (vals:=[.opq 0,.opq 1,.opq 2,.opq 3]) (dA:=[]) (enterA_ok (U:=fun _=>True) h (.inl rfl) ⟨trivial,trivial,trivial,trivial,trivial⟩ (ρ:=ρ)).1 hs (.inl rfl)
theorem enter0{f nt:Nat}{t:TT}{body:Code}(h:enterA Try.prog f [] .normal=.ok ⟨f,nt,t,[.code body],[],.run,.normal⟩):
  FA f nt [.code body] [] .normal [] (Frame.enter Try.prog f #[] .normal):=by
 let ρ:Env:=mkE [] [] []
 exact FAt.of (live:=[]) (vals:=[]) (dA:=[]) (enterA_ok (U:=fun _=>True) h (.inl rfl) trivial (ρ:=ρ)).1 rfl (.inl rfl)
section
variable {base:Nat}{W0 w:World}{L:Lay}{cs:List Frame}{fr:Frame}
theorem On.next{w':World}(o:On base W0 L w)(h:Fresh w w'):On base W0 L w':=
 ⟨o.heap.keepN h,o.keeps.trans (h.mono fun n hn=>o.new hn),o.le⟩
end
def ownP(ρ:Env)(w:World)(pre:List (Nat×ABlk))(b:Nat):Prop:=w.heap.size≤b∨∃x∈pre,ρ.b x.1=b
theorem pieceI{w:World}{cs:List Frame}{fr:Frame}{bs:List (BE×Bool)}{mem:List (AA×AV)}{n:Nat}{ks:List Nat}{cur:AFrame}{live:List Nat}{V:Seen}(pre post:List (Nat×ABlk))
 (hv:seeF (runZ bs mem n ks (cfg cur [] pre)) live (fun _=>[])=some (V,[]))(hV:V.hp=post)(hV':tellable V=true)(hl:cfgLow 100 (cfg cur [] pre)=true)(hO:(OO bs mem).low 100=true){ρ:Env}(hf:FrRel Try.prog ρ cur fr)
 (hb:∀p∈bs,p.1.ev ρ=p.2)(hm:∀p∈mem,w.cell? (p.1.ev ρ)=some (p.2.ev ρ)∧∀x∈pre,ρ.b x.1≠(p.1.ev ρ).block)(hpre:∀x∈pre,∃k:Blk,k.at Try.prog w (ρ.b x.1)∧AbsIs Try.prog ρ x.2 k)(hnd:(pre.map fun p=>ρ.b p.1).Nodup)(hnd':(post.map (·.1)).Nodup):
  Goes (G fr cs) w fun g' w'=>∃ρ' fr',g'=G fr' cs∧Keeps (ownP ρ w pre) w w'∧Agree (Below 100) ρ ρ'∧FA V.fn V.nt V.todo (V.defers.map (AD.ev ρ')) V.kind (live.zip (AV.evs ρ' V.vals)) fr'∧(∀x∈post,ownP ρ w pre (ρ'.b x.1)∧(blkOf ρ' x.2).at Try.prog w' (ρ'.b x.1))∧∀x∈post,∀y∈post,ρ'.b x.1=ρ'.b y.1->x.1=y.1:=by
 obtain⟨cl,hs,hcl⟩:=seeF_ok hv
 have hown:∀b,ownP ρ w pre b->(KZ 0).own b:=fun b _=>Nat.zero_le b
 have Gd2:=sub_good (K:=KZ 0) (O:=OO bs mem) (own:=ownP ρ w pre) (still:=fun _ _=>False) (KZ_good 0) hown
 have W:=piece (K:=KZ 0) (main:=true) (own:=ownP ρ w pre) (still:=fun _ _=>False) (O:=OO bs mem) (cs:=cs) (frs:=[]) (KZ_good 0) hown ⟨fns_ok,ext_facts,mixed⟩ (ext_ok Gd2 (.inl trivial) tab_facts) noSums_ok hs hl rfl hO hf trivial
  (rel_blocks (fun p hp=>by
    obtain⟨k,h1,h2⟩:=hpre p hp
    exact abs_is h1 h2) (fun p hp=>.inr ⟨p,hp,rfl⟩) hnd (fun p hp n hn=>hn.elim False.elim False.elim) ⟨hb,(nofun),fun p hp=>⟨fun hh=>by
     have h1:=cellLt (hm p hp).1
     rcases hh with hh|⟨x,hx,e⟩
     ·omega
     ·exact(hm p hp).2 x hx e,(hm p hp).1,fun s=>⟨trivial,fun b n s e=>by cases e⟩⟩⟩ (fun n hn=>.inl hn) fun b n h=>h.elim False.elim False.elim)
 refine(Goes.of W).mono fun g' w' hd=>?_
 obtain⟨ρ',c',fr',frs',C⟩:=hd
 have hcal:c'.callers=cl:=congrArg Seen.callers C.seen
 have hhp:c'.h.hp=V.hp:=congrArg Seen.hp C.seen
 have hRel:=C.rel
 have hfr:=C.fr
 have hfrs:=C.frs
 have hseen:=C.seen
 obtain⟨cur',callers',hh⟩:=c'
 dsimp only at hcal hhp hRel hfr hfrs
 subst hcal
 obtain rfl:callers'=[]:=by
  cases callers' with
  |nil=>rfl
  |cons a b=>cases hcl
 obtain rfl:frs'=[]:=by
  cases frs' with
  |nil=>rfl
  |cons a b=>exact hfrs.elim
 simp only[tellable,Bool.and_eq_true]at hV'
 have hmode:V.mode=.run:=by
  have:=hV'.1
  cases e:V.mode<;>first|rfl|(simp[e,isRun]at this)
 have hfind:∀x∈post,findB x.1 hh.hp=some x.2:=fun x hx=>by
  rw[hhp,hV]
  exact find_of hnd' hx
 refine⟨ρ',fr',C.gor,C.keeps,C.agree,?_,fun x hx=>?_,fun x hx y hy e=>hRel.inj _ _ _ _ (hfind x hx) (hfind y hy) e⟩
 ·refine FAt.of hfr ?_ (plain_is hV'.2)
  unfold Seen.under seenOf at hseen
  unfold frSeen
  simp only[Seen.mk.injEq]at hseen⊢
  exact⟨hseen.1,hseen.2.1,hseen.2.2.1,hseen.2.2.2.1,hseen.2.2.2.2.1.trans hmode,hseen.2.2.2.2.2.1,trivial,trivial,hseen.2.2.2.2.2.2.2.2⟩
 ·obtain⟨o,h1,h2⟩:=hRel.blk _ _ (hfind x hx)
  refine⟨?_,is_blk h1 h2⟩
  rcases hRel.own' _ _ (hfind x hx)with h3|⟨hc,h3⟩
  ·exact h3
  ·exact(h3.elim False.elim False.elim)
def iV(n:Int):Value:=.int .i64 n
def i8V(n:Int):Value:=.int .i8 n
def ptrV(b:Nat):Value:=.pointer (some ⟨b,0,none⟩)
def nilV:Value:=.slice none 0 0
def slV(a o n c:Nat):Value:=.slice (some ⟨a,o,none⟩) n c
def v(n:Nat):IE:=.var n
noncomputable def i64(e:IE):AV:=.int .i64 e
noncomputable def i8(e:IE):AV:=.int .i8 e
noncomputable def ptr0(b:Nat):AV:=.ptr (some ⟨.dyn b,.lit 0⟩)
noncomputable def nilP:AV:=.ptr none
noncomputable def nilA:AV:=.slice none (.lit 0) (.lit 0)
noncomputable def TB:AV:=.bool (.lit true)
noncomputable def FB:AV:=.bool (.lit false)
noncomputable def ss(k:Nat):AV:=.ss (.var k)
noncomputable def noL:FuncId->List Nat:=fun _=>[]
noncomputable def fr0(fn nt:Nat)(t:List Item)(l:List (Nat×AV))(st:Nat->Value):AFrame:=⟨fn,nt,tmpsOf nt st l,t,[],.run,.normal⟩
noncomputable def entT(f:FuncId)(args:List AV):TT:=((enterA Try.prog f args .normal).toOption.map (·.tmps)).getD .leaf
theorem I64_wrap{x:Int}(h:-9223372036854775808≤x∧x≤9223372036854775807):IntKind.wrap .i64 x=x:=IntWalk.i64_in _ h
theorem one_nodup{α:Type}{a:α}:[a].Nodup:=List.nodup_cons.2 ⟨List.not_mem_nil,List.nodup_nil⟩
theorem blk_cell{w:World}{b e:Nat}{cs:List Value}(h:(Blk.obj e cs).at Try.prog w b){i:Nat}{x:Value}(hx:cs[i]?=some x):w.cell? ⟨b,i,none⟩=some x:=ObjAt.cell h hx
theorem blk_keep{w w':World}{k:Blk}{T:Nat}(h:k.at Try.prog w T)(f:Fresh w w'):k.at Try.prog w' T:=Blk.at_keep h f fun hh=>by
 have:=Blk.at_lt h
 omega
def lookV(k:Nat):List (Nat×Value)->Option Value
 |[]=>none
 |p::r=>bif Nat.beq p.1 k then some p.2 else lookV k r
theorem lookV_mem{k:Nat}{x:Value}:∀{lv:List (Nat×Value)},lookV k lv=some x->(k,x)∈lv
 |[],h=>by cases h
 |p::r,h=>by
  unfold lookV at h
  cases e:Nat.beq p.1 k with
  |true=>
   rw[e]at h
   obtain rfl:p.2=x:=Option.some.inj h
   obtain rfl:=Nat.eq_of_beq_eq_true e
   exact List.mem_cons_self ..
  |false=>
   rw[e]at h
   exact List.mem_cons_of_mem _ (lookV_mem h)
abbrev Tell(lv l:List (Nat×Value)):Prop:=l.map (fun p=>lookV p.1 lv)=l.map fun p=>some p.2
theorem Tell.mem{lv:List (Nat×Value)}:∀{l:List (Nat×Value)},Tell lv l->∀p∈l,p∈lv
 |q::r,h,p,hp=>by
  simp only[Tell,List.map_cons,List.cons.injEq]at h
  rcases List.mem_cons.1 hp with rfl|hp
  ·exact lookV_mem h.1
  ·exact Tell.mem (l:=r) h.2 p hp
def AllB(ρ:Env):List (BE×Bool)->Prop
 |[]=>True
 |p::r=>p.1.ev ρ=p.2∧AllB ρ r
theorem AllB.mem{ρ:Env}:∀{l:List (BE×Bool)},AllB ρ l->∀p∈l,p.1.ev ρ=p.2
 |q::r,h,p,hp=>by
  rcases List.mem_cons.1 hp with rfl|hp
  ·exact h.1
  ·exact AllB.mem (l:=r) h.2 p hp
theorem AllB.app{ρ:Env}:∀{l l':List (BE×Bool)},AllB ρ l->AllB ρ l'->AllB ρ (l++l')
 |[],_,_,h'=>h'
 |_::_,_,h,h'=>⟨h.1,AllB.app h.2 h'⟩
def AllM(ρ:Env)(w:World):List (AA×AV)->Prop
 |[]=>True
 |p::r=>w.cell? (p.1.ev ρ)=some (p.2.ev ρ)∧AllM ρ w r
theorem AllM.mem{ρ:Env}{w:World}:∀{l:List (AA×AV)},AllM ρ w l->∀p∈l,w.cell? (p.1.ev ρ)=some (p.2.ev ρ)
 |q::r,h,p,hp=>by
  rcases List.mem_cons.1 hp with rfl|hp
  ·exact h.1
  ·exact AllM.mem (l:=r) h.2 p hp
theorem AllM.app{ρ:Env}{w:World}:∀{l l':List (AA×AV)},AllM ρ w l->AllM ρ w l'->AllM ρ w (l++l')
 |[],_,_,h'=>h'
 |_::_,_,h,h'=>⟨h.1,AllM.app h.2 h'⟩
def AllO(ρ:Env)(w:World):List (Nat×ABlk)->Prop
 |[]=>True
 |x::r=>(∃k:Blk,k.at Try.prog w (ρ.b x.1)∧AbsIs Try.prog ρ x.2 k)∧AllO ρ w r
theorem AllO.mem{ρ:Env}{w:World}:∀{l:List (Nat×ABlk)},AllO ρ w l->∀x∈l,∃k:Blk,k.at Try.prog w (ρ.b x.1)∧AbsIs Try.prog ρ x.2 k
 |q::r,h,p,hp=>by
  rcases List.mem_cons.1 hp with rfl|hp
  ·exact h.1
  ·exact AllO.mem (l:=r) h.2 p hp
def AllP(ρ:Env)(own:Nat->Prop)(w:World):List (Nat×ABlk)->Prop
 |[]=>True
 |x::r=>(own (ρ.b x.1)∧(blkOf ρ x.2).at Try.prog w (ρ.b x.1))∧AllP ρ own w r
theorem AllP.of{ρ:Env}{own:Nat->Prop}{w:World}:∀{l:List (Nat×ABlk)},(∀x∈l,own (ρ.b x.1)∧(blkOf ρ x.2).at Try.prog w (ρ.b x.1))->AllP ρ own w l
 |[],_=>trivial
 |x::r,h=>⟨h x (List.mem_cons_self ..),AllP.of fun y hy=>h y (List.mem_cons_of_mem _ hy)⟩
def mixE(ρ:Env)(I:Nat->Int)(B:Nat->Nat):Env:={ρ with i:=fun n=>bif Nat.blt n 100 then ρ.i n else I n,b:=fun n=>bif Nat.blt n 100 then ρ.b n else B n}
theorem mixE_of{ρ ρ':Env}(A:Agree (Below 100) ρ ρ'):ρ'=mixE ρ ρ'.i ρ'.b:=by
 have hi:ρ'.i=fun n=>bif Nat.blt n 100 then ρ.i n else ρ'.i n:=funext fun n=>by
  cases e:Nat.blt n 100 with
  |true=>exact A.i n (Nat.blt_eq.mp e)
  |false=>rfl
 have hb:ρ'.b=fun n=>bif Nat.blt n 100 then ρ.b n else ρ'.b n:=funext fun n=>by
  cases e:Nat.blt n 100 with
  |true=>exact A.b n (Nat.blt_eq.mp e)
  |false=>rfl
 have h1:=A.p
 have h2:=A.v
 have h3:=A.bt
 have h4:=A.s
 obtain⟨ri,rp,rv,rb,rt,rs⟩:=ρ'
 obtain⟨si,sp,sv,sb,st,sts⟩:=ρ
 dsimp only at h1 h2 h3 h4 hi hb
 subst h1 h2 h3 h4
 unfold mixE
 congr 1
structure Pc(fn nt:Nat)(todo:List Item)(lA:List (Nat×AV))(bs:List (BE×Bool))(mem:List (AA×AV))(pre:List (Nat×ABlk))(n:Nat)(ks live:List Nat)(todo':List Item)(vals:List AV)(post:List (Nat×ABlk)):Prop where
 run:∀st,seeF (runZ bs mem n ks (cfg (fr0 fn nt todo lA st) [] pre)) live noL=some (⟨fn,nt,todo',[],.run,.normal,[],post,vals⟩,[])
 low:∀st,cfgLow 100 (cfg (fr0 fn nt todo lA st) [] pre)=true
 olow:(OO bs mem).low 100=true
 nd:(post.map (·.1)).Nodup
section
variable {w:World}{cs:List Frame}{fr:Frame}{fn nt n d:Nat}{todo todo':List Item}{lA:List (Nat×AV)}{lv:List (Nat×Value)}{bs:List (BE×Bool)}{mem:List (AA×AV)}{pre post:List (Nat×ABlk)}{ks live:List Nat}{vals:List AV}
theorem FA.only{fn nt:Nat}{t:List Item}{ds:List Deferred}{kind:CallKind}{lv l:List (Nat×Value)}{fr:Frame}(h:FA fn nt t ds kind lv fr)(hl:Tell lv l):FA fn nt t ds kind l fr:=h.sub hl.mem
theorem Pc.go(P:Pc fn nt todo lA bs mem [] n ks live todo' vals post)(ρ:Env)(hf:FA fn nt todo [] .normal lv fr)(hl:Tell lv (told ρ lA))(hb:AllB ρ bs)(hm:AllM ρ w mem):
  Goes (G fr cs) w fun g' w'=>∃I B fr',g'=G fr' cs∧Fresh w w'∧FA fn nt todo' [] .normal (live.zip (AV.evs (mixE ρ I B) vals)) fr'∧AllP (mixE ρ I B) (fun b=>w.heap.size≤b) w' post∧∀x∈post,∀y∈post,(mixE ρ I B).b x.1=(mixE ρ I B).b y.1->x.1=y.1:=by
 have hf':=hf.only hl
 refine(pieceI (ρ:=ρ) [] post (P.run (stOf fr)) rfl rfl (P.low _) P.olow (hf'.rel (.inl rfl) lA rfl rfl) hb.mem (fun p hp=>⟨hm.mem p hp,fun x hx=>by cases hx⟩) (nofun) List.nodup_nil P.nd).mono fun g' w' hd=>?_
 obtain⟨ρ',fr',rfl,kp,Ag,F,bl,inj⟩:=hd
 have own0:∀q,ownP ρ w [] q->w.heap.size≤q:=fun q hq=>hq.elim id fun⟨y,hy,_⟩=>(by cases hy)
 have e:=mixE_of Ag
 rw[e]at F bl inj
 exact⟨_,_,fr',rfl,kp.mono own0,F,AllP.of fun x hx=>⟨own0 _ (bl x hx).1,(bl x hx).2⟩,inj⟩
theorem Pc.goW(P:Pc fn nt todo lA bs mem pre n ks live todo' vals post)(ρ:Env)(hf:FA fn nt todo [] .normal lv fr)(hl:Tell lv (told ρ lA))(hb:AllB ρ bs)(hm:AllM ρ w mem)(hmo:∀p∈mem,∀x∈pre,ρ.b x.1≠(p.1.ev ρ).block)(ho:AllO ρ w pre)(hnd:(pre.map fun p=>ρ.b p.1).Nodup):
  Goes (G fr cs) w fun g' w'=>∃I B fr',g'=G fr' cs∧Keeps (ownP ρ w pre) w w'∧FA fn nt todo' [] .normal (live.zip (AV.evs (mixE ρ I B) vals)) fr'∧AllP (mixE ρ I B) (ownP ρ w pre) w' post∧∀x∈post,∀y∈post,(mixE ρ I B).b x.1=(mixE ρ I B).b y.1->x.1=y.1:=by
 have hf':=hf.only hl
 refine(pieceI (ρ:=ρ) pre post (P.run (stOf fr)) rfl rfl (P.low _) P.olow (hf'.rel (.inl rfl) lA rfl rfl) hb.mem (fun p hp=>⟨hm.mem p hp,hmo p hp⟩) ho.mem hnd P.nd).mono fun g' w' hd=>?_
 obtain⟨ρ',fr',rfl,kp,Ag,F,bl,inj⟩:=hd
 have e:=mixE_of Ag
 rw[e]at F bl inj
 exact⟨_,_,fr',rfl,kp,F,AllP.of bl,inj⟩
def RetC(fn nt d:Nat):Prop:=∀st,results? Try.prog (OO [] []) hN fn (tmpsOf nt st [(d,.opq 0)])=.ok (.opq 0)
theorem leave1(R:RetC fn nt d){k:List Item}{x:Value}(hf:FA fn nt (.code .ret::k) [] .normal lv fr)(hx:lookV d lv=some x):Goes (G fr cs) w fun g' w'=>∃fr',g'=G fr' cs∧w'=w∧Leav fn fr' w' x:=
 leave_at (ρ:=mkE [] [] [(0,x)]) (lA:=[(d,.opq 0)]) (bs:=[]) (mem:=[]) hf (a:=.opq 0) (fun p hp=>by
  obtain rfl:=List.mem_singleton.1 hp
  exact lookV_mem hx) R (nofun) (nofun)
def RetC2(fn nt d d':Nat):Prop:=∀st,results? Try.prog (OO [] []) hN fn (tmpsOf nt st [(d,.opq 0),(d',.opq 1)])=.ok (.tuple [.opq 0,.opq 1])
theorem leave2{d d':Nat}(R:RetC2 fn nt d d'){k:List Item}{x y:Value}(hf:FA fn nt (.code .ret::k) [] .normal lv fr)(hx:lookV d lv=some x)(hy:lookV d' lv=some y):Goes (G fr cs) w fun g' w'=>∃fr',g'=G fr' cs∧w'=w∧Leav fn fr' w' (.tuple #[x,y]):=
 leave_at (ρ:=mkE [] [] [(0,x),(1,y)]) (lA:=[(d,.opq 0),(d',.opq 1)]) (bs:=[]) (mem:=[]) hf (a:=.tuple [.opq 0,.opq 1]) (fun p hp=>by
  rcases List.mem_cons.1 hp with rfl|hp
  ·exact lookV_mem hx
  ·obtain rfl:=List.mem_singleton.1 hp
   exact lookV_mem hy) R (nofun) (nofun)
theorem Pc.ans{f d:Nat}{body:Code}{args:Array Value}{k:List Item}{a:AV}(P:Pc f nt [.code body] lA bs mem [] n ks [d] (.code .ret::k) [a] post)(R:RetC f nt d)(ρ:Env)(he:FA f nt [.code body] [] .normal lv (Frame.enter Try.prog f args .normal))(hl:Tell lv (told ρ lA))(hb:AllB ρ bs)(hm:AllM ρ w mem):
  Ans f args w fun v w'=>Fresh w w'∧∃I B,v=a.ev (mixE ρ I B)∧AllP (mixE ρ I B) (fun b=>w.heap.size≤b) w' post∧∀x∈post,∀y∈post,(mixE ρ I B).b x.1=(mixE ρ I B).b y.1->x.1=y.1:=by
 refine ans_of fun cs=>?_
 refine(P.go ρ he hl hb hm).trans fun g1 w1 hd=>?_
 obtain⟨I,B,fr1,rfl,f1,F1,bl,inj⟩:=hd
 refine(leave1 R F1 (x:=a.ev (mixE ρ I B)) (by
  show lookV d [(d,a.ev (mixE ρ I B))]=_
  unfold lookV
  rw[Nat.beq_refl]
  rfl)).mono fun g2 w2 hd2=>?_
 obtain⟨fr2,rfl,rfl,hL⟩:=hd2
 exact⟨fr2,_,rfl,hL,f1,I,B,rfl,bl,inj⟩
end
structure OpV(nt:Nat)(ops:Array Oper)(i:Nat)(bs:List (BE×Bool))(mem:List (AA×AV))(lA:List (Nat×AV))(a:AV)(d:Nat):Prop where
 want:∀st,wantA bs mem (tmpsOf nt st lA) ops i=.ok true
 op:∀st,opA bs mem (tmpsOf nt st lA) ops i=.ok (.value a,hN)
 low:∀st,lowT bs mem (tmpsOf nt st lA)=true
 dst:dstOf ops i=some d
 alow:AV.low 100 a=true
structure OpS(nt:Nat)(ops:Array Oper)(i:Nat)(lA:List (Nat×AV))(d:Nat):Prop where
 want:∀st,wantA [] [] (tmpsOf nt st lA) ops i=.ok false
 low:∀st,lowT [] [] (tmpsOf nt st lA)=true
 dst:dstOf ops i=some d
structure OpC(nt:Nat)(ops:Array Oper)(i:Nat)(lA:List (Nat×AV))(f:FuncId)(args:List AV)(d:Nat):Prop where
 want:∀st,wantA [] [] (tmpsOf nt st lA) ops i=.ok true
 op:∀st,opA [] [] (tmpsOf nt st lA) ops i=.ok (.enter f args,hN)
 low:∀st,lowT [] [] (tmpsOf nt st lA)=true
 dst:dstOf ops i=some d
 dlt:d<nt
 alow:AV.lows 100 args=true
section
variable {w:World}{cs:List Frame}{fr:Frame}{fn nt i d:Nat}{ops:Array Oper}{l:List Nat}{k:List Item}{lv:List (Nat×Value)}{lA:List (Nat×AV)}{bs:List (BE×Bool)}{mem:List (AA×AV)}
theorem OpV.go{a:AV}(o:OpV nt ops i bs mem lA a d)(ρ:Env)(hf:FA fn nt (.inRegion ops (i::l)::k) [] .normal lv fr)(hdn:d<nt)(hl:Tell lv (told ρ lA))(hb:AllB ρ bs)(hm:AllM ρ w mem):
  Goes (G fr cs) w fun g' w'=>∃fr',g'=G fr' cs∧Fresh w w'∧FA fn nt (.inRegion ops l::k) [] .normal (lvPut d (a.ev ρ) lv) fr':=
 op_value (ρ:=ρ) hf (.inl rfl) hl.mem o.want o.op o.low hb.mem hm.mem o.dst hdn o.alow
theorem OpS.go(o:OpS nt ops i lA d)(ρ:Env)(hf:FA fn nt (.inRegion ops (i::l)::k) [] .normal lv fr)(hdn:d<nt)(hl:Tell lv (told ρ lA)):
  Goes (G fr cs) w fun g' w'=>∃fr',g'=G fr' cs∧Fresh w w'∧FA fn nt (.inRegion ops l::k) [] .normal (lvPut d undef lv) fr':=
 op_skip (ρ:=ρ) (bs:=[]) (mem:=[]) hf hl.mem o.want o.low (nofun) (nofun) o.dst hdn
theorem OpC.go{f:FuncId}{args:List AV}(o:OpC nt ops i lA f args d)(ρ:Env){Q:Value->World->Prop}(hf:FA fn nt (.inRegion ops (i::l)::k) [] .normal lv fr)(hl:Tell lv (told ρ lA))(h:∀w',Fresh w w'->Ans f (AV.evs ρ args).toArray w' fun v w2=>Fresh w' w2∧Q v w2):
  Goes (G fr cs) w fun g' w'=>∃fr' v,g'=G fr' cs∧Fresh w w'∧Q v w'∧FA fn nt (.inRegion ops l::k) [] .normal (lvPut d v lv) fr':=
 (op_call (ρ:=ρ) (bs:=[]) (mem:=[]) (Q:=fun v w2=>Fresh w w2∧Q v w2) hf hl.mem o.want o.op o.low (nofun) (nofun) o.dst o.dlt o.alow (fun w' f1=>(h w' f1).mono fun v w2 hd=>⟨f1.trans hd.1,hd.2⟩)).mono fun g' w' hd=>by
  obtain⟨fr',v,h1,h2,h3⟩:=hd
  exact⟨fr',v,h1,h2.1,h2.2,h3⟩
end
theorem enter3{f nt:Nat}{t:TT}{body:Code}(h:enterA Try.prog f [.opq 0,.opq 1,.opq 2] .normal=.ok ⟨f,nt,t,[.code body],[],.run,.normal⟩)(hs:frSeen (⟨f,nt,t,[.code body],[],.run,.normal⟩:AFrame) [0,1,2]=⟨f,nt,[.code body],[],.run,.normal,[],[],[.opq 0,.opq 1,.opq 2]⟩)(x y z:Value):
  FA f nt [.code body] [] .normal [(0,x),(1,y),(2,z)] (Frame.enter Try.prog f #[x,y,z] .normal):=by
 let ρ:Env:=mkE [] [] [(0,x),(1,y),(2,z)]
 exact FAt.of (live:=[0,1,2]) (vals:=[.opq 0,.opq 1,.opq 2]) (dA:=[]) (enterA_ok (U:=fun _=>True) h (.inl rfl) ⟨trivial,trivial,trivial,trivial⟩ (ρ:=ρ)).1 hs (.inl rfl)
def preN(ops:Array Oper)(i:Nat):List Nat:=match ops[i]? with
 |some o=>(o.after.toList.filter fun e=>Region.binds .any e).map (·.on)
 |none=>[]
theorem ready_pre{ops:Array Oper}{r:List Nat}{i:Nat}(h:i∈readyIn ops r):i<ops.size∧i∉r∧∀p∈preN ops i,p∈r:=by
 refine⟨(readyIn_mem h).1,(readyIn_mem h).2,fun p hp=>?_⟩
 obtain⟨_,o,ho,hq⟩:=ready_iff.1 h
 unfold preN at hp
 rw[ho]at hp
 obtain⟨e,he,rfl⟩:=List.mem_map.1 hp
 obtain⟨h1,h2⟩:=List.mem_filter.1 he
 exact hq e h1 h2
theorem sched_end{ops:Array Oper}{r:List Nat}(h:Sched ops r []){i:Nat}(hi:i<ops.size)(hr:i∉r)(hp:∀p∈preN ops i,p∈r):False:=by
 have h':readyIn ops r=[]:=h
 have:i∈readyIn ops r:=ready_iff.2 ⟨hr,ops[i],Array.getElem?_eq_getElem hi,fun e he hb=>hp _ (by
  unfold preN
  rw[Array.getElem?_eq_getElem hi]
  exact List.mem_map.2 ⟨e,List.mem_filter.2 ⟨he,hb⟩,rfl⟩)⟩
 rw[h']at this
 cases this
theorem sched_full{ops:Array Oper}(hp:∀i,i<ops.size->∀p∈preN ops i,p<i){r:List Nat}(hs:Sched ops r []):∀i,i<ops.size->i∈r:=by
 intro i
 induction i using Nat.strongRecOn with
 |ind i ih=>
  intro hi
  refine Classical.byContradiction fun hr=>sched_end hs hi hr fun p hpp=>ih p (hp i hi p hpp) (Nat.lt_trans (hp i hi p hpp) hi)
section
variable {fn nt:Nat}{ops:Array Oper}{k:List Item}{b:List (Nat×Value)}{cs:List Frame}
structure DrG(fn nt:Nat)(ops:Array Oper)(k:List Item)(b:List (Nat×Value))(nm:Nat->Nat)(val:Nat->Value->World->Prop)(r l:List Nat)(fr:Frame)(w:World):Prop where
 ex:∃lv,FA fn nt (.inRegion ops l::k) [] .normal lv fr∧(∀x∈b,x∈lv)∧∀i∈r,∃v,(nm i,v)∈lv∧val i v w
theorem draw_in{w:World}{fr:Frame}{id:Nat}(hf:FA fn nt (.code (.region id ops true)::k) [] .normal b fr):
  Goes (G fr cs) w fun g' w'=>∃l fr',g'=G fr' cs∧Fresh w w'∧Sched ops [] l∧FA fn nt (.inRegion ops l::k) [] .normal b fr':=by
 obtain⟨⟨tm,rfl,h2,h3⟩,h4,h5⟩:=hf
 have s:=step_region_draw (P:=Try.prog) (b:=Go.Proofs.Ytmobbajggkjpgaa.SX.mkF fn .normal) (a:=⟨tm,[]⟩) (ops:=ops) (id:=id) (k:=k) (cs:=cs) (w:=w)
 rw[show Try.prog.follows .mixedOrders=true from mixed]at s
 exact⟨_,_,.head s (.refl _ _),_,_,rfl,⟨fun _ _=>rfl,Nat.le_refl _,rfl,rfl,rfl⟩,schedule_sched ops _,⟨tm,rfl,h2,h3⟩,h4,h5⟩
theorem draw_all{nm:Nat->Nat}{val:Nat->Value->World->Prop}(hp:∀i,i<ops.size->∀p∈preN ops i,p<i)(hb:∀i,i<ops.size->∀x∈b,x.1≠nm i)(hn:∀i j,i<ops.size->j<ops.size->i≠j->nm j≠nm i)(keep:∀i v w w',val i v w->Fresh w w'->val i v w')
 {w0:World}(step:∀i,i<ops.size->∀(l:List Nat) (w:World) (fr:Frame) (lv:List (Nat×Value)),Fresh w0 w->FA fn nt (.inRegion ops (i::l)::k) [] .normal lv fr->(∀x∈b,x∈lv)->(∀p∈preN ops i,∃v,(nm p,v)∈lv∧val p v w)->
   Goes (G fr cs) w fun g' w'=>∃fr' v,g'=G fr' cs∧Fresh w w'∧val i v w'∧FA fn nt (.inRegion ops l::k) [] .normal (lvPut (nm i) v lv) fr'):
  ∀(l r:List Nat) {w:World} {fr:Frame},Fresh w0 w->(∀i∈r,i<ops.size)->Sched ops r l->DrG fn nt ops k b nm val r l fr w->Goes (G fr cs) w fun g' w'=>∃fr' lv,g'=G fr' cs∧Fresh w0 w'∧FA fn nt (.inRegion ops []::k) [] .normal lv fr'∧(∀x∈b,x∈lv)∧∀i,i<ops.size->∃v,(nm i,v)∈lv∧val i v w'
 |[],r,w,fr,hi,hr,hs,D=>by
  obtain⟨lv,h1,h2,h3⟩:=D.ex
  exact .here ⟨fr,lv,rfl,hi,h1,h2,fun i hlt=>h3 i (sched_full hp hs i hlt)⟩
 |i::l,r,w,fr,hi,hr,hs,D=>by
  obtain⟨lv,h1,h2,h3⟩:=D.ex
  obtain⟨q1,q2,q3⟩:=ready_pre hs.1
  refine(step i q1 l w fr lv hi h1 h2 fun p hpp=>h3 p (q3 p hpp)).trans fun g1 w1 hd=>?_
  obtain⟨fr1,v,rfl,f1,hv,F1⟩:=hd
  refine draw_all hp hb hn keep step l (i::r) (hi.trans f1) (fun j hj=>?_) hs.2 ⟨_,F1,fun x hx=>?_,fun j hj=>?_⟩
  ·rcases List.mem_cons.1 hj with rfl|hj
   ·exact q1
   ·exact hr j hj
  ·exact List.mem_cons_of_mem _ (List.mem_filter.2 ⟨h2 x hx,by simpa using hb i q1 x hx⟩)
  ·rcases List.mem_cons.1 hj with rfl|hj
   ·exact⟨v,List.mem_cons_self ..,hv⟩
   ·obtain⟨u,h4,h5⟩:=h3 j hj
    refine⟨u,List.mem_cons_of_mem _ (List.mem_filter.2 ⟨h4,?_⟩),keep _ _ _ _ h5 f1⟩
    have:=hn i j q1 (hr j hj) fun e=>q2 (e▸hj)
    simpa using this
end
def isDraw(c:Code):Bool:=match c with
 |.region _ _ true=>true
 |_=>false
theorem draw_is{c:Code}(h:isDraw c=true):∃id,c=.region id (opsOf c) true:=by
 unfold isDraw at h
 split at h
 ·exact⟨_,rfl⟩
 ·cases h
theorem pre_ok{ops:Array Oper}{n:Nat}(hn:ops.size=n)(h:((List.range n).all fun i=>(preN ops i).all fun p=>Nat.blt p i)=true):∀i,i<ops.size->∀p∈preN ops i,p<i:=fun i hi p hp=>by
 have h1:=List.all_eq_true.1 h i (List.mem_range.2 (hn▸hi))
 exact Nat.blt_eq.mp (List.all_eq_true.1 h1 p hp)
theorem pin{ops:Array Oper}{i p:Nat}(h:(preN ops i).contains p=true):p∈preN ops i:=by simpa using h
structure OpW(nt:Nat)(ops:Array Oper)(i:Nat)(lA:List (Nat×AV))(op:Op)(ty:TypeId)(d:Option Nat):Prop where
 want:∀st,wantA [] [] (tmpsOf nt st lA) ops i=.ok true
 low:∀st,lowT [] [] (tmpsOf nt st lA)=true
 is:(ops[i]?).map (fun o=>(o.op,o.type,o.dst))=some (op,ty,d)
theorem OpW.ex{nt i:Nat}{ops:Array Oper}{lA:List (Nat×AV)}{op:Op}{ty:TypeId}{d:Option Nat}(o:OpW nt ops i lA op ty d):∃x:Oper,ops[i]?=some x∧x.op=op∧x.type=ty∧x.dst=d:=by
 have:=o.is
 cases e:ops[i]? with
 |none=>rw[e]at this;cases this
 |some x=>
  rw[e]at this
  simp only[Option.map_some,Option.some.injEq,Prod.mk.injEq]at this
  exact⟨x,rfl,this⟩
section
variable {w:World}{cs:List Frame}{fr:Frame}{fn nt i d:Nat}{ops:Array Oper}{l:List Nat}{k:List Item}{lv:List (Nat×Value)}{lA:List (Nat×AV)}{op:Op}{ty:TypeId}{R:Value->World->Prop}
theorem lookV_tm{tm:Array Value}{n:Nat}{x:Value}(h:∀p∈lv,tm.getD p.1 undef=p.2)(hx:lookV n lv=some x):tm.getD n undef=x:=h _ (lookV_mem hx)
theorem OpW.go(o:OpW nt ops i lA op ty (some d))(ρ:Env)(hf:FA fn nt (.inRegion ops (i::l)::k) [] .normal lv fr)(hdn:d<nt)(hl:Tell lv (told ρ lA))
 (W:∀tm:Array Value,(∀n x,lookV n lv=some x->(⟨tm,[]⟩:Act).eval (.tmp n)=x)->∀x:Oper,x.op=op->x.type=ty->wq Try.prog (fun _=>True) (fun _ _=>False) (execOp (⟨tm,[]⟩:Act).eval x) (fun nx w'=>∃v,nx=.value v∧R v w') w):
  Goes (G fr cs) w fun g' w'=>∃fr' v,g'=G fr' cs∧R v w'∧FA fn nt (.inRegion ops l::k) [] .normal (lvPut d v lv) fr':=by
 obtain⟨⟨tm,rfl,h2,h3⟩,h4,h5⟩:=hf
 obtain⟨x,hx,e1,e2,e3⟩:=o.ex
 obtain⟨x',hx',hwt,_⟩:=op_run (ρ:=ρ) (bs:=[]) (mem:=[]) (ds:=[]) (w:=w) h2 h4 (fun p hp=>h3 p (hl.mem p hp)) (o.want _) (o.low _) (nofun) (nofun)
 obtain rfl:x=x':=Option.some.inj (hx.symm.trans hx')
 have q1:((execOp (⟨tm,[]⟩:Act).eval x).run Try.prog w).goes (fun nx w'=>∃v,nx=.value v∧R v w') (fun _ _=>False):=(wq_run (W tm (fun n y hy=>lookV_tm h3 hy) x e1 e2)).1
 have hgs:=stepG_op (P:=Try.prog) (b:=Go.Proofs.Ytmobbajggkjpgaa.SX.mkF fn .normal) (k:=k) (cs:=cs) (w:=w) (rest:=l) (a:=⟨tm,[]⟩) hx hwt
 cases e:(execOp (⟨tm,[]⟩:Act).eval x).run Try.prog w with
 |halt y w'=>
  rw[e]at q1
  cases y<;>exact q1.elim
 |ok nx w'=>
  rw[e]at q1
  obtain⟨v,rfl,hR⟩:=q1
  have s:step Try.prog (lone ((Go.Proofs.Ytmobbajggkjpgaa.SX.mkF fn .normal).at ⟨tm,[]⟩ (.inRegion ops (i::l)::k)) cs w)=.next (lone ((Go.Proofs.Ytmobbajggkjpgaa.SX.mkF fn .normal).at ((⟨tm,[]⟩:Act).put ((ops[i]?).bind (·.dst)) v) (.inRegion ops l::k)) cs w'):=by
   refine step_lone_go ?_
   rw[hgs,<-Frame.finish_at]
   simp[stepG.apply,e]
  refine⟨_,w',.head s (.refl _ _),_,v,rfl,hR,?_⟩
  rw[hx,Option.bind_some,e3]
  exact put_fa h2 h3 h4 h5 hdn
theorem OpW.go0{R:World->Prop}(o:OpW nt ops i lA op ty none)(ρ:Env)(hf:FA fn nt (.inRegion ops (i::l)::k) [] .normal lv fr)(hl:Tell lv (told ρ lA))
 (W:∀tm:Array Value,(∀n x,lookV n lv=some x->(⟨tm,[]⟩:Act).eval (.tmp n)=x)->∀x:Oper,x.op=op->x.type=ty->wq Try.prog (fun _=>True) (fun _ _=>False) (execOp (⟨tm,[]⟩:Act).eval x) (fun nx w'=>nx=.skip∧R w') w):
  Goes (G fr cs) w fun g' w'=>∃fr',g'=G fr' cs∧R w'∧FA fn nt (.inRegion ops l::k) [] .normal lv fr':=by
 obtain⟨⟨tm,rfl,h2,h3⟩,h4,h5⟩:=hf
 obtain⟨x,hx,e1,e2,e3⟩:=o.ex
 obtain⟨x',hx',hwt,_⟩:=op_run (ρ:=ρ) (bs:=[]) (mem:=[]) (ds:=[]) (w:=w) h2 h4 (fun p hp=>h3 p (hl.mem p hp)) (o.want _) (o.low _) (nofun) (nofun)
 obtain rfl:x=x':=Option.some.inj (hx.symm.trans hx')
 have q1:((execOp (⟨tm,[]⟩:Act).eval x).run Try.prog w).goes (fun nx w'=>nx=.skip∧R w') (fun _ _=>False):=(wq_run (W tm (fun n y hy=>lookV_tm h3 hy) x e1 e2)).1
 have hgs:=stepG_op (P:=Try.prog) (b:=Go.Proofs.Ytmobbajggkjpgaa.SX.mkF fn .normal) (k:=k) (cs:=cs) (w:=w) (rest:=l) (a:=⟨tm,[]⟩) hx hwt
 cases e:(execOp (⟨tm,[]⟩:Act).eval x).run Try.prog w with
 |halt y w'=>
  rw[e]at q1
  cases y<;>exact q1.elim
 |ok nx w'=>
  rw[e]at q1
  obtain⟨rfl,hR⟩:=q1
  have s:step Try.prog (lone ((Go.Proofs.Ytmobbajggkjpgaa.SX.mkF fn .normal).at ⟨tm,[]⟩ (.inRegion ops (i::l)::k)) cs w)=.next (lone ((Go.Proofs.Ytmobbajggkjpgaa.SX.mkF fn .normal).at ((⟨tm,[]⟩:Act).put ((ops[i]?).bind (·.dst)) undef) (.inRegion ops l::k)) cs w'):=by
   refine step_lone_go ?_
   rw[hgs,<-Frame.finish_at]
   simp[stepG.apply,e]
  refine⟨_,w',.head s (.refl _ _),_,rfl,hR,?_⟩
  rw[hx,Option.bind_some,e3]
  exact⟨⟨tm,rfl,h2,h3⟩,h4,h5⟩
end
def TextMap(w:World)(M:Nat)(ks:List (ByteArray×Bool)):Prop:=MapIs w M (ks.map fun p=>(.string p.1,.bool p.2))
def findT(s:ByteArray)(ks:List (ByteArray×Bool)):Option Bool:=(ks.find? fun p=>s==p.1).map (·.2)
theorem findNow_text{s:ByteArray}:∀{es:List MapEntry} {ks:List (ByteArray×Bool)} (i:Nat),es.map (fun e=>(e.key,e.val))=ks.map (fun p=>(.string p.1,.bool p.2))->∃r,Instr.findNow .string (.string s) es i=some r∧r.map (·.2)=(findT s ks).map .bool
 |[],ks,i,h=>by
  cases ks with
  |nil=>exact⟨none,rfl,rfl⟩
  |cons k ks=>cases h
 |e::es,ks,i,h=>by
  cases ks with
  |nil=>cases h
  |cons k ks=>
   simp only[List.map_cons,List.cons.injEq,Prod.mk.injEq]at h
   obtain⟨⟨h1,h2⟩,h3⟩:=h
   unfold Instr.findNow
   rw[h1]
   unfold findT
   rw[List.find?_cons]
   show ∃r,(match some (s==k.1)with
    |some true=>some (some (i,e.val))
    |some false=>Instr.findNow .string (.string s) es (i+1)
    |none=>none)=some r∧_
   cases hb:s==k.1 with
   |true=>exact⟨_,rfl,by simp[h2]⟩
   |false=>
    obtain⟨r,h4,h5⟩:=findNow_text (i+1) h3
    exact⟨r,h4,h5⟩
theorem mapU:Try.prog.underlying 76=some (.map 9 4):=by kernel_rfl
theorem strU:Try.prog.underlying 9=some .string:=by kernel_rfl
theorem boolZ:zero? Try.prog 4=.ok (.bool (.lit false)):=by kernel_rfl
theorem wq_checkText{Ev:Event->Prop}{E:Value->World->Prop}{w:World}{k:Value}{b:Bool}{Q:Unit->World->Prop}(hq:Q () w):wq Try.prog Ev E (Instr.checkKey b 10000 9 k) Q w:=by
 unfold Instr.checkKey
 simp only[wq_bind,wq_underlying strU]
 cases k<;>exact hq
theorem wq_findText{Ev:Event->Prop}{E:Value->World->Prop}{w:World}{s:ByteArray}{es:List MapEntry}{ks:List (ByteArray×Bool)}(h:es.map (fun e=>(e.key,e.val))=ks.map (fun p=>(.string p.1,.bool p.2))){Q:Option (Nat×Value)->World->Prop}(hq:∀r,r.map (·.2)=(findT s ks).map .bool->Q r w):wq Try.prog Ev E (Instr.findKey 9 (.string s) es) Q w:=by
 unfold Instr.findKey
 simp only[wq_bind,wq_underlying strU]
 obtain⟨r,h1,h2⟩:=findNow_text (s:=s) 0 h
 rw[h1]
 exact hq r h2
section
variable {w:World}{M:Nat}{ks:List (ByteArray×Bool)}{s:ByteArray}{E:Value->World->Prop}
def lookR(ok:Bool)(r:Option Bool):Value:=if ok then .tuple #[.bool (r.getD false),.bool r.isSome]else .bool (r.getD false)
theorem wq_lookText(h:TextMap w M ks){ok:Bool}{Q:Value->World->Prop}(hq:Q (lookR ok (findT s ks)) w):wq Try.prog (fun _=>True) E (Instr.lookup 76 (.map (some M)) (.string s) ok) Q w:=by
 obtain⟨arr,clk,h1,h2⟩:=h
 simp only[Instr.lookup,wq_bind,wq_underlying mapU]
 refine wq_getObj h1 (by intros;simp) trivial ?_
 simp only[wq_bind,wq_pure]
 refine wq_checkText ?_
 refine wq_findText h2 fun r hr=>?_
 cases r with
 |none=>
  have e:findT s ks=none:=by
   cases e:findT s ks with
   |none=>rfl
   |some b=>rw[e]at hr;cases hr
  rw[e]at hq
  simp only[wq_bind,wq_pure]
  rw[wq_zeroValue (ρ:=mkE [] [] []) boolZ]
  cases ok<;>exact hq
 |some p=>
  obtain⟨j,x⟩:=p
  have e:∃b,findT s ks=some b∧x=.bool b:=by
   cases e:findT s ks with
   |none=>rw[e]at hr;cases hr
   |some b=>
    rw[e]at hr
    exact⟨b,rfl,Option.some.inj hr⟩
  obtain⟨b,e1,rfl⟩:=e
  rw[e1]at hq
  simp only[wq_pure]
  cases ok<;>exact hq
theorem wq_newText(h:TextMap w M ks)(hn:findT s ks=none){b:Bool}{Q:Unit->World->Prop}(hq:∀w',TextMap w' M (ks++[(s,b)])->Keeps (fun n=>n=M) w w'->Q () w'):wq Try.prog (fun _=>True) E (Instr.mapUpdate 76 (.map (some M)) (.string s) (.bool b)) Q w:=by
 have hlt:=MapIs.lt h
 obtain⟨arr,clk,h1,h2⟩:=h
 simp only[Instr.mapUpdate,wq_bind,wq_underlying mapU]
 refine wq_getObj h1 (by intros;simp) trivial ?_
 simp only[wq_bind]
 refine wq_checkText ?_
 refine wq_findText h2 fun r hr=>?_
 rw[hn]at hr
 cases r with
 |some p=>cases hr
 |none=>
  refine wq_setObj h1 (by intros;simp) trivial ?_
  refine hq _ ⟨arr.push {key:=.string s,val:=.bool b,born:=clk},clk+1,?_,?_⟩ ⟨fun n hn=>?_,?_,rfl,rfl,rfl⟩
  ·simp[hlt]
  ·rw[Array.toList_push,List.map_append,h2,List.map_append]
   rfl
  ·have:M≠n:=fun e=>hn e.symm
   simp[this]
  ·simp
end
noncomputable def q55(l:List Nat):Code:=pc (bodyOf Try.f55) l
theorem ent55:enterA Try.prog 55 [.opq 0] .normal=.ok ⟨55,11,entT 55 [.opq 0],[.code (bodyOf Try.f55)],[],.run,.normal⟩:=by kernel_rfl
theorem ret55:RetC 55 11 2:=fun st=>by kernel_rfl
noncomputable def q53(l:List Nat):Code:=pc (bodyOf Try.f53) l
theorem ent53:enterA Try.prog 53 [.opq 0] .normal=.ok ⟨53,29,entT 53 [.opq 0],[.code (bodyOf Try.f53)],[],.run,.normal⟩:=by kernel_rfl
theorem ret53:RetC 53 29 2:=fun st=>by kernel_rfl
noncomputable def q54(l:List Nat):Code:=pc (bodyOf Try.f54) l
theorem ent54:enterA Try.prog 54 [] .normal=.ok ⟨54,3,entT 54 [],[.code (bodyOf Try.f54)],[],.run,.normal⟩:=by kernel_rfl
theorem ret54:RetC 54 3 0:=fun st=>by kernel_rfl
noncomputable def q44(l:List Nat):Code:=pc (bodyOf Try.f44) l
theorem ent44:enterA Try.prog 44 [.opq 0] .normal=.ok ⟨44,43,entT 44 [.opq 0],[.code (bodyOf Try.f44)],[],.run,.normal⟩:=by kernel_rfl
theorem ret44:RetC 44 43 2:=fun st=>by kernel_rfl
noncomputable def q56(l:List Nat):Code:=pc (bodyOf Try.f56) l
theorem ent56:enterA Try.prog 56 [.opq 0,.opq 1] .normal=.ok ⟨56,34,entT 56 [.opq 0,.opq 1],[.code (bodyOf Try.f56)],[],.run,.normal⟩:=by kernel_rfl
theorem ret56:RetC 56 34 4:=fun st=>by kernel_rfl
theorem rk4:Pc 55 11 [.code (q55 [])] [(0,i8 (v 1))] [((.cmp .eql (v 1) (.lit 4)),true)] [] [] 23 [] [2] [.code .ret,.inBlock 0,.code (q55 [1,1])] [i64 (.lit 1)] []:=⟨fun st=>by kernel_rfl,fun st=>by kernel_rfl,by kernel_rfl,of_decide_eq_true (by kernel_rfl)⟩
theorem rk5:Pc 55 11 [.code (q55 [])] [(0,i8 (v 1))] [((.cmp .eql (v 1) (.lit 4)),false),((.cmp .eql (v 1) (.lit 5)),true)] [] [] 26 [] [2] [.code .ret,.inBlock 0,.code (q55 [1,1])] [i64 (.lit 1)] []:=⟨fun st=>by kernel_rfl,fun st=>by kernel_rfl,by kernel_rfl,of_decide_eq_true (by kernel_rfl)⟩
theorem rk6:Pc 55 11 [.code (q55 [])] [(0,i8 (v 1))] [((.cmp .eql (v 1) (.lit 4)),false),((.cmp .eql (v 1) (.lit 5)),false),((.cmp .eql (v 1) (.lit 6)),true)] [] [] 32 [] [2] [.code .ret,.inBlock 0,.code (q55 [1,1])] [i64 (.lit 2)] []:=⟨fun st=>by kernel_rfl,fun st=>by kernel_rfl,by kernel_rfl,of_decide_eq_true (by kernel_rfl)⟩
theorem rk3:Pc 55 11 [.code (q55 [])] [(0,i8 (v 1))] [((.cmp .eql (v 1) (.lit 4)),false),((.cmp .eql (v 1) (.lit 5)),false),((.cmp .eql (v 1) (.lit 6)),false),((.cmp .eql (v 1) (.lit 3)),true)] [] [] 38 [] [2] [.code .ret,.inBlock 0,.code (q55 [1,1])] [i64 (.lit 3)] []:=⟨fun st=>by kernel_rfl,fun st=>by kernel_rfl,by kernel_rfl,of_decide_eq_true (by kernel_rfl)⟩
theorem rk0:Pc 55 11 [.code (q55 [])] [(0,i8 (v 1))] [((.cmp .eql (v 1) (.lit 4)),false),((.cmp .eql (v 1) (.lit 5)),false),((.cmp .eql (v 1) (.lit 6)),false),((.cmp .eql (v 1) (.lit 3)),false)] [] [] 40 [] [2] [.code .ret] [i64 (.lit 4)] []:=⟨fun st=>by kernel_rfl,fun st=>by kernel_rfl,by kernel_rfl,of_decide_eq_true (by kernel_rfl)⟩
theorem inAll(a b c d e f g:Bool):Pc 53 29 [.code (q53 [])] [(0,.int .u8 (v 1))] [((.cmp .geq (v 1) (.lit 97)),a),((.cmp .leq (v 1) (.lit 122)),b),((.cmp .geq (v 1) (.lit 65)),c),((.cmp .leq (v 1) (.lit 90)),d),((.cmp .geq (v 1) (.lit 48)),e),((.cmp .leq (v 1) (.lit 57)),f),((.cmp .eql (v 1) (.lit 95)),g)] [] [] 34 [] [2] [.code .ret] [.bool (.lit (a&&b||c&&d||e&&f||g))] []:=⟨fun st=>by cases a<;>cases b<;>cases c<;>cases d<;>cases e<;>cases f<;>cases g<;>kernel_rfl,fun st=>by kernel_rfl,by cases a<;>cases b<;>cases c<;>cases d<;>cases e<;>cases f<;>cases g<;>kernel_rfl,of_decide_eq_true (by kernel_rfl)⟩
theorem wdAll:Pc 54 3 [.code (q54 [])] [] [] [] [] 21 [100] [0] [.code .ret] [.map (some (.dyn 100))] [(100,.map [(.str ⟨#[108,101,116]⟩,FB),(.str ⟨#[111,117,116]⟩,FB),(.str ⟨#[114,97,99,101]⟩,FB),(.str ⟨#[99,97,110,99,101,108]⟩,FB),(.str ⟨#[97,108,108]⟩,TB),(.str ⟨#[102,105,114,115,116]⟩,TB),(.str ⟨#[119,104,101,110]⟩,TB),(.str ⟨#[102,97,105,108]⟩,TB),(.str ⟨#[112,97,110,105,99]⟩,TB),(.str ⟨#[109,101,109,111]⟩,TB),(.str ⟨#[98,117,114,110]⟩,TB)])]:=⟨fun st=>by kernel_rfl,fun st=>by kernel_rfl,by kernel_rfl,of_decide_eq_true (by kernel_rfl)⟩
theorem nm1:Pc 44 43 [.code (q44 [])] [(0,ss 1)] [((.cmp .lss (.slen (.var 1)) (.lit 1)),true)] [] [] 31 [] [2] [.code .ret,.code (q44 [1,1])] [FB] []:=⟨fun st=>by kernel_rfl,fun st=>by kernel_rfl,by kernel_rfl,of_decide_eq_true (by kernel_rfl)⟩
theorem nm2:Pc 44 43 [.code (q44 [])] [(0,ss 1)] [((.cmp .lss (.slen (.var 1)) (.lit 1)),false),((.cmp .gtr (.slen (.var 1)) (.lit 32)),true)] [] [] 31 [] [2] [.code .ret,.code (q44 [1,1])] [FB] []:=⟨fun st=>by kernel_rfl,fun st=>by kernel_rfl,by kernel_rfl,of_decide_eq_true (by kernel_rfl)⟩
theorem nm3:Pc 44 43 [.code (q44 [])] [(0,ss 1)] [((.cmp .lss (.slen (.var 1)) (.lit 1)),false),((.cmp .gtr (.slen (.var 1)) (.lit 32)),false)] [] [] 17 [] [0,14,15] [.inRegion (opsOf (q44 [1,0,0])) [10,11,12,13,14,15,16,17],.code (q44 [1,0,1]),.code (q44 [1,1])] [ss 1,FB,ss 1] []:=⟨fun st=>by kernel_rfl,fun st=>by kernel_rfl,by kernel_rfl,of_decide_eq_true (by kernel_rfl)⟩
theorem nmA:OpW 43 (opsOf (q44 [1,0,0])) 10 [(14,FB)] (.index 9 (.tmp 15) (.const (.int .i64 0))) 5 (some 16):=⟨fun st=>by kernel_rfl,fun st=>by kernel_rfl,by kernel_rfl⟩
theorem nm4t:Pc 44 43 [.inRegion (opsOf (q44 [1,0,0])) [11,12,13,14,15,16,17],.code (q44 [1,0,1]),.code (q44 [1,1])] [(0,ss 1),(14,FB),(16,.int .u8 (v 2))] [((.cmp .lss (v 2) (.lit 97)),true)] [] [] 13 [] [2] [.code .ret,.code (q44 [1,1])] [FB] []:=⟨fun st=>by kernel_rfl,fun st=>by kernel_rfl,by kernel_rfl,of_decide_eq_true (by kernel_rfl)⟩
theorem nm4f:Pc 44 43 [.inRegion (opsOf (q44 [1,0,0])) [11,12,13,14,15,16,17],.code (q44 [1,0,1]),.code (q44 [1,1])] [(0,ss 1),(14,FB),(16,.int .u8 (v 2))] [((.cmp .lss (v 2) (.lit 97)),false)] [] [] 4 [] [0,19,20] [.inRegion (opsOf (q44 [1,0,0])) [15,16,17],.code (q44 [1,0,1]),.code (q44 [1,1])] [ss 1,FB,ss 1] []:=⟨fun st=>by kernel_rfl,fun st=>by kernel_rfl,by kernel_rfl,of_decide_eq_true (by kernel_rfl)⟩
theorem nmB:OpW 43 (opsOf (q44 [1,0,0])) 15 [(19,FB)] (.index 9 (.tmp 20) (.const (.int .i64 0))) 5 (some 21):=⟨fun st=>by kernel_rfl,fun st=>by kernel_rfl,by kernel_rfl⟩
theorem nm5t:Pc 44 43 [.inRegion (opsOf (q44 [1,0,0])) [16,17],.code (q44 [1,0,1]),.code (q44 [1,1])] [(0,ss 1),(19,FB),(21,.int .u8 (v 2))] [((.cmp .gtr (v 2) (.lit 122)),true)] [] [] 8 [] [2] [.code .ret,.code (q44 [1,1])] [FB] []:=⟨fun st=>by kernel_rfl,fun st=>by kernel_rfl,by kernel_rfl,of_decide_eq_true (by kernel_rfl)⟩
theorem nm5f:Pc 44 43 [.inRegion (opsOf (q44 [1,0,0])) [16,17],.code (q44 [1,0,1]),.code (q44 [1,1])] [(0,ss 1),(19,FB),(21,.int .u8 (v 2))] [((.cmp .gtr (v 2) (.lit 122)),false)] [] [] 14 [] [0,25,26] [.code (q44 [1,1,0,1,0,0]),.inLoop (q44 [1,1,0,1,0,0]),.inBlock 0,.code (q44 [1,1,1])] [ss 1,i64 (.slen (.var 1)),i64 (.lit 0)] []:=⟨fun st=>by kernel_rfl,fun st=>by kernel_rfl,by kernel_rfl,of_decide_eq_true (by kernel_rfl)⟩
theorem nmR:Pc 44 43 [.code (q44 [1,1,0,1,0,0]),.inLoop (q44 [1,1,0,1,0,0]),.inBlock 0,.code (q44 [1,1,1])] [(0,ss 1),(25,i64 (.slen (.var 1))),(26,i64 (v 6))] [((.cmp .lss (v 6) (.slen (.var 1))),true)] [] [] 18 [] [0,25,26,29,30] [.inRegion (opsOf (q44 [1,1,0,1,0,0,1,1,0,0,1,0])) [2,3,4],.code (q44 [1,1,0,1,0,0,1,1,0,0,1,1]),.inBlock 1,.code (q44 [1,1,0,1,0,0,1,1,1]),.inLoop (q44 [1,1,0,1,0,0]),.inBlock 0,.code (q44 [1,1,1])] [ss 1,i64 (.slen (.var 1)),i64 (v 6),ss 1,i64 (v 6)] []:=⟨fun st=>by kernel_rfl,fun st=>by kernel_rfl,by kernel_rfl,of_decide_eq_true (by kernel_rfl)⟩
theorem nmC:OpW 43 (opsOf (q44 [1,1,0,1,0,0,1,1,0,0,1,0])) 2 [] (.index 9 (.tmp 29) (.tmp 30)) 5 (some 31):=⟨fun st=>by kernel_rfl,fun st=>by kernel_rfl,by kernel_rfl⟩
theorem nmD:OpC 43 (opsOf (q44 [1,1,0,1,0,0,1,1,0,0,1,0])) 3 [(31,.opq 31)] 53 [.opq 31] 32:=⟨fun st=>by kernel_rfl,fun st=>by kernel_rfl,fun st=>by kernel_rfl,by kernel_rfl,by decide,rfl⟩
theorem nmF:Pc 44 43 [.inRegion (opsOf (q44 [1,1,0,1,0,0,1,1,0,0,1,0])) [4],.code (q44 [1,1,0,1,0,0,1,1,0,0,1,1]),.inBlock 1,.code (q44 [1,1,0,1,0,0,1,1,1]),.inLoop (q44 [1,1,0,1,0,0]),.inBlock 0,.code (q44 [1,1,1])] [(0,ss 1),(25,i64 (.slen (.var 1))),(26,i64 (v 6)),(32,FB)] [] [] [] 7 [] [2] [.code .ret,.inBlock 1,.code (q44 [1,1,0,1,0,0,1,1,1]),.inLoop (q44 [1,1,0,1,0,0]),.inBlock 0,.code (q44 [1,1,1])] [FB] []:=⟨fun st=>by kernel_rfl,fun st=>by kernel_rfl,by kernel_rfl,of_decide_eq_true (by kernel_rfl)⟩
theorem nmT:Pc 44 43 [.inRegion (opsOf (q44 [1,1,0,1,0,0,1,1,0,0,1,0])) [4],.code (q44 [1,1,0,1,0,0,1,1,0,0,1,1]),.inBlock 1,.code (q44 [1,1,0,1,0,0,1,1,1]),.inLoop (q44 [1,1,0,1,0,0]),.inBlock 0,.code (q44 [1,1,1])] [(0,ss 1),(25,i64 (.slen (.var 1))),(26,i64 (v 6)),(32,TB)] [] [] [] 10 [] [0,25,26] [.code (q44 [1,1,0,1,0,0]),.inLoop (q44 [1,1,0,1,0,0]),.inBlock 0,.code (q44 [1,1,1])] [ss 1,i64 (.slen (.var 1)),i64 (.op .add .i64 (v 6) (.lit 1))] []:=⟨fun st=>by kernel_rfl,fun st=>by kernel_rfl,by kernel_rfl,of_decide_eq_true (by kernel_rfl)⟩
theorem nmE:Pc 44 43 [.code (q44 [1,1,0,1,0,0]),.inLoop (q44 [1,1,0,1,0,0]),.inBlock 0,.code (q44 [1,1,1])] [(0,ss 1),(25,i64 (.slen (.var 1))),(26,i64 (v 6))] [((.cmp .lss (v 6) (.slen (.var 1))),false)] [] [] 9 [] [0] [.inRegion (opsOf (q44 [1,1,1,0])) [0,1,2,3,4,5,6,7],.code (q44 [1,1,1,1])] [ss 1] []:=⟨fun st=>by kernel_rfl,fun st=>by kernel_rfl,by kernel_rfl,of_decide_eq_true (by kernel_rfl)⟩
theorem nmG:OpC 43 (opsOf (q44 [1,1,1,0])) 0 [] 54 [] 36:=⟨fun st=>by kernel_rfl,fun st=>by kernel_rfl,fun st=>by kernel_rfl,by kernel_rfl,by decide,rfl⟩
theorem nmH:Pc 44 43 [.inRegion (opsOf (q44 [1,1,1,0])) [1,2,3,4,5,6,7],.code (q44 [1,1,1,1])] [(0,ss 1),(36,.opq 36)] [] [] [] 1 [] [36,37] [.inRegion (opsOf (q44 [1,1,1,0])) [2,3,4,5,6,7],.code (q44 [1,1,1,1])] [.opq 36,ss 1] []:=⟨fun st=>by kernel_rfl,fun st=>by kernel_rfl,by kernel_rfl,of_decide_eq_true (by kernel_rfl)⟩
theorem nmI:OpW 43 (opsOf (q44 [1,1,1,0])) 2 [] (.lookup 76 (.tmp 36) (.tmp 37) true) 103 (some 38):=⟨fun st=>by kernel_rfl,fun st=>by kernel_rfl,by kernel_rfl⟩
theorem nmJtrue:Pc 44 43 [.inRegion (opsOf (q44 [1,1,1,0])) [3,4,5,6,7],.code (q44 [1,1,1,1])] [(38,.tuple [.opq 0,TB])] [] [] [] 12 [] [2] [.code .ret] [FB] []:=⟨fun st=>by kernel_rfl,fun st=>by kernel_rfl,by kernel_rfl,of_decide_eq_true (by kernel_rfl)⟩
theorem nmJfalse:Pc 44 43 [.inRegion (opsOf (q44 [1,1,1,0])) [3,4,5,6,7],.code (q44 [1,1,1,1])] [(38,.tuple [.opq 0,FB])] [] [] [] 12 [] [2] [.code .ret] [TB] []:=⟨fun st=>by kernel_rfl,fun st=>by kernel_rfl,by kernel_rfl,of_decide_eq_true (by kernel_rfl)⟩
def rkOf(op:Int):Int:=if op=4 then 1 else if op=5 then 1 else if op=6 then 2 else if op=3 then 3 else 4
def u8V(n:Nat):Value:=.int .u8 n
section
variable {w:World}{cs:List Frame}{fr:Frame}
theorem rank_all{op:Int}:Ans 55 #[i8V op] w fun v w'=>Fresh w w'∧v=iV (rkOf op):=by
 have E:=enter1 ent55 rfl (i8V op)
 have no:∀{n:Int},op≠n->(decide (op=n))=false:=fun h=>decide_eq_false h
 unfold rkOf
 by_cases h4:op=4
 ·subst h4
  refine(rk4.ans ret55 (mkE [(1,4)] [] []) E rfl ⟨rfl,trivial⟩ trivial).mono fun v w' ⟨f,I,B,e,_⟩=>⟨f,e⟩
 ·by_cases h5:op=5
  ·subst h5
   refine(rk5.ans ret55 (mkE [(1,5)] [] []) E rfl ⟨rfl,rfl,trivial⟩ trivial).mono fun v w' ⟨f,I,B,e,_⟩=>⟨f,e⟩
  ·by_cases h6:op=6
   ·subst h6
    refine(rk6.ans ret55 (mkE [(1,6)] [] []) E rfl ⟨rfl,rfl,rfl,trivial⟩ trivial).mono fun v w' ⟨f,I,B,e,_⟩=>⟨f,e⟩
   ·by_cases h3:op=3
    ·subst h3
     refine(rk3.ans ret55 (mkE [(1,3)] [] []) E rfl ⟨rfl,rfl,rfl,rfl,trivial⟩ trivial).mono fun v w' ⟨f,I,B,e,_⟩=>⟨f,e⟩
    ·rw[if_neg h4,if_neg h5,if_neg h6,if_neg h3]
     refine(rk0.ans ret55 (mkE [(1,op)] [] []) E rfl ⟨no h4,no h5,no h6,no h3,trivial⟩ trivial).mono fun v w' ⟨f,I,B,e,_⟩=>⟨f,e⟩
def insideB(b:Int):Bool:=decide (b≥97)&&decide (b≤122)||decide (b≥65)&&decide (b≤90)||decide (b≥48)&&decide (b≤57)||decide (b=95)
theorem inside_all{b:Nat}:Ans 53 #[u8V b] w fun v w'=>Fresh w w'∧v=.bool (insideB b):=
 ((inAll (decide ((b:Int)≥97)) (decide ((b:Int)≤122)) (decide ((b:Int)≥65)) (decide ((b:Int)≤90)) (decide ((b:Int)≥48)) (decide ((b:Int)≤57)) (decide ((b:Int)=95))).ans ret53 (mkE [(1,b)] [] []) (enter1 ent53 rfl (u8V b)) rfl ⟨rfl,rfl,rfl,rfl,rfl,rfl,rfl,trivial⟩ trivial).mono fun v w' ⟨f,I,B,e,_⟩=>⟨f,e⟩
def wordL:List (ByteArray×Bool):=[(⟨#[108,101,116]⟩,false),(⟨#[111,117,116]⟩,false),(⟨#[114,97,99,101]⟩,false),(⟨#[99,97,110,99,101,108]⟩,false),(⟨#[97,108,108]⟩,true),(⟨#[102,105,114,115,116]⟩,true),(⟨#[119,104,101,110]⟩,true),(⟨#[102,97,105,108]⟩,true),(⟨#[112,97,110,105,99]⟩,true),(⟨#[109,101,109,111]⟩,true),(⟨#[98,117,114,110]⟩,true)]
theorem words_all:Ans 54 #[] w fun v w'=>Fresh w w'∧∃M,v=.map (some M)∧TextMap w' M wordL:=
 (wdAll.ans ret54 (mkE [] [] []) (enter0 ent54) rfl trivial trivial).mono fun v w' ⟨f,I,B,e,bl,_⟩=>⟨f,_,e,bl.1.2⟩
def byteAt(s:ByteArray)(i:Nat):Nat:=((s[i]?).map (·.toNat)).getD 0
theorem wq_char{Ev:Event->Prop}{E:Value->World->Prop}{s:ByteArray}{i:Nat}(hi:i<s.size){Q:Value->World->Prop}(hq:Q (u8V (byteAt s i)) w):wq Try.prog Ev E (Instr.index 9 (.string s) (iV i)) Q w:=by
 unfold Instr.index
 simp only[iV,asIntOf,wq_bind,wq_pure,wq_underlying strU]
 have h0:(0:Int)≤(i:Int):=by omega
 rw[if_pos h0]
 have e:s[(i:Int).toNat]?=some s[i]:=getElem?_pos s i hi
 rw[e]
 have:u8V (byteAt s i)=.int .u8 s[i].toNat:=by
  unfold u8V byteAt
  rw[getElem?_pos s i hi]
  rfl
 rw[this]at hq
 exact hq
def nameOk(s:ByteArray):Bool:=decide (1≤s.size)&&decide (s.size≤32)&&decide (97≤byteAt s 0)&&decide (byteAt s 0≤122)&&(List.range s.size).all (fun i=>insideB (byteAt s i))&&(findT s wordL).isNone
theorem char_go{i d nt fn:Nat}{ops:Array Oper}{lA:List (Nat×AV)}{l:List Nat}{k:List Item}{lv:List (Nat×Value)}{x y:Operand}{s:ByteArray}{j:Nat}(o:OpW nt ops i lA (.index 9 x y) 5 (some d))(ρ:Env)(hf:FA fn nt (.inRegion ops (i::l)::k) [] .normal lv fr)(hdn:d<nt)(hl:Tell lv (told ρ lA))(hj:j<s.size)
 (hx:∀tm:Array Value,(∀n x,lookV n lv=some x->(⟨tm,[]⟩:Act).eval (.tmp n)=x)->(⟨tm,[]⟩:Act).eval x=.string s∧(⟨tm,[]⟩:Act).eval y=iV j):
  Goes (G fr cs) w fun g' w'=>∃fr',g'=G fr' cs∧w'=w∧FA fn nt (.inRegion ops l::k) [] .normal (lvPut d (u8V (byteAt s j)) lv) fr':=by
 refine(o.go (R:=fun v w'=>v=u8V (byteAt s j)∧w'=w) ρ hf hdn hl fun tm htm x' e1 e2=>?_).mono fun g' w' hd=>?_
 ·obtain⟨h1,h2⟩:=hx tm htm
  unfold execOp
  simp only[e1,h1,h2,wq_bind]
  exact wq_char hj ⟨_,rfl,rfl,rfl⟩
 ·obtain⟨fr',v,rfl,⟨rfl,rfl⟩,F⟩:=hd
  exact⟨fr',rfl,rfl,F⟩
theorem nm_end{s:ByteArray}{w0:World}(fw:Fresh w0 w){P:Prop}(hP:P)(hf:FA 44 43 (.inRegion (opsOf (q44 [1,1,1,0])) [0,1,2,3,4,5,6,7]::[.code (q44 [1,1,1,1])]) [] .normal [(0,.string s)] fr):
  Goes (G fr cs) w fun g' w'=>∃fr',g'=G fr' cs∧Fresh w0 w'∧Leav 44 fr' w' (.bool (findT s wordL).isNone):=by
 refine(nmG.go (mkE [] [] []) (Q:=fun v w'=>∃M,v=.map (some M)∧TextMap w' M wordL) hf rfl fun w' f1=>words_all).trans fun g1 w1 hd=>?_
 obtain⟨fr1,v,rfl,f1,⟨M,rfl,hM⟩,F1⟩:=hd
 refine(nmH.go (Go.Proofs.Ytmobbajggkjpgaa.SX.mkS [] [] [(36,.map (some M))] [(1,s)]) F1 rfl trivial trivial).trans fun g2 w2 hd2=>?_
 obtain⟨I,B,fr2,rfl,f2,F2,_⟩:=hd2
 have hM2:TextMap w2 M wordL:=blk_keep (k:=.map _) hM f2
 refine(nmI.go (R:=fun v w'=>v=lookR true (findT s wordL)∧w'=w2) (mkE [] [] []) F2 (by decide) rfl fun tm htm x' e1 e2=>?_).trans fun g3 w3 hd3=>?_
 ·unfold execOp
  simp only[e1,wq_bind]
  rw[htm 36 (.map (some M)) rfl,htm 37 (.string s) rfl]
  exact wq_lookText hM2 ⟨_,rfl,rfl,rfl⟩
 obtain⟨fr3,v,rfl,⟨rfl,rfl⟩,F3⟩:=hd3
 cases e:findT s wordL with
 |none=>
  rw[e]at F3
  refine(nmJfalse.go (mkE [] [] [(0,.bool false)]) F3 rfl trivial trivial).trans fun g4 w4 hd4=>?_
  obtain⟨I,B,fr4,rfl,f4,F4,_⟩:=hd4
  refine(leave1 ret44 F4 rfl).mono fun g5 w5 hd5=>?_
  obtain⟨fr5,rfl,rfl,hL⟩:=hd5
  exact⟨fr5,rfl,fw.trans (f1.trans (f2.trans f4)),hL⟩
 |some b=>
  rw[e]at F3
  refine(nmJtrue.go (mkE [] [] [(0,.bool b)]) F3 rfl trivial trivial).trans fun g4 w4 hd4=>?_
  obtain⟨I,B,fr4,rfl,f4,F4,_⟩:=hd4
  refine(leave1 ret44 F4 rfl).mono fun g5 w5 hd5=>?_
  obtain⟨fr5,rfl,rfl,hL⟩:=hd5
  exact⟨fr5,rfl,fw.trans (f1.trans (f2.trans f4)),hL⟩
theorem nm_loop{s:ByteArray}{w0:World}(hs:s.size≤32):∀(m j:Nat) {w:World} {fr:Frame},j+m=s.size->Fresh w0 w->FA 44 43 [.code (q44 [1,1,0,1,0,0]),.inLoop (q44 [1,1,0,1,0,0]),.inBlock 0,.code (q44 [1,1,1])] [] .normal [(0,.string s),(25,iV s.size),(26,iV j)] fr->
  Goes (G fr cs) w fun g' w'=>∃fr',g'=G fr' cs∧Fresh w0 w'∧Leav 44 fr' w' (.bool ((List.range m).all (fun i=>insideB (byteAt s (j+i)))&&(findT s wordL).isNone))
 |0,j,w,fr,hj,fw,hf=>by
  refine(nmE.go (Go.Proofs.Ytmobbajggkjpgaa.SX.mkS [(6,j)] [] [] [(1,s)]) hf rfl ⟨decide_eq_false (by show ¬((j:Int)<((s.size:Nat):Int));omega),trivial⟩ trivial).trans fun g1 w1 hd=>?_
  obtain⟨I,B,fr1,rfl,f1,F1,_⟩:=hd
  exact nm_end (fw.trans f1) trivial F1
 |m+1,j,w,fr,hj,fw,hf=>by
  refine(nmR.go (Go.Proofs.Ytmobbajggkjpgaa.SX.mkS [(6,j)] [] [] [(1,s)]) hf rfl ⟨decide_eq_true (by show((j:Int)<((s.size:Nat):Int));omega),trivial⟩ trivial).trans fun g1 w1 hd=>?_
  obtain⟨I,B,fr1,rfl,f1,F1,_⟩:=hd
  refine(char_go (s:=s) (j:=j) nmC (mkE [] [] []) F1 (by decide) rfl (by omega) fun tm htm=>⟨htm 29 _ rfl,htm 30 _ rfl⟩).trans fun g2 w2 hd2=>?_
  obtain⟨fr2,rfl,rfl,F2⟩:=hd2
  refine(nmD.go (mkE [] [] [(31,u8V (byteAt s j))]) (Q:=fun v w'=>v=.bool (insideB (byteAt s j))) F2 rfl fun w' f1=>inside_all).trans fun g3 w3 hd3=>?_
  obtain⟨fr3,v,rfl,f3,rfl,F3⟩:=hd3
  have hsplit:(List.range (m+1)).all (fun i=>insideB (byteAt s (j+i)))=(insideB (byteAt s j)&&(List.range m).all fun i=>insideB (byteAt s (j+1+i))):=by
   rw[List.range_succ_eq_map,List.all_cons,List.all_map]
   congr 1
   refine congrArg (List.all _) (funext fun i=>?_)
   show insideB (byteAt s (j+(i+1)))=_
   rw[show j+(i+1)=j+1+i by omega]
  rw[hsplit]
  cases e:insideB (byteAt s j)with
  |false=>
   rw[e]at F3
   refine(nmF.go (Go.Proofs.Ytmobbajggkjpgaa.SX.mkS [(6,j)] [] [] [(1,s)]) F3 rfl trivial trivial).trans fun g4 w4 hd4=>?_
   obtain⟨I,B,fr4,rfl,f4,F4,_⟩:=hd4
   refine(leave1 ret44 F4 rfl).mono fun g5 w5 hd5=>?_
   obtain⟨fr5,rfl,rfl,hL⟩:=hd5
   exact⟨fr5,rfl,fw.trans (f1.trans (f3.trans f4)),hL⟩
  |true=>
   rw[e]at F3
   refine(nmT.go (Go.Proofs.Ytmobbajggkjpgaa.SX.mkS [(6,j)] [] [] [(1,s)]) F3 rfl trivial trivial).trans fun g4 w4 hd4=>?_
   obtain⟨I,B,fr4,rfl,f4,F4,_⟩:=hd4
   refine(nm_loop hs m (j+1) (by omega) (fw.trans (f1.trans (f3.trans f4))) ?_)
   have e6:iop .add .i64 (j:Int) 1=((j+1:Nat):Int):=by
    show IntKind.wrap .i64 _=_
    rw[I64_wrap (by omega)];omega
   rw[<-e6]
   exact F4
theorem isName_all{s:ByteArray}:Ans 44 #[.string s] w fun v w'=>Fresh w w'∧v=.bool (nameOk s):=by
 refine ans_of fun cs=>?_
 have E:=enter1 ent44 rfl (.string s)
 have fin:∀{k:List Item} {w1:World} {fr:Frame} {x:Bool},Fresh w w1->FA 44 43 (.code .ret::k) [] .normal [(2,.bool false)] fr->nameOk s=false->Goes (G fr cs) w1 fun g' w'=>∃fr' v,g'=G fr' cs∧Leav 44 fr' w' v∧Fresh w w'∧v=.bool (nameOk s):=fun f1 F1 h=>by
  refine(leave1 ret44 F1 rfl).mono fun g5 w5 hd5=>?_
  obtain⟨fr5,rfl,rfl,hL⟩:=hd5
  exact⟨fr5,_,rfl,hL,f1,by rw[h]⟩
 by_cases h1:(s.size:Int)<1
 ·refine(nm1.go (Go.Proofs.Ytmobbajggkjpgaa.SX.mkS [] [] [] [(1,s)]) E rfl ⟨decide_eq_true h1,trivial⟩ trivial).trans fun g1 w1 hd=>?_
  obtain⟨I,B,fr1,rfl,f1,F1,_⟩:=hd
  exact fin (x:=true) f1 F1 (by
   have:¬(1≤s.size):=by omega
   simp[nameOk,this])
 by_cases h2:(s.size:Int)>32
 ·refine(nm2.go (Go.Proofs.Ytmobbajggkjpgaa.SX.mkS [] [] [] [(1,s)]) E rfl ⟨decide_eq_false h1,decide_eq_true h2,trivial⟩ trivial).trans fun g1 w1 hd=>?_
  obtain⟨I,B,fr1,rfl,f1,F1,_⟩:=hd
  exact fin (x:=true) f1 F1 (by
   have:¬(s.size≤32):=by omega
   simp[nameOk,this])
 refine(nm3.go (Go.Proofs.Ytmobbajggkjpgaa.SX.mkS [] [] [] [(1,s)]) E rfl ⟨decide_eq_false h1,decide_eq_false h2,trivial⟩ trivial).trans fun g1 w1 hd=>?_
 obtain⟨I,B,fr1,rfl,f1,F1,_⟩:=hd
 refine(char_go (s:=s) (j:=0) nmA (mkE [] [] []) F1 (by decide) rfl (by omega) fun tm htm=>⟨htm 15 _ rfl,rfl⟩).trans fun g2 w2 hd2=>?_
 obtain⟨fr2,rfl,rfl,F2⟩:=hd2
 by_cases h3:((byteAt s 0:Nat):Int)<97
 ·refine(nm4t.go (Go.Proofs.Ytmobbajggkjpgaa.SX.mkS [(2,byteAt s 0)] [] [] [(1,s)]) F2 rfl ⟨decide_eq_true h3,trivial⟩ trivial).trans fun g3 w3 hd3=>?_
  obtain⟨I,B,fr3,rfl,f3,F3,_⟩:=hd3
  exact fin (x:=true) (f1.trans f3) F3 (by
   have:¬(97≤byteAt s 0):=by omega
   simp[nameOk,this])
 refine(nm4f.go (Go.Proofs.Ytmobbajggkjpgaa.SX.mkS [(2,byteAt s 0)] [] [] [(1,s)]) F2 rfl ⟨decide_eq_false h3,trivial⟩ trivial).trans fun g3 w3 hd3=>?_
 obtain⟨I,B,fr3,rfl,f3,F3,_⟩:=hd3
 refine(char_go (s:=s) (j:=0) nmB (mkE [] [] []) F3 (by decide) rfl (by omega) fun tm htm=>⟨htm 20 _ rfl,rfl⟩).trans fun g4 w4 hd4=>?_
 obtain⟨fr4,rfl,rfl,F4⟩:=hd4
 by_cases h4:((byteAt s 0:Nat):Int)>122
 ·refine(nm5t.go (Go.Proofs.Ytmobbajggkjpgaa.SX.mkS [(2,byteAt s 0)] [] [] [(1,s)]) F4 rfl ⟨decide_eq_true h4,trivial⟩ trivial).trans fun g5 w5 hd5=>?_
  obtain⟨I,B,fr5,rfl,f5,F5,_⟩:=hd5
  exact fin (x:=true) (f1.trans (f3.trans f5)) F5 (by
   have:¬(byteAt s 0≤122):=by omega
   simp[nameOk,this])
 refine(nm5f.go (Go.Proofs.Ytmobbajggkjpgaa.SX.mkS [(2,byteAt s 0)] [] [] [(1,s)]) F4 rfl ⟨decide_eq_false h4,trivial⟩ trivial).trans fun g5 w5 hd5=>?_
 obtain⟨I,B,fr5,rfl,f5,F5,_⟩:=hd5
 refine(nm_loop (s:=s) (by omega) s.size 0 (Nat.zero_add _) (f1.trans (f3.trans f5)) F5).mono fun g6 w6 hd6=>?_
 obtain⟨fr6,rfl,f6,hL⟩:=hd6
 refine⟨fr6,_,rfl,hL,f6,?_⟩
 have a1:1≤s.size:=by omega
 have a2:s.size≤32:=by omega
 have a3:97≤byteAt s 0:=by omega
 have a4:byteAt s 0≤122:=by omega
 simp[nameOk,a1,a2,a3,a4]
end
theorem wrA:Pc 56 34 [.code (q56 [])] [(0,ptr0 61),(1,i64 (v 6))] [] [(⟨(.dyn 61),(.lit 0)⟩,i8 (v 1))] [] 16 [] [0,1,5,11] [.inRegion (opsOf (q56 [1,1,0,0])) [5,6],.code (q56 [1,1,0,1]),.code (q56 [1,1,1])] [ptr0 61,i64 (v 6),i64 (.lit 1),i8 (v 1)] []:=⟨fun st=>by kernel_rfl,fun st=>by kernel_rfl,by kernel_rfl,of_decide_eq_true (by kernel_rfl)⟩
theorem wrB:OpC 34 (opsOf (q56 [1,1,0,0])) 5 [(11,.opq 11)] 55 [.opq 11] 12:=⟨fun st=>by kernel_rfl,fun st=>by kernel_rfl,fun st=>by kernel_rfl,by kernel_rfl,by decide,rfl⟩
theorem wrC:Pc 56 34 [.inRegion (opsOf (q56 [1,1,0,0])) [6],.code (q56 [1,1,0,1]),.code (q56 [1,1,1])] [(0,ptr0 61),(1,i64 (v 6)),(5,i64 (.lit 1)),(12,i64 (v 3))] [((.cmp .lss (v 3) (.lit 4)),false),((.cmp .lss (v 6) (.tn (v 51))),true),((.cmp .leq (.lit 0) (v 6)),true),((.cmp .lss (v 6) (.lit 0)),false),((.cmp .geq (v 6) (.tn (v 51))),false)] [(⟨(.dyn 61),(.lit 5)⟩,.slice (some ⟨(.dyn 50),(v 53)⟩) (v 51) (v 52)),(⟨(.dyn 50),(.plus (.tn (v 53)) (.tn (v 6)))⟩,ptr0 62),(⟨(.dyn 62),(.lit 0)⟩,i8 (v 2))] [] 22 [] [5,30] [.inRegion (opsOf (q56 [1,1,1,0])) [11,12,13,14],.code .ret] [i64 (.lit 1),i8 (v 2)] []:=⟨fun st=>by kernel_rfl,fun st=>by kernel_rfl,by kernel_rfl,of_decide_eq_true (by kernel_rfl)⟩
theorem wrF:OpC 34 (opsOf (q56 [1,1,1,0])) 11 [(30,.opq 30)] 55 [.opq 30] 31:=⟨fun st=>by kernel_rfl,fun st=>by kernel_rfl,fun st=>by kernel_rfl,by kernel_rfl,by decide,rfl⟩
theorem wrG:Pc 56 34 [.inRegion (opsOf (q56 [1,1,1,0])) [12,13,14],.code .ret] [(5,i64 (v 4)),(31,i64 (v 5))] [] [] [] 4 [] [4] [.code .ret] [.bool (.cmp .lss (v 5) (v 4))] []:=⟨fun st=>by kernel_rfl,fun st=>by kernel_rfl,by kernel_rfl,of_decide_eq_true (by kernel_rfl)⟩
theorem wrD:Pc 56 34 [.inRegion (opsOf (q56 [1,1,0,0])) [6],.code (q56 [1,1,0,1]),.code (q56 [1,1,1])] [(0,ptr0 61),(1,i64 (v 6)),(5,i64 (.lit 1)),(12,i64 (v 3))] [((.cmp .lss (v 3) (.lit 4)),true),((.cmp .gtr (v 6) (.lit 0)),false),((.cmp .lss (v 6) (.tn (v 51))),true),((.cmp .leq (.lit 0) (v 6)),true),((.cmp .lss (v 6) (.lit 0)),false),((.cmp .geq (v 6) (.tn (v 51))),false)] [(⟨(.dyn 61),(.lit 5)⟩,.slice (some ⟨(.dyn 50),(v 53)⟩) (v 51) (v 52)),(⟨(.dyn 50),(.plus (.tn (v 53)) (.tn (v 6)))⟩,ptr0 62),(⟨(.dyn 62),(.lit 0)⟩,i8 (v 2))] [] 33 [] [5,30] [.inRegion (opsOf (q56 [1,1,1,0])) [11,12,13,14],.code .ret] [i64 (v 3),i8 (v 2)] []:=⟨fun st=>by kernel_rfl,fun st=>by kernel_rfl,by kernel_rfl,of_decide_eq_true (by kernel_rfl)⟩
theorem wrE:Pc 56 34 [.inRegion (opsOf (q56 [1,1,0,0])) [6],.code (q56 [1,1,0,1]),.code (q56 [1,1,1])] [(0,ptr0 61),(1,i64 (v 6)),(5,i64 (.lit 1)),(12,i64 (v 3))] [((.cmp .lss (v 3) (.lit 4)),true),((.cmp .gtr (v 6) (.lit 0)),true),((.cmp .lss (v 6) (.tn (v 51))),true),((.cmp .leq (.lit 0) (v 6)),true),((.cmp .lss (v 6) (.lit 0)),false),((.cmp .geq (v 6) (.tn (v 51))),false)] [(⟨(.dyn 61),(.lit 5)⟩,.slice (some ⟨(.dyn 50),(v 53)⟩) (v 51) (v 52)),(⟨(.dyn 50),(.plus (.tn (v 53)) (.tn (v 6)))⟩,ptr0 62),(⟨(.dyn 62),(.lit 0)⟩,i8 (v 2))] [] 37 [] [5,30] [.inRegion (opsOf (q56 [1,1,1,0])) [11,12,13,14],.code .ret] [i64 (.op .add .i64 (v 3) (.lit 1)),i8 (v 2)] []:=⟨fun st=>by kernel_rfl,fun st=>by kernel_rfl,by kernel_rfl,of_decide_eq_true (by kernel_rfl)⟩
section
structure Nd where
 op:Int
 n:Int
 kids:Int
 at':Int
inductive T where
 |nd(n:Nd)(ks:List T)
def T.n:T->Nd
 |.nd n _=>n
def T.ks:T->List T
 |.nd _ ks=>ks
structure PtrsAt(w:World)(U:Nat->Prop)(s:Value)(ps:List Nat):Prop where
 ex:(s=nilV∧ps=[])∨∃A o c,U A∧A<w.heap.size∧s=slV A o ps.length c∧ps.length≤c∧∀i p,ps[i]?=some p->w.cell? ⟨A,o+i,none⟩=some (ptrV p)
mutual
inductive TreeAt(w:World)(U:Nat->Prop):Nat->T->Prop
 |mk (b:Nat) (n:Nd) (ks:List T) (ps:List Nat) (s:Value) (u:U b) (c0:w.cell? ⟨b,0,none⟩=some (i8V n.op)) (c1:w.cell? ⟨b,1,none⟩=some (iV n.n)) (c2:w.cell? ⟨b,2,none⟩=some (iV n.kids)) (c3:w.cell? ⟨b,3,none⟩=some (iV n.at')) (c5:w.cell? ⟨b,5,none⟩=some s) (hs:PtrsAt w U s ps) (hk:TreesAt w U ps ks):TreeAt w U b (.nd n ks)
inductive TreesAt(w:World)(U:Nat->Prop):List Nat->List T->Prop
 |nil:TreesAt w U [] []
 |cons (p:Nat) (ps:List Nat) (t:T) (ts:List T) (h:TreeAt w U p t) (hs:TreesAt w U ps ts):TreesAt w U (p::ps) (t::ts)
end
section
variable {w w':World}{U U' own:Nat->Prop}
theorem PtrsAt.keepBut{s:Value}{ps:List Nat}(h:PtrsAt w U s ps)(f:Keeps own w w')(hU:∀x,U x->x<w.heap.size->¬own x∧U' x):PtrsAt w' U' s ps:=by
 rcases h.ex with h|⟨A,o,c,u,lt,h1,h2,h3⟩
 ·exact⟨.inl h⟩
 ·exact⟨.inr ⟨A,o,c,(hU A u lt).2,Nat.lt_of_lt_of_le lt f.size,h1,h2,fun i p hi=>cell_keep f (h3 i p hi) (hU A u lt).1⟩⟩
mutual
theorem TreeAt.keepBut(f:Keeps own w w')(hU:∀x,U x->x<w.heap.size->¬own x∧U' x){b:Nat}{t:T}:TreeAt w U b t->TreeAt w' U' b t
 |.mk b n ks ps s u c0 c1 c2 c3 c5 hs hk=>
  have hb:=hU b u (cellLt c0)
  .mk b n ks ps s hb.2 (cell_keep f c0 hb.1) (cell_keep f c1 hb.1) (cell_keep f c2 hb.1) (cell_keep f c3 hb.1) (cell_keep f c5 hb.1) (hs.keepBut f hU) (TreesAt.keepBut f hU hk)
theorem TreesAt.keepBut(f:Keeps own w w')(hU:∀x,U x->x<w.heap.size->¬own x∧U' x){ps:List Nat}{ts:List T}:TreesAt w U ps ts->TreesAt w' U' ps ts
 |.nil=>.nil
 |.cons p ps t ts h hs=>.cons p ps t ts (TreeAt.keepBut f hU h) (TreesAt.keepBut f hU hs)
end
theorem TreeAt.keep(f:Fresh w w'){b:Nat}{t:T}(h:TreeAt w U b t):TreeAt w' U b t:=h.keepBut f fun x u lt=>⟨fun hh=>by omega,u⟩
theorem TreesAt.keep(f:Fresh w w'){ps:List Nat}{ts:List T}(h:TreesAt w U ps ts):TreesAt w' U ps ts:=h.keepBut f fun x u lt=>⟨fun hh=>by omega,u⟩
theorem TreesAt.len:∀{ps:List Nat} {ts:List T},TreesAt w U ps ts->ps.length=ts.length
 |_,_,.nil=>rfl
 |_,_,.cons p ps t ts h hs=>by simp only[List.length_cons,TreesAt.len hs]
theorem TreesAt.get:∀{ps:List Nat} {ts:List T},TreesAt w U ps ts->∀{i:Nat} {t:T},ts[i]?=some t->∃p,ps[i]?=some p∧TreeAt w U p t
 |_,_,.nil,i,t,h=>by cases h
 |_,_,.cons p ps t' ts h hs,0,t,e=>by
  obtain rfl:t'=t:=Option.some.inj e
  exact⟨p,rfl,h⟩
 |_,_,.cons p ps t' ts h hs,i+1,t,e=>TreesAt.get hs (i:=i) e
theorem TreesAt.snoc:∀{ps:List Nat} {ts:List T} {p:Nat} {t:T},TreesAt w U ps ts->TreeAt w U p t->TreesAt w U (ps++[p]) (ts++[t])
 |_,_,p,t,.nil,h=>.cons p [] t [] h .nil
 |_,_,p,t,.cons p' ps t' ts h' hs,h=>.cons p' _ t' _ h' (TreesAt.snoc hs h)
end
theorem ltB_ok{ρ:Env}{i n I N:Nat}(hi:ρ.i i=(I:Int))(hn:ρ.i n=(N:Int))(h:I<N):AllB ρ [((.cmp .lss (v i) (.tn (v n))),true),((.cmp .leq (.lit 0) (v i)),true),((.cmp .lss (v i) (.lit 0)),false),((.cmp .geq (v i) (.tn (v n))),false)]:=by
 refine⟨?_,?_,?_,?_,trivial⟩
 ·show decide (ρ.i i<(((ρ.i n).toNat:Nat):Int))=true
  rw[hi,hn];exact decide_eq_true (by omega)
 ·show decide ((0:Int)≤ρ.i i)=true
  rw[hi];exact decide_eq_true (by omega)
 ·show decide (ρ.i i<0)=false
  rw[hi];exact decide_eq_false (by omega)
 ·show decide (ρ.i i≥(((ρ.i n).toNat:Nat):Int))=false
  rw[hi,hn];exact decide_eq_false (by omega)
theorem inc{i:Nat}(h:i<1000000000000000):iop .add .i64 (i:Int) 1=((i+1:Nat):Int):=by
 show IntKind.wrap .i64 ((i:Int)+1)=_
 rw[I64_wrap (by omega)]
 omega
def wantsOf(op:Int)(i:Nat):Int:=if rkOf op<4 then(if i>0 then rkOf op+1 else rkOf op)else 1
theorem rk_range(op:Int):1≤rkOf op∧rkOf op≤4:=by
 unfold rkOf
 repeat (first|(split; · decide)|decide)
def wrapB(t:T)(i:Nat)(k:T):Bool:=decide (rkOf k.n.op<wantsOf t.n.op i)
section
variable {w:World}{cs:List Frame}{fr:Frame}
theorem wrapped_all{U:Nat->Prop}{b i:Nat}{t k:T}(h:TreeAt w U b t)(hk:t.ks[i]?=some k)(hl:t.ks.length≤1000000):Ans 56 #[ptrV b,iV i] w fun v w'=>Fresh w w'∧v=.bool (wrapB t i k):=by
 obtain⟨b,n,ks,ps,s,u,c0,c1,c2,c3,c5,hs,hks⟩:=h
 obtain⟨p,hp,hpk⟩:=hks.get hk
 obtain⟨p,m,ks',ps',s',u',d0,d1,d2,d3,d5,hs',hks'⟩:=hpk
 have hlt:i<ps.length:=(List.getElem?_eq_some_iff.1 hp).1
 rcases hs.ex with⟨_,rfl⟩|⟨A,o,c,uA,lA,rfl,hc,hel⟩
 ·cases hp
 have hlen:ps.length≤1000000:=by rw[hks.len];exact hl
 have hr:=rk_range n.op
 refine ans_of fun cs=>?_
 refine(wrA.go (mkE [(6,i),(1,n.op)] [(61,b)] []) (enter2 ent56 rfl (ptrV b) (iV i)) rfl trivial ⟨c0,trivial⟩).trans fun g1 w1 hd=>?_
 obtain⟨I,B,fr1,rfl,f1,F1,_⟩:=hd
 refine(wrB.go (mkE [] [] [(11,i8V n.op)]) (Q:=fun v w'=>v=iV (rkOf n.op)) F1 rfl fun w' f1=>rank_all).trans fun g2 w2 hd2=>?_
 obtain⟨fr2,v,rfl,f2,rfl,F2⟩:=hd2
 have f12:=f1.trans f2
 obtain⟨ρ,hρ⟩:∃ρ:Env,ρ=mkE [(6,i),(3,rkOf n.op),(51,ps.length),(52,c),(53,o),(2,m.op)] [(61,b),(50,A),(62,p)] []:=⟨_,rfl⟩
 have mm:AllM ρ w2 [(⟨(.dyn 61),(.lit 5)⟩,.slice (some ⟨(.dyn 50),(v 53)⟩) (v 51) (v 52)),(⟨(.dyn 50),(.plus (.tn (v 53)) (.tn (v 6)))⟩,ptr0 62),(⟨(.dyn 62),(.lit 0)⟩,i8 (v 2))]:=by
  rw[hρ]
  exact⟨f12.cell c5,f12.cell (hel i p hp),f12.cell d0,trivial⟩
 have bb:=ltB_ok (ρ:=ρ) (i:=6) (n:=51) (I:=i) (N:=ps.length) (by rw[hρ];rfl) (by rw[hρ];rfl) hlt
 have rest:∀{w3:World} {fr3:Frame} {x:Int},Fresh w2 w3->FA 56 34 (.inRegion (opsOf (q56 [1,1,1,0])) [11,12,13,14]::[.code .ret]) [] .normal [(5,iV x),(30,i8V m.op)] fr3->x=wantsOf n.op i->Goes (G fr3 cs) w3 fun g' w'=>∃fr' v,g'=G fr' cs∧Leav 56 fr' w' v∧Fresh w w'∧v=.bool (wrapB (.nd n ks) i (.nd m ks')):=fun{w3 fr3 x} f3 F3 hx=>by
  refine(wrF.go (mkE [] [] [(30,i8V m.op)]) (Q:=fun v w'=>v=iV (rkOf m.op)) F3 rfl fun w' f1=>rank_all).trans fun g4 w4 hd4=>?_
  obtain⟨fr4,v,rfl,f4,rfl,F4⟩:=hd4
  refine(wrG.go (mkE [(4,x),(5,rkOf m.op)] [] []) F4 rfl trivial trivial).trans fun g5 w5 hd5=>?_
  obtain⟨I,B,fr5,rfl,f5,F5,_⟩:=hd5
  refine(leave1 ret56 F5 rfl).mono fun g6 w6 hd6=>?_
  obtain⟨fr6,rfl,rfl,hL⟩:=hd6
  exact⟨fr6,_,rfl,hL,f12.trans (f3.trans (f4.trans f5)),by subst hx;rfl⟩
 by_cases h4:rkOf n.op<4
 ·by_cases h0:(i:Int)>0
  ·refine(wrE.go ρ F2 (by rw[hρ];rfl) ⟨by rw[hρ];exact decide_eq_true h4,by rw[hρ];exact decide_eq_true h0,bb⟩ mm).trans fun g3 w3 hd3=>?_
   obtain⟨I,B,fr3,rfl,f3,F3,_⟩:=hd3
   refine rest (x:=iop .add .i64 (rkOf n.op) 1) f3 (by rw[hρ]at F3;exact F3) ?_
   unfold wantsOf
   rw[if_pos h4,if_pos (by omega)]
   exact I64_wrap (by omega)
  ·refine(wrD.go ρ F2 (by rw[hρ];rfl) ⟨by rw[hρ];exact decide_eq_true h4,by rw[hρ];exact decide_eq_false h0,bb⟩ mm).trans fun g3 w3 hd3=>?_
   obtain⟨I,B,fr3,rfl,f3,F3,_⟩:=hd3
   refine rest (x:=rkOf n.op) f3 (by rw[hρ]at F3;exact F3) ?_
   unfold wantsOf
   rw[if_pos h4,if_neg (by omega)]
 ·refine(wrC.go ρ F2 (by rw[hρ];rfl) ⟨by rw[hρ];exact decide_eq_false h4,bb⟩ mm).trans fun g3 w3 hd3=>?_
  obtain⟨I,B,fr3,rfl,f3,F3,_⟩:=hd3
  refine rest (x:=1) f3 (by rw[hρ]at F3;exact F3) ?_
  unfold wantsOf
  rw[if_neg h4]
end
end
noncomputable def q46(l:List Nat):Code:=pc (bodyOf Try.f46) l
theorem ent46:enterA Try.prog 46 [.opq 0,.opq 1] .normal=.ok ⟨46,87,entT 46 [.opq 0,.opq 1],[.code (bodyOf Try.f46)],[],.run,.normal⟩:=by kernel_rfl
theorem ret46:RetC2 46 87 4 5:=fun st=>by kernel_rfl
theorem dpA:Pc 46 87 [.code (q46 [])] [(0,ptr0 61),(1,i64 (v 7))] [] [(⟨(.dyn 61),(.lit 0)⟩,i8 (v 2))] [] 12 [] [0,1,5,16] [.inRegion (opsOf (q46 [1,0])) [5,6],.code (q46 [1,1])] [ptr0 61,i64 (v 7),i64 (.lit 0),i8 (v 2)] []:=⟨fun st=>by kernel_rfl,fun st=>by kernel_rfl,by kernel_rfl,of_decide_eq_true (by kernel_rfl)⟩
theorem dpB:OpC 87 (opsOf (q46 [1,0])) 5 [(16,.opq 16)] 55 [.opq 16] 17:=⟨fun st=>by kernel_rfl,fun st=>by kernel_rfl,fun st=>by kernel_rfl,by kernel_rfl,by decide,rfl⟩
theorem dpC0:Pc 46 87 [.inRegion (opsOf (q46 [1,0])) [6],.code (q46 [1,1])] [(0,ptr0 61),(1,i64 (v 7)),(5,i64 (.lit 0)),(17,i64 (v 3))] [((.cmp .gtr (v 3) (.lit 2)),false)] [(⟨(.dyn 61),(.lit 5)⟩,.slice (some ⟨(.dyn 50),(v 53)⟩) (v 51) (v 52))] [] 35 [] [0,1,4,5,6,34,35,36] [.code (q46 [1,1,1,1,0,1,0,0]),.inLoop (q46 [1,1,1,1,0,1,0,0]),.inBlock 0,.code (q46 [1,1,1,1,1])] [ptr0 61,i64 (v 7),i64 (v 7),i64 (.lit 0),i64 (v 3),.slice (some ⟨(.dyn 50),(v 53)⟩) (v 51) (v 52),i64 (.tn (v 51)),i64 (.lit 0)] []:=⟨fun st=>by kernel_rfl,fun st=>by kernel_rfl,by kernel_rfl,of_decide_eq_true (by kernel_rfl)⟩
theorem dpC1:Pc 46 87 [.inRegion (opsOf (q46 [1,0])) [6],.code (q46 [1,1])] [(0,ptr0 61),(1,i64 (v 7)),(5,i64 (.lit 0)),(17,i64 (v 3))] [((.cmp .gtr (v 3) (.lit 2)),true),((.cmp .gtr (.tn (v 51)) (.lit 0)),false)] [(⟨(.dyn 61),(.lit 5)⟩,.slice (some ⟨(.dyn 50),(v 53)⟩) (v 51) (v 52))] [] 35 [] [0,1,4,5,6,34,35,36] [.code (q46 [1,1,1,1,0,1,0,0]),.inLoop (q46 [1,1,1,1,0,1,0,0]),.inBlock 0,.code (q46 [1,1,1,1,1])] [ptr0 61,i64 (v 7),i64 (v 7),i64 (.lit 0),i64 (v 3),.slice (some ⟨(.dyn 50),(v 53)⟩) (v 51) (v 52),i64 (.tn (v 51)),i64 (.lit 0)] []:=⟨fun st=>by kernel_rfl,fun st=>by kernel_rfl,by kernel_rfl,of_decide_eq_true (by kernel_rfl)⟩
theorem dpC2:Pc 46 87 [.inRegion (opsOf (q46 [1,0])) [6],.code (q46 [1,1])] [(0,ptr0 61),(1,i64 (v 7)),(5,i64 (.lit 0)),(17,i64 (v 3))] [((.cmp .gtr (v 3) (.lit 2)),true),((.cmp .gtr (.tn (v 51)) (.lit 0)),true)] [(⟨(.dyn 61),(.lit 5)⟩,.slice (some ⟨(.dyn 50),(v 53)⟩) (v 51) (v 52))] [] 39 [] [0,1,4,5,6,34,35,36] [.code (q46 [1,1,1,1,0,1,0,0]),.inLoop (q46 [1,1,1,1,0,1,0,0]),.inBlock 0,.code (q46 [1,1,1,1,1])] [ptr0 61,i64 (.op .add .i64 (v 7) (.lit 1)),i64 (.op .add .i64 (v 7) (.lit 1)),i64 (.lit 0),i64 (v 3),.slice (some ⟨(.dyn 50),(v 53)⟩) (v 51) (v 52),i64 (.tn (v 51)),i64 (.lit 0)] []:=⟨fun st=>by kernel_rfl,fun st=>by kernel_rfl,by kernel_rfl,of_decide_eq_true (by kernel_rfl)⟩
theorem dpN0:Pc 46 87 [.inRegion (opsOf (q46 [1,0])) [6],.code (q46 [1,1])] [(0,ptr0 61),(1,i64 (v 7)),(5,i64 (.lit 0)),(17,i64 (v 3))] [((.cmp .gtr (v 3) (.lit 2)),false)] [(⟨(.dyn 61),(.lit 5)⟩,nilA)] [] 35 [] [0,1,4,5,6,34,35,36] [.code (q46 [1,1,1,1,0,1,0,0]),.inLoop (q46 [1,1,1,1,0,1,0,0]),.inBlock 0,.code (q46 [1,1,1,1,1])] [ptr0 61,i64 (v 7),i64 (v 7),i64 (.lit 0),i64 (v 3),nilA,i64 (.lit 0),i64 (.lit 0)] []:=⟨fun st=>by kernel_rfl,fun st=>by kernel_rfl,by kernel_rfl,of_decide_eq_true (by kernel_rfl)⟩
theorem dpN1:Pc 46 87 [.inRegion (opsOf (q46 [1,0])) [6],.code (q46 [1,1])] [(0,ptr0 61),(1,i64 (v 7)),(5,i64 (.lit 0)),(17,i64 (v 3))] [((.cmp .gtr (v 3) (.lit 2)),true)] [(⟨(.dyn 61),(.lit 5)⟩,nilA)] [] 35 [] [0,1,4,5,6,34,35,36] [.code (q46 [1,1,1,1,0,1,0,0]),.inLoop (q46 [1,1,1,1,0,1,0,0]),.inBlock 0,.code (q46 [1,1,1,1,1])] [ptr0 61,i64 (v 7),i64 (v 7),i64 (.lit 0),i64 (v 3),nilA,i64 (.lit 0),i64 (.lit 0)] []:=⟨fun st=>by kernel_rfl,fun st=>by kernel_rfl,by kernel_rfl,of_decide_eq_true (by kernel_rfl)⟩
theorem dpR0:Pc 46 87 [.code (q46 [1,1,1,1,0,1,0,0]),.inLoop (q46 [1,1,1,1,0,1,0,0]),.inBlock 0,.code (q46 [1,1,1,1,1])] [(0,ptr0 61),(1,i64 (v 7)),(4,i64 (v 8)),(5,i64 (v 9)),(6,i64 (v 3)),(34,.slice (some ⟨(.dyn 50),(v 53)⟩) (v 51) (v 52)),(35,i64 (.tn (v 51))),(36,i64 (v 10))] [((.cmp .lss (v 10) (.tn (v 51))),true),((.cmp .leq (.lit 0) (v 10)),true),((.cmp .lss (v 10) (.lit 0)),false),((.cmp .geq (v 10) (.tn (v 51))),false),((.cmp .lss (v 3) (.lit 3)),false)] [(⟨(.dyn 50),(.plus (.tn (v 53)) (.tn (v 10)))⟩,ptr0 62)] [] 39 [] [0,1,4,5,6,7,8,9,34,35,36,51,52] [.inRegion (opsOf (q46 [1,1,1,1,0,1,0,0,1,1,0,0,1,1,1,0,0])) [2],.code (q46 [1,1,1,1,0,1,0,0,1,1,0,0,1,1,1,0,1]),.code (q46 [1,1,1,1,0,1,0,0,1,1,0,0,1,1,1,1]),.inBlock 1,.code (q46 [1,1,1,1,0,1,0,0,1,1,1]),.inLoop (q46 [1,1,1,1,0,1,0,0]),.inBlock 0,.code (q46 [1,1,1,1,1])] [ptr0 61,i64 (v 7),i64 (v 8),i64 (v 9),i64 (v 3),i64 (v 10),ptr0 62,i64 (v 7),.slice (some ⟨(.dyn 50),(v 53)⟩) (v 51) (v 52),i64 (.tn (v 51)),i64 (v 10),ptr0 61,i64 (v 10)] []:=⟨fun st=>by kernel_rfl,fun st=>by kernel_rfl,by kernel_rfl,of_decide_eq_true (by kernel_rfl)⟩
theorem dpR1:Pc 46 87 [.code (q46 [1,1,1,1,0,1,0,0]),.inLoop (q46 [1,1,1,1,0,1,0,0]),.inBlock 0,.code (q46 [1,1,1,1,1])] [(0,ptr0 61),(1,i64 (v 7)),(4,i64 (v 8)),(5,i64 (v 9)),(6,i64 (v 3)),(34,.slice (some ⟨(.dyn 50),(v 53)⟩) (v 51) (v 52)),(35,i64 (.tn (v 51))),(36,i64 (v 10))] [((.cmp .lss (v 10) (.tn (v 51))),true),((.cmp .leq (.lit 0) (v 10)),true),((.cmp .lss (v 10) (.lit 0)),false),((.cmp .geq (v 10) (.tn (v 51))),false),((.cmp .lss (v 3) (.lit 3)),true),((.cmp .eql (v 10) (.lit 1)),false)] [(⟨(.dyn 50),(.plus (.tn (v 53)) (.tn (v 10)))⟩,ptr0 62)] [] 39 [] [0,1,4,5,6,7,8,9,34,35,36,51,52] [.inRegion (opsOf (q46 [1,1,1,1,0,1,0,0,1,1,0,0,1,1,1,0,0])) [2],.code (q46 [1,1,1,1,0,1,0,0,1,1,0,0,1,1,1,0,1]),.code (q46 [1,1,1,1,0,1,0,0,1,1,0,0,1,1,1,1]),.inBlock 1,.code (q46 [1,1,1,1,0,1,0,0,1,1,1]),.inLoop (q46 [1,1,1,1,0,1,0,0]),.inBlock 0,.code (q46 [1,1,1,1,1])] [ptr0 61,i64 (v 7),i64 (v 8),i64 (v 9),i64 (v 3),i64 (v 10),ptr0 62,i64 (v 7),.slice (some ⟨(.dyn 50),(v 53)⟩) (v 51) (v 52),i64 (.tn (v 51)),i64 (v 10),ptr0 61,i64 (v 10)] []:=⟨fun st=>by kernel_rfl,fun st=>by kernel_rfl,by kernel_rfl,of_decide_eq_true (by kernel_rfl)⟩
theorem dpR2:Pc 46 87 [.code (q46 [1,1,1,1,0,1,0,0]),.inLoop (q46 [1,1,1,1,0,1,0,0]),.inBlock 0,.code (q46 [1,1,1,1,1])] [(0,ptr0 61),(1,i64 (v 7)),(4,i64 (v 8)),(5,i64 (v 9)),(6,i64 (v 3)),(34,.slice (some ⟨(.dyn 50),(v 53)⟩) (v 51) (v 52)),(35,i64 (.tn (v 51))),(36,i64 (v 10))] [((.cmp .lss (v 10) (.tn (v 51))),true),((.cmp .leq (.lit 0) (v 10)),true),((.cmp .lss (v 10) (.lit 0)),false),((.cmp .geq (v 10) (.tn (v 51))),false),((.cmp .lss (v 3) (.lit 3)),true),((.cmp .eql (v 10) (.lit 1)),true)] [(⟨(.dyn 50),(.plus (.tn (v 53)) (.tn (v 10)))⟩,ptr0 62)] [] 44 [] [0,1,4,5,6,7,8,9,34,35,36,51,52] [.inRegion (opsOf (q46 [1,1,1,1,0,1,0,0,1,1,0,0,1,1,1,0,0])) [2],.code (q46 [1,1,1,1,0,1,0,0,1,1,0,0,1,1,1,0,1]),.code (q46 [1,1,1,1,0,1,0,0,1,1,0,0,1,1,1,1]),.inBlock 1,.code (q46 [1,1,1,1,0,1,0,0,1,1,1]),.inLoop (q46 [1,1,1,1,0,1,0,0]),.inBlock 0,.code (q46 [1,1,1,1,1])] [ptr0 61,i64 (v 7),i64 (v 8),i64 (v 9),i64 (v 3),i64 (v 10),ptr0 62,i64 (.op .add .i64 (v 7) (v 9)),.slice (some ⟨(.dyn 50),(v 53)⟩) (v 51) (v 52),i64 (.tn (v 51)),i64 (v 10),ptr0 61,i64 (v 10)] []:=⟨fun st=>by kernel_rfl,fun st=>by kernel_rfl,by kernel_rfl,of_decide_eq_true (by kernel_rfl)⟩
theorem dpS:OpC 87 (opsOf (q46 [1,1,1,1,0,1,0,0,1,1,0,0,1,1,1,0,0])) 2 [(51,.opq 51),(52,.opq 52)] 56 [.opq 51,.opq 52] 53:=⟨fun st=>by kernel_rfl,fun st=>by kernel_rfl,fun st=>by kernel_rfl,by kernel_rfl,by decide,rfl⟩
theorem dpT0:Pc 46 87 [.inRegion (opsOf (q46 [1,1,1,1,0,1,0,0,1,1,0,0,1,1,1,0,0])) [],.code (q46 [1,1,1,1,0,1,0,0,1,1,0,0,1,1,1,0,1]),.code (q46 [1,1,1,1,0,1,0,0,1,1,0,0,1,1,1,1]),.inBlock 1,.code (q46 [1,1,1,1,0,1,0,0,1,1,1]),.inLoop (q46 [1,1,1,1,0,1,0,0]),.inBlock 0,.code (q46 [1,1,1,1,1])] [(0,ptr0 61),(1,i64 (v 7)),(4,i64 (v 8)),(5,i64 (v 9)),(6,i64 (v 3)),(7,i64 (v 10)),(8,ptr0 62),(9,i64 (v 11)),(34,.slice (some ⟨(.dyn 50),(v 53)⟩) (v 51) (v 52)),(35,i64 (.tn (v 51))),(36,i64 (v 10)),(53,FB)] [] [] [] 7 [] [0,1,4,5,6,7,8,9,34,35,36,57,58] [.inRegion (opsOf (q46 [1,1,1,1,0,1,0,0,1,1,0,0,1,1,1,1,0])) [2,3,4,5,6,7],.code (q46 [1,1,1,1,0,1,0,0,1,1,0,0,1,1,1,1,1]),.inBlock 1,.code (q46 [1,1,1,1,0,1,0,0,1,1,1]),.inLoop (q46 [1,1,1,1,0,1,0,0]),.inBlock 0,.code (q46 [1,1,1,1,1])] [ptr0 61,i64 (v 7),i64 (v 8),i64 (v 9),i64 (v 3),i64 (v 10),ptr0 62,i64 (v 11),.slice (some ⟨(.dyn 50),(v 53)⟩) (v 51) (v 52),i64 (.tn (v 51)),i64 (v 10),ptr0 62,i64 (v 11)] []:=⟨fun st=>by kernel_rfl,fun st=>by kernel_rfl,by kernel_rfl,of_decide_eq_true (by kernel_rfl)⟩
theorem dpT1:Pc 46 87 [.inRegion (opsOf (q46 [1,1,1,1,0,1,0,0,1,1,0,0,1,1,1,0,0])) [],.code (q46 [1,1,1,1,0,1,0,0,1,1,0,0,1,1,1,0,1]),.code (q46 [1,1,1,1,0,1,0,0,1,1,0,0,1,1,1,1]),.inBlock 1,.code (q46 [1,1,1,1,0,1,0,0,1,1,1]),.inLoop (q46 [1,1,1,1,0,1,0,0]),.inBlock 0,.code (q46 [1,1,1,1,1])] [(0,ptr0 61),(1,i64 (v 7)),(4,i64 (v 8)),(5,i64 (v 9)),(6,i64 (v 3)),(7,i64 (v 10)),(8,ptr0 62),(9,i64 (v 11)),(34,.slice (some ⟨(.dyn 50),(v 53)⟩) (v 51) (v 52)),(35,i64 (.tn (v 51))),(36,i64 (v 10)),(53,TB)] [] [] [] 11 [] [0,1,4,5,6,7,8,9,34,35,36,57,58] [.inRegion (opsOf (q46 [1,1,1,1,0,1,0,0,1,1,0,0,1,1,1,1,0])) [2,3,4,5,6,7],.code (q46 [1,1,1,1,0,1,0,0,1,1,0,0,1,1,1,1,1]),.inBlock 1,.code (q46 [1,1,1,1,0,1,0,0,1,1,1]),.inLoop (q46 [1,1,1,1,0,1,0,0]),.inBlock 0,.code (q46 [1,1,1,1,1])] [ptr0 61,i64 (v 7),i64 (v 8),i64 (v 9),i64 (v 3),i64 (v 10),ptr0 62,i64 (.op .add .i64 (v 11) (.lit 1)),.slice (some ⟨(.dyn 50),(v 53)⟩) (v 51) (v 52),i64 (.tn (v 51)),i64 (v 10),ptr0 62,i64 (.op .add .i64 (v 11) (.lit 1))] []:=⟨fun st=>by kernel_rfl,fun st=>by kernel_rfl,by kernel_rfl,of_decide_eq_true (by kernel_rfl)⟩
theorem dpU:OpC 87 (opsOf (q46 [1,1,1,1,0,1,0,0,1,1,0,0,1,1,1,1,0])) 2 [(57,.opq 57),(58,.opq 58)] 46 [.opq 57,.opq 58] 59:=⟨fun st=>by kernel_rfl,fun st=>by kernel_rfl,fun st=>by kernel_rfl,by kernel_rfl,by decide,rfl⟩
theorem dpV0:Pc 46 87 [.inRegion (opsOf (q46 [1,1,1,1,0,1,0,0,1,1,0,0,1,1,1,1,0])) [3,4,5,6,7],.code (q46 [1,1,1,1,0,1,0,0,1,1,0,0,1,1,1,1,1]),.inBlock 1,.code (q46 [1,1,1,1,0,1,0,0,1,1,1]),.inLoop (q46 [1,1,1,1,0,1,0,0]),.inBlock 0,.code (q46 [1,1,1,1,1])] [(0,ptr0 61),(1,i64 (v 7)),(4,i64 (v 8)),(5,i64 (v 9)),(6,i64 (v 3)),(7,i64 (v 10)),(8,ptr0 62),(9,i64 (v 11)),(34,.slice (some ⟨(.dyn 50),(v 53)⟩) (v 51) (v 52)),(35,i64 (.tn (v 51))),(36,i64 (v 10)),(59,.tuple [i64 (v 12),i64 (v 13)])] [((.cmp .eql (v 10) (.lit 0)),false)] [] [] 32 [] [0,1,5,6,34,35,36,79,80,81] [.inRegion (opsOf (q46 [1,1,1,1,0,1,0,0,1,1,0,0,1,1,1,1,1,1])) [3,4],.inBlock 1,.code (q46 [1,1,1,1,0,1,0,0,1,1,1]),.inLoop (q46 [1,1,1,1,0,1,0,0]),.inBlock 0,.code (q46 [1,1,1,1,1])] [ptr0 61,i64 (v 7),i64 (v 9),i64 (v 3),.slice (some ⟨(.dyn 50),(v 53)⟩) (v 51) (v 52),i64 (.tn (v 51)),i64 (v 10),i64 (v 8),i64 (v 12),i64 (v 11)] []:=⟨fun st=>by kernel_rfl,fun st=>by kernel_rfl,by kernel_rfl,of_decide_eq_true (by kernel_rfl)⟩
theorem dpV1:Pc 46 87 [.inRegion (opsOf (q46 [1,1,1,1,0,1,0,0,1,1,0,0,1,1,1,1,0])) [3,4,5,6,7],.code (q46 [1,1,1,1,0,1,0,0,1,1,0,0,1,1,1,1,1]),.inBlock 1,.code (q46 [1,1,1,1,0,1,0,0,1,1,1]),.inLoop (q46 [1,1,1,1,0,1,0,0]),.inBlock 0,.code (q46 [1,1,1,1,1])] [(0,ptr0 61),(1,i64 (v 7)),(4,i64 (v 8)),(5,i64 (v 9)),(6,i64 (v 3)),(7,i64 (v 10)),(8,ptr0 62),(9,i64 (v 11)),(34,.slice (some ⟨(.dyn 50),(v 53)⟩) (v 51) (v 52)),(35,i64 (.tn (v 51))),(36,i64 (v 10)),(59,.tuple [i64 (v 12),i64 (v 13)])] [((.cmp .eql (v 10) (.lit 0)),true),((.cmp .lss (v 3) (.lit 3)),false)] [] [] 32 [] [0,1,5,6,34,35,36,79,80,81] [.inRegion (opsOf (q46 [1,1,1,1,0,1,0,0,1,1,0,0,1,1,1,1,1,1])) [3,4],.inBlock 1,.code (q46 [1,1,1,1,0,1,0,0,1,1,1]),.inLoop (q46 [1,1,1,1,0,1,0,0]),.inBlock 0,.code (q46 [1,1,1,1,1])] [ptr0 61,i64 (v 7),i64 (v 9),i64 (v 3),.slice (some ⟨(.dyn 50),(v 53)⟩) (v 51) (v 52),i64 (.tn (v 51)),i64 (v 10),i64 (v 8),i64 (v 12),i64 (v 11)] []:=⟨fun st=>by kernel_rfl,fun st=>by kernel_rfl,by kernel_rfl,of_decide_eq_true (by kernel_rfl)⟩
theorem dpW:OpW 87 (opsOf (q46 [1,1,1,1,0,1,0,0,1,1,0,0,1,1,1,1,1,1])) 3 [] (.call {callee:=.builtin .max,args:=#[.tmp 79,.tmp 80,.tmp 81],argTypes:=#[3,3,3]}) 3 (some 82):=⟨fun st=>by kernel_rfl,fun st=>by kernel_rfl,by kernel_rfl⟩
theorem dpX:Pc 46 87 [.inRegion (opsOf (q46 [1,1,1,1,0,1,0,0,1,1,0,0,1,1,1,1,0])) [3,4,5,6,7],.code (q46 [1,1,1,1,0,1,0,0,1,1,0,0,1,1,1,1,1]),.inBlock 1,.code (q46 [1,1,1,1,0,1,0,0,1,1,1]),.inLoop (q46 [1,1,1,1,0,1,0,0]),.inBlock 0,.code (q46 [1,1,1,1,1])] [(0,ptr0 61),(1,i64 (v 7)),(4,i64 (v 8)),(5,i64 (v 9)),(6,i64 (v 3)),(7,i64 (v 10)),(8,ptr0 62),(9,i64 (v 11)),(34,.slice (some ⟨(.dyn 50),(v 53)⟩) (v 51) (v 52)),(35,i64 (.tn (v 51))),(36,i64 (v 10)),(59,.tuple [i64 (v 12),i64 (v 13)])] [((.cmp .eql (v 10) (.lit 0)),true),((.cmp .lss (v 3) (.lit 3)),true)] [(⟨(.dyn 62),(.lit 0)⟩,i8 (v 14))] [] 21 [] [0,1,4,5,6,7,8,9,10,11,34,35,36,68,73] [.inRegion (opsOf (q46 [1,1,1,1,0,1,0,0,1,1,0,0,1,1,1,1,1,0,0])) [12,13,14,15],.code (q46 [1,1,1,1,0,1,0,0,1,1,0,0,1,1,1,1,1,0,1]),.code (q46 [1,1,1,1,0,1,0,0,1,1,0,0,1,1,1,1,1,1]),.inBlock 1,.code (q46 [1,1,1,1,0,1,0,0,1,1,1]),.inLoop (q46 [1,1,1,1,0,1,0,0]),.inBlock 0,.code (q46 [1,1,1,1,1])] [ptr0 61,i64 (v 7),i64 (v 8),i64 (v 9),i64 (v 3),i64 (v 10),ptr0 62,i64 (v 11),i64 (v 12),i64 (v 13),.slice (some ⟨(.dyn 50),(v 53)⟩) (v 51) (v 52),i64 (.tn (v 51)),i64 (v 10),TB,i8 (v 14)] []:=⟨fun st=>by kernel_rfl,fun st=>by kernel_rfl,by kernel_rfl,of_decide_eq_true (by kernel_rfl)⟩
theorem dpY:OpC 87 (opsOf (q46 [1,1,1,1,0,1,0,0,1,1,0,0,1,1,1,1,1,0,0])) 12 [(68,TB),(73,.opq 73)] 55 [.opq 73] 74:=⟨fun st=>by kernel_rfl,fun st=>by kernel_rfl,fun st=>by kernel_rfl,by kernel_rfl,by decide,rfl⟩
theorem dpZ0:Pc 46 87 [.inRegion (opsOf (q46 [1,1,1,1,0,1,0,0,1,1,0,0,1,1,1,1,1,0,0])) [13,14,15],.code (q46 [1,1,1,1,0,1,0,0,1,1,0,0,1,1,1,1,1,0,1]),.code (q46 [1,1,1,1,0,1,0,0,1,1,0,0,1,1,1,1,1,1]),.inBlock 1,.code (q46 [1,1,1,1,0,1,0,0,1,1,1]),.inLoop (q46 [1,1,1,1,0,1,0,0]),.inBlock 0,.code (q46 [1,1,1,1,1])] [(0,ptr0 61),(1,i64 (v 7)),(4,i64 (v 8)),(5,i64 (v 9)),(6,i64 (v 3)),(7,i64 (v 10)),(8,ptr0 62),(9,i64 (v 11)),(34,.slice (some ⟨(.dyn 50),(v 53)⟩) (v 51) (v 52)),(35,i64 (.tn (v 51))),(36,i64 (v 10)),(10,i64 (v 12)),(11,i64 (v 13)),(68,TB),(74,i64 (v 15))] [((.cmp .eql (v 15) (v 3)),false)] [] [] 10 [] [0,1,5,6,34,35,36,79,80,81] [.inRegion (opsOf (q46 [1,1,1,1,0,1,0,0,1,1,0,0,1,1,1,1,1,1])) [3,4],.inBlock 1,.code (q46 [1,1,1,1,0,1,0,0,1,1,1]),.inLoop (q46 [1,1,1,1,0,1,0,0]),.inBlock 0,.code (q46 [1,1,1,1,1])] [ptr0 61,i64 (v 7),i64 (v 9),i64 (v 3),.slice (some ⟨(.dyn 50),(v 53)⟩) (v 51) (v 52),i64 (.tn (v 51)),i64 (v 10),i64 (v 8),i64 (v 12),i64 (v 11)] []:=⟨fun st=>by kernel_rfl,fun st=>by kernel_rfl,by kernel_rfl,of_decide_eq_true (by kernel_rfl)⟩
theorem dpZ1:Pc 46 87 [.inRegion (opsOf (q46 [1,1,1,1,0,1,0,0,1,1,0,0,1,1,1,1,1,0,0])) [13,14,15],.code (q46 [1,1,1,1,0,1,0,0,1,1,0,0,1,1,1,1,1,0,1]),.code (q46 [1,1,1,1,0,1,0,0,1,1,0,0,1,1,1,1,1,1]),.inBlock 1,.code (q46 [1,1,1,1,0,1,0,0,1,1,1]),.inLoop (q46 [1,1,1,1,0,1,0,0]),.inBlock 0,.code (q46 [1,1,1,1,1])] [(0,ptr0 61),(1,i64 (v 7)),(4,i64 (v 8)),(5,i64 (v 9)),(6,i64 (v 3)),(7,i64 (v 10)),(8,ptr0 62),(9,i64 (v 11)),(34,.slice (some ⟨(.dyn 50),(v 53)⟩) (v 51) (v 52)),(35,i64 (.tn (v 51))),(36,i64 (v 10)),(10,i64 (v 12)),(11,i64 (v 13)),(68,TB),(74,i64 (v 15))] [((.cmp .eql (v 15) (v 3)),true)] [] [] 13 [] [0,1,5,6,34,35,36,79,80,81] [.inRegion (opsOf (q46 [1,1,1,1,0,1,0,0,1,1,0,0,1,1,1,1,1,1])) [3,4],.inBlock 1,.code (q46 [1,1,1,1,0,1,0,0,1,1,1]),.inLoop (q46 [1,1,1,1,0,1,0,0]),.inBlock 0,.code (q46 [1,1,1,1,1])] [ptr0 61,i64 (v 7),i64 (v 13),i64 (v 3),.slice (some ⟨(.dyn 50),(v 53)⟩) (v 51) (v 52),i64 (.tn (v 51)),i64 (v 10),i64 (v 8),i64 (v 12),i64 (v 11)] []:=⟨fun st=>by kernel_rfl,fun st=>by kernel_rfl,by kernel_rfl,of_decide_eq_true (by kernel_rfl)⟩
theorem dpK:Pc 46 87 [.inRegion (opsOf (q46 [1,1,1,1,0,1,0,0,1,1,0,0,1,1,1,1,1,1])) [4],.inBlock 1,.code (q46 [1,1,1,1,0,1,0,0,1,1,1]),.inLoop (q46 [1,1,1,1,0,1,0,0]),.inBlock 0,.code (q46 [1,1,1,1,1])] [(0,ptr0 61),(1,i64 (v 7)),(5,i64 (v 9)),(6,i64 (v 3)),(34,.slice (some ⟨(.dyn 50),(v 53)⟩) (v 51) (v 52)),(35,i64 (.tn (v 51))),(36,i64 (v 10)),(82,i64 (v 16))] [] [] [] 8 [] [0,1,4,5,6,34,35,36] [.code (q46 [1,1,1,1,0,1,0,0]),.inLoop (q46 [1,1,1,1,0,1,0,0]),.inBlock 0,.code (q46 [1,1,1,1,1])] [ptr0 61,i64 (v 7),i64 (v 16),i64 (v 9),i64 (v 3),.slice (some ⟨(.dyn 50),(v 53)⟩) (v 51) (v 52),i64 (.tn (v 51)),i64 (.op .add .i64 (v 10) (.lit 1))] []:=⟨fun st=>by kernel_rfl,fun st=>by kernel_rfl,by kernel_rfl,of_decide_eq_true (by kernel_rfl)⟩
theorem dpE:Pc 46 87 [.code (q46 [1,1,1,1,0,1,0,0]),.inLoop (q46 [1,1,1,1,0,1,0,0]),.inBlock 0,.code (q46 [1,1,1,1,1])] [(0,ptr0 61),(1,i64 (v 7)),(4,i64 (v 8)),(5,i64 (v 9)),(6,i64 (v 3)),(34,.slice (some ⟨(.dyn 50),(v 53)⟩) (v 51) (v 52)),(35,i64 (.tn (v 51))),(36,i64 (v 10))] [((.cmp .lss (v 10) (.tn (v 51))),false)] [] [] 15 [] [4,5] [.code .ret] [i64 (v 8),i64 (.op .add .i64 (v 9) (.lit 1))] []:=⟨fun st=>by kernel_rfl,fun st=>by kernel_rfl,by kernel_rfl,of_decide_eq_true (by kernel_rfl)⟩
theorem dpEn:Pc 46 87 [.code (q46 [1,1,1,1,0,1,0,0]),.inLoop (q46 [1,1,1,1,0,1,0,0]),.inBlock 0,.code (q46 [1,1,1,1,1])] [(0,ptr0 61),(1,i64 (v 7)),(4,i64 (v 8)),(5,i64 (v 9)),(6,i64 (v 3)),(34,nilA),(35,i64 (.lit 0)),(36,i64 (.lit 0))] [] [] [] 15 [] [4,5] [.code .ret] [i64 (v 8),i64 (.op .add .i64 (v 9) (.lit 1))] []:=⟨fun st=>by kernel_rfl,fun st=>by kernel_rfl,by kernel_rfl,of_decide_eq_true (by kernel_rfl)⟩
end Go.Proofs.Ytmobbajggkjpgaa
