/-
  A symbolic run of the model, proved sound, and the walk of the code: a text of its parts. Conditions: none.
-/
import Derived.Test.YtmobbajggkjpgaaGreatLE
set_option linter.unusedSectionVars false
set_option maxRecDepth 100000
set_option linter.unusedVariables false
set_option linter.unusedSimpArgs false
namespace Go.Proofs.YtmobbajggkjpgaaGreat
open Go.Proofs.YtmobbajggkjpgaaGreat.SX Go.Conc
open _root_.List renaming mem_cons_of_mem->aa,getElem?_eq_getElem->af,mem_singleton->ah,mem_cons_self->ai,mem_cons->aj,length_append->ak,getElem?_eq_some_iff->aq,mem_of_getElem?->ay,not_mem_nil->az,length_cons->aC,all_eq_true->aD,length_map->aE,drop_eq_getElem_cons->aJ,map_cons->aK,getElem?_map->aL,length->aP,append_nil->aQ,mem_append->aR,drop_of_length_le->aS,mem_filter->aW,append_assoc->aY,length_nil->aZ,getD_eq_getElem?_getD->bg,pairwise_singleton->bh,length_eq_zero_iff->bk,length_pos_iff->bp,mem_map->bq,length_drop->br
open _root_.Bool renaming and_eq_true->an
open _root_.Option.some renaming inj->au
open _root_.Option renaming map_some->av,map_none->aI
open _root_.Nat renaming le_refl->ax,le_trans->aA,zero_add->aG,eq_of_beq_eq_true->aH
structure dY(w:World)(s:Value)(E:List (Int×Int)):Prop where
 ex:∃(z:Bool) (A o c:Nat),s=ew z A o E.length c∧(z=true->E=[])∧(z=false->E.length≤c)∧∀i e,E[i]?=some e->w.cell? ⟨A,o+i*2,none⟩=some (cY e.1)∧w.cell? ⟨A,o+i*2+1,none⟩=some (iV e.2)
theorem dY.keep{w w':World}{s:Value}{E:List (Int×Int)}(h:dY w s E)(f:bA w w'):dY w' s E:=by obtain⟨z,A,o,c,h1,h2,h3,h4⟩:=h.ex;exact⟨z,A,o,c,h1,h2,h3,fun i e hi=>⟨f.cell (h4 i e hi).1,f.cell (h4 i e hi).2⟩⟩
def Gy(t:T):Prop:=∀{w:World} {b:Nat} {tree:List Nd} {A o c:Nat} {es:Value} {m:cU} {E:List (Int×Int)} {bY:Nat} {rest:List Nd},mu w b tree A o c es m->tree.length≤1000000->dY w es E->ue t->m8 E.length t->tree.drop bY=flat t++rest->dS 37 #[bI b,iV bY] w fun v w'=>bA w w'∧v=ga (lS E m t)
theorem mz{tree:List Nd}:∀{ks:List T} {k i j:Nat} {t:T} {rest:List Nd},tree.drop k=bW ks++rest->(fU k ks)[i]?=some j->ks[i]?=some t->∃rest',tree.drop j=flat t++rest'
 |[],k,i,j,t,rest,hd,hj,ht=>by cases ht
 |t'::ks,k,0,j,t,rest,hd,hj,ht=>by obtain rfl:t'=t:=au ht;obtain rfl:k=j:=au hj;exact⟨bW ks++rest,by rw[hd,bW,aY]⟩
 |t'::ks,k,i+1,j,t,rest,hd,hj,ht=>by
  have hd':tree.drop (k+(flat t').length)=bW ks++rest:=by rw[<-List.drop_drop,hd,bW,aY,List.drop_left]
  exact mz (i:=i) hd' hj ht
noncomputable abbrev NdH:List Item:=Lv
section
variable {w w0:World}{cs:List Frame}{fr:Frame}
theorem Gz{b K c:Nat}{js:List Nat}{vs:List (Int×Int)}(hl:js.length=vs.length)(jD:js.length≤1000000)(hne:vs≠[])(hc:∀i j:Nat,js[i]?=some j->w0.cell? ⟨K,0+i,none⟩=some (iV j))(hk:Gw w0 b js vs):
  ∀(m i:Nat) {w:World} {cs:List Frame} {fr:Frame},i+m=vs.length->bA w0 w->FA 37 83 NdH [] .normal [(0,bI b),(6,bU K 0 js.length c),(43,bU K 0 js.length c),(44,iV js.length),(45,iV i)] fr->
  Goes (G fr cs) w fun g' w'=>∃fr',g'=G fr' cs∧bA w0 w'∧cV 37 fr' w' (ga (((vs.drop i).find? fun e=>decide (e.1=1)).getD (vs.headD (0,0))))
 |0,i,w,cs,fr,hi,fw,hf=>by
  obtain⟨j,e,hj,he⟩:=both hl (i:=0) (bp.2 hne);have hlen:js.length≠0:=by have:=bp.2 hne;omega
  refine(ndA.go (bL [(83,(0:Nat)),(81,js.length),(82,c),(10,i),(12,j)] [(61,b),(80,K)] []) hf rfl ⟨decide_eq_false (by show ¬((i:Int)<((js.length:Nat):Int));omega),decide_eq_true (by show(0:Int)<((js.length:Nat):Int);omega),trivial⟩ ⟨fw.cell (hc 0 j hj),trivial⟩).trans fun g1 w1 hd=>?_;obtain⟨I,B,bT,rfl,f1,F1,_⟩:=hd;refine(ndB.go (bL [] [] [(60,bI b),(63,iV j)]) (Q:=fun v w'=>v=ga e) F1 rfl fun w' f2=>hk 0 j e hj he w' (fw.trans (f1.trans f2))).trans fun g2 w2 bX=>?_;obtain⟨cB,vv,rfl,f2,rfl,F2⟩:=bX;refine(ndC.go (bL [] [] [(64,ga e)]) F2 rfl trivial trivial).trans fun g5 w5 d_=>?_;obtain⟨I,B,gh,rfl,f5,F5,_⟩:=d_;refine(leave1 Ls F5 rfl).mono fun g6 w6 dj=>?_;obtain⟨dJ,rfl,rfl,hL⟩:=dj;refine⟨dJ,rfl,fw.trans (f1.trans (f2.trans f5)),?_⟩;rw[aS (by omega)];have:vs.headD (0,0)=e:=by
   cases vs with
   |nil=>cases he
   |cons a l=>exact au he
  rw[List.find?_nil,Option.getD_none,this];exact hL
 |m+1,i,w,cs,fr,hi,fw,hf=>by
  have hlt:i<vs.length:=by omega
  obtain⟨j,e,hj,he⟩:=both hl (i:=i) hlt;refine(nd6.go (bL [(83,(0:Nat)),(81,js.length),(82,c),(10,i),(12,j)] [(61,b),(80,K)] []) hf rfl (cg (i:=10) (n:=81) (I:=i) (N:=js.length) rfl rfl (by omega)) ⟨fw.cell (hc i j hj),trivial⟩).trans fun g1 w1 hd=>?_;obtain⟨I,B,bT,rfl,f1,F1,_⟩:=hd;refine(nd7.go (bL [] [] [(50,bI b),(51,iV j)]) (Q:=fun v w'=>v=ga e) F1 rfl fun w' f2=>hk i j e hj he w' (fw.trans (f1.trans f2))).trans fun g2 w2 bX=>?_;obtain⟨cB,vv,rfl,f2,rfl,F2⟩:=bX;have Eu:=fw.trans (f1.trans f2);have eJ:vs.drop i=e::vs.drop (i+1):=by rw[aJ hlt];congr 1;exact au ((af hlt).symm.trans he)
  rw[eJ,List.find?_cons];by_cases h1:e.1=1
  ·rw[kW h1]at F2;refine(nd8.go (bL [(83,(0:Nat)),(81,js.length),(82,c),(10,i),(6,e.2)] [(61,b),(80,K)] []) F2 rfl trivial trivial).trans fun g5 w5 d_=>?_;obtain⟨I,B,gh,rfl,f5,F5,_⟩:=d_;refine(leave1 Ls F5 rfl).mono fun g6 w6 dj=>?_;obtain⟨dJ,rfl,rfl,hL⟩:=dj;rw[decide_eq_true h1];refine⟨dJ,rfl,Eu.trans f5,?_⟩;show cV 37 dJ _ (ga e);rw[kW h1];exact hL
  ·rw[mw h1]at F2;refine(nd9.go (bL [(83,(0:Nat)),(81,js.length),(82,c),(10,i),(5,e.1),(6,e.2)] [(61,b),(80,K)] []) F2 rfl trivial trivial).trans fun g5 w5 d_=>?_;obtain⟨I,B,gh,rfl,f5,F5,_⟩:=d_;rw[decide_eq_false h1];refine Gz (c:=c) hl jD hne hc hk m (i+1) (by omega) (Eu.trans f5) ?_;rw[<-inc (i:=i) (by omega)];exact F5
theorem lH(E:List (Int×Int))(m:cU)(ts:List T):(rO E m ts).length=ts.length:=by rw[vm,aE]
theorem Oo{n:Nd}{ks:List T}(ih:∀t∈ks,Gy t):Gy (.nd n ks):=by
 intro w b tree A o c es m E bY rest hw hl hE ht hn hd;have oJ:tree.drop bY=n::(bW ks++rest):=by rw[hd];simp[flat]
 obtain⟨hx,bX,hlt⟩:=dG oJ;have iD:=hw.el bY n hx;have hfl:=fX ks;have hle:(bW ks).length≤tree.length:=by have:=congrArg aP bX;rw[ak,br]at this;omega
 obtain⟨nE,nK,n3,nL⟩:=hn;refine cF fun cs=>?_;refine(nd1.go (bL [(10,bY),(51,tree.length),(52,c),(53,o),(1,n.op),(2,n.n),(3,n.kids),(4,n.bY)] [(61,b),(50,A)] []) (dV XP rfl (bI b) (iV bY)) rfl (cg (i:=10) (n:=51) (I:=bY) (N:=tree.length) rfl rfl hlt) ⟨hw.c0,iD.c0,iD.c1,iD.c2,iD.c3,trivial⟩).trans fun g1 w1 oJ=>?_;obtain⟨I,B,bT,rfl,f1,F1,bl,_⟩:=oJ;have hX:(cu.obj 77 [cY n.op,iV n.n,iV n.kids,iV n.bY]).at Tryz.prog w1 (B 100):=bl.1.2;obtain⟨X,eX⟩:∃X,B 100=X:=⟨_,rfl⟩;have fI:FA 37 83 [.inRegion (opsOf (lQ 14)) [2,3],.code (lQ 15)] [] .normal [(0,bI b),(5,bI X),(20,bI b),(21,iV bY)] bT:=by rw[<-eX];exact F1
 rw[eX]at hX;refine(nd2.go (bL [] [] [(20,bI b),(21,iV bY)]) (Q:=fun v w'=>∃w1,bA w1 w'∧fS w' w1.heap.size v ((fU (bY+1) ks).map Int.ofNat)) fI rfl fun w' f2=>(Lr (hw.keep (f1.trans f2)) hl ht hd).mono fun v w2 hd=>⟨hd.1,w',hd.1,hd.2⟩).trans fun g2 w2 bX=>?_;obtain⟨cB,s,rfl,f2,⟨wk,fk,hs⟩,F2⟩:=bX;have f12:=f1.trans f2;have fin:∀{k:List Item} {w3:World} {cC:Frame} {v:Value},v=ga (lS E m (.nd n ks))->bA w w3->FA 37 83 (.code .ret::k) [] .normal [(4,v)] cC->Goes (G cC cs) w3 fun g' w'=>∃fr' v,g'=G fr' cs∧cV 37 fr' w' v∧bA w w'∧v=ga (lS E m (.nd n ks)):=fun{k w3 cC v} hv f3 F3=>by refine(leave1 Ls F3 rfl).mono fun g2 w2 bX=>?_;obtain⟨cB,rfl,rfl,hL⟩:=bX;exact⟨cB,_,rfl,hL,f3,hv⟩
 have X0:=f2.cell (bE hX (i:=0) rfl);have X1:=f2.cell (bE hX (i:=1) rfl);have X2:=f2.cell (bE hX (i:=2) rfl);have X3:=f2.cell (bE hX (i:=3) rfl);have no:∀{a b:Int},a≠b->decide (a=b)=false:=fun h=>decide_eq_false h;by_cases h1:n.op=1
 ·refine(nd3.go (bL [(1,n.op),(2,n.n),(3,n.kids),(4,n.bY)] [(61,b),(64,X)] [(22,s)]) F2 rfl ⟨decide_eq_true h1,trivial⟩ ⟨X0,X1,X2,X3,trivial⟩).trans fun g3 w3 cn=>?_;obtain⟨I,B,cC,rfl,f3,F3,_⟩:=cn;refine fin ?_ (f12.trans f3) F3;unfold lS qH;rw[if_pos h1,kW rfl];rfl
 by_cases h2:n.op=2
 ·obtain⟨hn0,J7⟩:=nE h2;obtain⟨z,A',o',c',he,hz,oU,cL⟩:=(hE.keep f12).ex;cases z with
  |true=>rw[hz rfl]at J7;simp only[aZ]at J7;omega
  |false=>
   obtain⟨N,hN⟩:∃N:Nat,n.n=N:=⟨n.n.toNat,by omega⟩;have Cn:N<E.length:=by omega
   obtain⟨e,hee⟩:∃e,E[N]?=some e:=⟨_,af Cn⟩;have hg:lS E m (.nd n ks)=e:=by unfold lS qH;rw[if_neg h1,if_pos h2,hN];show E.getD ((N:Int)).toNat (0,0)=e;rw[bg,show((N:Int)).toNat=N by omega,hee];rfl
   have VD:w2.cell? ⟨b,1,none⟩=some (bU A' o' E.length c'):=by rw[<-show es=bU A' o' E.length c' from he];exact f12.cell hw.c1
   have X1':w2.cell? ⟨X,1,none⟩=some (iV N):=by rw[<-hN];exact X1
   obtain⟨ec,ec'⟩:=cL N e hee;by_cases AW:e.1=1
   ·refine(Om.go (bL [(1,n.op),(2,N),(3,n.kids),(4,n.bY),(15,e.1),(16,e.2),(71,E.length),(72,c'),(73,o')] [(61,b),(64,X),(70,A')] [(22,s)]) F2 rfl ⟨no h1,decide_eq_true h2,decide_eq_true AW,cg (i:=2) (n:=71) (I:=N) (N:=E.length) rfl rfl Cn⟩ ⟨X0,X1',X2,X3,VD,ec,ec',trivial⟩).trans fun g3 w3 cn=>?_;obtain⟨I,B,cC,rfl,f3,F3,_⟩:=cn;refine fin ?_ (f12.trans f3) F3;rw[hg,kW AW];rfl
   ·refine(Lu.go (bL [(1,n.op),(2,N),(3,n.kids),(4,n.bY),(15,e.1),(16,e.2),(71,E.length),(72,c'),(73,o')] [(61,b),(64,X),(70,A')] [(22,s)]) F2 rfl ⟨no h1,decide_eq_true h2,decide_eq_false AW,cg (i:=2) (n:=71) (I:=N) (N:=E.length) rfl rfl Cn⟩ ⟨X0,X1',X2,X3,VD,ec,ec',trivial⟩).trans fun g3 w3 cn=>?_;obtain⟨I,B,cC,rfl,f3,F3,_⟩:=cn;refine fin ?_ (f12.trans f3) F3;rw[hg,mw AW];rfl
 have hks:ks≠[]:=nK h1 h2;have hvs:rO E m ks≠[]:=fun h=>hks (by have:=lH E m ks;rw[h]at this;exact bk.1 this.symm)
 rcases hs with⟨rfl,pz⟩|⟨hne,K,c',rfl,hK,hv⟩
 ·have:=congrArg aP pz;rw[aE,fR]at this;exact(hks (bk.1 this)).elim
 have hjl:(fU (bY+1) ks).length=(rO E m ks).length:=by rw[fR,lH]
 obtain⟨js,BN⟩:∃js,js=fU (bY+1) ks:=⟨_,rfl⟩;rw[<-BN]at hv hjl F2;have jD:js.length≤1000000:=by rw[BN,fR];omega
 have hcap:js.length≤c':=by have:=Gt hv;rw[aE,aE]at this;exact this
 rw[aE]at F2;have hcell:∀{w3:World},bA w2 w3->∀i j:Nat,js[i]?=some j->w3.cell? ⟨K,0+i,none⟩=some (iV j):=fun f i j hj=>by rw[aG];refine f.cell (cu.cR hv ?_);show((js.map Int.ofNat).map iV)[i]?=_;rw[aL,aL,hj];rfl
 have hkc:∀{w3:World},bA w2 w3->Gw w3 b js (rO E m ks):=fun{w3} f i j e hj he w' f'=>by
  have hi:i<ks.length:=by have:=(aq.1 he).1;rwa[lH]at this
  have RM:ks[i]?=some ks[i]:=af hi;have hmem:ks[i]∈ks:=List.getElem_mem hi;obtain⟨rest',hr⟩:=mz bX (BN▸hj) RM;have fa:=f12.trans (f.trans f');have he':e=lS E m ks[i]:=by rw[vm,aL,RM]at he;exact(au he).symm
  rw[he'];exact ih ks[i] hmem (hw.keep fa) hl (hE.keep fa) (oS.mem ht.2 _ hmem) (lq.mem nL _ hmem) hr
 by_cases h11:n.op=11
 ·refine(nd5.go (bL [(1,n.op),(2,n.n),(3,n.kids),(4,n.bY),(83,(0:Nat)),(81,js.length),(82,c')] [(61,b),(64,X),(80,K)] []) F2 rfl ⟨no h1,no h2,decide_eq_true h11,trivial⟩ ⟨X0,X1,X2,X3,trivial⟩).trans fun g3 w3 cn=>?_;obtain⟨I,B,cC,rfl,f3,F3,_⟩:=cn;refine(Gz hjl jD hvs (hcell f3) (hkc f3) (rO E m ks).length 0 (by omega) (bA.refl _) F3).mono fun g6 w6 dj=>?_;obtain⟨dJ,rfl,f6,hL⟩:=dj;refine⟨dJ,_,rfl,hL,f12.trans (f3.trans f6),?_⟩;unfold lS qH;rw[if_neg h1,if_neg h2,if_pos h11];rfl
 obtain⟨j,e,hj,he⟩:=both hjl (i:=0) (bp.2 hvs);have hlen:js.length≠0:=by have:=bp.2 hvs;omega
 have hhd:(rO E m ks).headD (0,0)=e:=by
  generalize rO E m ks=vs at he;cases vs with
  |nil=>cases he
  |cons a l=>exact au he
 refine(ndD.go (bL [(1,n.op),(2,n.n),(3,n.kids),(4,n.bY),(83,(0:Nat)),(81,js.length),(82,c'),(12,j)] [(61,b),(64,X),(80,K)] []) F2 rfl ⟨no h1,no h2,no h11,decide_eq_true (by show(0:Int)<((js.length:Nat):Int);omega),trivial⟩ ⟨X0,X1,X2,X3,hcell (bA.refl _) 0 j hj,trivial⟩).trans fun g3 w3 cn=>?_;obtain⟨I,B,cC,rfl,f3,F3,_⟩:=cn;refine(ndE.go (bL [] [] [(65,bI b),(68,iV j)]) (Q:=fun v w'=>v=ga e) F3 rfl fun w' f4=>hkc f3 0 j e hj he w' f4).trans fun g4 w4 c9=>?_;obtain⟨eg,vv,rfl,f4,rfl,F4⟩:=c9;have f34:=f3.trans f4;by_cases AW:e.1=1
 ·rw[kW AW]at F4;refine(ndG.go (bL [(1,n.op),(2,n.n),(3,n.kids),(4,n.bY),(83,(0:Nat)),(81,js.length),(82,c'),(6,e.2)] [(61,b),(64,X),(80,K)] []) F4 rfl trivial ⟨f34.cell X0,f34.cell X1,f34.cell X2,f34.cell X3,trivial⟩).trans fun g5 w5 d_=>?_;obtain⟨I,B,gh,rfl,f5,F5,_⟩:=d_;refine(ndH.go (bL [] [] [(78,bI b),(79,ndV n),(80,bU K 0 js.length c'),(81,iV e.2)]) (Q:=fun v w'=>v=ga (lp n.op e.2 m (rO E m ks))) F5 rfl fun w' f6=>?_).trans fun g6 w6 dj=>?_
  ·have fa:=f12.trans (f34.trans (f5.trans f6));have fb:=f34.trans (f5.trans f6);refine Ly hjl jD hvs hcap (hcell fb) ⟨fa.cell hw.c2,fa.cell hw.c3,fa.cell hw.c4,fa.cell hw.c5⟩ (hkc fb) fun h=>?_;rw[lH];exact n3 h
  obtain⟨dJ,vv,rfl,f6,rfl,F6⟩:=dj;refine(ndI.go (bL [] [] [(82,ga (lp n.op e.2 m (rO E m ks)))]) F6 rfl trivial trivial).trans fun g7 w7 lG=>?_;obtain⟨I,B,qj,rfl,f7,F7,_⟩:=lG;refine fin ?_ (f12.trans (f34.trans (f5.trans (f6.trans f7)))) F7;unfold lS qH;rw[if_neg h1,if_neg h2,if_neg h11,hhd,if_pos AW];rfl
 ·rw[mw AW]at F4;refine(ndF.go (bL [(83,(0:Nat)),(81,js.length),(82,c'),(5,e.1),(6,e.2)] [(61,b),(64,X),(80,K)] []) F4 rfl trivial trivial).trans fun g5 w5 d_=>?_;obtain⟨I,B,gh,rfl,f5,F5,_⟩:=d_;refine fin ?_ (f12.trans (f34.trans f5)) F5;unfold lS qH;rw[if_neg h1,if_neg h2,if_neg h11,hhd,if_neg AW,mw AW];rfl
end
mutual
theorem sZ:∀t:T,Gy t
 |.nd n ks=>Oo (zA ks)
theorem zA:∀ts:List T,∀t∈ts,Gy t
 |[],t,h=>by cases h
 |t'::ts,t,h=>by
  rcases aj.1 h with e|h
  ·rw[e];exact sZ t'
  ·exact zA ts t h
end
theorem Ex{op:Int}{len:Nat}{lo hi:Int}{nm:Bool}(h:jz op len=some (lo,hi,nm)):0≤lo∧(op≠1->op≠2->1≤lo)∧(op=12->lo=3∧hi=3):=by
 unfold jz at h;split at h
 ·rename_i h1;cases h;exact⟨by decide,fun a b=>(h1.elim a b).elim,fun e=>by omega⟩
 split at h
 ·cases h;exact⟨by decide,fun _ _=>by decide,fun e=>by omega⟩
 split at h
 ·cases h;exact⟨by decide,fun _ _=>by decide,fun e=>by omega⟩
 split at h
 ·cases h;exact⟨by decide,fun _ _=>by decide,fun e=>by omega⟩
 split at h
 ·cases h;exact⟨by decide,fun _ _=>by decide,fun e=>⟨rfl,rfl⟩⟩
 split at h
 ·cases h;exact⟨by decide,fun _ _=>by decide,fun e=>by omega⟩
 ·cases h
theorem pR{P:T->Prop}{g:List Nd->Option (T×List Nd)}{names:Bool}(hg:∀l t r,g l=some (t,r)->P t):∀(k:Nat) (l:List Nd) (ts:List T) (r:List Nd),fH g names k l=some (ts,r)->ts.length=k∧∀t∈ts,P t
 |0,l,ts,r,h=>by cases h;exact⟨rfl,fun t ht=>by cases ht⟩
 |k+1,l,ts,r,h=>by
  unfold fH at h;split at h
  ·cases h
  ·rename_i t r' e;split at h
   ·cases h
   ·split at h
    ·cases h
    ·rename_i ts' r'' e2;cases h;obtain⟨h1,h2⟩:=pR hg k _ _ _ e2;refine⟨by rw[aC,h1],fun t' ht=>?_⟩;rcases aj.1 ht with rfl|ht
     ·exact hg _ _ _ e
     ·exact h2 t' ht
theorem oS.of:∀{ts:List T},(∀t∈ts,ue t)->oS ts
 |[],_=>trivial
 |t::ts,h=>⟨h t (ai ..),oS.of fun t' ht=>h t' (aa _ ht)⟩
theorem lq.of{N:Nat}:∀{ts:List T},(∀t∈ts,m8 N t)->lq N ts
 |[],_=>trivial
 |t::ts,h=>⟨h t (ai ..),lq.of fun t' ht=>h t' (aa _ ht)⟩
theorem zB{n:Nd}:∀{ts:List T} {t:T},t∈ts->n∈flat t->n∈bW ts
 |t'::ts,t,ht,hn=>by
  rw[bW];rcases aj.1 ht with rfl|ht
  ·exact List.mem_append_left _ hn
  ·exact List.mem_append_right _ (zB ht hn)
theorem jM:∀(f:Nat) (l:List Nd) (root:Bool) (t:T) (r:List Nd),dQ f l root=some (t,r)->ue t∧∀N:Nat,(∀n∈flat t,n.op=2->0≤n.n∧n.n<N)->m8 N t
 |0,l,root,t,r,h=>by cases h
 |f+1,[],root,t,r,h=>by cases h
 |f+1,n::l,root,t,r,h=>by
  unfold dQ at h;split at h
  ·cases h
  ·rename_i lo hi nm e0;obtain⟨l0,l1,l12⟩:=Ex e0;split at h
   ·cases h
   ·rename_i hb;split at h
    ·cases h
    ·rename_i ts r' e;cases h;obtain⟨hlen,hall⟩:=pR (P:=fun t=>ue t∧∀N:Nat,(∀n∈flat t,n.op=2->0≤n.n∧n.n<N)->m8 N t) (fun l t r h=>jM f l false t r h) _ _ _ _ e;have hk:lo≤n.kids∧n.kids≤hi:=by
      have hb':pN n root lo hi=false:=by simpa using hb
      unfold pN at hb';simp only[Bool.or_eq_false_iff,decide_eq_false_iff_not]at hb';omega
     have hne:∀h:ts=[],n.kids.toNat=0:=fun h=>by rw[<-hlen,h];rfl
     refine⟨⟨by omega,oS.of fun t ht=>(hall t ht).1⟩,fun N hN=>⟨hN n (by rw[flat];exact ai ..),fun h1 h2 h=>?_,fun h=>?_,lq.of fun t ht=>(hall t ht).2 N fun n' hn'=>hN n' (by rw[flat];exact aa _ (zB ht hn'))⟩⟩
     ·have:=l1 h1 h2;have:=hne h;omega
     ·have:=l12 h;omega
def k8(x:cH):Option T:=(dQ (x.tree.length+1) x.tree true).map (·.1)
structure m9(x:cH)(i:Nat)(t:T):Prop where
 tr:k8 x=some t
 fl:x.tree=flat t
 wf:ue t
 nd:m8 i t
theorem Ey{x:cH}{i:Nat}{names:List (ByteArray×Bool)}(h:eZ x i names=0):∃t,m9 x i t:=by
 unfold eZ at h;split at h
 ·cases h
 split at h
 ·cases h
 split at h
 ·cases h
 rename_i t rest e;split at h
 ·cases h
 rename_i hr;split at h
 ·cases h
 split at h
 ·cases h
 rename_i ha;have hfl:=g_ _ _ _ _ _ e;have pP:rest=[]:=by
  cases rest with
  |nil=>rfl
  |cons a l=>exact(hr (.inl (by simp))).elim
 rw[pP,aQ]at hfl;obtain⟨g1,g2⟩:=jM _ _ _ _ _ e;refine⟨t,⟨by unfold k8;rw[e];rfl,hfl,g1,g2 i fun n hn h2=>?_⟩⟩;rw[<-hfl]at hn;have:=ha;simp only[List.any_eq_true,an,Bool.or_eq_true,decide_eq_true_eq,not_exists,not_and,not_or]at this;have:=this n hn h2;omega
theorem s0:∀(l:List cH) (i:Nat) (names:List (ByteArray×Bool)),dN l i names=none->∀j x,l[j]?=some x->∃t,m9 x (i+j) t
 |[],i,names,h,j,x,hj=>by cases hj
 |y::l,i,names,h,j,x,hj=>by
  unfold dN at h;split at h
  ·cases h
  ·rename_i hs;have hs:eZ y i names=0:=by simpa using hs
   cases j with
   |zero=>obtain rfl:y=x:=au hj;exact Ey hs
   |succ j=>have:=s0 l (i+1) _ h j x hj;rwa[show i+1+j=i+(j+1) by omega]at this
noncomputable def q7(l:Nat):Code:=pc (bD Tryz.f19) (pd l)
theorem ac3:bP Tryz.prog 19 [.bC 0,.bC 1] .normal=.ok ⟨19,59,c8 19 [.bC 0,.bC 1],[.code (bD Tryz.f19)],[],.run,.normal⟩:=by kernel_rfl
theorem RO:sP 19 59 4 5:=fun st=>by kernel_rfl
theorem pl1(z:Bool):Pc 19 59 [.code (bD Tryz.f19)] [(0,.agg [cG z 50 53 51 52,.bC 9]),(1,.agg [i64 (v 21),i64 (v 22),i64 (v 23),i64 (v 24)])] [] [] [] 11 [101,100] [2,3,15] [.inRegion (opsOf (q7 12)) [1,2,3,4,5,6],.code (q7 13),.code (q7 7)] [bz 100,bz 101,.agg [cG z 50 53 51 52,.bC 9]] [(101,.cells [i64 (v 21),i64 (v 22),i64 (v 23),i64 (v 24)] 27),(100,.cells [cG z 50 53 51 52,.bC 9] 25)]:=by cases z<;>exact{}
theorem pl2:di 59 (opsOf (q7 12)) 1 [(15,.bC 15)] 26 [.bC 15] 16:={}
noncomputable abbrev P9:List Item:=[.inRegion (opsOf (q7 12)) [2,3,4,5,6],.code (q7 13),.code (q7 7)]
theorem pl3:Pc 19 59 P9 [(2,bz 64),(3,bz 65),(16,.tuple [i64 (v 5),i64 (v 6)])] Gn [] [] 18 [] [4,5] [.code .ret,.code (q7 7)] [cj,i64 (v 5)] []:={}
noncomputable abbrev Co:List Item:=[.code (q7 116),.inLoop (q7 116),.inBlock 0,.code (q7 15)]
theorem pl4(z:Bool):Pc 19 59 P9 [(2,bz 64),(3,bz 65),(16,.tuple [i64 (v 5),i64 (v 6)])] [((.cmp .neq (v 5) (.lit 0)),false)] [(eD 64 0,cG z 50 53 51 52)] [] 23 [] [2,3,23,24,25] Co [bz 64,bz 65,cG z 50 53 51 52,i64 (dL z 51),i64 (.lit 0)] []:=by cases z<;>exact{}
theorem pl5:Pc 19 59 Co [(2,bz 64),(3,bz 65),(23,sA 50 53 51 52),(24,i64 (.tn (v 51))),(25,i64 (v 10))] (fN 10 51) [(eB 50 53 10 3,ss 1),(eA 50 53 10 3 1,sA 70 73 71 72),(eA 50 53 10 3 2,i64 (v 4))] [] 19 [100] [2,3,9,23,24,25,29] [.inRegion (opsOf (q7 7474)) [1,2,3,4,5,6,7],.code (q7 7475),.inBlock 1,.code (q7 935),.inLoop (q7 116),.inBlock 0,.code (q7 15)] [bz 64,bz 65,bz 100,sA 50 53 51 52,i64 (.tn (v 51)),i64 (v 10),.agg [ss 1,sA 70 73 71 72,i64 (v 4)]] [(100,.cells [ss 1,sA 70 73 71 72,i64 (v 4)] 50)]:={}
theorem pl6:di 59 (opsOf (q7 7474)) 1 [(29,.bC 29)] 36 [.bC 29] 30:={}
noncomputable abbrev XW:List Item:=[.inRegion (opsOf (q7 7474)) [2,3,4,5,6,7],.code (q7 7475),.inBlock 1,.code (q7 935),.inLoop (q7 116),.inBlock 0,.code (q7 15)]
noncomputable abbrev XY:List Item:=[.code .ret,.inBlock 1,.code (q7 935),.inLoop (q7 116),.inBlock 0,.code (q7 15)]
theorem pl7:Pc 19 59 XW [(2,bz 64),(3,bz 65),(9,bz 66),(23,sA 50 53 51 52),(24,i64 (.tn (v 51))),(25,i64 (v 10)),(30,i8 (v 1))] [((.cmp .eql (v 1) (.lit 17)),true)] [] [] 13 [] [4,5] XY [cj,i64 (.lit 11)] []:={}
noncomputable abbrev P_:List (AA×AV):=[(eD 66 0,ss 1),(eD 66 1,sA 70 73 71 72),(eD 66 2,i64 (v 4))]
abbrev LA:List (BE×Bool):=[((.cmp .eql (v 1) (.lit 17)),false)]
theorem pl8:Pc 19 59 XW [(2,bz 64),(3,bz 65),(9,bz 66),(23,sA 50 53 51 52),(24,i64 (.tn (v 51))),(25,i64 (v 10)),(30,i8 (v 1))] LA P_ [] 3 [] [2,3,23,24,25,32,33] [.inRegion (opsOf (q7 7474)) [5,6,7],.code (q7 7475),.inBlock 1,.code (q7 935),.inLoop (q7 116),.inBlock 0,.code (q7 15)] [bz 64,bz 65,sA 50 53 51 52,i64 (.tn (v 51)),i64 (v 10),FB,.agg [ss 1,sA 70 73 71 72,i64 (v 4)]] []:={}
theorem pl9:di 59 (opsOf (q7 7474)) 5 [(32,FB),(33,.bC 33)] 36 [.bC 33] 34:={}
noncomputable abbrev XZ:List Item:=[.inRegion (opsOf (q7 7474)) [6,7],.code (q7 7475),.inBlock 1,.code (q7 935),.inLoop (q7 116),.inBlock 0,.code (q7 15)]
theorem plA:Pc 19 59 XZ [(2,bz 64),(3,bz 65),(23,sA 50 53 51 52),(24,i64 (.tn (v 51))),(25,i64 (v 10)),(32,FB),(34,i8 (v 1))] [((.cmp .eql (v 1) (.lit 18)),true)] [] [] 9 [] [4,5] XY [cj,i64 (.lit 11)] []:={}
theorem plB:Pc 19 59 XZ [(2,bz 64),(3,bz 65),(23,sA 50 53 51 52),(24,i64 (.tn (v 51))),(25,i64 (v 10)),(32,FB),(34,i8 (v 1))] [((.cmp .eql (v 1) (.lit 18)),false)] [] [] 11 [] [2,3,23,24,25] Co [bz 64,bz 65,sA 50 53 51 52,i64 (.tn (v 51)),i64 (.op .add .i64 (v 10) (.lit 1))] []:={}
noncomputable abbrev zC:List Item:=[.code (q7 500),.inLoop (q7 500),.inBlock 2,.code (q7 63)]
theorem plC(z:Bool):Pc 19 59 Co [(2,bz 64),(3,bz 65),(23,cG z 50 53 51 52),(24,i64 (dL z 51)),(25,i64 (v 10))] [((.cmp .lss (v 10) (dL z 51)),false)] [(eD 64 0,cG z 50 53 51 52)] [] 21 [] [2,3,10,39,40,41] zC [bz 64,bz 65,cj,cG z 50 53 51 52,i64 (dL z 51),i64 (.lit 0)] []:=by cases z<;>exact{}
theorem plD(y:Bool):Pc 19 59 zC [(2,bz 64),(3,bz 65),(10,cG y 80 83 81 82),(39,sA 50 53 51 52),(40,i64 (.tn (v 51))),(41,i64 (v 10))] (fN 10 51) [(eB 50 53 10 3,ss 1),(eA 50 53 10 3 1,sA 70 73 71 72),(eA 50 53 10 3 2,i64 (v 4)),(eD 65 0,i64 (v 21)),(eD 65 1,i64 (v 22)),(eD 65 2,i64 (v 23)),(eD 65 3,i64 (v 24))] [] 29 [101] [2,3,10,13,39,40,41,51,52] [.inRegion (opsOf (q7 32051)) [2,3,4,5,6],.inBlock 3,.code (q7 4007),.inLoop (q7 500),.inBlock 2,.code (q7 63)] [bz 64,bz 65,cG y 80 83 81 82,bz 101,sA 50 53 51 52,i64 (.tn (v 51)),i64 (v 10),cG y 80 83 81 82,bz 101] [(101,.cells [sA 70 73 71 72,cG y 80 83 81 82,i64 (v 21),i64 (v 22),i64 (v 23),i64 (v 24)] 69)]:=by cases y<;>exact{}
theorem plE:di 59 (opsOf (q7 32051)) 2 [(52,.bC 52)] 37 [.bC 52,i64 (.lit 0)] 53:={}
theorem X5:di 59 (opsOf (q7 32051)) 3 [(53,.iface 97 (.bC 53))] 127 [.bC 53] 54:={}
theorem X6:di 59 (opsOf (q7 32051)) 3 [(53,.iface 100 (.bC 53))] 128 [.bC 53] 54:={}
noncomputable abbrev X7:List Item:=[.inRegion (opsOf (q7 32051)) [4,5,6],.inBlock 3,.code (q7 4007),.inLoop (q7 500),.inBlock 2,.code (q7 63)]
theorem ac4:Pc 19 59 X7 [(2,bz 64),(3,bz 65),(10,cj),(39,sA 50 53 51 52),(40,i64 (.tn (v 51))),(41,i64 (v 10)),(51,cj),(54,.agg [i8 (v 11),i64 (v 12)])] [] [] [] 10 [101] [2,3,10,39,40,41] zC [bz 64,bz 65,.slice (some (eD 101 0)) (.lit 1) (v 101),sA 50 53 51 52,i64 (.tn (v 51)),i64 (.op .add .i64 (v 10) (.lit 1))] [(101,.row [i8 (v 11),i64 (v 12)] 43 (v 101))]:={}
theorem plG:Pc 19 59 X7 [(2,bz 64),(3,bz 65),(10,.slice (some (eD 62 0)) (v 8) (v 57)),(39,sA 50 53 51 52),(40,i64 (.tn (v 51))),(41,i64 (v 10)),(51,.slice (some (eD 62 0)) (v 8) (v 57)),(54,.agg [i8 (v 11),i64 (v 12)])] Lb [] [(62,.pre false 63 (v 8) [] [] [] 43 (v 57))] 10 [101] [2,3,10,39,40,41] zC [bz 64,bz 65,.slice (some (eD 101 0)) (.plus (.tn (v 8)) (.lit 1)) (v 101),sA 50 53 51 52,i64 (.tn (v 51)),i64 (.op .add .i64 (v 10) (.lit 1))] [(101,.pre false 63 (v 8) [] [] [i8 (v 11),i64 (v 12)] 43 (v 101))]:={}
theorem plH(z:Bool):Pc 19 59 zC [(2,bz 64),(3,bz 65),(10,.bC 10),(39,cG z 50 53 51 52),(40,i64 (dL z 51)),(41,i64 (v 10))] [((.cmp .lss (v 10) (dL z 51)),false)] [] [] 13 [] [4,5] [.code .ret] [.bC 10,i64 (.lit 0)] []:=by cases z<;>exact{}
def dF(x:cH):Int:=(x.tree.headD ⟨0,0,0,0⟩).op
def LB(m:cU)(E:List (Int×Int))(x:cH):Int×Int:=match k8 x with
 |some t=>lS E m t
 |none=>(0,0)
def kC(m:cU):List cH->List (Int×Int)->List (Int×Int)
 |[],E=>E
 |x::r,E=>kC m r (E++[LB m E x])
def dM(x:cH):Bool:=decide (dF x=17)||decide (dF x=18)
def oz(F:gU)(m:cU):Int×List (Int×Int):=
 if(ef F).1≠0 then((ef F).1,[])
 else if F.lets.any dM then(11,[])
 else(0,kC m F.lets [])
theorem xq:∀(l:List cH) (i:Nat) (names:List (ByteArray×Bool)) (e:Int) (j:Nat),dN l i names=some (e,j)->e≠0
 |[],i,names,e,j,h=>by cases h
 |y::l,i,names,e,j,h=>by
  unfold dN at h;split at h
  ·rename_i hs;cases h;exact hs
  ·exact xq l _ _ e j h
theorem nV{F:gU}(h:(ef F).1=0):∀i x,F.lets[i]?=some x->∃t,m9 x i t:=by
 have h0:dN F.lets 0 []=none:=by
  unfold ef at h;cases e:dN F.lets 0 []with
  |none=>rfl
  |some p=>rw[e]at h;exact(xq _ _ _ p.1 p.2 e h).elim
 intro i x hi;have:=s0 F.lets 0 [] h0 i x hi;rwa[aG]at this
def gW(e:Int×Int):List Value:=[cY e.1,iV e.2]
def kJ(w:World)(base:Nat)(s:Value)(l:List (Int×Int)):Prop:=(s=eS∧l=[])∨(l≠[]∧∃B c,s=bU B 0 l.length c∧base≤B∧(cu.vec 43 c (l.flatMap gW)).at Tryz.prog w B)
theorem kJ.keep{w w':World}{base:Nat}{s:Value}{l:List (Int×Int)}(h:kJ w base s l)(f:bA w w'):kJ w' base s l:=by
 rcases h with h|⟨h1,B,c,h2,h3,h4⟩
 ·exact .inl h
 ·exact .inr ⟨h1,B,c,h2,h3,bM h4 f⟩
theorem LC(inf:TypeInfo)(hi:Tryz.prog.info? 43=some inf):inf.size=2:=by
 have e2:(Tryz.prog.info? 43).map (fun x=>x.size)=some 2:=by kernel_rfl
 rw[hi]at e2;exact au e2
theorem oA:∀l:List (Int×Int),(l.flatMap gW).length=2*l.length
 |[]=>rfl
 |e::l=>by rw[List.flatMap_cons,ak,oA l,aC];show 2+2*l.length=_;omega
theorem s9:∀{l:List (Int×Int)} {i:Nat} {e:Int×Int},l[i]?=some e->(l.flatMap gW)[i*2]?=some (cY e.1)∧(l.flatMap gW)[i*2+1]?=some (iV e.2)
 |a::l,0,e,h=>by obtain rfl:a=e:=au h;exact⟨rfl,rfl⟩
 |a::l,i+1,e,h=>by
  obtain⟨h1,h2⟩:=s9 (l:=l) (i:=i) h;rw[List.flatMap_cons];refine⟨?_,?_⟩
  ·rw[show(i+1)*2=i*2+1+1 by omega];exact h1
  ·rw[show(i+1)*2+1=i*2+1+1+1 by omega];exact h2
theorem LD{w:World}{B c:Nat}{l:List (Int×Int)}(h:(cu.vec 43 c (l.flatMap gW)).at Tryz.prog w B):l.length≤c:=by obtain⟨arr,rest,inf,e1,e2,e3,e4⟩:=h;have:=congrArg aP e3;rw[LC inf e2]at e4;rw[ak,oA]at this;have:arr.size=arr.toList.length:=rfl;omega
theorem kJ.at{w:World}{base:Nat}{s:Value}{l:List (Int×Int)}(h:kJ w base s l):dY w s l:=by
 rcases h with⟨h1,h2⟩|⟨h1,B,c,h2,h3,h4⟩
 ·exact⟨true,0,0,0,h1,fun _=>h2,(fun h=>by cases h),fun i n hi=>by rw[h2]at hi;cases hi⟩
 ·refine⟨false,B,0,c,h2,(fun h=>by cases h),fun _=>LD h4,fun i e hi=>?_⟩;obtain⟨g1,g2⟩:=s9 hi;rw[aG];exact⟨cu.cR h4 g1,cu.cR h4 g2⟩
noncomputable abbrev X8:List Item:=Co
noncomputable abbrev Oq:List Item:=zC
noncomputable abbrev PlA(l:List Nat):List Item:=.inRegion (opsOf (q7 32051)) l::[.inBlock 3,.code (q7 4007),.inLoop (q7 500),.inBlock 2,.code (q7 63)]
section
variable {w w0:World}{cs:List Frame}{fr:Frame}{m:cU}
theorem Ot{base X Y A o L c i:Nat}{s:Value}{l:List (Int×Int)}{e:Int×Int}(hb:base≤w.heap.size)(hs:kJ w base s l)(hl:l.length≤1000000)(hf:FA 19 59 (PlA [4,5,6]) [] .normal [(2,bI X),(3,bI Y),(10,s),(39,bU A o L c),(40,iV L),(41,iV i),(51,s),(54,dh e)] fr):
  Goes (G fr cs) w fun g' w'=>∃fr' s',g'=G fr' cs∧bS (fun x=>base≤x) w w'∧kJ w' base s' (l++[e])∧FA 19 59 Oq [] .normal [(2,bI X),(3,bI Y),(10,s'),(39,bU A o L c),(40,iV L),(41,iV (iF .add .i64 i 1))] fr':=by
 rcases hs with⟨rfl,rfl⟩|⟨hne,B0,c0,rfl,P4,hv⟩
 ·refine(ac4.go (bL [(51,L),(52,c),(53,o),(10,i),(11,e.1),(12,e.2)] [(64,X),(65,Y),(50,A)] []) hf rfl trivial trivial).mono fun g1 w1 hd=>?_;obtain⟨I,B,bT,rfl,f1,F1,bl,_⟩:=hd;exact⟨bT,_,rfl,f1.mono fun x hx=>aA hb hx,.inr ⟨by simp,B 101,(I 101).toNat,rfl,aA hb bl.1.1,bl.1.2⟩,F1⟩
 ·obtain⟨ρ,hρ⟩:∃ρ:Env,ρ=bL [(51,L),(52,c),(53,o),(10,i),(11,e.1),(12,e.2),(8,l.length),(57,c0)] [(64,X),(65,Y),(50,A),(62,B0)] [(63,.agg (l.flatMap gW).toArray)]:=⟨_,rfl⟩;have e62:ρ.b 62=B0:=by rw[hρ];rfl
  refine(plG.B6 ρ hf (by rw[hρ];rfl) ⟨by rw[hρ];show decide ((((l.length:Int).toNat:Nat):Int)+1≤1048576)=true;exact decide_eq_true (by omega),trivial⟩ trivial (nofun) ⟨⟨.vec 43 c0 (l.flatMap gW),by rw[e62];exact hv,rfl,by rw[hρ];rfl,fun inf vU=>?_,(nofun),by rw[hρ];rfl⟩,trivial⟩ ei).mono fun g1 w1 hd=>?_
  ·rw[LC inf vU,oA,hρ];show 2*l.length=((l.length:Nat):Int).toNat*2;omega
  obtain⟨I,B,bT,rfl,kp,F1,bl,_⟩:=hd;have own:∀x,lF ρ w [(62,.pre false 63 (v 8) [] [] [] 43 (v 57))] x->base≤x:=fun x hx=>by
   rcases hx with h|⟨y,hy,e⟩
   ·exact aA hb h
   ·obtain rfl:=ah.1 hy;have e:ρ.b 62=x:=e;omega
  have hB:(cu.vec 43 (I 101).toNat ((l++[e]).flatMap gW)).at Tryz.prog w1 (B 101):=by have:=bl.1.2;rw[hρ]at this;rw[List.flatMap_append];exact this
  have hn:((((l.length:Int).toNat:Nat):Int)+1).toNat=(l++[e]).length:=by rw[ak,List.length_singleton];omega
  refine⟨bT,bU (B 101) 0 (l++[e]).length (I 101).toNat,rfl,kp.mono own,.inr ⟨by simp,B 101,(I 101).toNat,rfl,own _ bl.1.1,hB⟩,?_⟩;rw[<-hn];rw[hρ]at F1;exact F1
theorem lT{A o i:Nat}{x:cH}(h:pQ w A (o+i*3) x)(hne:x.tree≠[]):∃At ot ct,w.cell? ⟨A,o+i*3,none⟩=some (.string x.name)∧w.cell? ⟨A,o+i*3+1,none⟩=some (bU At ot x.tree.length ct)∧w.cell? ⟨A,o+i*3+2,none⟩=some (iV x.bY)∧x.tree.length≤ct∧∀i n,x.tree[i]?=some n->jF w At (ot+i*4) n:=by
 obtain⟨ts,h1,h2,h3,h4⟩:=h.ex;rcases h4.ex with⟨rfl,h5⟩|⟨At,ot,ct,rfl,h5,h6⟩
 ·exact(hne h5).elim
 ·exact⟨At,ot,ct,h1,h2,h3,h5,h6⟩
theorem qk{x:cH}{i:Nat}{t:T}(h:m9 x i t):x.tree≠[]:=by rw[h.fl];cases t;simp[flat]
theorem mA{x:cH}{A o c:Nat}(hne:x.tree≠[])(cL:∀i n,x.tree[i]?=some n->jF w A (o+i*4) n):dS 36 #[fy x (bU A o x.tree.length c)] w fun v w'=>bA w w'∧v=cY (dF x):=by
 obtain⟨n,l,e⟩:∃n l,x.tree=n::l:=by
  cases e:x.tree with
  |nil=>exact(hne e).elim
  |cons n l=>exact⟨n,l,rfl⟩
 have h0:=cL 0 n (by rw[e];rfl);rw[Nat.zero_mul,Nat.add_zero]at h0;have er:dF x=n.op:=by unfold dF;rw[e];rfl
 rw[er];exact Ln (w:=w) (x:=x) (c:=c) h0 (by rw[e];simp)
theorem LF{F:gU}{z:Bool}{A o c X Y:Nat}{os:Value}(hz:z=true->F.lets=[])(cL:∀i x,F.lets[i]?=some x->pQ w0 A (o+i*3) x)(hg:∀i x,F.lets[i]?=some x->∃t,m9 x i t)(hlen:F.lets.length≤1000000)
 (hX:(cu.obj 25 [ew z A o F.lets.length c,os]).at Tryz.prog w0 X):
  ∀(k i:Nat) {w:World} {cs:List Frame} {fr:Frame},i+k=F.lets.length->bA w0 w->FA 19 59 X8 [] .normal [(2,bI X),(3,bI Y),(23,ew z A o F.lets.length c),(24,iV F.lets.length),(25,iV i)] fr->
  Goes (G fr cs) w fun g' w'=>((F.lets.drop i).any dM=true∧∃fr',g'=G fr' cs∧bA w0 w'∧cV 19 fr' w' (.tuple #[eS,iV 11]))∨((F.lets.drop i).any dM=false∧∃fr',g'=G fr' cs∧bA w0 w'∧FA 19 59 Oq [] .normal [(2,bI X),(3,bI Y),(10,eS),(39,ew z A o F.lets.length c),(40,iV F.lets.length),(41,iV 0)] fr')
 |0,i,w,cs,fr,hi,fw,hf=>by
  obtain⟨ρ,hρ⟩:∃ρ:Env,ρ=bL [(51,F.lets.length),(52,c),(53,o),(10,i)] [(64,X),(65,Y),(50,A)] []:=⟨_,rfl⟩;have ez:(cG z 50 53 51 52).ev ρ=ew z A o F.lets.length c:=by rw[hρ];cases z<;>rfl
  have en:(i64 (dL z 51)).ev ρ=iV F.lets.length:=by
   rw[hρ];cases z with
   |false=>rfl
   |true=>rw[hz rfl];rfl
  refine((plC z).go ρ hf (by
   show[some _,some _,some _,some _,some _]=[some _,some _,some ((cG z 50 53 51 52).ev ρ),some ((i64 (dL z 51)).ev ρ),some _];rw[ez,en,hρ];rfl) ⟨by
    rw[hρ];cases z with
    |false=>exact decide_eq_false (by show ¬((i:Int)<((F.lets.length:Nat):Int));omega)
    |true=>exact decide_eq_false (by show ¬((i:Int)<0);omega),trivial⟩ ⟨by
    rw[ez,hρ];exact fw.cell (bE hX (i:=0) rfl),trivial⟩).mono fun g1 w1 hd=>?_
  obtain⟨I,B,bT,rfl,f1,F1,_⟩:=hd;rw[aS (by omega)];refine .inr ⟨rfl,bT,rfl,fw.trans f1,?_⟩;rw[hρ]at F1;cases z with
  |false=>exact F1
  |true=>rw[hz rfl];exact F1
 |k+1,i,w,cs,fr,hi,fw,hf=>by
  have hlt:i<F.lets.length:=by omega
  obtain⟨x,hx⟩:∃x,F.lets[i]?=some x:=⟨_,af hlt⟩;cases z with
  |true=>rw[hz rfl]at hlt;simp only[aZ]at hlt;omega
  |false=>
  obtain⟨t,hgt⟩:=hg i x hx;have hne:=qk hgt;obtain⟨At,ot,ct,c0,c1,c2,RP,iD⟩:=lT ((cL i x hx).keep fw) hne;have eJ:F.lets.drop i=x::F.lets.drop (i+1):=by rw[aJ hlt];congr 1;exact au ((af hlt).symm.trans hx)
  rw[eJ,List.any_cons];obtain⟨ρ,hρ⟩:∃ρ:Env,ρ=Go.Proofs.YtmobbajggkjpgaaGreat.SX.jn [(51,F.lets.length),(52,c),(53,o),(10,i),(71,x.tree.length),(72,ct),(73,ot),(4,x.bY),(1,dF x)] [(64,X),(65,Y),(50,A),(70,At)] [] [(1,x.name)]:=⟨_,rfl⟩;refine(pl5.go ρ hf (by rw[hρ];rfl) (cg (i:=10) (n:=51) (I:=i) (N:=F.lets.length) (by rw[hρ];rfl) (by rw[hρ];rfl) hlt) ⟨by rw[hρ];exact c0,by rw[hρ];exact c1,by rw[hρ];exact c2,trivial⟩).trans fun g1 w1 hd=>?_;obtain⟨I,B,bT,rfl,f1,F1,bl,_⟩:=hd;rw[hρ]at F1 bl;have hL:(cu.obj 50 [.string x.name,bU At ot x.tree.length ct,iV x.bY]).at Tryz.prog w1 (B 100):=bl.1.2;obtain⟨V,eV⟩:∃V,B 100=V:=⟨_,rfl⟩;rw[eV]at hL;have fI:FA 19 59 (.inRegion (opsOf (q7 7474)) [1,2,3,4,5,6,7]::[.code (q7 7475),.inBlock 1,.code (q7 935),.inLoop (q7 116),.inBlock 0,.code (q7 15)]) [] .normal [(2,bI X),(3,bI Y),(9,bI V),(23,bU A o F.lets.length c),(24,iV F.lets.length),(25,iV i),(29,fy x (bU At ot x.tree.length ct))] bT:=by rw[<-eV];exact F1
  refine(pl6.go (bL [] [] [(29,fy x (bU At ot x.tree.length ct))]) (Q:=fun v w'=>v=cY (dF x)) fI rfl fun w' f2=>mA hne fun i n hi=>(iD i n hi).keep (f1.trans f2)).trans fun g2 w2 bX=>?_;obtain⟨cB,vv,rfl,f2,rfl,F2⟩:=bX;have f12:=f1.trans f2;obtain⟨σ,bZ⟩:∃σ:Env,σ=Go.Proofs.YtmobbajggkjpgaaGreat.SX.jn [(51,F.lets.length),(52,c),(53,o),(10,i),(71,x.tree.length),(72,ct),(73,ot),(4,x.bY),(1,dF x)] [(64,X),(65,Y),(66,V),(50,A),(70,At)] [] [(1,x.name)]:=⟨_,rfl⟩;have fin:∀{k:List Item} {w3:World} {cC:Frame},dM x=true->bA w0 w3->FA 19 59 (.code .ret::k) [] .normal [(4,eS),(5,iV 11)] cC->Goes (G cC cs) w3 fun g' w'=>((dM x||(F.lets.drop (i+1)).any dM)=true∧∃fr',g'=G fr' cs∧bA w0 w'∧cV 19 fr' w' (.tuple #[eS,iV 11]))∨((dM x||(F.lets.drop (i+1)).any dM)=false∧∃fr',g'=G fr' cs∧bA w0 w'∧FA 19 59 Oq [] .normal [(2,bI X),(3,bI Y),(10,eS),(39,bU A o F.lets.length c),(40,iV F.lets.length),(41,iV 0)] fr'):=fun{k w3 cC} hw f3 F3=>by refine(iN RO F3 rfl rfl).mono fun g6 w6 dj=>?_;obtain⟨dJ,rfl,rfl,hL⟩:=dj;exact .inl ⟨by rw[hw];rfl,dJ,rfl,f3,hL⟩
  by_cases Ou:dF x=17
  ·refine(pl7.go σ F2 (by rw[bZ];rfl) ⟨by rw[bZ];exact decide_eq_true Ou,trivial⟩ trivial).trans fun g3 w3 cn=>?_;obtain⟨I,B,cC,rfl,f3,F3,_⟩:=cn;exact fin (by unfold dM;rw[decide_eq_true Ou];rfl) (fw.trans (f12.trans f3)) F3
  refine(pl8.go σ F2 (by rw[bZ];rfl) ⟨by rw[bZ];exact decide_eq_false Ou,trivial⟩ ⟨by rw[bZ];exact f2.cell (bE hL (i:=0) rfl),by rw[bZ];exact f2.cell (bE hL (i:=1) rfl),by rw[bZ];exact f2.cell (bE hL (i:=2) rfl),trivial⟩).trans fun g3 w3 cn=>?_;obtain⟨I,B,cC,rfl,f3,F3,_⟩:=cn;rw[bZ]at F3;refine(pl9.go (bL [] [] [(33,fy x (bU At ot x.tree.length ct))]) (Q:=fun v w'=>v=cY (dF x)) F3 rfl fun w' f4=>mA hne fun i n hi=>(iD i n hi).keep (f12.trans (f3.trans f4))).trans fun g4 w4 c9=>?_;obtain⟨eg,vv,rfl,f4,rfl,F4⟩:=c9;by_cases LG:dF x=18
  ·refine(plA.go σ F4 (by rw[bZ];rfl) ⟨by rw[bZ];exact decide_eq_true LG,trivial⟩ trivial).trans fun g5 w5 d_=>?_;obtain⟨I,B,gh,rfl,f5,F5,_⟩:=d_;exact fin (by unfold dM;rw[decide_eq_true LG,Bool.or_true]) (fw.trans (f12.trans (f3.trans (f4.trans f5)))) F5
  ·refine(plB.go σ F4 (by rw[bZ];rfl) ⟨by rw[bZ];exact decide_eq_false LG,trivial⟩ trivial).trans fun g5 w5 d_=>?_;obtain⟨I,B,gh,rfl,f5,F5,_⟩:=d_;have RQ:dM x=false:=by unfold dM;rw[decide_eq_false Ou,decide_eq_false LG];rfl
   rw[RQ,Bool.false_or];refine LF (z:=false) (os:=os) (fun h=>by cases h) cL hg hlen hX k (i+1) (by omega) (fw.trans (f12.trans (f3.trans (f4.trans f5)))) ?_;rw[bZ]at F5;rw[<-inc (i:=i) (by omega)];exact F5
theorem Cp{e:Int×Int}{fn nt i:Nat}{ops:Array Oper}{lv:List (Nat×Value)}{l:List Nat}{k:List Item}{r d:Nat}(o79:di nt ops i [(r,.iface 97 (.bC r))] 127 [.bC r] d)(o82:di nt ops i [(r,.iface 100 (.bC r))] 128 [.bC r] d)(hf:FA fn nt (.inRegion ops (i::l)::k) [] .normal lv fr)(hr:fP r lv=some (ga e)):
  Goes (G fr cs) w fun g' w'=>∃fr',g'=G fr' cs∧bA w w'∧FA fn nt (.inRegion ops l::k) [] .normal (fL d (dh e) lv) fr':=by
 obtain⟨t,p,h1,h2,h3⟩:=Gr (e:=e);have ep:(bL [] [] [(r,p)]).v r=p:=by show uE undef r [(r,p)]=p;simp[uE,Go.Proofs.YtmobbajggkjpgaaGreat.SX.look]
 have ea:AV.evs (bL [] [] [(r,p)]) [.bC r]=[p]:=by show[(bL [] [] [(r,p)]).v r]=[p];rw[ep]
 rcases h2 with rfl|rfl
 ·refine(o79.go (bL [] [] [(r,p)]) (Q:=fun v w'=>v=dh e) hf (by
   show[fP r lv]=[some (Value.iface 97 ((bL [] [] [(r,p)]).v r))];rw[ep,hr,h1]) fun w' f=>?_).mono fun g' w' hd=>?_
  ·rw[ea];exact h3 w'
  ·obtain⟨fr',vv,h4,h5,rfl,h6⟩:=hd;exact⟨fr',h4,h5,h6⟩
 ·refine(o82.go (bL [] [] [(r,p)]) (Q:=fun v w'=>v=dh e) hf (by
   show[fP r lv]=[some (Value.iface 100 ((bL [] [] [(r,p)]).v r))];rw[ep,hr,h1]) fun w' f=>?_).mono fun g' w' hd=>?_
  ·rw[ea];exact h3 w'
  ·obtain⟨fr',vv,h4,h5,rfl,h6⟩:=hd;exact⟨fr',h4,h5,h6⟩
noncomputable def plR(L c o i tl ct ot bY:Int)(m:cU)(en c' o':Int)(X Y A At A':Nat)(nm:ByteArray):Env:=Go.Proofs.YtmobbajggkjpgaaGreat.SX.jn [(51,L),(52,c),(53,o),(10,i),(71,tl),(72,ct),(73,ot),(4,bY),(21,m.mul),(22,m.add),(23,m.cA),(24,m.panics),(81,en),(82,c'),(83,o')] [(64,X),(65,Y),(50,A),(70,At),(80,A')] [] [(1,nm)]
theorem LH{F:gU}{z:Bool}{A o c X Y:Nat}(hz:z=true->F.lets=[])(cL:∀i x,F.lets[i]?=some x->pQ w0 A (o+i*3) x)(hg:∀i x,F.lets[i]?=some x->∃t,m9 x i t)(hlen:F.lets.length≤1000000)(ji:∀x∈F.lets,x.tree.length≤999999)
 (hY:(cu.obj 27 [iV m.mul,iV m.add,iV m.cA,iV m.panics]).at Tryz.prog w0 Y):
  ∀(k i:Nat) {E:List (Int×Int)} {s:Value} {w:World} {cs:List Frame} {fr:Frame},i+k=F.lets.length->E.length=i->bA w0 w->kJ w w0.heap.size s E->FA 19 59 Oq [] .normal [(2,bI X),(3,bI Y),(10,s),(39,ew z A o F.lets.length c),(40,iV F.lets.length),(41,iV i)] fr->
  Goes (G fr cs) w fun g' w'=>∃fr' s',g'=G fr' cs∧bA w0 w'∧kJ w' w0.heap.size s' (kC m (F.lets.drop i) E)∧cV 19 fr' w' (.tuple #[s',iV 0])
 |0,i,E,s,w,cs,fr,hi,hE,fw,hs,hf=>by
  obtain⟨ρ,hρ⟩:∃ρ:Env,ρ=bL [(51,F.lets.length),(52,c),(53,o),(10,i)] [(64,X),(65,Y),(50,A)] [(10,s)]:=⟨_,rfl⟩;have ez:(cG z 50 53 51 52).ev ρ=ew z A o F.lets.length c:=by rw[hρ];cases z<;>rfl
  have en:(i64 (dL z 51)).ev ρ=iV F.lets.length:=by
   rw[hρ];cases z with
   |false=>rfl
   |true=>rw[hz rfl];rfl
  refine((plH z).go ρ hf (by
   show[some _,some _,some _,some _,some _,some _]=[some _,some _,some _,some ((cG z 50 53 51 52).ev ρ),some ((i64 (dL z 51)).ev ρ),some _];rw[ez,en,hρ];rfl) ⟨by
    rw[hρ];cases z with
    |false=>exact decide_eq_false (by show ¬((i:Int)<((F.lets.length:Nat):Int));omega)
    |true=>exact decide_eq_false (by show ¬((i:Int)<0);omega),trivial⟩ trivial).trans fun g1 w1 hd=>?_
  obtain⟨I,B,bT,rfl,f1,F1,_⟩:=hd;rw[hρ]at F1;refine(iN RO F1 rfl rfl).mono fun g6 w6 dj=>?_;obtain⟨dJ,rfl,rfl,hL⟩:=dj;rw[aS (by omega)];exact⟨dJ,s,rfl,fw.trans f1,hs.keep f1,hL⟩
 |k+1,i,E,s,w,cs,fr,hi,hE,fw,hs,hf=>by
  have hlt:i<F.lets.length:=by omega
  obtain⟨x,hx⟩:∃x,F.lets[i]?=some x:=⟨_,af hlt⟩;cases z with
  |true=>rw[hz rfl]at hlt;simp only[aZ]at hlt;omega
  |false=>
  obtain⟨t,hgt⟩:=hg i x hx;have hne:=qk hgt;obtain⟨At,ot,ct,c0,c1,c2,RP,iD⟩:=lT ((cL i x hx).keep fw) hne;have eJ:F.lets.drop i=x::F.lets.drop (i+1):=by rw[aJ hlt];congr 1;exact au ((af hlt).symm.trans hx)
  have Ok:=ji x (ay hx);obtain⟨y,A',o',c',es,hy,Dl,rH⟩:=hs.at.ex;obtain⟨ρ,hρ⟩:∃ρ:Env,ρ=plR F.lets.length c o i x.tree.length ct ot x.bY m E.length c' o' X Y A At A' x.name:=⟨_,rfl⟩;have ey:(cG y 80 83 81 82).ev ρ=s:=by rw[hρ,es];cases y<;>rfl
  have eyI:∀I B,(cG y 80 83 81 82).ev (cQ ρ I B)=s:=fun I B=>by rw[hρ,es];cases y<;>rfl
  refine((plD y).go ρ hf (by show[some _,some _,some _,some _,some _,some _]=[some _,some _,some ((cG y 80 83 81 82).ev ρ),some _,some _,some _];rw[ey,hρ];rfl) (cg (i:=10) (n:=51) (I:=i) (N:=F.lets.length) (by rw[hρ];rfl) (by rw[hρ];rfl) hlt) ⟨by rw[hρ];exact c0,by rw[hρ];exact c1,by rw[hρ];exact c2,by rw[hρ];exact fw.cell (bE hY (i:=0) rfl),by rw[hρ];exact fw.cell (bE hY (i:=1) rfl),by rw[hρ];exact fw.cell (bE hY (i:=2) rfl),by rw[hρ];exact fw.cell (bE hY (i:=3) rfl),trivial⟩).trans fun g1 w1 hd=>?_
  obtain⟨I,B,bT,rfl,f1,F1,bl,_⟩:=hd;obtain⟨V,eV⟩:∃V,B 101=V:=⟨_,rfl⟩;have hW:(cu.obj 69 [bU At ot x.tree.length ct,s,iV m.mul,iV m.add,iV m.cA,iV m.panics]).at Tryz.prog w1 V:=by
   have h1:(cu.obj 69 [bU At ot x.tree.length ct,(cG y 80 83 81 82).ev (cQ ρ I B),iV m.mul,iV m.add,iV m.cA,iV m.panics]).at Tryz.prog w1 (B 101):=by have:=bl.1.2;rw[hρ]at this⊢;exact this
   rw[eyI,eV]at h1;exact h1
  have fI:FA 19 59 (PlA [2,3,4,5,6]) [] .normal [(2,bI X),(3,bI Y),(10,s),(13,bI V),(39,bU A o F.lets.length c),(40,iV F.lets.length),(41,iV i),(51,s),(52,bI V)] bT:=by
   have h1:FA 19 59 (PlA [2,3,4,5,6]) [] .normal [(2,bI X),(3,bI Y),(10,(cG y 80 83 81 82).ev (cQ ρ I B)),(13,bI (B 101)),(39,bU A o F.lets.length c),(40,iV F.lets.length),(41,iV i),(51,(cG y 80 83 81 82).ev (cQ ρ I B)),(52,bI (B 101))] bT:=by rw[hρ]at F1⊢;exact F1
   rw[eyI,eV]at h1;exact h1
  have wk:mu w1 V x.tree At ot ct s m:=⟨bE hW (i:=0) rfl,bE hW (i:=1) rfl,bE hW (i:=2) rfl,bE hW (i:=3) rfl,bE hW (i:=4) rfl,bE hW (i:=5) rfl,fun i n hi=>(iD i n hi).keep f1⟩;refine(plE.go (bL [] [] [(52,bI V)]) (Q:=fun v w'=>v=ga (lS E m t)) fI rfl fun w' f2=>?_).trans fun g2 w2 bX=>?_
  ·exact sZ t (bY:=0) (rest:=[]) (wk.keep f2) (by omega) (hs.at.keep (f1.trans f2)) hgt.wf (by rw[hE];exact hgt.nd) (by rw[List.drop_zero,aQ];exact hgt.fl)
  obtain⟨cB,vv,rfl,f2,rfl,F2⟩:=bX;refine(Cp (e:=lS E m t) X5 X6 F2 rfl).trans fun g3 w3 cn=>?_;obtain⟨cC,rfl,f3,F3⟩:=cn;have Ay:=fw.trans (f1.trans (f2.trans f3));have oT:FA 19 59 (PlA [4,5,6]) [] .normal [(2,bI X),(3,bI Y),(10,s),(39,bU A o F.lets.length c),(40,iV F.lets.length),(41,iV i),(51,s),(54,dh (lS E m t))] cC:=F3.only rfl;refine(Ot (base:=w0.heap.size) Ay.size (hs.keep (f1.trans (f2.trans f3))) (by omega) oT).trans fun g4 w4 c9=>?_;obtain⟨eg,s',rfl,kp,hs',F4⟩:=c9;rw[eJ];have e1:kC m (x::F.lets.drop (i+1)) E=kC m (F.lets.drop (i+1)) (E++[lS E m t]):=by show kC m (F.lets.drop (i+1)) (E++[LB m E x])=_;unfold LB;rw[hgt.tr]
  rw[e1];rw[inc (by omega)]at F4;exact LH (z:=false) (X:=X) (fun h=>by cases h) cL hg hlen ji hY k (i+1) (by omega) (by rw[ak,hE];rfl) (cq Ay kp) hs' F4
theorem IA{x:Value}{F:gU}(h:oy w x F)(hlen:F.lets.length≤1000000)(ji:∀x∈F.lets,x.tree.length≤999999):dS 19 #[x,c_ m] w fun v w'=>bA w w'∧∃s,v=.tuple #[s,iV (oz F m).1]∧kJ w' w.heap.size s (oz F m).2:=by
 obtain⟨ls,os,rfl,hl,ho⟩:=h;obtain⟨z,A,o,c,hls,hz,oU,cL⟩:=hl.ex;refine cF fun cs=>?_;obtain⟨ρ,hρ⟩:∃ρ:Env,ρ=bL [(51,F.lets.length),(52,c),(53,o),(21,m.mul),(22,m.add),(23,m.cA),(24,m.panics)] [(50,A)] [(9,os)]:=⟨_,rfl⟩;have ez:∀I B,(cG z 50 53 51 52).ev (cQ ρ I B)=ls:=fun I B=>by rw[hρ,hls];cases z<;>rfl
 refine((pl1 z).go ρ (dV ac3 rfl (.agg #[ls,os]) (c_ m)) (by rw[hls,hρ];cases z<;>rfl) trivial trivial).trans fun g1 w1 hd=>?_;obtain⟨I,B,bT,rfl,f1,F1,bl,_⟩:=hd;obtain⟨X,eX⟩:∃X,B 100=X:=⟨_,rfl⟩;obtain⟨Y,eY⟩:∃Y,B 101=Y:=⟨_,rfl⟩;have hY:(cu.obj 27 [iV m.mul,iV m.add,iV m.cA,iV m.panics]).at Tryz.prog w1 Y:=by have:=bl.1.2;rw[hρ]at this;rw[<-eY];exact this
 have hX:(cu.obj 25 [ls,os]).at Tryz.prog w1 X:=by
  have h1:(cu.obj 25 [(cG z 50 53 51 52).ev (cQ ρ I B),os]).at Tryz.prog w1 (B 100):=by have:=bl.2.1.2;rw[hρ]at this⊢;exact this
  rw[ez,eX]at h1;exact h1
 have fI:FA 19 59 (.inRegion (opsOf (q7 12)) [1,2,3,4,5,6]::[.code (q7 13),.code (q7 7)]) [] .normal [(2,bI X),(3,bI Y),(15,.agg #[ls,os])] bT:=by
  have h1:FA 19 59 (.inRegion (opsOf (q7 12)) [1,2,3,4,5,6]::[.code (q7 13),.code (q7 7)]) [] .normal [(2,bI (B 100)),(3,bI (B 101)),(15,.agg #[(cG z 50 53 51 52).ev (cQ ρ I B),os])] bT:=by rw[hρ]at F1⊢;exact F1
  rw[ez,eX,eY]at h1;exact h1
 refine(pl2.go (bL [] [] [(15,.agg #[ls,os])]) (Q:=fun v w'=>v=.tuple #[iV (ef F).1,iV (ef F).2]) fI rfl fun w' f2=>lP ⟨ls,os,rfl,hl.keep (f1.trans f2),ho.keep (f1.trans f2)⟩ hlen ji).trans fun g2 w2 bX=>?_;obtain⟨cB,vv,rfl,f2,rfl,F2⟩:=bX;have f12:=f1.trans f2;obtain⟨σ,bZ⟩:∃σ:Env,σ=bL [(51,F.lets.length),(52,c),(53,o),(5,(ef F).1),(6,(ef F).2)] [(50,A),(64,X),(65,Y)] [(9,os)]:=⟨_,rfl⟩;by_cases h0:(ef F).1=0
 ·have hg:=nV h0;have es:∀I B,(cG z 50 53 51 52).ev (cQ σ I B)=ew z A o F.lets.length c:=fun I B=>by rw[bZ];cases z<;>rfl
  have Dn:(cu.obj 25 [ew z A o F.lets.length c,os]).at Tryz.prog w2 X:=by rw[<-hls];exact bM hX f2
  refine((pl4 z).go σ F2 (by rw[bZ];rfl) ⟨by rw[bZ];show(!decide ((ef F).1=0))=false;rw[decide_eq_true h0];rfl,trivial⟩ ⟨by have:=bE Dn (i:=0) rfl;rw[bZ];cases z<;>exact this,trivial⟩).trans fun g3 w3 cn=>?_
  obtain⟨I,B',cC,rfl,f3,F3,_⟩:=cn;have oT:FA 19 59 X8 [] .normal [(2,bI X),(3,bI Y),(23,ew z A o F.lets.length c),(24,iV F.lets.length),(25,iV (0:Nat))] cC:=by
   rw[bZ]at F3;cases z with
   |false=>exact F3
   |true=>rw[hz rfl];exact F3
  have f13:=f12.trans f3;refine(LF (w0:=w3) hz (fun i x hi=>(cL i x hi).keep f13) hg hlen (bM Dn f3) F.lets.length 0 (by omega) (bA.refl _) oT).trans fun g4 w4 c9=>?_;rcases c9 with⟨ha,eg,rfl,f4,hL⟩|⟨ha,eg,rfl,f4,F4⟩
  ·refine .here ⟨eg,_,rfl,hL,f13.trans f4,eS,?_,?_⟩
   ·unfold oz;rw[if_neg (by rw[h0];decide),if_pos (by simpa using ha)]
   ·unfold oz;rw[if_neg (by rw[h0];decide),if_pos (by simpa using ha)];exact .inl ⟨rfl,rfl⟩
  ·have f14:=f13.trans f4;refine(LH (w0:=w4) hz (fun i x hi=>(cL i x hi).keep f14) hg hlen ji (bM hY (f2.trans (f3.trans f4))) F.lets.length 0 (E:=[]) (s:=eS) (by omega) rfl (bA.refl _) (.inl ⟨rfl,rfl⟩) F4).mono fun g5 w5 d_=>?_;obtain⟨gh,s',rfl,f5,hs',hL⟩:=d_;have e:oz F m=(0,kC m F.lets []):=by
    unfold oz;rw[if_neg (by rw[h0];decide),if_neg (by simpa using ha)]
   refine⟨gh,_,rfl,hL,f14.trans f5,s',by rw[e],?_⟩;rw[e];rcases hs' with h|⟨h1,B0,c0,h2,h3,h4⟩
   ·exact .inl h
   ·exact .inr ⟨h1,B0,c0,h2,aA f14.size h3,h4⟩
 ·refine(pl3.go σ F2 (by rw[bZ];rfl) ⟨by rw[bZ];show(!decide ((ef F).1=0))=true;rw[decide_eq_false h0];rfl,trivial⟩ trivial).trans fun g3 w3 cn=>?_;obtain⟨I,B',cC,rfl,f3,F3,_⟩:=cn;rw[bZ]at F3;refine(iN RO F3 rfl rfl).mono fun g6 w6 dj=>?_;obtain⟨dJ,rfl,rfl,hL⟩:=dj;have e:oz F m=((ef F).1,[]):=by
   unfold oz;rw[if_pos h0]
  refine⟨dJ,_,rfl,hL,f12.trans f3,eS,by rw[e];rfl,?_⟩;rw[e];exact .inl ⟨rfl,rfl⟩
end
noncomputable abbrev Z:AV:=cJ
noncomputable def zs(a n:Nat):List (Nat×AV):=(List.range n).map fun i=>(i+a,Z)
abbrev Qa:Nat:=713053462628379038341895553118
abbrev Qb:Nat:=792281625142643375935439503453
abbrev ftO:Nat:=1029966112685436388716071354458
theorem Pc.full{fn nt n:Nat}{todo todo':List Item}{lA:List (Nat×AV)}{bs:List (BE×Bool)}{mem:List (AA×AV)}{pre post:List (Nat×bO)}{ks live:List Nat}{vals:List AV}
 (hT:∀st,dz nt st lA=dz nt (fun _=>.nilIface) lA)(run:N6 (Rz bs mem n ks (cfg (VG fn nt todo lA (fun _=>.nilIface)) [] pre)) live noL=some (⟨fn,nt,todo',[],.run,.normal,[],post,vals⟩,[]))(low:rC 100 (cfg (VG fn nt todo lA (fun _=>.nilIface)) [] pre)=true)(N9:(OO bs mem).low 100=true)(nd:(post.map (·.1)).Nodup):Pc fn nt todo lA bs mem pre n ks live todo' vals post:=
 ⟨fun st=>by unfold VG;rw[hT st];exact run,fun st=>by unfold VG;rw[hT st];exact low,N9,nd⟩
theorem Ov{f nt:Nat}{t:TT}{body:Code}{live:List Nat}{vals:List AV}(h:bP Tryz.prog f [.bC 0,.bC 1,.bC 2,.bC 3] .normal=.ok ⟨f,nt,t,[.code body],[],.run,.normal⟩)(hs:kA (⟨f,nt,t,[.code body],[],.run,.normal⟩:bR) live=⟨f,nt,[.code body],[],.run,.normal,[],[],vals⟩)(x y z u:Value):
  FA f nt [.code body] [] .normal (live.zip (AV.evs (bL [] [] [(0,x),(1,y),(2,z),(3,u)]) vals)) (Frame.enter Tryz.prog f #[x,y,z,u] .normal):=by
 let ρ:Env:=bL [] [] [(0,x),(1,y),(2,z),(3,u)];exact Dk.of (live:=live) (vals:=vals) (dA:=[]) (gS (U:=fun _=>True) h (.inl rfl) ⟨trivial,trivial,trivial,trivial,trivial⟩ (ρ:=ρ)).1 hs (.inl rfl)
noncomputable def X9(l:Nat):Code:=pc (bD Tryz.f27) (pd l)
theorem X_:bP Tryz.prog 27 [.bC 0,.bC 1] .normal=.ok ⟨27,10,c8 27 [.bC 0,.bC 1],[.code (bD Tryz.f27)],[],.run,.normal⟩:=by kernel_rfl
theorem Ya:dP 27 10 4:=fun st=>by kernel_rfl
noncomputable def q35(l:Nat):Code:=pc (bD Tryz.f45) (pd l)
theorem Yb:bP Tryz.prog 45 [.bC 0,.bC 1] .normal=.ok ⟨45,9,c8 45 [.bC 0,.bC 1],[.code (bD Tryz.f45)],[],.run,.normal⟩:=by kernel_rfl
theorem Yc:dP 45 9 4:=fun st=>by kernel_rfl
noncomputable def VM(l:Nat):Code:=pc (bD Tryz.f69) (pd l)
theorem Yd:bP Tryz.prog 69 [.bC 0,.bC 1] .normal=.ok ⟨69,19,c8 69 [.bC 0,.bC 1],[.code (bD Tryz.f69)],[],.run,.normal⟩:=by kernel_rfl
theorem LI:dP 69 19 4:=fun st=>by kernel_rfl
theorem al1:Pc 27 10 [.code (bD Tryz.f27)] [(0,.bC 0),(1,i64 (v 1))] [] [] [] 8 [] [5,6] [.inRegion (opsOf (X9 6)) [2,3,4,5],.code .ret] [.bC 0,i64 (v 1)] []:={}
theorem al2:jO 10 (opsOf (X9 6)) 2 [] (.slice 28 (.tmp 5) none (some (.tmp 6)) none) 28 (some 7):={}
theorem al3:di 10 (opsOf (X9 6)) 3 [(7,.bC 7)] 45 [.bC 7,.func (.func 46) [] []] 8:={}
theorem Ow:Pc 27 10 [.inRegion (opsOf (X9 6)) [4,5],.code .ret] [(8,TB)] [] [] [] 3 [] [4] [.code .ret] [FB] []:={}
theorem LJ:Pc 27 10 [.inRegion (opsOf (X9 6)) [4,5],.code .ret] [(8,FB)] [] [] [] 3 [] [4] [.code .ret] [TB] []:={}
theorem al5:Pc 45 9 [.code (bD Tryz.f45)] [(0,.bC 0),(1,.func (.func 46) [] [])] [] [] [] 8 [] [5,6] [.inRegion (opsOf (q35 6)) [2,3,4],.code .ret] [.bC 0,.func (.func 46) [] []] []:={}
theorem al6:di 9 (opsOf (q35 6)) 2 [(5,.bC 5),(6,.func (.func 46) [] [])] 69 [.bC 5,.func (.func 46) [] []] 7:={}
theorem Ox:Pc 45 9 [.inRegion (opsOf (q35 6)) [3,4],.code .ret] [(7,i64 (v 1))] [((.cmp .geq (v 1) (.lit 0)),true)] [] [] 3 [] [4] [.code .ret] [TB] []:={}
theorem LK:Pc 45 9 [.inRegion (opsOf (q35 6)) [3,4],.code .ret] [(7,i64 (v 1))] [((.cmp .geq (v 1) (.lit 0)),false)] [] [] 3 [] [4] [.code .ret] [FB] []:={}
noncomputable abbrev xu:List Item:=[.code (VM 52),.inLoop (VM 52),.inBlock 0,.code (VM 7)]
theorem al8(z:Bool):Pc 69 19 [.code (bD Tryz.f69)] [(0,cG z 80 83 81 82),(1,.func (.func 46) [] [])] [] [] [] 13 [] [0,1,7,8] xu [cG z 80 83 81 82,.func (.func 46) [] [],i64 (dL z 81),i64 (.lit 0)] []:=by cases z<;>exact{}
theorem al9(z:Bool):Pc 69 19 xu [(0,cG z 80 83 81 82),(1,.func (.func 46) [] []),(7,i64 (dL z 81)),(8,i64 (v 10))] [((.cmp .lss (v 10) (dL z 81)),false)] [] [] 11 [] [4] [.code .ret] [i64 (.lit (-1))] []:=by cases z<;>exact{}
noncomputable abbrev Ye:List Item:=[.code .ret,.inBlock 1,.code (VM 423),.inLoop (VM 52),.inBlock 0,.code (VM 7)]
noncomputable abbrev LL:List (AA×AV):=[(eB 80 83 10 2,i8 (v 11)),(eA 80 83 10 2 1,i64 (v 12))]
theorem alA:Pc 69 19 xu [(0,sA 80 83 81 82),(1,.func (.func 46) [] []),(7,i64 (.tn (v 81))),(8,i64 (v 10))] (fN 10 81++[((.cmp .lss (v 11) (.lit 1)),true)]) LL [] 48 [] [4] Ye [i64 (v 10)] []:={}
abbrev Yf:List (BE×Bool):=[((.cmp .lss (v 11) (.lit 1)),false),((.cmp .gtr (v 11) (.lit 4)),true)]
theorem alB:Pc 69 19 xu [(0,sA 80 83 81 82),(1,.func (.func 46) [] []),(7,i64 (.tn (v 81))),(8,i64 (v 10))] (fN 10 81++Yf) LL [] 48 [] [4] Ye [i64 (v 10)] []:={}
abbrev Yg:List (BE×Bool):=[((.cmp .lss (v 11) (.lit 1)),false),((.cmp .gtr (v 11) (.lit 4)),false)]
theorem alC:Pc 69 19 xu [(0,sA 80 83 81 82),(1,.func (.func 46) [] []),(7,i64 (.tn (v 81))),(8,i64 (v 10))] (fN 10 81++Yg) LL [] 50 [] [0,1,7,8] xu [sA 80 83 81 82,.func (.func 46) [] [],i64 (.tn (v 81)),i64 (.op .add .i64 (v 10) (.lit 1))] []:={}
noncomputable def rP(l:Nat):Code:=pc (bD Tryz.f28) (pd l)
theorem Yh:bP Tryz.prog 28 [.bC 0,.bC 1,.bC 2,.bC 3] .normal=.ok ⟨28,107,c8 28 [.bC 0,.bC 1,.bC 2,.bC 3],[.code (bD Tryz.f28)],[],.run,.normal⟩:=by kernel_rfl
theorem Qc:dP 28 107 8:=fun st=>by kernel_rfl
noncomputable abbrev RR:List (AA×AV):=[(eB 50 53 10 3,ss 1),(eA 50 53 10 3 1,sA 70 73 71 72),(eA 50 53 10 3 2,i64 (v 4)),(eB 80 83 10 2,i8 (v 11)),(eA 80 83 10 2 1,i64 (v 12))]
noncomputable abbrev Qd:List Item:=[.inRegion (opsOf (rP 124)) [1],.code (rP 125),.code (rP 63)]
theorem ft1:Pc 28 107 [.code (bD Tryz.f28)] ([(0,.agg [sA 50 53 51 52,.bC 9]),(1,i64 (v 10)),(2,.agg [i64 (v 21),i64 (v 22),i64 (v 23),i64 (v 24)]),(3,sA 80 83 81 82)]++zs 4 103) [((.cmp .lss (v 10) (.tn (v 51))),true),((.cmp .leq (.lit 0) (v 10)),true),((.cmp .lss (v 10) (.lit 0)),false),((.cmp .geq (v 10) (.tn (v 51))),false),((.cmp .lss (v 10) (.tn (v 81))),true),((.cmp .leq (.lit 0) (v 10)),true),((.cmp .lss (v 10) (.lit 0)),false),((.cmp .geq (v 10) (.tn (v 81))),false),((.cmp .eql (v 11) (.lit 4)),false)] RR [] 29 [Qb,Qa,102,101,100] [4,6,7,9,10,64] Qd [bz 100,bz 101,bz 102,bz Qa,bz Qb,.agg [ss 1,sA 70 73 71 72,i64 (v 4)]] [(Qb,.cells [i8 (v 11),i64 (v 12)] 43),(Qa,.cells [ss 1,sA 70 73 71 72,i64 (v 4)] 50),(102,.cells [sA 80 83 81 82] 28),(101,.cells [i64 (v 21),i64 (v 22),i64 (v 23),i64 (v 24)] 27),(100,.cells [sA 50 53 51 52,.bC 9] 25)]:=Pc.full (fun st=>by kernel_rfl) (by kernel_rfl) (by kernel_rfl) (by kernel_rfl) (of_decide_eq_true (by kernel_rfl))
theorem ft2:di 107 (opsOf (rP 124)) 1 [(64,.bC 64)] 36 [.bC 64] 65:={}
theorem ft3:Pc 28 107 [.code (bD Tryz.f28)] ([(0,.agg [sA 50 53 51 52,.bC 9]),(1,i64 (v 10)),(2,.agg [i64 (v 21),i64 (v 22),i64 (v 23),i64 (v 24)]),(3,sA 80 83 81 82)]++zs 4 103) [((.cmp .lss (v 10) (.tn (v 51))),true),((.cmp .leq (.lit 0) (v 10)),true),((.cmp .lss (v 10) (.lit 0)),false),((.cmp .geq (v 10) (.tn (v 51))),false),((.cmp .lss (v 10) (.tn (v 81))),true),((.cmp .leq (.lit 0) (v 10)),true),((.cmp .lss (v 10) (.lit 0)),false),((.cmp .geq (v 10) (.tn (v 81))),false),((.cmp .eql (v 11) (.lit 4)),true),((.cmp .eql (v 12) (v 10)),false)] RR [] 29 [Qb,Qa,102,101,100] [4,6,7,9,10,64] Qd [bz 100,bz 101,bz 102,bz Qa,bz Qb,.agg [ss 1,sA 70 73 71 72,i64 (v 4)]] [(Qb,.cells [i8 (v 11),i64 (v 12)] 43),(Qa,.cells [ss 1,sA 70 73 71 72,i64 (v 4)] 50),(102,.cells [sA 80 83 81 82] 28),(101,.cells [i64 (v 21),i64 (v 22),i64 (v 23),i64 (v 24)] 27),(100,.cells [sA 50 53 51 52,.bC 9] 25)]:=Pc.full (fun st=>by kernel_rfl) (by kernel_rfl) (by kernel_rfl) (by kernel_rfl) (of_decide_eq_true (by kernel_rfl))
noncomputable abbrev LM:List Item:=[.code (rP 3924),.inLoop (rP 3924),.inBlock 0,.code (rP 491),.code (rP 31)]
theorem ft4:Pc 28 107 [.code (bD Tryz.f28)] ([(0,.agg [sA 50 53 51 52,.bC 9]),(1,i64 (v 10)),(2,.agg [i64 (v 21),i64 (v 22),i64 (v 23),i64 (v 24)]),(3,sA 80 83 81 82)]++zs 4 103) [((.cmp .lss (v 10) (.tn (v 51))),true),((.cmp .leq (.lit 0) (v 10)),true),((.cmp .lss (v 10) (.lit 0)),false),((.cmp .geq (v 10) (.tn (v 51))),false),((.cmp .lss (v 10) (.tn (v 81))),true),((.cmp .leq (.lit 0) (v 10)),true),((.cmp .lss (v 10) (.lit 0)),false),((.cmp .geq (v 10) (.tn (v 81))),false),((.cmp .eql (v 11) (.lit 4)),true),((.cmp .eql (v 12) (v 10)),true)] RR [] 38 [] [1,4,7,11,12,32,33,34] LM [i64 (v 10),bz 100,bz 102,bz ftO,i64 (.lit 0),sA 50 53 51 52,i64 (.tn (v 51)),i64 (.lit 0)] []:=Pc.full (fun st=>by kernel_rfl) (by kernel_rfl) (by kernel_rfl) (by kernel_rfl) (of_decide_eq_true (by kernel_rfl))
theorem ft5:Pc 28 107 LM ([(1,i64 (v 10)),(4,bz 64),(7,bz 65),(11,bz 66),(12,i64 (.lit 0)),(32,sA 50 53 51 52),(33,i64 (.tn (v 51))),(34,i64 (v 15))]) (fN 15 51++[((.cmp .lss (.lit 0) (.tn (v 71))),true),((.cmp .eql (v 1) (.lit 18)),false)]) [(eB 50 53 15 3,ss 1),(eA 50 53 15 3 1,sA 70 73 71 72),(eA 50 53 15 3 2,i64 (v 4)),(⟨(.dyn 70),(v 73)⟩,i8 (v 1))] [] 28 [] [1,4,7,11,12,32,33,34] LM [i64 (v 10),bz 64,bz 65,bz 66,i64 (.lit 0),sA 50 53 51 52,i64 (.tn (v 51)),i64 (.op .add .i64 (v 15) (.lit 1))] []:={}
abbrev LN:List (BE×Bool):=[((.cmp .lss (v 15) (.tn (v 51))),false)]
theorem ft6:Pc 28 107 LM ([(1,i64 (v 10)),(4,bz 64),(7,bz 65),(11,bz 66),(12,i64 (.lit 0)),(32,sA 50 53 51 52),(33,i64 (.tn (v 51))),(34,i64 (v 15))]) LN [] [] 13 [] [8] [.code .ret,.code (rP 31)] [FB] []:={}
theorem ft7:Pc 28 107 [.inRegion (opsOf (rP 124)) [],.code (rP 125),.code (rP 63)] ([(4,bz 64),(6,bz 65),(7,bz 66),(9,bz 67),(10,bz 68),(65,i8 (v 1))]) [((.cmp .eql (v 1) (.lit 17)),false),((.cmp .eql (v 1) (.lit 18)),false)] [(eD 67 0,ss 1),(eD 67 1,sA 70 73 71 72),(eD 67 2,i64 (v 4)),(eD 66 0,sA 80 83 81 82),(eD 65 0,i64 (v 21)),(eD 65 1,i64 (v 22)),(eD 65 2,i64 (v 23)),(eD 65 3,i64 (v 24))] [] 27 [100] [10,16] [.code (rP 254),.code .ret] [bz 68,bz 100] [(100,.cells [sA 70 73 71 72,sA 80 83 81 82,i64 (v 21),i64 (v 22),i64 (v 23),i64 (v 24)] 69)]:={}
theorem ac7:dD 107 (opsOf (rP 254)) 0 [] [] [(16,.bC 16)] (.bC 16) 102:={}
theorem ac8:dD 107 (opsOf (rP 254)) 3 [] [(eD 68 0,i8 (v 11)),(eD 68 1,i64 (v 12))] [(10,bz 68)] (.agg [i8 (v 11),i64 (v 12)]) 105:={}
theorem Yi:dD 107 (opsOf (rP 254)) 4 [((.cmp .eql (v 13) (v 11)),false)] [] [(104,.agg [i8 (v 13),i64 (v 14)]),(105,.agg [i8 (v 11),i64 (v 12)])] (FB) 106:={}
theorem Yj:dD 107 (opsOf (rP 254)) 4 [((.cmp .eql (v 13) (v 11)),true),((.cmp .eql (v 14) (v 12)),false)] [] [(104,.agg [i8 (v 13),i64 (v 14)]),(105,.agg [i8 (v 11),i64 (v 12)])] (FB) 106:={}
theorem Yk:dD 107 (opsOf (rP 254)) 4 [((.cmp .eql (v 13) (v 11)),true),((.cmp .eql (v 14) (v 12)),true)] [] [(104,.agg [i8 (v 13),i64 (v 14)]),(105,.agg [i8 (v 11),i64 (v 12)])] (TB) 106:={}
theorem ac9:dD 107 (opsOf (rP 254)) 5 [] [] [(106,.bC 7)] (.bC 7) 8:={}
theorem ft8:di 107 (opsOf (rP 254)) 1 [(102,.bC 102)] 37 [.bC 102,i64 (.lit 0)] 103:={}
theorem Yl:Pc 28 107 [.inRegion (opsOf (rP 254)) [],.code .ret] ([(8,.bC 8)]) [] [] [] 1 [] [8] [.code .ret] [.bC 8] []:={}
theorem ac_:di 107 (opsOf (rP 254)) 2 [(103,.iface 97 (.bC 103))] 127 [.bC 103] 104:={}
theorem ada:di 107 (opsOf (rP 254)) 2 [(103,.iface 100 (.bC 103))] 128 [.bC 103] 104:={}
noncomputable def VN:Value:=(AV.func (.func 46) [] []).ev (bL [] [] [])
def jH(e:Int×Int):Bool:=decide (e.1<1)||decide (e.1>4)
theorem adb:under? Tryz.prog 28=.ok (.slice 43):=by kernel_rfl
theorem ade:sizeOf? Tryz.prog 43=.ok 2:=by kernel_rfl
theorem Oy{t elem size:Nat}(hU:under? Tryz.prog t=.ok (.slice elem))(hS:sizeOf? Tryz.prog elem=.ok size){off n c k:Nat}(h:k≤n)(hn:n≤c):sliceOp? Tryz.prog t (.slice (some ⟨.dyn 50,.lit (Int.ofNat off)⟩) (.lit (Int.ofNat n)) (.lit (Int.ofNat c))) none (some (.int .i64 (.lit (Int.ofNat k)))) none=.ok (.slice (some ⟨.dyn 50,.lit (Int.ofNat off)⟩) (.lit (Int.ofNat k)) (.lit (Int.ofNat c))):=by unfold sliceOp?;rw[hU];simp only[bind,Except.bind,litNat?,bounds?,bound?,high?,hS,pure,Except.pure];have:k≤c:=aA h hn;simp[h,hn,this,AA.add,yd]
theorem take_nil{t elem size:Nat}(hU:under? Tryz.prog t=.ok (.slice elem))(hS:sizeOf? Tryz.prog elem=.ok size):sliceOp? Tryz.prog t (.slice none (.lit 0) (.lit 0)) none (some (.int .i64 (.lit 0))) none=.ok (.slice none (.lit 0) (.lit 0)):=by unfold sliceOp?;rw[hU];simp[bind,Except.bind,litNat?,bounds?,bound?,high?,hS,pure,Except.pure]
section
variable {w w0:World}{cs:List Frame}{fr:Frame}
theorem ql{E:Value->World->Prop}{t elem size:Nat}(hU:under? Tryz.prog t=.ok (.slice elem))(hS:sizeOf? Tryz.prog elem=.ok size){z:Bool}{A off n c k:Nat}(h:k≤n)(hz:z=true->n=0)(hn:z=false->n≤c){Q:Value->World->Prop}(hq:Q (ew z A off k c) w):
  wq Tryz.prog (fun _=>True) E (Instr.sliceAt t (ew z A off n c) none (some (iV k)) none) Q w:=by
 let K:Ctx:=⟨Tryz.prog,{},fun _=>True,fun _=>True,True,fun _ _=>False⟩;let ρ:Env:=bL [] [(50,A)] [];cases z with
 |false=>exact kr (K:=K) (ρ:=ρ) (w:=w) (Oy (off:=off) (k:=k) hU hS h (hn rfl)) (Q:=Q) hq
 |true=>
  obtain rfl:k=0:=by have:=hz rfl;omega
  exact kr (K:=K) (ρ:=ρ) (w:=w) (take_nil hU hS) (Q:=Q) hq
noncomputable abbrev AlH:List Item:=xu
theorem GA{z:Bool}{A o c:Nat}{E:List (Int×Int)}(hz:z=true->E=[])(cL:∀i e,E[i]?=some e->w0.cell? ⟨A,o+i*2,none⟩=some (cY e.1)∧w0.cell? ⟨A,o+i*2+1,none⟩=some (iV e.2))(hlen:E.length≤4294967000):
  ∀(m i:Nat) {w:World} {cs:List Frame} {fr:Frame},i+m=E.length->bA w0 w->FA 69 19 AlH [] .normal [(0,ew z A o E.length c),(1,VN),(7,iV E.length),(8,iV i)] fr->
  Goes (G fr cs) w fun g' w'=>∃fr' j,g'=G fr' cs∧bA w0 w'∧cV 69 fr' w' (iV j)∧decide (j≥0)=(E.drop i).any jH
 |0,i,w,cs,fr,hi,fw,hf=>by
  obtain⟨ρ,hρ⟩:∃ρ:Env,ρ=bL [(81,E.length),(82,c),(83,o),(10,i)] [(80,A)] []:=⟨_,rfl⟩;have ez:(cG z 80 83 81 82).ev ρ=ew z A o E.length c:=by rw[hρ];cases z<;>rfl
  have en:(i64 (dL z 81)).ev ρ=iV E.length:=by
   rw[hρ];cases z with
   |false=>rfl
   |true=>rw[hz rfl];rfl
  refine((al9 z).go ρ hf (by
   show[some _,some _,some _,some _]=[some ((cG z 80 83 81 82).ev ρ),some _,some ((i64 (dL z 81)).ev ρ),some _];rw[ez,en,hρ];rfl) ⟨by
    rw[hρ];cases z with
    |false=>exact decide_eq_false (by show ¬((i:Int)<((E.length:Nat):Int));omega)
    |true=>exact decide_eq_false (by show ¬((i:Int)<0);omega),trivial⟩ trivial).trans fun g1 w1 hd=>?_
  obtain⟨I,B,bT,rfl,f1,F1,_⟩:=hd;refine(leave1 LI F1 rfl).mono fun g6 w6 dj=>?_;obtain⟨dJ,rfl,rfl,hL⟩:=dj;rw[aS (by omega)];exact⟨dJ,-1,rfl,fw.trans f1,hL,rfl⟩
 |m+1,i,w,cs,fr,hi,fw,hf=>by
  have hlt:i<E.length:=by omega
  obtain⟨e,he⟩:∃e,E[i]?=some e:=⟨_,af hlt⟩;cases z with
  |true=>rw[hz rfl]at hlt;simp only[aZ]at hlt;omega
  |false=>
  obtain⟨c0,c1⟩:=cL i e he;have eJ:E.drop i=e::E.drop (i+1):=by rw[aJ hlt];congr 1;exact au ((af hlt).symm.trans he)
  rw[eJ,List.any_cons];obtain⟨ρ,hρ⟩:∃ρ:Env,ρ=bL [(81,E.length),(82,c),(83,o),(10,i),(11,e.1),(12,e.2)] [(80,A)] []:=⟨_,rfl⟩;have mm:w.cell? ⟨A,o+i*2,none⟩=some (cY e.1)∧w.cell? ⟨A,o+i*2+1,none⟩=some (iV e.2):=⟨fw.cell c0,fw.cell c1⟩;have bb:=cg (ρ:=ρ) (i:=10) (n:=81) (I:=i) (N:=E.length) (by rw[hρ];rfl) (by rw[hρ];rfl) hlt;by_cases h1:e.1<1
  ·refine(alA.go ρ hf (by rw[hρ];rfl) (cr.app bb ⟨by rw[hρ];exact decide_eq_true h1,trivial⟩) ⟨by rw[hρ];exact mm.1,by rw[hρ];exact mm.2,trivial⟩).trans fun g1 w1 hd=>?_;obtain⟨I,B,bT,rfl,f1,F1,_⟩:=hd;rw[hρ]at F1;refine(leave1 LI F1 rfl).mono fun g6 w6 dj=>?_;obtain⟨dJ,rfl,rfl,hL⟩:=dj;refine⟨dJ,(i:Int),rfl,fw.trans f1,hL,?_⟩;unfold jH;rw[decide_eq_true h1,decide_eq_true (by omega)];rfl
  ·by_cases h4:e.1>4
   ·refine(alB.go ρ hf (by rw[hρ];rfl) (cr.app bb ⟨by rw[hρ];exact decide_eq_false h1,by rw[hρ];exact decide_eq_true h4,trivial⟩) ⟨by rw[hρ];exact mm.1,by rw[hρ];exact mm.2,trivial⟩).trans fun g1 w1 hd=>?_;obtain⟨I,B,bT,rfl,f1,F1,_⟩:=hd;rw[hρ]at F1;refine(leave1 LI F1 rfl).mono fun g6 w6 dj=>?_;obtain⟨dJ,rfl,rfl,hL⟩:=dj;refine⟨dJ,(i:Int),rfl,fw.trans f1,hL,?_⟩;unfold jH;rw[decide_eq_true h4,decide_eq_true (by omega),Bool.or_true];rfl
   ·refine(alC.go ρ hf (by rw[hρ];rfl) (cr.app bb ⟨by rw[hρ];exact decide_eq_false h1,by rw[hρ];exact decide_eq_false h4,trivial⟩) ⟨by rw[hρ];exact mm.1,by rw[hρ];exact mm.2,trivial⟩).trans fun g1 w1 hd=>?_;obtain⟨I,B,bT,rfl,f1,F1,_⟩:=hd;rw[hρ]at F1;have hb:jH e=false:=by unfold jH;rw[decide_eq_false h1,decide_eq_false h4];rfl
    rw[hb,Bool.false_or];refine GA (z:=false) (c:=c) (fun h=>by cases h) cL hlen m (i+1) (by omega) (fw.trans f1) ?_;rw[<-inc (i:=i) (by omega)];exact F1
theorem IB{s:Value}{E:List (Int×Int)}(h:dY w s E)(hlen:E.length≤4294967000):dS 69 #[s,VN] w fun v w'=>bA w w'∧∃j,v=iV j∧decide (j≥0)=E.any jH:=by
 obtain⟨z,A,o,c,rfl,hz,oU,cL⟩:=h.ex;refine cF fun cs=>?_;obtain⟨ρ,hρ⟩:∃ρ:Env,ρ=bL [(81,E.length),(82,c),(83,o)] [(80,A)] []:=⟨_,rfl⟩;refine((al8 z).go ρ (dV Yd rfl (ew z A o E.length c) VN) (by rw[hρ];cases z<;>rfl) trivial trivial).trans fun g1 w1 hd=>?_;obtain⟨I,B,bT,rfl,f1,F1,_⟩:=hd;have fI:FA 69 19 AlH [] .normal [(0,ew z A o E.length c),(1,VN),(7,iV E.length),(8,iV (0:Nat))] bT:=by
  rw[hρ]at F1;cases z with
  |false=>exact F1
  |true=>rw[hz rfl];exact F1
 refine(GA hz cL hlen E.length 0 (by omega) f1 fI).mono fun g2 w2 bX=>?_;obtain⟨cB,j,rfl,f2,hL,hj⟩:=bX;exact⟨cB,_,rfl,hL,f2,j,rfl,hj⟩
theorem Oz{s:Value}{E:List (Int×Int)}(h:dY w s E)(hlen:E.length≤4294967000):dS 45 #[s,VN] w fun v w'=>bA w w'∧v=.bool (E.any jH):=by
 refine cF fun cs=>?_;refine(al5.go (bL [] [] [(0,s)]) (dV Yb rfl s VN) rfl trivial trivial).trans fun g1 w1 hd=>?_;obtain⟨I,B,bT,rfl,f1,F1,_⟩:=hd;refine(al6.go (bL [] [] [(5,s)]) (Q:=fun v w'=>∃j,v=iV j∧decide (j≥0)=E.any jH) F1 rfl fun w' f2=>IB (h.keep (f1.trans f2)) hlen).trans fun g2 w2 bX=>?_;obtain⟨cB,vv,rfl,f2,⟨j,rfl,hj⟩,F2⟩:=bX;have fin:∀{k:List Item} {w3:World} {cC:Frame} {b:Bool},b=E.any jH->bA w w3->FA 45 9 (.code .ret::k) [] .normal [(4,.bool b)] cC->Goes (G cC cs) w3 fun g' w'=>∃fr' v,g'=G fr' cs∧cV 45 fr' w' v∧bA w w'∧v=.bool (E.any jH):=fun{k w3 cC b} hb f3 F3=>by refine(leave1 Yc F3 rfl).mono fun g6 w6 dj=>?_;obtain⟨dJ,rfl,rfl,hL⟩:=dj;exact⟨dJ,_,rfl,hL,f3,by rw[hb]⟩
 by_cases h0:j≥0
 ·refine(Ox.go (bL [(1,j)] [] []) F2 rfl ⟨decide_eq_true h0,trivial⟩ trivial).trans fun g3 w3 cn=>?_;obtain⟨I,B,cC,rfl,f3,F3,_⟩:=cn;exact fin (b:=true) (by rw[<-hj,decide_eq_true h0]) (f1.trans (f2.trans f3)) F3
 ·refine(LK.go (bL [(1,j)] [] []) F2 rfl ⟨decide_eq_false h0,trivial⟩ trivial).trans fun g3 w3 cn=>?_;obtain⟨I,B,cC,rfl,f3,F3,_⟩:=cn;exact fin (b:=false) (by rw[<-hj,decide_eq_false h0]) (f1.trans (f2.trans f3)) F3
theorem dY.take{s:Value}{E:List (Int×Int)}{k:Nat}{z:Bool}{A o c:Nat}(hs:s=ew z A o E.length c)(hz:z=true->E=[])(oU:z=false->E.length≤c)(cL:∀i e,E[i]?=some e->w.cell? ⟨A,o+i*2,none⟩=some (cY e.1)∧w.cell? ⟨A,o+i*2+1,none⟩=some (iV e.2))(hk:k≤E.length):dY w (ew z A o k c) (E.take k):=
 ⟨z,A,o,c,by rw[List.length_take,Nat.min_eq_left hk],fun h=>by rw[hz h,List.take_nil],fun h=>by
  rw[List.length_take,Nat.min_eq_left hk];exact aA hk (oU h),fun i e he=>cL i e (by
  rw[List.getElem?_take]at he;split at he
  ·exact he
  ·cases he)⟩
theorem Az{s:Value}{E:List (Int×Int)}{k:Nat}(h:dY w s E)(hk:k≤E.length)(hlen:E.length≤4294967000):dS 27 #[s,iV k] w fun v w'=>bA w w'∧v=.bool (!(E.take k).any jH):=by
 obtain⟨z,A,o,c,hs,hz,oU,cL⟩:=h.ex;refine cF fun cs=>?_;refine(al1.go (bL [(1,k)] [] [(0,s)]) (dV X_ rfl s (iV k)) rfl trivial trivial).trans fun g1 w1 hd=>?_;obtain⟨I,B,bT,rfl,f1,F1,_⟩:=hd;refine(al2.go (R:=fun y w'=>y=ew z A o k c∧w'=w1) (bL [] [] []) F1 (by decide) rfl fun tm ie x' e1 e2=>?_).trans fun g2 w2 bX=>?_
 ·unfold execOp;simp only[e1,bF,av,aI];rw[ie 5 s rfl,ie 6 (iV k) rfl,hs];exact ql adb ade hk (fun h=>by rw[hz h];rfl) oU ⟨_,rfl,rfl,rfl⟩
 obtain⟨cB,y,rfl,⟨rfl,rfl⟩,F2⟩:=bX;have hT:dY w2 (ew z A o k c) (E.take k):=dY.take hs hz oU (fun i e he=>⟨f1.cell (cL i e he).1,f1.cell (cL i e he).2⟩) hk;refine(al3.go (bL [] [] [(7,ew z A o k c)]) (Q:=fun v w'=>v=.bool ((E.take k).any jH)) F2 rfl fun w' f3=>Oz (hT.keep f3) (by rw[List.length_take];omega)).trans fun g3 w3 cn=>?_;obtain⟨cC,vv,rfl,f3,rfl,F3⟩:=cn;have fin:∀{kk:List Item} {w4:World} {eg:Frame} {b:Bool},b=(!(E.take k).any jH)->bA w w4->FA 27 10 (.code .ret::kk) [] .normal [(4,.bool b)] eg->Goes (G eg cs) w4 fun g' w'=>∃fr' v,g'=G fr' cs∧cV 27 fr' w' v∧bA w w'∧v=.bool (!(E.take k).any jH):=fun{kk w3 cC b} hb f3 F3=>by refine(leave1 Ya F3 rfl).mono fun g6 w6 dj=>?_;obtain⟨dJ,rfl,rfl,hL⟩:=dj;exact⟨dJ,_,rfl,hL,f3,by rw[hb]⟩
 cases hb:(E.take k).any jH with
 |true=>rw[hb]at F3 fin;refine(Ow.go (bL [] [] []) F3 rfl trivial trivial).trans fun g4 w4 c9=>?_;obtain⟨I,B,eg,rfl,f4,F4,_⟩:=c9;exact fin (b:=false) rfl (f1.trans (f3.trans f4)) F4
 |false=>rw[hb]at F3 fin;refine(LJ.go (bL [] [] []) F3 rfl trivial trivial).trans fun g4 w4 c9=>?_;obtain⟨I,B,eg,rfl,f4,F4,_⟩:=c9;exact fin (b:=true) rfl (f1.trans (f3.trans f4)) F4
end
section
variable {w:World}{cs:List Frame}{fr:Frame}{fn nt i d:Nat}{ops:Array Oper}{l:List Nat}{k:List Item}{lv:List (Nat×Value)}{lA:List (Nat×AV)}{bs:List (BE×Bool)}{mem:List (AA×AV)}
theorem dD.dc{a:AV}(o:dD nt ops i bs mem lA a d)(ρ:Env)(hf:FA fn nt (.inRegion ops (i::l)::k) [] .normal lv fr)(hdn:d<nt)(hl:∀p∈told ρ lA,p∈lv)(hb:cr ρ bs)(hm:cw ρ w mem){v:Value}(hv:a.ev ρ=v):
  Goes (G fr cs) w fun g' w'=>∃fr' v',g'=G fr' cs∧bA w w'∧v'=v∧FA fn nt (.inRegion ops l::k) [] .normal (fL d v' lv) fr':=
 (BZ (ρ:=ρ) hf (.inl rfl) hl o.want o.op o.low hb.mem hm.mem o.dst hdn o.Ir).mono fun g' w' hd=>by obtain⟨fr',h1,h2,h3⟩:=hd;exact⟨fr',_,h1,h2,hv,h3⟩
theorem di.dc{f:FuncId}{args:List AV}(o:di nt ops i lA f args d)(ρ:Env){Q:Value->World->Prop}(hf:FA fn nt (.inRegion ops (i::l)::k) [] .normal lv fr)(hl:∀p∈told ρ lA,p∈lv)(h:∀w',bA w w'->dS f (AV.evs ρ args).toArray w' fun v w2=>bA w' w2∧Q v w2):
  Goes (G fr cs) w fun g' w'=>∃fr' v,g'=G fr' cs∧bA w w'∧Q v w'∧FA fn nt (.inRegion ops l::k) [] .normal (fL d v lv) fr':=
 (An (ρ:=ρ) (bs:=[]) (mem:=[]) (Q:=fun v w2=>bA w w2∧Q v w2) hf hl o.want o.op o.low (nofun) (nofun) o.dst o.dlt o.Ir (fun w' f1=>(h w' f1).mono fun v w2 hd=>⟨f1.trans hd.1,hd.2⟩)).mono fun g' w' hd=>by obtain⟨fr',v,h1,h2,h3⟩:=hd;exact⟨fr',v,h1,h2.1,h2.2,h3⟩
theorem ID{e:Int×Int}{r:Nat}(o79:di nt ops i [(r,.iface 97 (.bC r))] 127 [.bC r] d)(o82:di nt ops i [(r,.iface 100 (.bC r))] 128 [.bC r] d)(hf:FA fn nt (.inRegion ops (i::l)::k) [] .normal lv fr)(hr:(r,ga e)∈lv):
  Goes (G fr cs) w fun g' w'=>∃fr' v',g'=G fr' cs∧bA w w'∧v'=dh e∧FA fn nt (.inRegion ops l::k) [] .normal (fL d v' lv) fr':=by
 obtain⟨t,p,h1,h2,h3⟩:=Gr (e:=e);have ep:(bL [] [] [(r,p)]).v r=p:=by show uE undef r [(r,p)]=p;simp[uE,Go.Proofs.YtmobbajggkjpgaaGreat.SX.look]
 have ea:AV.evs (bL [] [] [(r,p)]) [.bC r]=[p]:=by show[(bL [] [] [(r,p)]).v r]=[p];rw[ep]
 rcases h2 with rfl|rfl
 ·refine(o79.dc (bL [] [] [(r,p)]) (Q:=fun v w'=>v=dh e) hf (fun q hq=>by
   obtain rfl:q=(r,Value.iface 97 ((bL [] [] [(r,p)]).v r)):=ah.1 hq;rw[ep,<-h1];exact hr) fun w' f=>?_).mono fun g' w' hd=>?_
  ·rw[ea];exact h3 w'
  ·obtain⟨fr',vv,h4,h5,h6,h7⟩:=hd;exact⟨fr',vv,h4,h5,h6,h7⟩
 ·refine(o82.dc (bL [] [] [(r,p)]) (Q:=fun v w'=>v=dh e) hf (fun q hq=>by
   obtain rfl:q=(r,Value.iface 100 ((bL [] [] [(r,p)]).v r)):=ah.1 hq;rw[ep,<-h1];exact hr) fun w' f=>?_).mono fun g' w' hd=>?_
  ·rw[ea];exact h3 w'
  ·obtain⟨fr',vv,h4,h5,h6,h7⟩:=hd;exact⟨fr',vv,h4,h5,h6,h7⟩
end
def yF(m:cU)(E:List (Int×Int))(i:Nat)(e:Int×Int)(t:T):Bool:=
 if e.1=4∧e.2=i then false else decide (lS E m t=e)
noncomputable abbrev RS:Array Oper:=opsOf (rP 254)
noncomputable abbrev FtH:List Item:=LM
def Ym(i:Nat):Nat:=bif Nat.beq i 5 then 8 else i+102
def ftV(V:Nat)(r e:Int×Int)(i:Nat)(v:Value)(w:World):Prop:=match i with
 |0=>v=bI V
 |1=>v=ga r
 |2=>v=dh r
 |3=>v=dh e
 |_=>v=.bool (decide (r=e))
theorem xw:RS.size=6:=by kernel_rfl
theorem Yn:((List.range 6).all fun i=>(ja RS i).all fun p=>Nat.blt p i)=true:=by kernel_rfl
theorem RU:Ap (rP 254)=true:=by kernel_rfl
theorem OA{i j:Nat}(hi:i<6)(hj:j<6)(h:Ym i=Ym j):i=j:=by rcases(by omega:i=0∨i=1∨i=2∨i=3∨i=4∨i=5)with rfl|rfl|rfl|rfl|rfl|rfl<;>rcases(by omega:j=0∨j=1∨j=2∨j=3∨j=4∨j=5)with rfl|rfl|rfl|rfl|rfl|rfl<;>first|rfl|cases h
section
variable {w w0:World}{cs:List Frame}{fr:Frame}{m:cU}
theorem OB{V X:Nat}{r e:Int×Int}{k:List Item}(hc:∀w',bA w0 w'->dS 37 #[bI V,iV 0] w' fun v w2=>bA w' w2∧v=ga r)(h0:w0.cell? ⟨X,0,none⟩=some (cY e.1))(h1:w0.cell? ⟨X,1,none⟩=some (iV e.2)):
  ∀i,i<RS.size->∀(l:List Nat) (w:World) (fr:Frame) (lv:List (Nat×Value)),bA w0 w->FA 28 107 (.inRegion RS (i::l)::k) [] .normal lv fr->(∀x∈[(10,bI X),(16,bI V)],x∈lv)->(∀p∈ja RS i,∃v,(Ym p,v)∈lv∧ftV V r e p v w)->
   Goes (G fr cs) w fun g' w'=>∃fr' v,g'=G fr' cs∧bA w w'∧ftV V r e i v w'∧FA 28 107 (.inRegion RS l::k) [] .normal (fL (Ym i) v lv) fr':=by
 intro i hi l w fr lv f hf hb hp;rw[xw]at hi;have Yo:((10,bI X):Nat×Value)∈lv:=hb _ (ai ..);have b16:((16,bI V):Nat×Value)∈lv:=hb _ (aa _ (ai ..));rcases(by omega:i=0∨i=1∨i=2∨i=3∨i=4∨i=5)with rfl|rfl|rfl|rfl|rfl|rfl
 ·exact ac7.dc (bL [] [] [(16,bI V)]) hf (by decide) (fun q hq=>by obtain rfl:=ah.1 hq;exact b16) trivial trivial (v:=bI V) rfl
 ·obtain⟨v0,q0,e0⟩:=hp 0 (dy (by kernel_rfl));have e0:v0=bI V:=e0;subst e0;exact ft8.dc (bL [] [] [(102,bI V)]) (Q:=fun v w'=>v=ga r) hf (fun q hq=>by obtain rfl:=ah.1 hq;exact q0) fun w' f1=>hc w' (f.trans f1)
 ·obtain⟨v1,q1,e1⟩:=hp 1 (dy (by kernel_rfl));have e1:v1=ga r:=e1;subst e1;exact ID (e:=r) ac_ ada hf q1
 ·exact ac8.dc (bL [(11,e.1),(12,e.2)] [(68,X)] []) hf (by decide) (fun q hq=>by obtain rfl:=ah.1 hq;exact Yo) trivial ⟨f.cell h0,f.cell h1,trivial⟩ (v:=dh e) rfl
 ·obtain⟨v2,q2,e2⟩:=hp 2 (dy (by kernel_rfl));have e2:v2=dh r:=e2;subst e2;obtain⟨v3,q3,e3⟩:=hp 3 (dy (by kernel_rfl));have e3:v3=dh e:=e3;subst e3;have tl:∀p∈told (bL [(11,e.1),(12,e.2),(13,r.1),(14,r.2)] [] []) [(104,.agg [i8 (v 13),i64 (v 14)]),(105,.agg [i8 (v 11),i64 (v 12)])],p∈lv:=fun q hq=>by
   simp only[told,aK,List.map_nil,aj,az,or_false]at hq;rcases hq with rfl|rfl
   ·exact q2
   ·exact q3
  by_cases h:r.1=e.1
  ·by_cases h':r.2=e.2
   ·exact Yk.dc (bL [(11,e.1),(12,e.2),(13,r.1),(14,r.2)] [] []) hf (by decide) tl ⟨decide_eq_true h,decide_eq_true h',trivial⟩ trivial (v:=.bool (decide (r=e))) (by rw[decide_eq_true (Prod.ext h h')];rfl)
   ·exact Yj.dc (bL [(11,e.1),(12,e.2),(13,r.1),(14,r.2)] [] []) hf (by decide) tl ⟨decide_eq_true h,decide_eq_false h',trivial⟩ trivial (v:=.bool (decide (r=e))) (by rw[decide_eq_false fun hh=>h' (by rw[hh])];rfl)
  ·exact Yi.dc (bL [(11,e.1),(12,e.2),(13,r.1),(14,r.2)] [] []) hf (by decide) tl ⟨decide_eq_false h,trivial⟩ trivial (v:=.bool (decide (r=e))) (by rw[decide_eq_false fun hh=>h (by rw[hh])];rfl)
 ·obtain⟨v4,q4,e4⟩:=hp 4 (dy (by kernel_rfl));have e4:v4=.bool (decide (r=e)):=e4;subst e4;exact ac9.dc (bL [] [] [(7,.bool (decide (r=e)))]) hf (by decide) (fun q hq=>by obtain rfl:q=(106,Value.bool (decide (r=e))):=ah.1 hq;exact q4) trivial trivial (v:=.bool (decide (r=e))) rfl
theorem OC{V X:Nat}{r e:Int×Int}{k:List Item}(hc:∀w',bA w w'->dS 37 #[bI V,iV 0] w' fun v w2=>bA w' w2∧v=ga r)(h0:w.cell? ⟨X,0,none⟩=some (cY e.1))(h1:w.cell? ⟨X,1,none⟩=some (iV e.2))(hf:FA 28 107 (.code (rP 254)::k) [] .normal [(10,bI X),(16,bI V)] fr):
  Goes (G fr cs) w fun g' w'=>∃fr',g'=G fr' cs∧bA w w'∧FA 28 107 (.inRegion RS []::k) [] .normal [(8,.bool (decide (r=e)))] fr':=by
 obtain⟨id,hid⟩:=gI RU;rw[hid]at hf;refine(gH hf).trans fun g1 w1 hd=>?_;obtain⟨ls,bT,rfl,f1,hs,F1⟩:=hd;refine(B8 (b:=[(10,bI X),(16,bI V)]) (nm:=Ym) (val:=ftV V r e) (w0:=w) (K3 xw Yn) (fun i hi x hx=>?_) (fun i j hi hj hne h=>?_) (fun i v w w' h f=>h) (OB hc h0 h1) ls [] f1 (fun i hi=>by cases hi) hs ⟨_,F1,fun x hx=>hx,fun i hi=>by cases hi⟩).mono fun g2 w2 bX=>?_
 ·rw[xw]at hi;simp only[aj,az,or_false]at hx;rcases hx with rfl|rfl<;>(rcases(by omega:i=0∨i=1∨i=2∨i=3∨i=4∨i=5)with rfl|rfl|rfl|rfl|rfl|rfl<;>exact fun h=>by cases h)
 ·rw[xw]at hi hj;exact hne (OA hi hj h.symm)
 ·obtain⟨cB,lv,rfl,f2,F2,oQ,hv⟩:=bX;obtain⟨v,q,hval⟩:=hv 5 (by rw[xw];decide);have hval:v=.bool (decide (r=e)):=hval;subst hval;exact⟨cB,rfl,f2,F2.sub fun x hx=>by obtain rfl:=ah.1 hx;exact q⟩
theorem GB{L:List cH}{A o c i X1 X2 X3:Nat}(cL:∀i x,L[i]?=some x->pQ w0 A (o+i*3) x)(hg:∀(i:Nat) (x:cH),L[i]?=some x->x.tree≠[])(hw:∀(i:Nat) (x:cH),L[i]?=some x->dM x=false)(hlen:L.length≤1000000):
  ∀(k j:Nat) {w:World} {cs:List Frame} {fr:Frame},j+k=L.length->bA w0 w->FA 28 107 FtH [] .normal [(1,iV i),(4,bI X1),(7,bI X2),(11,bI X3),(12,iV 0),(32,bU A o L.length c),(33,iV L.length),(34,iV j)] fr->
  Goes (G fr cs) w fun g' w'=>∃fr',g'=G fr' cs∧bA w0 w'∧cV 28 fr' w' (.bool false)
 |0,j,w,cs,fr,hj,fw,hf=>by refine(ft6.go (bL [(51,L.length),(52,c),(53,o),(10,i),(15,j)] [(64,X1),(65,X2),(66,X3),(50,A)] []) hf rfl ⟨decide_eq_false (by show ¬((j:Int)<((L.length:Nat):Int));omega),trivial⟩ trivial).trans fun g1 w1 hd=>?_;obtain⟨I,B,bT,rfl,f1,F1,_⟩:=hd;refine(leave1 Qc F1 rfl).mono fun g6 w6 dj=>?_;obtain⟨dJ,rfl,rfl,hL⟩:=dj;exact⟨dJ,rfl,fw.trans f1,hL⟩
 |k+1,j,w,cs,fr,hj,fw,hf=>by
  have hlt:j<L.length:=by omega
  obtain⟨x,hx⟩:∃x,L[j]?=some x:=⟨_,af hlt⟩;have hne:=hg j x hx;obtain⟨At,ot,ct,c0,c1,c2,RP,iD⟩:=lT ((cL j x hx).keep fw) hne;obtain⟨n,l,e⟩:∃n l,x.tree=n::l:=by
   cases e:x.tree with
   |nil=>exact(hne e).elim
   |cons n l=>exact⟨n,l,rfl⟩
  have h0:=iD 0 n (by rw[e];rfl);rw[Nat.zero_mul,Nat.add_zero]at h0;have LG:n.op≠18:=fun h=>by have:=hw j x hx;unfold dM dF at this;rw[e]at this;simp[h]at this
  obtain⟨ρ,hρ⟩:∃ρ:Env,ρ=Go.Proofs.YtmobbajggkjpgaaGreat.SX.jn [(51,L.length),(52,c),(53,o),(10,i),(15,j),(71,x.tree.length),(72,ct),(73,ot),(4,x.bY),(1,n.op)] [(64,X1),(65,X2),(66,X3),(50,A),(70,At)] [] [(1,x.name)]:=⟨_,rfl⟩;refine(ft5.go ρ hf (by rw[hρ];rfl) (cr.app (cg (i:=15) (n:=51) (I:=j) (N:=L.length) (by rw[hρ];rfl) (by rw[hρ];rfl) hlt) ⟨by rw[hρ];exact decide_eq_true (by show(0:Int)<((x.tree.length:Nat):Int);rw[e];simp only[aC];omega),by rw[hρ];exact decide_eq_false LG,trivial⟩) ⟨by rw[hρ];exact c0,by rw[hρ];exact c1,by rw[hρ];exact c2,by rw[hρ];exact h0.c0,trivial⟩).trans fun g1 w1 hd=>?_;obtain⟨I,B,bT,rfl,f1,F1,_⟩:=hd;rw[hρ]at F1;refine GB (c:=c) (i:=i) (X1:=X1) (X2:=X2) (X3:=X3) cL hg hw hlen k (j+1) (by omega) (fw.trans f1) ?_;rw[<-inc (i:=j) (by omega)];exact F1
theorem RV:kA (⟨28,107,c8 28 [.bC 0,.bC 1,.bC 2,.bC 3],[.code (bD Tryz.f28)],[],.run,.normal⟩:bR) (List.range 107)=⟨28,107,[.code (bD Tryz.f28)],[],.run,.normal,[],[],[.bC 0,.bC 1,.bC 2,.bC 3]++List.replicate 103 Z⟩:=by kernel_rfl
theorem LP{ls os s:Value}{L:List cH}{E:List (Int×Int)}{i:Nat}{x:cH}{t:T}{e:Int×Int}(hl:rG w ls L)(hE:dY w s E)(hi:L[i]?=some x)(he:E[i]?=some e)(hlen:L.length≤1000000)(Ok:x.tree.length≤999999)(ji:k8 x=some t)(hfl:x.tree=flat t)(hwf:ue t)(iD:m8 E.length t)(hg:∀(i:Nat) (x:cH),L[i]?=some x->x.tree≠[])(hw:∀(i:Nat) (x:cH),L[i]?=some x->dM x=false):
  dS 28 #[.agg #[ls,os],iV i,c_ m,s] w fun v w'=>bA w w'∧v=.bool (yF m E i e t):=by
 obtain⟨z,A,o,c,hls,hz,oU,cL⟩:=hl.ex;obtain⟨y,A',o',c',hs,hy,Dl,rH⟩:=hE.ex;have hil:i<L.length:=(aq.1 hi).1;have hie:i<E.length:=(aq.1 he).1;cases z with
 |true=>rw[hz rfl]at hil;simp only[aZ]at hil;omega
 |false=>
 cases y with
 |true=>rw[hy rfl]at hie;simp only[aZ]at hie;omega
 |false=>
 have hls:ls=bU A o L.length c:=hls;have hs:s=bU A' o' E.length c':=hs;have hne:=hg i x hi;obtain⟨At,ot,ct,c0,c1,c2,RP,Qe⟩:=lT (cL i x hi) hne;obtain⟨d0,d1⟩:=rH i e he;refine cF fun cs=>?_;have En:=Ov (live:=List.range 107) (vals:=[.bC 0,.bC 1,.bC 2,.bC 3]++List.replicate 103 Z) Yh RV (.agg #[ls,os]) (iV i) (c_ m) s;obtain⟨ρ,hρ⟩:∃ρ:Env,ρ=Go.Proofs.YtmobbajggkjpgaaGreat.SX.jn [(51,L.length),(52,c),(53,o),(10,i),(71,x.tree.length),(72,ct),(73,ot),(4,x.bY),(81,E.length),(82,c'),(83,o'),(11,e.1),(12,e.2),(21,m.mul),(22,m.add),(23,m.cA),(24,m.panics)] [(50,A),(70,At),(80,A')] [(9,os)] [(1,x.name)]:=⟨_,rfl⟩;have bb:=cr.app (cg (ρ:=ρ) (i:=10) (n:=51) (I:=i) (N:=L.length) (by rw[hρ];rfl) (by rw[hρ];rfl) hil) (cg (ρ:=ρ) (i:=10) (n:=81) (I:=i) (N:=E.length) (by rw[hρ];rfl) (by rw[hρ];rfl) hie);have mm:w.cell? ⟨A,o+i*3,none⟩=some (.string x.name)∧w.cell? ⟨A,o+i*3+1,none⟩=some (bU At ot x.tree.length ct)∧w.cell? ⟨A,o+i*3+2,none⟩=some (iV x.bY)∧w.cell? ⟨A',o'+i*2,none⟩=some (cY e.1)∧w.cell? ⟨A',o'+i*2+1,none⟩=some (iV e.2):=⟨c0,c1,c2,d0,d1⟩;have fin:∀{kk:List Item} {w4:World} {eg:Frame} {b:Bool},b=yF m E i e t->bA w w4->FA 28 107 (.code .ret::kk) [] .normal [(8,.bool b)] eg->Goes (G eg cs) w4 fun g' w'=>∃fr' v,g'=G fr' cs∧cV 28 fr' w' v∧bA w w'∧v=.bool (yF m E i e t):=fun{kk w3 cC b} hb f3 F3=>by refine(leave1 Qc F3 rfl).mono fun g6 w6 dj=>?_;obtain⟨dJ,rfl,rfl,hL⟩:=dj;exact⟨dJ,_,rfl,hL,f3,by rw[hb]⟩
 have rest:∀{w1:World} {bT:Frame} {X0 X1 X2 X3 X4:Nat},¬(e.1=4∧e.2=i)->bA w w1->(cu.obj 43 [cY e.1,iV e.2]).at Tryz.prog w1 X4->(cu.obj 50 [.string x.name,bU At ot x.tree.length ct,iV x.bY]).at Tryz.prog w1 X3->(cu.obj 28 [bU A' o' E.length c']).at Tryz.prog w1 X2->(cu.obj 27 [iV m.mul,iV m.add,iV m.cA,iV m.panics]).at Tryz.prog w1 X1->
   FA 28 107 (.inRegion (opsOf (rP 124)) [1]::[.code (rP 125),.code (rP 63)]) [] .normal [(4,bI X0),(6,bI X1),(7,bI X2),(9,bI X3),(10,bI X4),(64,fy x (bU At ot x.tree.length ct))] bT->Goes (G bT cs) w1 fun g' w'=>∃fr' v,g'=G fr' cs∧cV 28 fr' w' v∧bA w w'∧v=.bool (yF m E i e t):=fun{w1 bT X0 X1 X2 X3 X4} hn f1 h4 h3 h2 h1 F1=>by
  refine(ft2.go (bL [] [] [(64,fy x (bU At ot x.tree.length ct))]) (Q:=fun v w'=>v=cY (dF x)) F1 rfl fun w' f2=>mA hne fun i n hi=>(Qe i n hi).keep (f1.trans f2)).trans fun g2 w2 bX=>?_;obtain⟨cB,vv,rfl,f2,rfl,F2⟩:=bX;have hwx:=hw i x hi;unfold dM at hwx;simp only[Bool.or_eq_false_iff,decide_eq_false_iff_not]at hwx;obtain⟨σ,bZ⟩:∃σ:Env,σ=Go.Proofs.YtmobbajggkjpgaaGreat.SX.jn [(71,x.tree.length),(72,ct),(73,ot),(4,x.bY),(81,E.length),(82,c'),(83,o'),(21,m.mul),(22,m.add),(23,m.cA),(24,m.panics),(1,dF x)] [(64,X0),(65,X1),(66,X2),(67,X3),(68,X4),(70,At),(80,A')] [] [(1,x.name)]:=⟨_,rfl⟩;refine(ft7.go σ F2 (by rw[bZ];rfl) ⟨by rw[bZ];exact decide_eq_false hwx.1,by rw[bZ];exact decide_eq_false hwx.2,trivial⟩ ⟨by rw[bZ];exact f2.cell (bE h3 (i:=0) rfl),by rw[bZ];exact f2.cell (bE h3 (i:=1) rfl),by rw[bZ];exact f2.cell (bE h3 (i:=2) rfl),by rw[bZ];exact f2.cell (bE h2 (i:=0) rfl),by rw[bZ];exact f2.cell (bE h1 (i:=0) rfl),by rw[bZ];exact f2.cell (bE h1 (i:=1) rfl),by rw[bZ];exact f2.cell (bE h1 (i:=2) rfl),by rw[bZ];exact f2.cell (bE h1 (i:=3) rfl),trivial⟩).trans fun g3 w3 cn=>?_;obtain⟨I,B,cC,rfl,f3,F3,bl,_⟩:=cn;rw[bZ]at F3 bl;obtain⟨V,eV⟩:∃V,B 100=V:=⟨_,rfl⟩;have hW:(cu.obj 69 [bU At ot x.tree.length ct,bU A' o' E.length c',iV m.mul,iV m.add,iV m.cA,iV m.panics]).at Tryz.prog w3 V:=by rw[<-eV];exact bl.1.2
  have oT:FA 28 107 (.code (rP 254)::[.code .ret]) [] .normal [(10,bI X4),(16,bI V)] cC:=by rw[<-eV];exact F3
  have Ay:=f1.trans (f2.trans f3);have wk:mu w3 V x.tree At ot ct (bU A' o' E.length c') m:=⟨bE hW (i:=0) rfl,bE hW (i:=1) rfl,bE hW (i:=2) rfl,bE hW (i:=3) rfl,bE hW (i:=4) rfl,bE hW (i:=5) rfl,fun i n hi=>(Qe i n hi).keep Ay⟩;refine(OC (V:=V) (X:=X4) (r:=lS E m t) (e:=e) (fun w' f4=>?_) ((f2.trans f3).cell (bE h4 (i:=0) rfl)) ((f2.trans f3).cell (bE h4 (i:=1) rfl)) oT).trans fun g4 w4 c9=>?_
  ·exact sZ t (bY:=0) (rest:=[]) (wk.keep f4) (by omega) (by rw[<-hs];exact hE.keep (Ay.trans f4)) hwf iD (by rw[List.drop_zero,aQ];exact hfl)
  ·obtain⟨eg,rfl,f4,F4⟩:=c9;refine(Yl.go (bL [] [] [(8,.bool (decide (lS E m t=e)))]) F4 rfl trivial trivial).trans fun g5 w5 d_=>?_;obtain⟨I,B,gh,rfl,f5,F5,_⟩:=d_;refine fin (b:=decide (lS E m t=e)) ?_ (Ay.trans (f4.trans f5)) F5;unfold yF;rw[if_neg hn]
 by_cases h4:e.1=4
 ·by_cases h5:e.2=i
  ·refine(ft4.go ρ En (by rw[hρ,hls,hs];unfold fT;kernel_rfl) (cr.app bb ⟨by rw[hρ];exact decide_eq_true h4,by rw[hρ];exact decide_eq_true h5,trivial⟩) ⟨by rw[hρ];exact mm.1,by rw[hρ];exact mm.2.1,by rw[hρ];exact mm.2.2.1,by rw[hρ];exact mm.2.2.2.1,by rw[hρ];exact mm.2.2.2.2,trivial⟩).trans fun g1 w1 hd=>?_;obtain⟨I,B,bT,rfl,f1,F1,_⟩:=hd;rw[hρ]at F1;refine(GB (w0:=w) (c:=c) (i:=i) (X1:=B 100) (X2:=B 102) (X3:=B ftO) cL hg hw hlen L.length 0 (by omega) f1 F1).mono fun g2 w2 bX=>?_;obtain⟨cB,rfl,f2,hL⟩:=bX;refine⟨cB,_,rfl,hL,f2,?_⟩;unfold yF;rw[if_pos ⟨h4,h5⟩]
  ·refine(ft3.go ρ En (by rw[hρ,hls,hs];unfold fT;kernel_rfl) (cr.app bb ⟨by rw[hρ];exact decide_eq_true h4,by rw[hρ];exact decide_eq_false h5,trivial⟩) ⟨by rw[hρ];exact mm.1,by rw[hρ];exact mm.2.1,by rw[hρ];exact mm.2.2.1,by rw[hρ];exact mm.2.2.2.1,by rw[hρ];exact mm.2.2.2.2,trivial⟩).trans fun g1 w1 hd=>?_;obtain⟨I,B,bT,rfl,f1,F1,bl,_⟩:=hd;rw[hρ]at F1 bl;exact rest (X0:=B 100) (X1:=B 101) (X2:=B 102) (X3:=B Qa) (X4:=B Qb) (fun h=>h5 h.2) f1 bl.1.2 bl.2.1.2 bl.2.2.1.2 bl.2.2.2.1.2 F1
 ·refine(ft1.go ρ En (by rw[hρ,hls,hs];unfold fT;kernel_rfl) (cr.app bb ⟨by rw[hρ];exact decide_eq_false h4,trivial⟩) ⟨by rw[hρ];exact mm.1,by rw[hρ];exact mm.2.1,by rw[hρ];exact mm.2.2.1,by rw[hρ];exact mm.2.2.2.1,by rw[hρ];exact mm.2.2.2.2,trivial⟩).trans fun g1 w1 hd=>?_;obtain⟨I,B,bT,rfl,f1,F1,bl,_⟩:=hd;rw[hρ]at F1 bl;exact rest (X0:=B 100) (X1:=B 101) (X2:=B 102) (X3:=B Qa) (X4:=B Qb) (fun h=>h4 h.1) f1 bl.1.2 bl.2.1.2 bl.2.2.1.2 bl.2.2.2.1.2 F1
end
noncomputable def q9(l:Nat):Code:=pc (bD Tryz.f10) (pd l)
theorem adh:bP Tryz.prog 10 [.bC 0,.bC 1,.bC 2] .normal=.ok ⟨10,47,c8 10 [.bC 0,.bC 1,.bC 2],[.code (bD Tryz.f10)],[],.run,.normal⟩:=by kernel_rfl
theorem Yp:sP 10 47 6 7:=fun st=>by kernel_rfl
noncomputable def kK(l:Nat):Code:=pc (bD Tryz.f16) (pd l)
theorem Yq:bP Tryz.prog 16 [.bC 0,.bC 1,.bC 2,.bC 3] .normal=.ok ⟨16,68,c8 16 [.bC 0,.bC 1,.bC 2,.bC 3],[.code (bD Tryz.f16)],[],.run,.normal⟩:=by kernel_rfl
theorem fi1(z:Bool):Pc 10 47 [.code (bD Tryz.f10)] ([(0,.agg [cG z 50 53 51 52,.bC 9]),(1,.agg [i64 (v 21),i64 (v 22),i64 (v 23),i64 (v 24)]),(2,.bC 2)]) [] [] [] 11 [101,100] [2,3,4,12] [.inRegion (opsOf (q9 12)) [1,2,3,4,5,6],.code (q9 13),.code (q9 7)] [.bC 2,bz 100,bz 101,.agg [cG z 50 53 51 52,.bC 9]] [(101,.cells [i64 (v 21),i64 (v 22),i64 (v 23),i64 (v 24)] 27),(100,.cells [cG z 50 53 51 52,.bC 9] 25)]:=by cases z<;>exact{}
theorem fi2:di 47 (opsOf (q9 12)) 1 [(12,.bC 12)] 26 [.bC 12] 13:={}
theorem fi3(z y:Bool):Pc 10 47 [.inRegion (opsOf (q9 12)) [2,3,4,5,6],.code (q9 13),.code (q9 7)] ([(2,cG y 80 83 81 82),(3,bz 64),(4,bz 65),(13,.tuple [i64 (v 5),i64 (v 6)])]) [((.cmp .neq (v 5) (.lit 0)),false),((.cmp .neq (dL y 81) (dL z 51)),false)] [(eD 64 0,cG z 50 53 51 52)] [] 26 [] [2,3,4,26,27,29] [.inRegion (opsOf (q9 28)) [10,11,12],.code (q9 29),.code (q9 15)] [cG y 80 83 81 82,bz 64,bz 65,FB,cG y 80 83 81 82,i64 (dL y 81)] []:=by cases z<;>cases y<;>exact{}
theorem fi4:di 47 (opsOf (q9 28)) 10 [(26,FB),(27,.bC 27),(29,.bC 29)] 27 [.bC 27,.bC 29] 30:={}
noncomputable abbrev Cq:List Item:=[.code (q9 244),.inLoop (q9 244),.inBlock 0,.code (q9 31)]
theorem fi5(z:Bool):Pc 10 47 [.inRegion (opsOf (q9 28)) [11,12],.code (q9 29),.code (q9 15)] ([(2,.bC 2),(3,bz 64),(4,bz 65),(26,FB),(30,TB)]) [] [(eD 64 0,cG z 50 53 51 52)] [] 15 [] [2,3,4,34,35,36] Cq [.bC 2,bz 64,bz 65,cG z 50 53 51 52,i64 (dL z 51),i64 (.lit 0)] []:=by cases z<;>exact{}
theorem fi6:Pc 10 47 Cq ([(2,.bC 2),(3,bz 64),(4,bz 65),(34,sA 50 53 51 52),(35,i64 (.tn (v 51))),(36,i64 (v 10))]) (fN 10 51) [(eD 64 0,sA 50 53 51 52),(eD 64 1,.bC 9),(eD 65 0,i64 (v 21)),(eD 65 1,i64 (v 22)),(eD 65 2,i64 (v 23)),(eD 65 3,i64 (v 24))] [] 20 [] [2,3,4,10,34,35,36,39,40,41,42] [.inRegion (opsOf (q9 15666)) [4,5],.code (q9 15667),.inBlock 1,.code (q9 1959),.inLoop (q9 244),.inBlock 0,.code (q9 31)] [.bC 2,bz 64,bz 65,i64 (v 10),sA 50 53 51 52,i64 (.tn (v 51)),i64 (v 10),.agg [sA 50 53 51 52,.bC 9],i64 (v 10),.agg [i64 (v 21),i64 (v 22),i64 (v 23),i64 (v 24)],.bC 2] []:={}
theorem fi7:di 47 (opsOf (q9 15666)) 4 [(39,.bC 39),(40,.bC 40),(41,.bC 41),(42,.bC 42)] 28 [.bC 39,.bC 40,.bC 41,.bC 42] 43:={}
noncomputable abbrev Yr:List Item:=[.inRegion (opsOf (q9 15666)) [5],.code (q9 15667),.inBlock 1,.code (q9 1959),.inLoop (q9 244),.inBlock 0,.code (q9 31)]
theorem fi8:Pc 10 47 Yr ([(2,.bC 2),(3,bz 64),(4,bz 65),(34,sA 50 53 51 52),(35,i64 (.tn (v 51))),(36,i64 (v 10)),(10,i64 (v 10)),(43,FB)]) [] [] [] 9 [] [6,7] [.code .ret,.inBlock 1,.code (q9 1959),.inLoop (q9 244),.inBlock 0,.code (q9 31)] [i64 (.lit 30),i64 (v 10)] []:={}
theorem fi9:Pc 10 47 Yr ([(2,.bC 2),(3,bz 64),(4,bz 65),(34,sA 50 53 51 52),(35,i64 (.tn (v 51))),(36,i64 (v 10)),(10,i64 (v 10)),(43,TB)]) [] [] [] 10 [] [2,3,4,34,35,36] Cq [.bC 2,bz 64,bz 65,sA 50 53 51 52,i64 (.tn (v 51)),i64 (.op .add .i64 (v 10) (.lit 1))] []:={}
theorem fiA(z:Bool):Pc 10 47 Cq ([(2,.bC 2),(3,bz 64),(4,bz 65),(34,cG z 50 53 51 52),(35,i64 (dL z 51)),(36,i64 (v 10))]) [((.cmp .lss (v 10) (dL z 51)),false)] [] [] 12 [] [6,7] [.code .ret] [i64 (.lit 0),i64 (.lit 0)] []:=by cases z<;>exact{}
theorem le1:Pc 16 68 [.code (bD Tryz.f16)] ([(0,.agg [sA 50 53 51 52,.bC 9]),(1,i64 (v 10)),(2,.agg [i64 (v 21),i64 (v 22),i64 (v 23),i64 (v 24)]),(3,.bC 3)]) [] [] [] 11 [102,101,100] [1,3,4,6,8,15] [.inRegion (opsOf (kK 12)) [1,2,3,4,5,6],.code (kK 13),.code (kK 7)] [i64 (v 10),.bC 3,bz 100,bz 101,bz 102,.agg [sA 50 53 51 52,.bC 9]] [(102,.cells [i8 (.lit 0),i64 (.lit 0)] 43),(101,.cells [i64 (v 21),i64 (v 22),i64 (v 23),i64 (v 24)] 27),(100,.cells [sA 50 53 51 52,.bC 9] 25)]:={}
theorem le2:di 68 (opsOf (kK 12)) 1 [(15,.bC 15)] 26 [.bC 15] 16:={}
noncomputable abbrev qI:List (AA×AV):=[(eD 64 0,sA 50 53 51 52)]
theorem le3(y:Bool):Pc 16 68 [.inRegion (opsOf (kK 12)) [2,3,4,5,6],.code (kK 13),.code (kK 7)] ([(1,i64 (v 10)),(3,cG y 80 83 81 82),(4,bz 64),(6,bz 65),(8,bz 67),(16,.tuple [i64 (v 5),i64 (v 6)])]) [((.cmp .neq (v 5) (.lit 0)),false),((.cmp .lss (v 10) (.lit 0)),false),((.cmp .geq (v 10) (.tn (v 51))),false),((.cmp .lss (dL y 81) (v 10)),false)] qI [] 34 [] [1,3,4,6,8,38,39,40] [.inRegion (opsOf (kK 28)) [18,19,20],.code (kK 29),.code (kK 15)] [i64 (v 10),cG y 80 83 81 82,bz 64,bz 65,bz 67,FB,cG y 80 83 81 82,i64 (v 10)] []:=by cases y<;>exact{}
theorem le4:di 68 (opsOf (kK 28)) 18 [(38,FB),(39,.bC 39),(40,.bC 40)] 27 [.bC 39,.bC 40] 41:={}
theorem le5:Pc 16 68 [.inRegion (opsOf (kK 28)) [19,20],.code (kK 29),.code (kK 15)] ([(1,i64 (v 10)),(3,.bC 3),(4,bz 64),(6,bz 65),(8,bz 67),(38,FB),(41,TB)]) (fN 10 51) [(eD 64 0,sA 50 53 51 52),(eB 50 53 10 3,ss 1),(eA 50 53 10 3 1,sA 70 73 71 72),(eA 50 53 10 3 2,i64 (v 4))] [] 19 [100] [3,6,8,12,50] [.inRegion (opsOf (kK 124)) [1,2,3,4,5,6,7],.code (kK 125),.code (kK 63)] [.bC 3,bz 65,bz 67,bz 100,.agg [ss 1,sA 70 73 71 72,i64 (v 4)]] [(100,.cells [ss 1,sA 70 73 71 72,i64 (v 4)] 50)]:={}
theorem le6:di 68 (opsOf (kK 124)) 1 [(50,.bC 50)] 36 [.bC 50] 51:={}
theorem le7:Pc 16 68 [.inRegion (opsOf (kK 124)) [2,3,4,5,6,7],.code (kK 125),.code (kK 63)] ([(3,.bC 3),(6,bz 65),(8,bz 67),(12,bz 66),(51,i8 (v 1))]) LA P_ [] 3 [] [3,6,8,12,53,54] [.inRegion (opsOf (kK 124)) [5,6,7],.code (kK 125),.code (kK 63)] [.bC 3,bz 65,bz 67,bz 66,FB,.agg [ss 1,sA 70 73 71 72,i64 (v 4)]] []:={}
theorem le8:di 68 (opsOf (kK 124)) 5 [(53,FB),(54,.bC 54)] 36 [.bC 54] 55:={}
theorem le9(y:Bool):Pc 16 68 [.inRegion (opsOf (kK 124)) [6,7],.code (kK 125),.code (kK 63)] ([(3,cG y 80 83 81 82),(6,bz 65),(8,bz 67),(12,bz 66),(53,FB),(55,i8 (v 1))]) [((.cmp .eql (v 1) (.lit 18)),false)] [(eD 66 0,ss 1),(eD 66 1,sA 70 73 71 72),(eD 66 2,i64 (v 4)),(eD 65 0,i64 (v 21)),(eD 65 1,i64 (v 22)),(eD 65 2,i64 (v 23)),(eD 65 3,i64 (v 24))] [] 18 [100] [8,65] [.inRegion (opsOf (kK 254)) [1,2,3,4],.code .ret] [bz 67,bz 100] [(100,.cells [sA 70 73 71 72,cG y 80 83 81 82,i64 (v 21),i64 (v 22),i64 (v 23),i64 (v 24)] 69)]:=by cases y<;>exact{}
theorem leA:di 68 (opsOf (kK 254)) 1 [(65,.bC 65)] 37 [.bC 65,i64 (.lit 0)] 66:={}
theorem adi:di 68 (opsOf (kK 254)) 2 [(66,.iface 97 (.bC 66))] 127 [.bC 66] 67:={}
theorem adj:di 68 (opsOf (kK 254)) 2 [(66,.iface 100 (.bC 66))] 128 [.bC 66] 67:={}
theorem leC:Pc 16 68 [.inRegion (opsOf (kK 254)) [3,4],.code .ret] ([(8,bz 67),(67,.agg [i8 (v 11),i64 (v 12)])]) [] [] [(67,.cells [i8 (.lit 0),i64 (.lit 0)] 43)] 3 [67] [8,9] [.code .ret] [bz 67,i64 (.lit 0)] [(67,.cells [i8 (v 11),i64 (v 12)] 43)]:={}
section
mutual
theorem m8.mono{N M:Nat}(h:N≤M):∀{t:T},m8 N t->m8 M t
 |.nd n ks,⟨h1,h2,h3,h4⟩=>⟨fun e=>by have:=h1 e;omega,h2,h3,lq.mono h h4⟩
theorem lq.mono{N M:Nat}(h:N≤M):∀{ts:List T},lq N ts->lq M ts
 |[],_=>trivial
 |t::ts,⟨h1,h2⟩=>⟨m8.mono h h1,lq.mono h h2⟩
end
def LQ(m:cU)(E:List (Int×Int))(i:Nat)(x:cH):Bool:=match k8 x,E[i]? with
 |some t,some e=>yF m E i e t
 |_,_=>false
def xx(m:cU)(E:List (Int×Int)):List cH->Nat->Int×Int
 |[],_=>(0,0)
 |x::r,i=>if LQ m E i x then xx m E r (i+1)else(30,i)
noncomputable abbrev FiH:List Item:=Cq
section
variable {w w0:World}{cs:List Frame}{fr:Frame}{m:cU}
theorem GC{F:gU}{E:List (Int×Int)}{z:Bool}{A o c X Y:Nat}{os s:Value}(hz:z=true->F.lets=[])(oU:z=false->F.lets.length≤c)(cL:∀i x,F.lets[i]?=some x->pQ w0 A (o+i*3) x)(hE:dY w0 s E)(hg:∀i x,F.lets[i]?=some x->∃t,m9 x i t)(hw:∀(i:Nat) (x:cH),F.lets[i]?=some x->dM x=false)(hlE:E.length=F.lets.length)(hlen:F.lets.length≤1000000)(ji:∀x∈F.lets,x.tree.length≤999999)
 (hX:(cu.obj 25 [ew z A o F.lets.length c,os]).at Tryz.prog w0 X)(hY:(cu.obj 27 [iV m.mul,iV m.add,iV m.cA,iV m.panics]).at Tryz.prog w0 Y):
  ∀(k i:Nat) {w:World} {cs:List Frame} {fr:Frame},i+k=F.lets.length->bA w0 w->FA 10 47 FiH [] .normal [(2,s),(3,bI X),(4,bI Y),(34,ew z A o F.lets.length c),(35,iV F.lets.length),(36,iV i)] fr->
  Goes (G fr cs) w fun g' w'=>∃fr',g'=G fr' cs∧bA w0 w'∧cV 10 fr' w' (.tuple #[iV (xx m E (F.lets.drop i) i).1,iV (xx m E (F.lets.drop i) i).2])
 |0,i,w,cs,fr,hi,fw,hf=>by
  obtain⟨ρ,hρ⟩:∃ρ:Env,ρ=bL [(51,F.lets.length),(52,c),(53,o),(10,i)] [(64,X),(65,Y),(50,A)] [(2,s)]:=⟨_,rfl⟩;have ez:(cG z 50 53 51 52).ev ρ=ew z A o F.lets.length c:=by rw[hρ];cases z<;>rfl
  have en:(i64 (dL z 51)).ev ρ=iV F.lets.length:=by
   rw[hρ];cases z with
   |false=>rfl
   |true=>rw[hz rfl];rfl
  refine((fiA z).go ρ hf (by
   show[some _,some _,some _,some _,some _,some _]=[some _,some _,some _,some ((cG z 50 53 51 52).ev ρ),some ((i64 (dL z 51)).ev ρ),some _];rw[ez,en,hρ];rfl) ⟨by
    rw[hρ];cases z with
    |false=>exact decide_eq_false (by show ¬((i:Int)<((F.lets.length:Nat):Int));omega)
    |true=>exact decide_eq_false (by show ¬((i:Int)<0);omega),trivial⟩ trivial).trans fun g1 w1 hd=>?_
  obtain⟨I,B,bT,rfl,f1,F1,_⟩:=hd;refine(iN Yp F1 rfl rfl).mono fun g6 w6 dj=>?_;obtain⟨dJ,rfl,rfl,hL⟩:=dj;rw[aS (by omega)];exact⟨dJ,rfl,fw.trans f1,hL⟩
 |k+1,i,w,cs,fr,hi,fw,hf=>by
  have hlt:i<F.lets.length:=by omega
  obtain⟨x,hx⟩:∃x,F.lets[i]?=some x:=⟨_,af hlt⟩;obtain⟨e,he⟩:∃e,E[i]?=some e:=⟨_,af (by omega)⟩;cases z with
  |true=>rw[hz rfl]at hlt;simp only[aZ]at hlt;omega
  |false=>
  obtain⟨t,hgt⟩:=hg i x hx;have eJ:F.lets.drop i=x::F.lets.drop (i+1):=by rw[aJ hlt];congr 1;exact au ((af hlt).symm.trans hx)
  have Ok:=ji x (ay hx);obtain⟨ρ,hρ⟩:∃ρ:Env,ρ=bL [(51,F.lets.length),(52,c),(53,o),(10,i),(21,m.mul),(22,m.add),(23,m.cA),(24,m.panics)] [(64,X),(65,Y),(50,A)] [(2,s),(9,os)]:=⟨_,rfl⟩;refine(fi6.go ρ hf (by rw[hρ];rfl) (cg (i:=10) (n:=51) (I:=i) (N:=F.lets.length) (by rw[hρ];rfl) (by rw[hρ];rfl) hlt) ⟨by rw[hρ];exact fw.cell (bE hX (i:=0) rfl),by rw[hρ];exact fw.cell (bE hX (i:=1) rfl),by rw[hρ];exact fw.cell (bE hY (i:=0) rfl),by rw[hρ];exact fw.cell (bE hY (i:=1) rfl),by rw[hρ];exact fw.cell (bE hY (i:=2) rfl),by rw[hρ];exact fw.cell (bE hY (i:=3) rfl),trivial⟩).trans fun g1 w1 hd=>?_;obtain⟨I,B,bT,rfl,f1,F1,_⟩:=hd;rw[hρ]at F1;have hfit:LQ m E i x=yF m E i e t:=by unfold LQ;rw[hgt.tr,he]
  refine(fi7.go (bL [] [] [(39,.agg #[bU A o F.lets.length c,os]),(40,iV i),(41,c_ m),(42,s)]) (Q:=fun v w'=>v=.bool (yF m E i e t)) F1 rfl fun w' f2=>?_).trans fun g2 w2 bX=>?_
  ·have fa:=fw.trans (f1.trans f2);exact LP (L:=F.lets) ⟨false,A,o,c,rfl,hz,oU,fun i x hi=>(cL i x hi).keep fa⟩ (hE.keep fa) hx he hlen Ok hgt.tr hgt.fl hgt.wf (hgt.nd.mono (by omega)) (fun i x hi=>by obtain⟨t,h⟩:=hg i x hi;exact qk h) hw
  obtain⟨cB,vv,rfl,f2,rfl,F2⟩:=bX;have mB:=fw.trans (f1.trans f2);rw[eJ];unfold xx;rw[hfit];cases hb:yF m E i e t with
  |false=>rw[hb]at F2;refine(fi8.go ρ F2 (by rw[hρ];rfl) trivial trivial).trans fun g3 w3 cn=>?_;obtain⟨I,B,cC,rfl,f3,F3,_⟩:=cn;rw[hρ]at F3;refine(iN Yp F3 rfl rfl).mono fun g6 w6 dj=>?_;obtain⟨dJ,rfl,rfl,hL⟩:=dj;exact⟨dJ,rfl,mB.trans f3,hL⟩
  |true=>rw[hb]at F2;refine(fi9.go ρ F2 (by rw[hρ];rfl) trivial trivial).trans fun g3 w3 cn=>?_;obtain⟨I,B,cC,rfl,f3,F3,_⟩:=cn;rw[hρ]at F3;refine GC (z:=false) (os:=os) (fun h=>by cases h) oU cL hE hg hw hlE hlen ji hX hY k (i+1) (by omega) (mB.trans f3) ?_;rw[<-inc (i:=i) (by omega)];exact F3
theorem LR{x s:Value}{F:gU}{E:List (Int×Int)}(h:oy w x F)(hE:dY w s E)(h0:(ef F).1=0)(hw:∀(i:Nat) (x:cH),F.lets[i]?=some x->dM x=false)(hlE:E.length=F.lets.length)(hok:E.any jH=false)(hlen:F.lets.length≤1000000)(ji:∀x∈F.lets,x.tree.length≤999999):
  dS 10 #[x,c_ m,s] w fun v w'=>bA w w'∧v=.tuple #[iV (xx m E F.lets 0).1,iV (xx m E F.lets 0).2]:=by
 obtain⟨ls,os,rfl,hl,ho⟩:=h;obtain⟨z,A,o,c,hls,hz,oU,cL⟩:=hl.ex;obtain⟨y,A',o',c',hs,hy,Dl,rH⟩:=hE.ex;refine cF fun cs=>?_;obtain⟨ρ,hρ⟩:∃ρ:Env,ρ=bL [(51,F.lets.length),(52,c),(53,o),(21,m.mul),(22,m.add),(23,m.cA),(24,m.panics)] [(50,A)] [(9,os),(2,s)]:=⟨_,rfl⟩;have ez:∀I B,(cG z 50 53 51 52).ev (cQ ρ I B)=ls:=fun I B=>by rw[hρ,hls];cases z<;>rfl
 refine((fi1 z).go ρ (w_ adh rfl (.agg #[ls,os]) (c_ m) s) (by rw[hls,hρ];cases z<;>rfl) trivial trivial).trans fun g1 w1 hd=>?_;obtain⟨I,B,bT,rfl,f1,F1,bl,_⟩:=hd;obtain⟨X,eX⟩:∃X,B 100=X:=⟨_,rfl⟩;obtain⟨Y,eY⟩:∃Y,B 101=Y:=⟨_,rfl⟩;have hY:(cu.obj 27 [iV m.mul,iV m.add,iV m.cA,iV m.panics]).at Tryz.prog w1 Y:=by have:=bl.1.2;rw[hρ]at this;rw[<-eY];exact this
 have hX:(cu.obj 25 [ls,os]).at Tryz.prog w1 X:=by
  have h1:(cu.obj 25 [(cG z 50 53 51 52).ev (cQ ρ I B),os]).at Tryz.prog w1 (B 100):=by have:=bl.2.1.2;rw[hρ]at this⊢;exact this
  rw[ez,eX]at h1;exact h1
 have fI:FA 10 47 (.inRegion (opsOf (q9 12)) [1,2,3,4,5,6]::[.code (q9 13),.code (q9 7)]) [] .normal [(2,s),(3,bI X),(4,bI Y),(12,.agg #[ls,os])] bT:=by
  have h1:FA 10 47 (.inRegion (opsOf (q9 12)) [1,2,3,4,5,6]::[.code (q9 13),.code (q9 7)]) [] .normal [(2,s),(3,bI (B 100)),(4,bI (B 101)),(12,.agg #[(cG z 50 53 51 52).ev (cQ ρ I B),os])] bT:=by rw[hρ]at F1⊢;exact F1
  rw[ez,eX,eY]at h1;exact h1
 refine(fi2.go (bL [] [] [(12,.agg #[ls,os])]) (Q:=fun v w'=>v=.tuple #[iV (ef F).1,iV (ef F).2]) fI rfl fun w' f2=>lP ⟨ls,os,rfl,hl.keep (f1.trans f2),ho.keep (f1.trans f2)⟩ hlen ji).trans fun g2 w2 bX=>?_;obtain⟨cB,vv,rfl,f2,rfl,F2⟩:=bX;have f12:=f1.trans f2;obtain⟨σ,bZ⟩:∃σ:Env,σ=bL [(51,F.lets.length),(52,c),(53,o),(5,(ef F).1),(6,(ef F).2),(81,E.length),(82,c'),(83,o')] [(50,A),(64,X),(65,Y),(80,A')] [(9,os),(2,s)]:=⟨_,rfl⟩;have es:∀I B,(cG z 50 53 51 52).ev (cQ σ I B)=ls:=fun I B=>by rw[bZ,hls];cases z<;>rfl
 have Qf:(cG z 50 53 51 52).ev σ=ls:=by rw[bZ,hls];cases z<;>rfl
 have ey:∀I B,(cG y 80 83 81 82).ev (cQ σ I B)=s:=fun I B=>by rw[bZ,hs];cases y<;>rfl
 have ey0:(cG y 80 83 81 82).ev σ=s:=by rw[bZ,hs];cases y<;>rfl
 have en0:(dL z 51).ev σ=(F.lets.length:Int):=by
  rw[bZ];cases z with
  |false=>rfl
  |true=>rw[hz rfl];rfl
 have eny:(dL y 81).ev σ=(E.length:Int):=by
  rw[bZ];cases y with
  |false=>rfl
  |true=>rw[hy rfl];rfl
 have adm:∀I B,(i64 (dL y 81)).ev (cQ σ I B)=iV E.length:=fun I B=>by
  rw[bZ];cases y with
  |false=>rfl
  |true=>rw[hy rfl];rfl
 have Dn:=bM hX f2;refine((fi3 z y).go σ F2 (by
  show[some _,some _,some _,some _]=[some ((cG y 80 83 81 82).ev σ),some _,some _,some _];rw[ey0,bZ];rfl) ⟨by rw[bZ];show(!decide ((ef F).1=0))=false;rw[decide_eq_true h0];rfl,by
   show(!decide ((dL y 81).ev σ=(dL z 51).ev σ))=false;rw[en0,eny,decide_eq_true (by rw[hlE])];rfl,trivial⟩ ⟨by
   rw[Qf,bZ];exact bE Dn (i:=0) rfl,trivial⟩).trans fun g3 w3 cn=>?_
 obtain⟨I3,B3,cC,rfl,f3,F3,_⟩:=cn;have oT:FA 10 47 (.inRegion (opsOf (q9 28)) [10,11,12]::[.code (q9 29),.code (q9 15)]) [] .normal [(2,s),(3,bI X),(4,bI Y),(26,.bool false),(27,s),(29,iV E.length)] cC:=by
  have h1:FA 10 47 (.inRegion (opsOf (q9 28)) [10,11,12]::[.code (q9 29),.code (q9 15)]) [] .normal [(2,(cG y 80 83 81 82).ev (cQ σ I3 B3)),(3,bI X),(4,bI Y),(26,.bool false),(27,(cG y 80 83 81 82).ev (cQ σ I3 B3)),(29,(i64 (dL y 81)).ev (cQ σ I3 B3))] cC:=by rw[bZ]at F3⊢;exact F3
  rw[ey,adm]at h1;exact h1
 have f13:=f12.trans f3;refine(fi4.go (bL [] [] [(27,s),(29,iV E.length)]) (Q:=fun v w'=>v=.bool true) oT rfl fun w' f4=>(Az (hE.keep (f13.trans f4)) (ax _) (by omega)).mono fun v w2 hd=>⟨hd.1,by have:=hd.2;rw[List.take_length,hok]at this;exact this⟩).trans fun g4 w4 c9=>?_
 obtain⟨eg,vv,rfl,f4,rfl,F4⟩:=c9;refine((fi5 z).go σ F4 (by rw[bZ];rfl) trivial ⟨by rw[Qf,bZ];exact(f3.trans f4).cell (bE Dn (i:=0) rfl),trivial⟩).trans fun g5 w5 d_=>?_
 obtain⟨I5,B5,gh,rfl,f5,F5,_⟩:=d_;have f15:=f13.trans (f4.trans f5);have fb:=f2.trans (f3.trans (f4.trans f5));have OD:FA 10 47 FiH [] .normal [(2,s),(3,bI X),(4,bI Y),(34,ew z A o F.lets.length c),(35,iV F.lets.length),(36,iV (0:Nat))] gh:=by
  rw[bZ]at F5;cases z with
  |false=>exact F5
  |true=>rw[hz rfl];exact F5
 refine(GC (w0:=w5) (os:=os) hz oU (fun i x hi=>(cL i x hi).keep f15) (hE.keep f15) (nV h0) hw hlE hlen ji (by rw[<-hls];exact bM hX fb) (bM hY fb) F.lets.length 0 (by omega) (bA.refl _) OD).mono fun g6 w6 dj=>?_;obtain⟨dJ,rfl,f6,hL⟩:=dj;exact⟨dJ,_,rfl,hL,f15.trans f6,rfl⟩
end
end
section
variable {w w0:World}{cs:List Frame}{fr:Frame}{m:cU}
theorem IF{k:List Item}{R:Nat}{a b n:Value}(hf:FA 16 68 (.code .ret::k) [] .normal [(8,bI R),(9,n)] fr)(h0:w.cell? ⟨R,0,none⟩=some a)(h1:w.cell? ⟨R,1,none⟩=some b):
  Goes (G fr cs) w fun g' w'=>∃fr',g'=G fr' cs∧w'=w∧cV 16 fr' w' (.tuple #[.agg #[a,b],n]):=
 kV (ρ:=bL [] [(62,R)] [(40,a),(41,b),(42,n)]) (lA:=[(8,bz 62),(9,.bC 42)]) (bs:=[]) (mem:=[(⟨.dyn 62,.lit 0⟩,.bC 40),(⟨.dyn 62,.lit 1⟩,.bC 41)]) hf (a:=.tuple [.agg [.bC 40,.bC 41],.bC 42]) (fun p hp=>by
  simp only[told,aK,List.map_nil,aj,az,or_false]at hp;rcases hp with rfl|rfl
  ·exact cD rfl
  ·exact cD rfl) (fun st=>by kernel_rfl) (nofun) (fun q hq=>by
  simp only[aj,az,or_false]at hq;rcases hq with rfl|rfl
  ·exact h0
  ·exact h1)
theorem OE{x s:Value}{F:gU}{E:List (Int×Int)}{i:Nat}{y:cH}{t:T}(h:oy w x F)(hE:dY w s E)(h0:(ef F).1=0)(hi:F.lets[i]?=some y)(hg:m9 y i t)(RX:dM y=false)(hiE:i≤E.length)(hok:(E.take i).any jH=false)(JH:E.length≤4294967000)(hlen:F.lets.length≤1000000)(ji:∀x∈F.lets,x.tree.length≤999999):
  dS 16 #[x,iV i,c_ m,s] w fun v w'=>bA w w'∧v=.tuple #[dh (lS E m t),iV 0]:=by
 obtain⟨ls,os,rfl,hl,ho⟩:=h;obtain⟨z,A,o,c,hls,hz,oU,cL⟩:=hl.ex;obtain⟨q,A',o',c',hs,hy,Dl,rH⟩:=hE.ex;have hil:i<F.lets.length:=(aq.1 hi).1;cases z with
 |true=>rw[hz rfl]at hil;simp only[aZ]at hil;omega
 |false=>
 have hls:ls=bU A o F.lets.length c:=hls;have hne:=qk hg;have Ok:=ji y (ay hi);obtain⟨At,ot,ct,c0,c1,c2,RP,iD⟩:=lT (cL i y hi) hne;refine cF fun cs=>?_;refine(le1.go (bL [(51,F.lets.length),(52,c),(53,o),(10,i),(21,m.mul),(22,m.add),(23,m.cA),(24,m.panics)] [(50,A)] [(9,os),(3,s)]) (pM Yq rfl (.agg #[ls,os]) (iV i) (c_ m) s) (by rw[hls];rfl) trivial trivial).trans fun g1 w1 hd=>?_;obtain⟨I,B,bT,rfl,f1,F1,bl,inj⟩:=hd;obtain⟨R,eR⟩:∃R,B 102=R:=⟨_,rfl⟩;obtain⟨X,eX⟩:∃X,B 100=X:=⟨_,rfl⟩;obtain⟨Y,eY⟩:∃Y,B 101=Y:=⟨_,rfl⟩;have gR:w.heap.size≤R:=by rw[<-eR];exact bl.1.1
 have hR:(cu.obj 43 [cY 0,iV 0]).at Tryz.prog w1 R:=by rw[<-eR];exact bl.1.2
 have hY:(cu.obj 27 [iV m.mul,iV m.add,iV m.cA,iV m.panics]).at Tryz.prog w1 Y:=by rw[<-eY];exact bl.2.1.2
 have hX:(cu.obj 25 [bU A o F.lets.length c,os]).at Tryz.prog w1 X:=by rw[<-eX];exact bl.2.2.1.2
 have fI:FA 16 68 (.inRegion (opsOf (kK 12)) [1,2,3,4,5,6]::[.code (kK 13),.code (kK 7)]) [] .normal [(1,iV i),(3,s),(4,bI X),(6,bI Y),(8,bI R),(15,.agg #[bU A o F.lets.length c,os])] bT:=by rw[<-eR,<-eX,<-eY];exact F1
 refine(le2.go (bL [] [] [(15,.agg #[bU A o F.lets.length c,os])]) (Q:=fun v w'=>v=.tuple #[iV (ef F).1,iV (ef F).2]) fI rfl fun w' f2=>lP ⟨bU A o F.lets.length c,os,rfl,by rw[<-hls];exact hl.keep (f1.trans f2),ho.keep (f1.trans f2)⟩ hlen ji).trans fun g2 w2 bX=>?_;obtain⟨cB,vv,rfl,f2,rfl,F2⟩:=bX;have f12:=f1.trans f2;obtain⟨σ,bZ⟩:∃σ:Env,σ=Go.Proofs.YtmobbajggkjpgaaGreat.SX.jn [(51,F.lets.length),(52,c),(53,o),(10,i),(5,(ef F).1),(6,(ef F).2),(81,E.length),(82,c'),(83,o'),(71,y.tree.length),(72,ct),(73,ot),(4,y.bY),(21,m.mul),(22,m.add),(23,m.cA),(24,m.panics),(1,dF y)] [(50,A),(64,X),(65,Y),(67,R),(80,A'),(70,At)] [(9,os),(3,s)] [(1,y.name)]:=⟨_,rfl⟩;have ey:∀I B,(cG q 80 83 81 82).ev (cQ σ I B)=s:=fun I B=>by rw[bZ,hs];cases q<;>rfl
 have ey0:(cG q 80 83 81 82).ev σ=s:=by rw[bZ,hs];cases q<;>rfl
 have eny:(dL q 81).ev σ=(E.length:Int):=by
  rw[bZ];cases q with
  |false=>rfl
  |true=>rw[hy rfl];rfl
 have Dn:=bM hX f2;refine((le3 q).go σ F2 (by
  show[some _,some _,some _,some _,some _,some _]=[some _,some ((cG q 80 83 81 82).ev σ),some _,some _,some _,some _];rw[ey0,bZ];rfl) ⟨by rw[bZ];show(!decide ((ef F).1=0))=false;rw[decide_eq_true h0];rfl,by rw[bZ];exact decide_eq_false (by show ¬((i:Int)<0);omega),by rw[bZ];exact decide_eq_false (by show ¬((i:Int)≥((F.lets.length:Nat):Int));omega),by
   show decide ((dL q 81).ev σ<σ.i 10)=false;rw[eny,bZ];exact decide_eq_false (by show ¬((E.length:Int)<(i:Int));omega),trivial⟩ ⟨by
   rw[bZ];exact bE Dn (i:=0) rfl,trivial⟩).trans fun g3 w3 cn=>?_
 obtain⟨I3,B3,cC,rfl,f3,F3,_⟩:=cn;have oT:FA 16 68 (.inRegion (opsOf (kK 28)) [18,19,20]::[.code (kK 29),.code (kK 15)]) [] .normal [(1,iV i),(3,s),(4,bI X),(6,bI Y),(8,bI R),(38,.bool false),(39,s),(40,iV i)] cC:=by
  have h1:FA 16 68 (.inRegion (opsOf (kK 28)) [18,19,20]::[.code (kK 29),.code (kK 15)]) [] .normal [(1,iV i),(3,(cG q 80 83 81 82).ev (cQ σ I3 B3)),(4,bI X),(6,bI Y),(8,bI R),(38,.bool false),(39,(cG q 80 83 81 82).ev (cQ σ I3 B3)),(40,iV i)] cC:=by rw[bZ]at F3⊢;exact F3
  rw[ey]at h1;exact h1
 have f13:=f12.trans f3;refine(le4.go (bL [] [] [(39,s),(40,iV i)]) (Q:=fun v w'=>v=.bool true) oT rfl fun w' f4=>(Az (hE.keep (f13.trans f4)) hiE JH).mono fun v w2 hd=>⟨hd.1,by have:=hd.2;rw[hok]at this;exact this⟩).trans fun g4 w4 c9=>?_
 obtain⟨eg,vv,rfl,f4,rfl,F4⟩:=c9;have f14:=f13.trans f4;have f34:=f3.trans f4;refine(le5.go σ F4 (by rw[bZ];rfl) (cg (i:=10) (n:=51) (I:=i) (N:=F.lets.length) (by rw[bZ];rfl) (by rw[bZ];rfl) hil) ⟨by rw[bZ];exact f34.cell (bE Dn (i:=0) rfl),by rw[bZ];exact f14.cell c0,by rw[bZ];exact f14.cell c1,by rw[bZ];exact f14.cell c2,trivial⟩).trans fun g5 w5 d_=>?_;obtain⟨I5,B5,gh,rfl,f5,F5,AZ,_⟩:=d_;rw[bZ]at F5 AZ;obtain⟨V,eV⟩:∃V,B5 100=V:=⟨_,rfl⟩;have hV:(cu.obj 50 [.string y.name,bU At ot y.tree.length ct,iV y.bY]).at Tryz.prog w5 V:=by rw[<-eV];exact AZ.1.2
 have OD:FA 16 68 (.inRegion (opsOf (kK 124)) [1,2,3,4,5,6,7]::[.code (kK 125),.code (kK 63)]) [] .normal [(3,s),(6,bI Y),(8,bI R),(12,bI V),(50,fy y (bU At ot y.tree.length ct))] gh:=by rw[<-eV];exact F5
 have f15:=f14.trans f5;refine(le6.go (bL [] [] [(50,fy y (bU At ot y.tree.length ct))]) (Q:=fun v w'=>v=cY (dF y)) OD rfl fun w' f6=>mA hne fun i n hi=>(iD i n hi).keep (f15.trans f6)).trans fun g6 w6 dj=>?_;obtain⟨dJ,vv,rfl,f6,rfl,F6⟩:=dj;unfold dM at RX;simp only[Bool.or_eq_false_iff,decide_eq_false_iff_not]at RX;obtain⟨τ,fz⟩:∃τ:Env,τ=Go.Proofs.YtmobbajggkjpgaaGreat.SX.jn [(51,F.lets.length),(52,c),(53,o),(10,i),(81,E.length),(82,c'),(83,o'),(71,y.tree.length),(72,ct),(73,ot),(4,y.bY),(21,m.mul),(22,m.add),(23,m.cA),(24,m.panics),(1,dF y)] [(50,A),(64,X),(65,Y),(66,V),(67,R),(80,A'),(70,At)] [(9,os),(3,s)] [(1,y.name)]:=⟨_,rfl⟩;have ty:∀I B,(cG q 80 83 81 82).ev (cQ τ I B)=s:=fun I B=>by rw[fz,hs];cases q<;>rfl
 have ty0:(cG q 80 83 81 82).ev τ=s:=by rw[fz,hs];cases q<;>rfl
 refine(le7.go τ F6 (by rw[fz];rfl) ⟨by rw[fz];exact decide_eq_false RX.1,trivial⟩ ⟨by rw[fz];exact f6.cell (bE hV (i:=0) rfl),by rw[fz];exact f6.cell (bE hV (i:=1) rfl),by rw[fz];exact f6.cell (bE hV (i:=2) rfl),trivial⟩).trans fun g7 w7 lG=>?_;obtain⟨I7,B7,qj,rfl,f7,F7,_⟩:=lG;rw[fz]at F7;have f17:=f15.trans (f6.trans f7);refine(le8.go (bL [] [] [(54,fy y (bU At ot y.tree.length ct))]) (Q:=fun v w'=>v=cY (dF y)) F7 rfl fun w' f8=>mA hne fun i n hi=>(iD i n hi).keep (f17.trans f8)).trans fun g8 w8 xg=>?_;obtain⟨Iu,vv,rfl,f8,rfl,F8⟩:=xg;have f58:=f6.trans (f7.trans f8);have fY:=f2.trans (f34.trans (f5.trans f58));refine((le9 q).go τ F8 (by show[some _,some _,some _,some _,some _,some _]=[some ((cG q 80 83 81 82).ev τ),some _,some _,some _,some _,some _];rw[ty0,fz];rfl) ⟨by rw[fz];exact decide_eq_false RX.2,trivial⟩ ⟨by rw[fz];exact f58.cell (bE hV (i:=0) rfl),by rw[fz];exact f58.cell (bE hV (i:=1) rfl),by rw[fz];exact f58.cell (bE hV (i:=2) rfl),by rw[fz];exact fY.cell (bE hY (i:=0) rfl),by rw[fz];exact fY.cell (bE hY (i:=1) rfl),by rw[fz];exact fY.cell (bE hY (i:=2) rfl),by rw[fz];exact fY.cell (bE hY (i:=3) rfl),trivial⟩).trans fun g9 w9 xh=>?_
 obtain⟨I9,B9,AY,rfl,f9,F9,bl9,_⟩:=xh;obtain⟨W,eW⟩:∃W,B9 100=W:=⟨_,rfl⟩;have hW:(cu.obj 69 [bU At ot y.tree.length ct,s,iV m.mul,iV m.add,iV m.cA,iV m.panics]).at Tryz.prog w9 W:=by
  have h1:(cu.obj 69 [bU At ot y.tree.length ct,(cG q 80 83 81 82).ev (cQ τ I9 B9),iV m.mul,iV m.add,iV m.cA,iV m.panics]).at Tryz.prog w9 (B9 100):=by have:=bl9.1.2;rw[fz]at this⊢;exact this
  rw[ty,eW]at h1;exact h1
 have F9':FA 16 68 (.inRegion (opsOf (kK 254)) [1,2,3,4]::[.code .ret]) [] .normal [(8,bI R),(65,bI W)] AY:=by rw[fz]at F9;rw[<-eW];exact F9
 have f19:=f17.trans (f8.trans f9);have wk:mu w9 W y.tree At ot ct s m:=⟨bE hW (i:=0) rfl,bE hW (i:=1) rfl,bE hW (i:=2) rfl,bE hW (i:=3) rfl,bE hW (i:=4) rfl,bE hW (i:=5) rfl,fun i n hi=>(iD i n hi).keep f19⟩;refine(leA.go (bL [] [] [(65,bI W)]) (Q:=fun v w'=>v=ga (lS E m t)) F9' rfl fun w' fA=>?_).trans fun gA wA Ys=>?_
 ·exact sZ t (bY:=0) (rest:=[]) (wk.keep fA) (by omega) (hE.keep (f19.trans fA)) hg.wf (hg.nd.mono hiE) (by rw[List.drop_zero,aQ];exact hg.fl)
 obtain⟨frA,vv,rfl,fA,rfl,Yt⟩:=Ys;refine(Cp (e:=lS E m t) adi adj Yt rfl).trans fun gB wB Yu=>?_;obtain⟨frB,rfl,fB,FB'⟩:=Yu;have f1B:=f19.trans (fA.trans fB);have hRB:(cu.obj 43 [cY 0,iV 0]).at Tryz.prog wB R:=bM hR (f2.trans (f34.trans (f5.trans (f58.trans (f9.trans (fA.trans fB))))));obtain⟨κ,gv⟩:∃κ:Env,κ=bL [(11,(lS E m t).1),(12,(lS E m t).2)] [(67,R)] []:=⟨_,rfl⟩;refine(leC.B6 κ FB' (by rw[gv];rfl) trivial trivial (nofun) ⟨⟨.obj 43 [cY 0,iV 0],by rw[gv];exact hRB,rfl,rfl⟩,trivial⟩ ei).trans fun gC wC Yv=>?_;obtain⟨IC,BC,frC,rfl,kp,FC,blC,_⟩:=Yv;have hRC:(cu.obj 43 [cY (lS E m t).1,iV (lS E m t).2]).at Tryz.prog wC R:=by have:=blC.1.2;rw[gv]at this;exact this
 have FC':FA 16 68 (.code .ret::[]) [] .normal [(8,bI R),(9,iV 0)] frC:=by rw[gv]at FC;exact FC
 have fC:bA w wC:=cq f1B (kp.mono fun x hx=>by
  rcases hx with h|⟨p,hp,e⟩
  ·exact aA f1B.size h
  ·obtain rfl:=ah.1 hp;have e:κ.b 67=x:=e;rw[gv]at e;have e:R=x:=e;omega)
 refine(IF FC' (bE hRC (i:=0) rfl) (bE hRC (i:=1) rfl)).mono fun gD wD hdD=>?_;obtain⟨frD,rfl,rfl,hL⟩:=hdD;exact⟨frD,_,rfl,hL,fC,rfl⟩
end
structure Kind(st el sz by_:Nat)(zc:List AV):Prop where
 under:under? Tryz.prog st=.ok (.slice el)
 size:sizeOf? Tryz.prog el=.ok sz
 bytes:(Tryz.prog.info? el).map (fun i=>(i.size,i.bytes))=some (sz,by_)
 zero:(zero? Tryz.prog el).toOption.map AV.cells?=some (.ok zc)
 len:zc.length=sz
 pos:0<by_
theorem OF:Kind 28 43 2 16 [i8 (.lit 0),i64 (.lit 0)]:=⟨by kernel_rfl,by kernel_rfl,by kernel_rfl,by kernel_rfl,rfl,by decide⟩
structure ads(w:World)(U:Nat->Prop)(s:Value)(l:List Nd):Prop where
 ex:∃(z:Bool) (A o c:Nat),s=ew z A o l.length c∧(z=true->l=[])∧(z=false->U A∧A<w.heap.size∧l.length≤c)∧∀i n,l[i]?=some n->jF w A (o+i*4) n
theorem cP.hd{w:World}{s:Value}{l:List Nd}(h:cP w s l):∃(z:Bool) (A o c:Nat),s=ew z A o l.length c∧(z=true->l=[])∧(z=false->l.length≤c)∧∀i n,l[i]?=some n->jF w A (o+i*4) n:=by
 rcases h.ex with⟨h1,h2⟩|⟨A,o,c,h1,h2,h3⟩
 ·exact⟨true,0,0,0,h1,fun _=>h2,(fun h=>by cases h),fun i n hi=>by rw[h2]at hi;cases hi⟩
 ·exact⟨false,A,o,c,h1,(fun h=>by cases h),fun _=>h2,h3⟩
structure ig(w:World)(s:Value)(l:List Nd):Prop where
 ex:cP w s l∨(l=[]∧∃a c,s=.slice a 0 c)
structure pS(w:World)(A o:Nat)(x:cH):Prop where
 ex:∃ts,w.cell? ⟨A,o,none⟩=some (.string x.name)∧w.cell? ⟨A,o+1,none⟩=some ts∧w.cell? ⟨A,o+2,none⟩=some (iV x.bY)∧ig w ts x.tree
structure nA(w:World)(s:Value)(L:List cH):Prop where
 ex:∃(z:Bool) (A o c:Nat),s=ew z A o L.length c∧(z=true->L=[])∧(z=false->L.length≤c)∧∀i x,L[i]?=some x->pS w A (o+i*3) x
def mC(w:World)(x:Value)(F:gU):Prop:=∃ls os,x=.agg #[ls,os]∧nA w ls F.lets∧kB w os F.outs
theorem ig.keep{w w':World}{s:Value}{l:List Nd}(h:ig w s l)(f:bA w w'):ig w' s l:=⟨h.ex.imp (fun h=>h.keep f) id⟩
theorem pS.keep{w w':World}{A o:Nat}{x:cH}(h:pS w A o x)(f:bA w w'):pS w' A o x:=by obtain⟨ts,h1,h2,h3,h4⟩:=h.ex;exact⟨ts,f.cell h1,f.cell h2,f.cell h3,h4.keep f⟩
theorem nA.keep{w w':World}{s:Value}{L:List cH}(h:nA w s L)(f:bA w w'):nA w' s L:=by obtain⟨z,A,o,c,h1,h2,h3,h4⟩:=h.ex;exact⟨z,A,o,c,h1,h2,h3,fun i x hi=>(h4 i x hi).keep f⟩
theorem mC.keep{w w':World}{x:Value}{F:gU}(h:mC w x F)(f:bA w w'):mC w' x F:=by obtain⟨ls,os,h1,h2,h3⟩:=h;exact⟨ls,os,h1,h2.keep f,h3.keep f⟩
theorem uL{ops:Array Oper}(hp:∀i,i<ops.size->∀p∈ja ops i,p<i):∀(late:List Nat) {r l:List Nat},je ops r l->(∀i,i<ops.size->i∈r∨i∈late)->(∀i∈late,i<ops.size∧i∉r)->late.Pairwise (fun a b=>a≠b∧a∈ja ops b)->l=late
 |[],r,l,hs,h1,h2,h3=>by
  cases l with
  |nil=>rfl
  |cons i l=>
   obtain⟨q1,q2,q3⟩:=qi hs.1;rcases h1 i q1 with h|h
   ·exact(q2 h).elim
   ·cases h
 |a::late,r,l,hs,h1,h2,h3=>by
  obtain⟨ha,har⟩:=h2 a (ai ..);cases l with
  |nil=>exact(har (rF hp hs a ha)).elim
  |cons i l=>
   obtain⟨q1,q2,q3⟩:=qi hs.1;have hia:i=a:=by
    rcases h1 i q1 with h|h
    ·exact(q2 h).elim
    ·rcases aj.1 h with h|h
     ·exact h
     ·have:=(List.pairwise_cons.1 h3).1 i h;exact(har (q3 a this.2)).elim
   subst hia;have:=uL hp late (r:=i::r) (l:=l) hs.2 (fun j hj=>?_) (fun j hj=>?_) (List.pairwise_cons.1 h3).2
   ·rw[this]
   ·rcases h1 j hj with h|h
    ·exact .inl (aa _ h)
    ·rcases aj.1 h with rfl|h
     ·exact .inl (ai ..)
     ·exact .inr h
   ·refine⟨(h2 j (aa _ hj)).1,fun h=>?_⟩;rcases aj.1 h with rfl|h
    ·exact((List.pairwise_cons.1 h3).1 j hj).1 rfl
    ·exact(h2 j (aa _ hj)).2 h
section
variable {fn nt n:Nat}{ops:Array Oper}{k:List Item}{b:List (Nat×Value)}{cs:List Frame}
theorem ij{nm:Nat->Nat}{val:Nat->Value->World->Prop}{early:Nat->Bool}{late:List Nat}(hsz:ops.size=n)(h1:((List.range n).all fun i=>(ja ops i).all fun p=>Nat.blt p i)=true)(h2:((List.range n).all fun i=>early i||((List.range n).all fun j=>!early j||(ja ops i).contains j))=true)(h3:((List.range n).all fun i=>(b.map (·.1)).all fun x=>!Nat.beq x (nm i))=true)(h4:((List.range n).all fun i=>(List.range n).all fun j=>Nat.beq i j||!Nat.beq (nm j) (nm i))=true)(h5:((List.range n).all fun i=>early i||late.contains i)=true)(h6:(late.all fun i=>Nat.blt i n&&!early i)=true)(h7:late.Pairwise (fun a b=>a≠b∧a∈ja ops b))
 (keep:∀i v w w',val i v w->bA w w'->val i v w'){w0:World}
 (step:∀i,i<n->early i=true->∀(l:List Nat) (w:World) (fr:Frame) (lv:List (Nat×Value)),bA w0 w->FA fn nt (.inRegion ops (i::l)::k) [] .normal lv fr->(∀x∈b,x∈lv)->(∀p∈ja ops i,∃v,(nm p,v)∈lv∧val p v w)->
   Goes (G fr cs) w fun g' w'=>∃fr' v,g'=G fr' cs∧bA w w'∧val i v w'∧FA fn nt (.inRegion ops l::k) [] .normal (fL (nm i) v lv) fr'):
  ∀(l r:List Nat) {w:World} {fr:Frame},bA w0 w->(∀i∈r,i<n∧early i=true)->je ops r l->DrG fn nt ops k b nm val r l fr w->Goes (G fr cs) w fun g' w'=>∃fr' lv,g'=G fr' cs∧bA w0 w'∧FA fn nt (.inRegion ops late::k) [] .normal lv fr'∧(∀x∈b,x∈lv)∧∀i,i<n->early i=true->∃v,(nm i,v)∈lv∧val i v w':=by
 have hp:=K3 hsz h1;have stop:∀{l r:List Nat} {w:World} {fr:Frame},bA w0 w->(∀i∈r,i<n∧early i=true)->(∀i,i<n->early i=true->i∈r)->je ops r l->DrG fn nt ops k b nm val r l fr w->Goes (G fr cs) w fun g' w'=>∃fr' lv,g'=G fr' cs∧bA w0 w'∧FA fn nt (.inRegion ops late::k) [] .normal lv fr'∧(∀x∈b,x∈lv)∧∀i,i<n->early i=true->∃v,(nm i,v)∈lv∧val i v w':=fun{l r w fr} fw hr hall hs D=>by
  have hll:l=late:=uL hp late hs (fun i hi=>by
   rw[hsz]at hi;have:=aD.1 h5 i (List.mem_range.2 hi);simp only[Bool.or_eq_true]at this;rcases this with h|h
   ·exact .inl (hall i hi h)
   ·exact .inr (by simpa using h)) (fun i hi=>by
   have:=aD.1 h6 i hi;simp only[an,Bool.not_eq_true']at this;refine⟨by rw[hsz];exact Nat.blt_eq.mp this.1,fun h=>?_⟩;have:=(hr i h).2
   simp_all) h7
  subst hll;obtain⟨lv,g1,g2,g3⟩:=D.ex;exact .here ⟨fr,lv,rfl,fw,g1,g2,fun i hi he=>g3 i (hall i hi he)⟩
 intro l
 induction l with
 |nil=>intro r w fr fw hr hs D;exact stop fw hr (fun i hi he=>rF hp hs i (by rw[hsz];exact hi)) hs D
 |cons i l ih=>
  intro r w fr fw hr hs D;obtain⟨q1,q2,q3⟩:=qi hs.1;rw[hsz]at q1;cases he:early i with
  |false=>refine stop fw hr (fun j hj hje=>?_) hs D;have:=aD.1 h2 i (List.mem_range.2 q1);rw[he,Bool.false_or]at this;have:=aD.1 this j (List.mem_range.2 hj);rw[hje]at this;exact q3 j (by simpa using this)
  |true=>
   obtain⟨lv,g1,g2,g3⟩:=D.ex;refine(step i q1 he l w fr lv fw g1 g2 fun p VH=>g3 p (q3 p VH)).trans fun g1 w1 hd=>?_;obtain⟨bT,v,rfl,f1,hv,F1⟩:=hd;have AU:∀x∈b,x.1≠nm i:=fun x hx h=>by have:=aD.1 h3 i (List.mem_range.2 q1);have:=aD.1 this x.1 (bq.2 ⟨x,hx,rfl⟩);rw[h]at this;simp at this
   refine ih (i::r) (fw.trans f1) (fun j hj=>?_) hs.2 ⟨_,F1,fun x hx=>?_,fun j hj=>?_⟩
   ·rcases aj.1 hj with rfl|hj
    ·exact⟨q1,he⟩
    ·exact hr j hj
   ·exact aa _ (aW.2 ⟨g2 x hx,by simpa using AU x hx⟩)
   ·rcases aj.1 hj with rfl|hj
    ·exact⟨v,ai ..,hv⟩
    ·obtain⟨u,h8,h9⟩:=g3 j hj;refine⟨u,aa _ (aW.2 ⟨h8,?_⟩),keep _ _ _ _ h9 f1⟩;have hne:i≠j:=fun e=>q2 (e▸hj);have:=aD.1 h4 i (List.mem_range.2 q1);have:=aD.1 this j (List.mem_range.2 (hr j hj).1);simp only[Bool.or_eq_true,Bool.not_eq_true']at this;rcases this with h|h
     ·exact(hne (aH h)).elim
     ·have:nm j≠nm i:=fun e=>by rw[e]at h;simp at h
      simpa using this
end
noncomputable def q5(l:Nat):Code:=pc (bD Tryz.f5) (pd l)
theorem adt:bP Tryz.prog 5 [.bC 0] .normal=.ok ⟨5,28,c8 5 [.bC 0],[.code (bD Tryz.f5)],[],.run,.normal⟩:=by kernel_rfl
theorem RY:dP 5 28 2:=fun st=>by kernel_rfl
noncomputable def q18(l:Nat):Code:=pc (bD Tryz.f6) (pd l)
theorem Yw:bP Tryz.prog 6 [.bC 0] .normal=.ok ⟨6,5,c8 6 [.bC 0],[.code (bD Tryz.f6)],[],.run,.normal⟩:=by kernel_rfl
theorem Yx:dP 6 5 2:=fun st=>by kernel_rfl
noncomputable def pU(l:Nat):Code:=pc (bD Tryz.f18) (pd l)
theorem Yy:bP Tryz.prog 18 [.bC 0] .normal=.ok ⟨18,41,c8 18 [.bC 0],[.code (bD Tryz.f18)],[],.run,.normal⟩:=by kernel_rfl
theorem Qg:dP 18 41 2:=fun st=>by kernel_rfl
theorem lg1:Pc 6 5 [.code (bD Tryz.f6)] ([(0,i64 (v 1))]) [] [] [] 10 [] [2] [.code .ret] [.bool (.cmp .gtr (v 1) (.lit 2147483647))] []:={}
noncomputable abbrev nY:List Item:=[.code (pU 116),.inLoop (pU 116),.inBlock 0,.code (pU 15)]
theorem Yz:Pc 18 41 [.code (bD Tryz.f18)] ([(0,.agg [sA 50 53 51 52,sA 60 66 67 68])]) [] [] [] 23 [100] [1,3,4] nY [bz 100,i64 (.op .add .i64 (.tn (v 51)) (.tn (v 67))),i64 (.lit 0)] [(100,.cells [sA 50 53 51 52,sA 60 66 67 68] 25)]:={}
theorem YA:Pc 18 41 [.code (bD Tryz.f18)] ([(0,.agg [cj,sA 60 66 67 68])]) [] [] [] 23 [100] [1,3,4] nY [bz 100,i64 (.op .add .i64 (.lit 0) (.tn (v 67))),i64 (.lit 0)] [(100,.cells [cj,sA 60 66 67 68] 25)]:={}
theorem YB:Pc 18 41 [.code (bD Tryz.f18)] ([(0,.agg [sA 50 53 51 52,cj])]) [] [] [] 23 [100] [1,3,4] nY [bz 100,i64 (.op .add .i64 (.tn (v 51)) (.lit 0)),i64 (.lit 0)] [(100,.cells [sA 50 53 51 52,cj] 25)]:={}
theorem YC:Pc 18 41 [.code (bD Tryz.f18)] ([(0,.agg [cj,cj])]) [] [] [] 23 [100] [1,3,4] nY [bz 100,i64 (.lit 0),i64 (.lit 0)] [(100,.cells [cj,cj] 25)]:={}
theorem sz2(y:Bool):Pc 18 41 nY ([(1,bz 64),(3,i64 (v 7)),(4,i64 (v 10)),(0,.bC 0),(2,.bC 2),(5,.bC 5),(6,.bC 6),(7,.bC 7),(8,.bC 8),(9,.bC 9),(10,.bC 10),(11,.bC 11),(12,.bC 12),(13,.bC 13),(14,.bC 14),(15,.bC 15),(16,.bC 16),(17,.bC 17),(18,.bC 18),(19,.bC 19),(20,.bC 20),(21,.bC 21),(22,.bC 22),(23,.bC 23),(24,.bC 24),(25,.bC 25),(26,.bC 26),(27,.bC 27),(28,.bC 28),(29,.bC 29),(30,.bC 30),(31,.bC 31),(32,.bC 32),(33,.bC 33),(34,.bC 34),(35,.bC 35),(36,.bC 36),(37,.bC 37),(38,.bC 38),(39,.bC 39),(40,.bC 40)]) (fN 10 51++[((.cmp .leq (v 7) (.lit 2147483647)),true)]) [(eD 64 0,sA 50 53 51 52),(eB 50 53 10 3,ss 1),(eA 50 53 10 3 1,cG y 70 73 71 72)] [] 25 [] [1,3,4] nY [bz 64,i64 (.op .add .i64 (.op .add .i64 (v 7) (.jj (.var 1))) (dL y 71)),i64 (.op .add .i64 (v 10) (.lit 1))] []:=Pc.full (fun st=>by cases y<;>kernel_rfl) (by cases y<;>kernel_rfl) (by cases y<;>kernel_rfl) (by cases y<;>kernel_rfl) (of_decide_eq_true (by kernel_rfl))
theorem sz3(z:Bool):Pc 18 41 nY ([(1,bz 64),(3,i64 (v 7)),(4,i64 (v 10))]) [((.cmp .lss (v 10) (dL z 51)),false)] [(eD 64 0,cG z 50 53 51 52)] [] 20 [] [2] [.code .ret] [i64 (v 7)] []:=by cases z<;>exact{}
theorem sz4:Pc 18 41 nY ([(1,bz 64),(3,i64 (v 7)),(4,i64 (v 10))]) [((.cmp .lss (v 10) (.tn (v 51))),true),((.cmp .leq (v 7) (.lit 2147483647)),false)] qI [] 20 [] [2] [.code .ret] [i64 (v 7)] []:={}
theorem wd1(z:Bool):Pc 5 28 [.code (bD Tryz.f5)] ([(0,.agg [cG z 50 53 51 52,.bC 9])]) [] [] [] 9 [100] [1,4] [.inRegion (opsOf (q5 12)) [1,2,3,4,5,6,7,8],.code (q5 13),.code (q5 7)] [bz 100,.agg [cG z 50 53 51 52,.bC 9]] [(100,.cells [cG z 50 53 51 52,.bC 9] 25)]:=by cases z<;>exact{}
theorem wd2:di 28 (opsOf (q5 12)) 1 [(4,.bC 4)] 18 [.bC 4] 5:={}
theorem wd3:di 28 (opsOf (q5 12)) 2 [(5,.bC 5)] 6 [.bC 5] 6:={}
noncomputable abbrev RZ:List Item:=[.inRegion (opsOf (q5 12)) [3,4,5,6,7,8],.code (q5 13),.code (q5 7)]
theorem wd4:Pc 5 28 RZ ([(1,bz 64),(6,TB)]) [] [] [] 12 [] [2] [.code .ret,.code (q5 7)] [TB] []:={}
theorem wd5:Pc 5 28 RZ ([(1,bz 64),(6,FB)]) [((.cmp .gtr (.tn (v 51)) (.lit 256)),true)] qI [] 12 [] [2] [.code .ret,.code (q5 7)] [TB] []:={}
noncomputable abbrev uM:List Item:=[.code (q5 116),.inLoop (q5 116),.inBlock 0,.code (q5 15)]
theorem wd6(z:Bool):Pc 5 28 RZ ([(1,bz 64),(6,FB)]) [((.cmp .gtr (dL z 51) (.lit 256)),false)] [(eD 64 0,cG z 50 53 51 52)] [] 16 [] [1,3] uM [bz 64,i64 (.lit 0)] []:=by cases z<;>exact{}
theorem OG:Pc 5 28 uM ([(1,bz 64),(3,i64 (v 10))]) (fN 10 51++[((.cmp .gtr (.tn (v 71)) (.lit 1024)),true)]) [(eD 64 0,sA 50 53 51 52),(eA 50 53 10 3 1,sA 70 73 71 72)] [] 29 [] [2] [.code .ret,.inBlock 1,.code (q5 467),.inLoop (q5 116),.inBlock 0,.code (q5 15)] [TB] []:={}
theorem LS(y:Bool):Pc 5 28 uM ([(1,bz 64),(3,i64 (v 10))]) (fN 10 51++[((.cmp .gtr (dL y 71) (.lit 1024)),false)]) [(eD 64 0,sA 50 53 51 52),(eA 50 53 10 3 1,cG y 70 73 71 72)] [] 33 [] [1,3] uM [bz 64,i64 (.op .add .i64 (v 10) (.lit 1))] []:=by cases y<;>exact{}
theorem adu(a:Option Addr)(c:Nat):Pc 5 28 uM ([(1,bz 64),(3,i64 (v 10))]) (fN 10 51++[((.cmp .gtr (.lit 0) (.lit 1024)),false)]) [(eD 64 0,sA 50 53 51 52),(eA 50 53 10 3 1,.raw (.slice a 0 c))] [] 33 [] [1,3] uM [bz 64,i64 (.op .add .i64 (v 10) (.lit 1))] []:={}
theorem wd9(z:Bool):Pc 5 28 uM ([(1,bz 64),(3,i64 (v 10))]) [((.cmp .lss (v 10) (dL z 51)),false)] [(eD 64 0,cG z 50 53 51 52)] [] 15 [] [2] [.code .ret] [FB] []:=by cases z<;>exact{}
theorem sw1:Pc 18 41 nY ([(1,bz 64),(3,i64 (v 7)),(4,i64 (v 10))]) (fN 10 51++[((.cmp .leq (v 7) (.lit 2147483647)),true)]) [(eD 64 0,sA 50 53 51 52),(eB 50 53 10 3,.ss (.var 1)),(eA 50 53 10 3 1,.bC 70)] [] 17 [] [1,3,4] [.code (pU 932),.inBlock 1,.code (pU 467),.inLoop (pU 116),.inBlock 0,.code (pU 15)] [bz 64,i64 (v 7),i64 (v 10)] []:={}
theorem adv:dD 41 (opsOf (pU 932)) 0 [] [] [(3,i64 (v 7))] (i64 (v 7)) 23:={}
theorem adw:dD 41 (opsOf (pU 932)) 1 [] [] [(1,bz 64)] (bz 64) 24:={}
theorem adx:dD 41 (opsOf (pU 932)) 2 [] qI [(24,bz 64)] (sA 50 53 51 52) 25:={}
theorem ady:dD 41 (opsOf (pU 932)) 3 [] [] [(4,i64 (v 10))] (i64 (v 10)) 26:={}
theorem adz:dD 41 (opsOf (pU 932)) 4 (fN 10 51) [] [(25,sA 50 53 51 52),(26,i64 (v 10))] (.ptr (some (eB 50 53 10 3))) 27:={}
theorem adA:dD 41 (opsOf (pU 932)) 5 [] [] [(27,.ptr (some (eB 50 53 10 3)))] (.ptr (some (eB 50 53 10 3))) 28:={}
theorem adB:dD 41 (opsOf (pU 932)) 6 [] [(eB 50 53 10 3,.ss (.var 1))] [(28,.ptr (some (eB 50 53 10 3)))] (.ss (.var 1)) 29:={}
theorem adC:dD 41 (opsOf (pU 932)) 7 [] [] [(29,.ss (.var 1))] (i64 (.jj (.var 1))) 30:={}
theorem adD:dD 41 (opsOf (pU 932)) 8 [] [] [(23,i64 (v 7)),(30,i64 (v 8))] (i64 (.op .add .i64 (v 7) (v 8))) 31:={}
theorem adE:dD 41 (opsOf (pU 932)) 9 [] [] [(1,bz 64)] (bz 64) 32:={}
theorem YD:dD 41 (opsOf (pU 932)) 10 [] qI [(32,bz 64)] (sA 50 53 51 52) 33:={}
theorem YE:dD 41 (opsOf (pU 932)) 11 [] [] [(4,i64 (v 10))] (i64 (v 10)) 34:={}
theorem YF:dD 41 (opsOf (pU 932)) 12 (fN 10 51) [] [(33,sA 50 53 51 52),(34,i64 (v 10))] (.ptr (some (eB 50 53 10 3))) 35:={}
theorem YG:dD 41 (opsOf (pU 932)) 13 [] [] [(35,.ptr (some (eB 50 53 10 3)))] (.ptr (some (eA 50 53 10 3 1))) 36:={}
theorem YH:dD 41 (opsOf (pU 932)) 14 [] [(eA 50 53 10 3 1,.bC 70)] [(36,.ptr (some (eA 50 53 10 3 1)))] (.bC 70) 37:={}
theorem YI(a:Option Addr)(c:Nat):dD 41 (opsOf (pU 932)) 15 [] [] [(37,.raw (.slice a 0 c))] (i64 (.lit 0)) 38:={}
theorem YJ:dD 41 (opsOf (pU 932)) 16 [] [] [(31,i64 (v 8)),(38,i64 (v 9))] (i64 (.op .add .i64 (v 8) (v 9))) 39:={}
theorem YK:dD 41 (opsOf (pU 932)) 17 [] [] [(39,i64 (v 8))] (i64 (v 8)) 3:={}
theorem adF:Pc 18 41 [.inRegion (opsOf (pU 932)) [],.inBlock 1,.code (pU 467),.inLoop (pU 116),.inBlock 0,.code (pU 15)] ([(1,bz 64),(3,i64 (v 7)),(4,i64 (v 10))]) [] [] [] 8 [] [1,3,4] nY [bz 64,i64 (v 7),i64 (.op .add .i64 (v 10) (.lit 1))] []:={}
noncomputable abbrev dW:Array Oper:=opsOf (pU 932)
noncomputable abbrev SzT:List Item:=[.inBlock 1,.code (pU 467),.inLoop (pU 116),.inBlock 0,.code (pU 15)]
def nW(i:Nat):Nat:=if i=17 then 200 else i+23
def vW(X A o c L i:Nat)(s:Int)(nm:ByteArray)(a:Option Addr)(c' j:Nat)(v:Value):Prop:=match j with
 |0=>v=iV s
 |1=>v=bI X
 |2=>v=bU A o L c
 |3=>v=iV i
 |4=>v=.pointer (some ⟨A,o+i*3,none⟩)
 |5=>v=.pointer (some ⟨A,o+i*3,none⟩)
 |6=>v=.string nm
 |7=>∃n,v=iV n
 |8=>∃n,v=iV n
 |9=>v=bI X
 |10=>v=bU A o L c
 |11=>v=iV i
 |12=>v=.pointer (some ⟨A,o+i*3,none⟩)
 |13=>v=.pointer (some ⟨A,o+i*3+1,none⟩)
 |14=>v=.slice a 0 c'
 |15=>v=iV 0
 |_=>∃n,v=iV n
section
variable {w w0:World}{cs:List Frame}{fr:Frame}
theorem OH{X A o c L i:Nat}{s:Int}{nm:ByteArray}{a:Option Addr}{c':Nat}{k:List Item}(hX:w0.cell? ⟨X,0,none⟩=some (bU A o L c))(c0:w0.cell? ⟨A,o+i*3,none⟩=some (.string nm))(c1:w0.cell? ⟨A,o+i*3+1,none⟩=some (.slice a 0 c'))(hlt:i<L):
  ∀j,j<18->Nat.blt j 17=true->∀(l:List Nat) (w:World) (fr:Frame) (lv:List (Nat×Value)),bA w0 w->FA 18 41 (.inRegion dW (j::l)::k) [] .normal lv fr->(∀x∈[(1,bI X),(3,iV s),(4,iV i)],x∈lv)->(∀p∈ja dW j,∃v,(nW p,v)∈lv∧vW X A o c L i s nm a c' p v)->
   Goes (G fr cs) w fun g' w'=>∃fr' v,g'=G fr' cs∧bA w w'∧vW X A o c L i s nm a c' j v∧FA 18 41 (.inRegion dW l::k) [] .normal (fL (nW j) v lv) fr':=by
 intro j hj he l w fr lv f hf hb hp;have b1:((1,bI X):Nat×Value)∈lv:=hb _ (by simp);have b3:((3,iV s):Nat×Value)∈lv:=hb _ (by simp);have b4:((4,iV i):Nat×Value)∈lv:=hb _ (by simp);have one:∀{q:Nat×Value} {k:Nat} {v:Value},(k,v)∈lv->q∈[(k,v)]->q∈lv:=fun h hq=>by obtain rfl:=ah.1 hq;exact h
 have he:=Nat.blt_eq.mp he;obtain⟨ρ,hρ⟩:∃ρ:Env,ρ=Go.Proofs.YtmobbajggkjpgaaGreat.SX.jn [(51,L),(52,c),(53,o),(10,i),(7,s)] [(64,X),(50,A)] [(70,.slice a 0 c')] [(1,nm)]:=⟨_,rfl⟩;have lt:=cg (ρ:=ρ) (i:=10) (n:=51) (I:=i) (N:=L) (by rw[hρ];rfl) (by rw[hρ];rfl) hlt;rcases(by omega:j=0∨j=1∨j=2∨j=3∨j=4∨j=5∨j=6∨j=7∨j=8∨j=9∨j=10∨j=11∨j=12∨j=13∨j=14∨j=15∨j=16)with rfl|rfl|rfl|rfl|rfl|rfl|rfl|rfl|rfl|rfl|rfl|rfl|rfl|rfl|rfl|rfl|rfl
 ·exact adv.dc ρ hf (by decide) (fun q hq=>by rw[hρ]at hq;exact one b3 hq) trivial trivial (by rw[hρ];rfl)
 ·exact adw.dc ρ hf (by decide) (fun q hq=>by rw[hρ]at hq;exact one b1 hq) trivial trivial (by rw[hρ];rfl)
 ·obtain⟨v1,q1,e1⟩:=hp 1 (dy (by kernel_rfl));have e1:v1=bI X:=e1;subst e1;exact adx.dc ρ hf (by decide) (fun q hq=>by rw[hρ]at hq;exact one q1 hq) trivial ⟨by rw[hρ];exact f.cell hX,trivial⟩ (by rw[hρ];rfl)
 ·exact ady.dc ρ hf (by decide) (fun q hq=>by rw[hρ]at hq;exact one b4 hq) trivial trivial (by rw[hρ];rfl)
 ·obtain⟨v2,q2,e2⟩:=hp 2 (dy (by kernel_rfl));have e2:v2=bU A o L c:=e2;subst e2;obtain⟨v3,q3,e3⟩:=hp 3 (dy (by kernel_rfl));have e3:v3=iV i:=e3;subst e3;exact adz.dc ρ hf (by decide) (fun q hq=>by
   rw[hρ]at hq;rcases aj.1 hq with rfl|hq
   ·exact q2
   ·exact one q3 hq) lt trivial (by rw[hρ];rfl)
 ·obtain⟨v4,q4,e4⟩:=hp 4 (dy (by kernel_rfl));have e4:v4=.pointer (some ⟨A,o+i*3,none⟩):=e4;subst e4;exact adA.dc ρ hf (by decide) (fun q hq=>by rw[hρ]at hq;exact one q4 hq) trivial trivial (by rw[hρ];rfl)
 ·obtain⟨v5,q5,e5⟩:=hp 5 (dy (by kernel_rfl));have e5:v5=.pointer (some ⟨A,o+i*3,none⟩):=e5;subst e5;exact adB.dc ρ hf (by decide) (fun q hq=>by rw[hρ]at hq;exact one q5 hq) trivial ⟨by rw[hρ];exact f.cell c0,trivial⟩ (by rw[hρ];rfl)
 ·obtain⟨v6,q6,e6⟩:=hp 6 (dy (by kernel_rfl));have e6:v6=.string nm:=e6;subst e6;refine(adC.dc ρ hf (by decide) (fun q hq=>by rw[hρ]at hq;exact one q6 hq) trivial trivial rfl).mono fun g' w' hd=>?_;obtain⟨fr',v',h1,h2,h3,h4⟩:=hd;exact⟨fr',_,h1,h2,⟨_,h3⟩,h4⟩
 ·obtain⟨v0,q0,e0⟩:=hp 0 (dy (by kernel_rfl));have e0:v0=iV s:=e0;subst e0;obtain⟨v7,q7,n7,e7⟩:=hp 7 (dy (by kernel_rfl));subst e7;refine(adD.dc (bL [(7,s),(8,n7)] [] []) hf (by decide) (fun q hq=>by
   rcases aj.1 hq with rfl|hq
   ·exact q0
   ·exact one q7 hq) trivial trivial rfl).mono fun g' w' hd=>?_
  obtain⟨fr',v',h1,h2,h3,h4⟩:=hd;exact⟨fr',_,h1,h2,⟨_,h3⟩,h4⟩
 ·exact adE.dc ρ hf (by decide) (fun q hq=>by rw[hρ]at hq;exact one b1 hq) trivial trivial (by rw[hρ];rfl)
 ·obtain⟨v9,q9,e9⟩:=hp 9 (dy (by kernel_rfl));have e9:v9=bI X:=e9;subst e9;exact YD.dc ρ hf (by decide) (fun q hq=>by rw[hρ]at hq;exact one q9 hq) trivial ⟨by rw[hρ];exact f.cell hX,trivial⟩ (by rw[hρ];rfl)
 ·exact YE.dc ρ hf (by decide) (fun q hq=>by rw[hρ]at hq;exact one b4 hq) trivial trivial (by rw[hρ];rfl)
 ·obtain⟨v10,Ez,pO⟩:=hp 10 (dy (by kernel_rfl));have pO:v10=bU A o L c:=pO;subst pO;obtain⟨v11,kK,yD⟩:=hp 11 (dy (by kernel_rfl));have yD:v11=iV i:=yD;subst yD;exact YF.dc ρ hf (by decide) (fun q hq=>by
   rw[hρ]at hq;rcases aj.1 hq with rfl|hq
   ·exact Ez
   ·exact one kK hq) lt trivial (by rw[hρ];rfl)
 ·obtain⟨R1,rI,Ar⟩:=hp 12 (dy (by kernel_rfl));have Ar:R1=.pointer (some ⟨A,o+i*3,none⟩):=Ar;subst Ar;exact YG.dc ρ hf (by decide) (fun q hq=>by rw[hρ]at hq;exact one rI hq) trivial trivial (by rw[hρ];rfl)
 ·obtain⟨R3,yG,Aq⟩:=hp 13 (dy (by kernel_rfl));have Aq:R3=.pointer (some ⟨A,o+i*3+1,none⟩):=Aq;subst Aq;exact YH.dc ρ hf (by decide) (fun q hq=>by rw[hρ]at hq;exact one yG hq) trivial ⟨by rw[hρ];exact f.cell c1,trivial⟩ (by rw[hρ];rfl)
 ·obtain⟨v14,q14,Lc⟩:=hp 14 (dy (by kernel_rfl));have Lc:v14=.slice a 0 c':=Lc;subst Lc;exact(YI a c').dc (bL [] [] []) hf (by decide) (fun q hq=>one q14 hq) trivial trivial rfl
 ·obtain⟨v8,q8,n8,e8⟩:=hp 8 (dy (by kernel_rfl));subst e8;obtain⟨v15,q15,Ld⟩:=hp 15 (dy (by kernel_rfl));have Ld:v15=iV 0:=Ld;subst Ld;refine(YJ.dc (bL [(8,n8),(9,0)] [] []) hf (by decide) (fun q hq=>by
   rcases aj.1 hq with rfl|hq
   ·exact q8
   ·exact one q15 hq) trivial trivial rfl).mono fun g' w' hd=>?_
  obtain⟨fr',v',h1,h2,h3,h4⟩:=hd;exact⟨fr',_,h1,h2,⟨_,h3⟩,h4⟩
theorem LU{X A o c L i:Nat}{s:Int}{nm:ByteArray}{a:Option Addr}{c':Nat}(hX:w.cell? ⟨X,0,none⟩=some (bU A o L c))(c0:w.cell? ⟨A,o+i*3,none⟩=some (.string nm))(c1:w.cell? ⟨A,o+i*3+1,none⟩=some (.slice a 0 c'))(hlt:i<L)(hs:s≤2147483647)(hf:FA 18 41 nY [] .normal [(1,bI X),(3,iV s),(4,iV i)] fr):
  Goes (G fr cs) w fun g' w'=>∃bT n1,g'=G bT cs∧bA w w'∧FA 18 41 nY [] .normal [(1,bI X),(3,iV n1),(4,iV (iF .add .i64 i 1))] bT:=by
 obtain⟨ρ,hρ⟩:∃ρ:Env,ρ=Go.Proofs.YtmobbajggkjpgaaGreat.SX.jn [(51,L),(52,c),(53,o),(10,i),(7,s)] [(64,X),(50,A)] [(70,.slice a 0 c')] [(1,nm)]:=⟨_,rfl⟩;refine(sw1.go ρ hf (by rw[hρ];rfl) (cr.app (cg (i:=10) (n:=51) (I:=i) (N:=L) (by rw[hρ];rfl) (by rw[hρ];rfl) hlt) ⟨by rw[hρ];exact decide_eq_true hs,trivial⟩) ⟨by rw[hρ];exact hX,by rw[hρ];exact c0,by rw[hρ];exact c1,trivial⟩).trans fun g1 w1 hd=>?_;obtain⟨I,B,bT,rfl,f1,F1,_⟩:=hd;have fI:FA 18 41 (.code (pU 932)::SzT) [] .normal [(1,bI X),(3,iV s),(4,iV i)] bT:=by rw[hρ]at F1;exact F1
 obtain⟨id,hid⟩:=gI (c:=pU 932) (by kernel_rfl);rw[hid]at fI;refine(gH fI).trans fun g2 w2 bX=>?_;obtain⟨ls,cB,rfl,f2,adK,F2⟩:=bX;refine(ij (b:=[(1,bI X),(3,iV s),(4,iV i)]) (nm:=nW) (val:=fun j v _=>vW X A o c L i s nm a c' j v) (early:=fun j=>Nat.blt j 17) (late:=[17]) (n:=18) (w0:=w1) (by kernel_rfl) (by kernel_rfl) (by kernel_rfl) (by kernel_rfl) (by kernel_rfl) (by kernel_rfl) (by kernel_rfl) (bh _ _) (fun _ _ _ _ h _=>h) (OH (f1.cell hX) (f1.cell c0) (f1.cell c1) hlt) ls [] f2 (fun i hi=>by cases hi) adK ⟨_,F2,fun x hx=>hx,fun i hi=>by cases hi⟩).trans fun g3 w3 cn=>?_;obtain⟨cC,lv,rfl,f3,F3,hb,hv⟩:=cn;obtain⟨v16,q16,n16,Xe⟩:=hv 16 (by decide) rfl;subst Xe;have oT:FA 18 41 (.inRegion dW [17]::SzT) [] .normal [(1,bI X),(4,iV i),(39,iV n16)] cC:=F3.sub fun x hx=>by
  simp only[aj,az,or_false]at hx;rcases hx with rfl|rfl|rfl
  ·exact hb _ (by simp)
  ·exact hb _ (by simp)
  ·exact q16
 refine(YK.go (bL [(8,n16)] [] []) oT (by decide) rfl trivial trivial).trans fun g4 w4 c9=>?_;obtain⟨eg,rfl,f4,F4⟩:=c9;refine(adF.go (bL [(7,n16),(10,i)] [(64,X)] []) F4 rfl trivial trivial).mono fun g5 w5 d_=>?_;obtain⟨I,B,gh,rfl,f5,F5,_⟩:=d_;exact⟨gh,n16,rfl,f1.trans (f3.trans (f4.trans f5)),F5⟩
end
theorem FA.more{fn nt:Nat}{t:List Item}{ds:List Deferred}{kind:CallKind}{lv:List (Nat×Value)}{fr:Frame}(hf:FA fn nt t ds kind lv fr):∃f:Nat->Value,∀ks:List Nat,FA fn nt t ds kind (lv++ks.map fun i=>(i,f i)) fr:=by obtain⟨⟨tm,rfl,h2,h3⟩,h4,h5⟩:=hf;exact⟨fun i=>tm.getD i undef,fun ks=>⟨⟨tm,rfl,h2,fun p hp=>(aR.1 hp).elim (h3 p) fun hp=>by obtain⟨i,_,rfl⟩:=bq.1 hp;rfl⟩,h4,h5⟩⟩
noncomputable abbrev SzH:List Item:=nY
noncomputable abbrev WdH:List Item:=uM
section
variable {w w0:World}{cs:List Frame}{fr:Frame}
theorem GD{z:Bool}{A o c X:Nat}{os:Value}{L:List cH}(hz:z=true->L=[])(cL:∀i x,L[i]?=some x->pS w0 A (o+i*3) x)(hlen:L.length≤100000000000000)(hX:(cu.obj 25 [ew z A o L.length c,os]).at Tryz.prog w0 X):
  ∀(k i:Nat) (s:Int) {w:World} {cs:List Frame} {fr:Frame},i+k=L.length->bA w0 w->FA 18 41 SzH [] .normal [(1,bI X),(3,iV s),(4,iV i)] fr->
  Goes (G fr cs) w fun g' w'=>∃fr' n,g'=G fr' cs∧bA w0 w'∧(s>2147483647->n=s)∧cV 18 fr' w' (iV n)
 |0,i,s,w,cs,fr,hi,fw,hf=>by
  obtain⟨ρ,hρ⟩:∃ρ:Env,ρ=bL [(51,L.length),(52,c),(53,o),(10,i),(7,s)] [(64,X),(50,A)] []:=⟨_,rfl⟩;have ez:(cG z 50 53 51 52).ev ρ=ew z A o L.length c:=by rw[hρ];cases z<;>rfl
  refine((sz3 z).go ρ hf (by rw[hρ];rfl) ⟨by
    rw[hρ];cases z with
    |false=>exact decide_eq_false (by show ¬((i:Int)<((L.length:Nat):Int));omega)
    |true=>exact decide_eq_false (by show ¬((i:Int)<0);omega),trivial⟩ ⟨by
    rw[ez,hρ];exact fw.cell (bE hX (i:=0) rfl),trivial⟩).trans fun g1 w1 hd=>?_
  obtain⟨I,B,bT,rfl,f1,F1,_⟩:=hd;rw[hρ]at F1;refine(leave1 Qg F1 rfl).mono fun g2 w2 bX=>?_;obtain⟨cB,rfl,rfl,hL⟩:=bX;exact⟨cB,s,rfl,fw.trans f1,fun _=>rfl,hL⟩
 |k+1,i,s,w,cs,fr,hi,fw,hf=>by
  have hlt:i<L.length:=by omega
  obtain⟨x,hx⟩:∃x,L[i]?=some x:=⟨_,af hlt⟩;cases z with
  |true=>rw[hz rfl]at hlt;simp only[aZ]at hlt;omega
  |false=>
  have hc0:w.cell? ⟨X,0,none⟩=some (bU A o L.length c):=fw.cell (bE hX (i:=0) rfl);by_cases hs:s≤2147483647
  ·obtain⟨ts,c0,c1,c2,hN⟩:=((cL i x hx).keep fw).ex;obtain⟨f,Cr⟩:=hf.more;have Hy:=Cr ((List.range 41).filter fun i=>!([1,3,4].contains i));have key:Goes (G fr cs) w fun g' w'=>∃bT n1,g'=G bT cs∧bA w w'∧FA 18 41 SzH [] .normal [(1,bI X),(3,iV n1),(4,iV ((i+1:Nat):Int))] bT:=by
    rcases hN.ex with hN|⟨R4,a',c',rfl⟩
    ·obtain⟨y,At,ot,ct,rfl,hy,Dl,rH⟩:=hN.hd;obtain⟨ρ,hρ⟩:∃ρ:Env,ρ={(Go.Proofs.YtmobbajggkjpgaaGreat.SX.jn [(51,L.length),(52,c),(53,o),(10,i),(7,s),(71,x.tree.length),(72,ct),(73,ot)] [(64,X),(50,A),(70,At)] [] [(1,x.name)]:Env)with v:=f}:=⟨_,rfl⟩;have ey:(cG y 70 73 71 72).ev ρ=ew y At ot x.tree.length ct:=by rw[hρ];cases y<;>rfl
     refine((sz2 y).go ρ Hy (by rw[hρ];unfold fT;kernel_rfl) (cr.app (cg (i:=10) (n:=51) (I:=i) (N:=L.length) (by rw[hρ];rfl) (by rw[hρ];rfl) hlt) ⟨by rw[hρ];exact decide_eq_true hs,trivial⟩) ⟨by rw[hρ];exact hc0,by rw[hρ];exact c0,by rw[ey,hρ];exact c1,trivial⟩).mono fun g1 w1 hd=>?_;obtain⟨I,B,bT,rfl,f1,F1,_⟩:=hd;refine⟨bT,(IE.op .add .i64 (.op .add .i64 (v 7) (.jj (.var 1))) (dL y 71)).ev (cQ ρ I B),rfl,f1,?_⟩;rw[<-inc (i:=i) (by omega)];rw[hρ]at F1⊢;exact F1
    ·rw[<-inc (i:=i) (by omega)];exact LU hc0 c0 c1 hlt hs hf
   refine key.trans fun g1 w1 hd=>?_;obtain⟨bT,n1,rfl,f1,fI⟩:=hd;refine(GD (z:=false) (c:=c) (os:=os) (fun h=>by cases h) cL hlen hX k (i+1) n1 (by omega) (fw.trans f1) fI).mono fun g2 w2 bX=>?_;obtain⟨cB,n,h1,h2,h3,h4⟩:=bX;exact⟨cB,n,h1,h2,fun h=>by omega,h4⟩
  ·obtain⟨ρ,hρ⟩:∃ρ:Env,ρ=bL [(51,L.length),(52,c),(53,o),(10,i),(7,s)] [(64,X),(50,A)] []:=⟨_,rfl⟩;refine(sz4.go ρ hf (by rw[hρ];rfl) ⟨by rw[hρ];exact decide_eq_true (by show(i:Int)<((L.length:Nat):Int);omega),by rw[hρ];exact decide_eq_false hs,trivial⟩ ⟨by rw[hρ];exact hc0,trivial⟩).trans fun g1 w1 hd=>?_;obtain⟨I,B,bT,rfl,f1,F1,_⟩:=hd;rw[hρ]at F1;refine(leave1 Qg F1 rfl).mono fun g2 w2 bX=>?_;obtain⟨cB,rfl,rfl,hL⟩:=bX;exact⟨cB,s,rfl,fw.trans f1,fun _=>rfl,hL⟩
theorem LV{x:Value}{F:gU}(h:mC w x F)(hlen:F.lets.length+F.outs.length≤100000000000000):dS 18 #[x] w fun v w'=>bA w w'∧∃n,v=iV n∧(n≤2147483647->F.outs.length≤2147483647):=by
 obtain⟨ls,os,rfl,hl,ho⟩:=h;obtain⟨z,A,o,c,hls,hz,oU,cL⟩:=hl.ex;obtain⟨y,A',o',c',hos,hy,Dl,rH⟩:=ho.ex;refine cF fun cs=>?_;have E:=cz Yy rfl (.agg #[ls,os]);obtain⟨ρ,hρ⟩:∃ρ:Env,ρ=bL [(51,F.lets.length),(52,c),(53,o),(67,F.outs.length),(68,c'),(66,o')] [(50,A),(60,A')] []:=⟨_,rfl⟩;have go:Goes (G (Frame.enter Tryz.prog 18 #[.agg #[ls,os]] .normal) cs) w fun g' w'=>∃fr' X,g'=G fr' cs∧bA w w'∧(cu.obj 25 [ew z A o F.lets.length c,os]).at Tryz.prog w' X∧FA 18 41 SzH [] .normal [(1,bI X),(3,iV ((F.lets.length+F.outs.length:Nat):Int)),(4,iV (0:Nat))] fr':=by
  have es:iF .add .i64 (F.lets.length:Int) (F.outs.length:Int)=((F.lets.length+F.outs.length:Nat):Int):=by show IntKind.wrap .i64 _=_;rw[iM (by omega)];omega
  cases z with
  |false=>
   cases y with
   |false=>refine(Yz.go ρ E (by rw[hls,hos,hρ];rfl) trivial trivial).mono fun g1 w1 hd=>?_;obtain⟨I,B,bT,rfl,f1,F1,bl,inj⟩:=hd;rw[hρ]at F1 bl;refine⟨bT,B 100,rfl,f1,by rw[hos];exact bl.1.2,?_⟩;rw[<-es];exact F1
   |true=>refine(YB.go ρ E (by rw[hls,hos,hρ];rfl) trivial trivial).mono fun g1 w1 hd=>?_;obtain⟨I,B,bT,rfl,f1,F1,bl,inj⟩:=hd;rw[hρ]at F1 bl;refine⟨bT,B 100,rfl,f1,by rw[hos];exact bl.1.2,?_⟩;rw[<-es,hy rfl];exact F1
  |true=>
   have e0:=hz rfl;cases y with
   |false=>refine(YA.go ρ E (by rw[hls,hos,hρ];rfl) trivial trivial).mono fun g1 w1 hd=>?_;obtain⟨I,B,bT,rfl,f1,F1,bl,inj⟩:=hd;rw[hρ]at F1 bl;refine⟨bT,B 100,rfl,f1,by rw[hos];exact bl.1.2,?_⟩;rw[<-es,e0];exact F1
   |true=>refine(YC.go ρ E (by rw[hls,hos,hρ];rfl) trivial trivial).mono fun g1 w1 hd=>?_;obtain⟨I,B,bT,rfl,f1,F1,bl,inj⟩:=hd;rw[hρ]at F1 bl;refine⟨bT,B 100,rfl,f1,by rw[hos];exact bl.1.2,?_⟩;rw[e0,hy rfl];exact F1
 refine go.trans fun g1 w1 hd=>?_;obtain⟨bT,X,rfl,f1,hX,F1⟩:=hd;refine(GD (w0:=w1) (os:=os) hz (fun i x hi=>(cL i x hi).keep f1) (by omega) hX F.lets.length 0 _ (by omega) (bA.refl _) F1).mono fun g2 w2 bX=>?_;obtain⟨cB,n,rfl,f2,hn,hL⟩:=bX;exact⟨cB,_,rfl,hL,f1.trans f2,n,rfl,fun h=>by omega⟩
theorem LW{n:Int}:dS 6 #[iV n] w fun v w'=>bA w w'∧v=.bool (decide (n>2147483647)):=
 (lg1.jy Yx (bL [(1,n)] [] []) (cz Yw rfl (iV n)) rfl trivial trivial).mono fun v w' ⟨f,I,B,e,_⟩=>⟨f,e⟩
theorem AB{z:Bool}{A o c X:Nat}{os:Value}{L:List cH}(hz:z=true->L=[])(cL:∀i x,L[i]?=some x->pS w0 A (o+i*3) x)(hlen:L.length≤100000000000000)(hX:(cu.obj 25 [ew z A o L.length c,os]).at Tryz.prog w0 X):
  ∀(k i:Nat) {w:World} {cs:List Frame} {fr:Frame},i+k=L.length->(∀x∈L.take i,x.tree.length≤1024)->bA w0 w->FA 5 28 WdH [] .normal [(1,bI X),(3,iV i)] fr->
  Goes (G fr cs) w fun g' w'=>∃fr' b,g'=G fr' cs∧bA w0 w'∧(b=false->∀x∈L,x.tree.length≤1024)∧cV 5 fr' w' (.bool b)
 |0,i,w,cs,fr,hi,ht,fw,hf=>by
  obtain⟨ρ,hρ⟩:∃ρ:Env,ρ=bL [(51,L.length),(52,c),(53,o),(10,i)] [(64,X),(50,A)] []:=⟨_,rfl⟩;have ez:(cG z 50 53 51 52).ev ρ=ew z A o L.length c:=by rw[hρ];cases z<;>rfl
  refine((wd9 z).go ρ hf (by rw[hρ];rfl) ⟨by
    rw[hρ];cases z with
    |false=>exact decide_eq_false (by show ¬((i:Int)<((L.length:Nat):Int));omega)
    |true=>exact decide_eq_false (by show ¬((i:Int)<0);omega),trivial⟩ ⟨by
    rw[ez,hρ];exact fw.cell (bE hX (i:=0) rfl),trivial⟩).trans fun g1 w1 hd=>?_
  obtain⟨I,B,bT,rfl,f1,F1,_⟩:=hd;rw[hρ]at F1;refine(leave1 RY F1 rfl).mono fun g2 w2 bX=>?_;obtain⟨cB,rfl,rfl,hL⟩:=bX;rw[List.take_of_length_le (by omega)]at ht;exact⟨cB,false,rfl,fw.trans f1,fun _=>ht,hL⟩
 |k+1,i,w,cs,fr,hi,ht,fw,hf=>by
  have hlt:i<L.length:=by omega
  obtain⟨x,hx⟩:∃x,L[i]?=some x:=⟨_,af hlt⟩;cases z with
  |true=>rw[hz rfl]at hlt;simp only[aZ]at hlt;omega
  |false=>
  have hc0:w.cell? ⟨X,0,none⟩=some (bU A o L.length c):=fw.cell (bE hX (i:=0) rfl);obtain⟨ts,c0,c1,c2,hN⟩:=((cL i x hx).keep fw).ex;rcases hN.ex with hN|⟨R4,a',c',rfl⟩
  rotate_left
  ·obtain⟨ρ,hρ⟩:∃ρ:Env,ρ=bL [(51,L.length),(52,c),(53,o),(10,i)] [(64,X),(50,A)] []:=⟨_,rfl⟩;refine((adu a' c').go ρ hf (by rw[hρ];rfl) (cr.app (cg (ρ:=ρ) (i:=10) (n:=51) (I:=i) (N:=L.length) (by rw[hρ];rfl) (by rw[hρ];rfl) hlt) ⟨rfl,trivial⟩) ⟨by rw[hρ];exact hc0,by rw[hρ];exact c1,trivial⟩).trans fun g1 w1 hd=>?_;obtain⟨I,B,bT,rfl,f1,F1,_⟩:=hd;rw[hρ]at F1;refine AB (z:=false) (c:=c) (os:=os) (fun h=>by cases h) cL hlen hX k (i+1) (by omega) (fun x' hx'=>?_) (fw.trans f1) ?_
   ·rw[List.take_add_one,hx]at hx';rcases aR.1 hx' with h|h
    ·exact ht x' h
    ·have h:x'=x:=by simpa using h
     rw[h,R4];exact Nat.zero_le _
   ·rw[<-inc (i:=i) (by omega)];exact F1
  obtain⟨y,At,ot,ct,rfl,hy,Dl,rH⟩:=hN.hd;obtain⟨ρ,hρ⟩:∃ρ:Env,ρ=bL [(51,L.length),(52,c),(53,o),(10,i),(71,x.tree.length),(72,ct),(73,ot)] [(64,X),(50,A),(70,At)] []:=⟨_,rfl⟩;have ey:(cG y 70 73 71 72).ev ρ=ew y At ot x.tree.length ct:=by rw[hρ];cases y<;>rfl
  have en:(dL y 71).ev ρ=(x.tree.length:Int):=by
   rw[hρ];cases y with
   |false=>rfl
   |true=>rw[hy rfl];rfl
  have bb:=cg (ρ:=ρ) (i:=10) (n:=51) (I:=i) (N:=L.length) (by rw[hρ];rfl) (by rw[hρ];rfl) hlt;by_cases hb:x.tree.length>1024
  ·cases y with
   |true=>rw[hy rfl]at hb;simp only[aZ]at hb;omega
   |false=>
   refine(OG.go ρ hf (by rw[hρ];rfl) (cr.app bb ⟨by rw[hρ];exact decide_eq_true (by show((x.tree.length:Nat):Int)>1024;omega),trivial⟩) ⟨by rw[hρ];exact hc0,by rw[hρ];exact c1,trivial⟩).trans fun g1 w1 hd=>?_;obtain⟨I,B,bT,rfl,f1,F1,_⟩:=hd;rw[hρ]at F1;refine(leave1 RY F1 rfl).mono fun g2 w2 bX=>?_;obtain⟨cB,rfl,rfl,hL⟩:=bX;exact⟨cB,true,rfl,fw.trans f1,(fun h=>by cases h),hL⟩
  ·refine((LS y).go ρ hf (by rw[hρ];rfl) (cr.app bb ⟨by
     show decide ((dL y 71).ev ρ>1024)=false;rw[en];exact decide_eq_false (by omega),trivial⟩) ⟨by rw[hρ];exact hc0,by rw[ey,hρ];exact c1,trivial⟩).trans fun g1 w1 hd=>?_
   obtain⟨I,B,bT,rfl,f1,F1,_⟩:=hd;rw[hρ]at F1;refine AB (z:=false) (c:=c) (os:=os) (fun h=>by cases h) cL hlen hX k (i+1) (by omega) (fun x' hx'=>?_) (fw.trans f1) ?_
   ·rw[List.take_add_one,hx]at hx';rcases aR.1 hx' with h|h
    ·exact ht x' h
    ·have h:x'=x:=by simpa using h
     rw[h];omega
   ·rw[<-inc (i:=i) (by omega)];exact F1
theorem LX{x:Value}{F:gU}(h:mC w x F)(hlen:F.lets.length+F.outs.length≤100000000000000):dS 5 #[x] w fun v w'=>bA w w'∧∃b,v=.bool b∧(b=false->F.lets.length≤256∧F.outs.length≤2147483647∧∀x∈F.lets,x.tree.length≤1024):=by
 have h':=h;obtain⟨ls,os,rfl,hl,ho⟩:=h;obtain⟨z,A,o,c,hls,hz,oU,cL⟩:=hl.ex;refine cF fun cs=>?_;obtain⟨ρ,hρ⟩:∃ρ:Env,ρ=bL [(51,F.lets.length),(52,c),(53,o)] [(50,A)] [(9,os)]:=⟨_,rfl⟩;have ez:∀I B,(cG z 50 53 51 52).ev (cQ ρ I B)=ls:=fun I B=>by rw[hρ,hls];cases z<;>rfl
 refine((wd1 z).go ρ (cz adt rfl (.agg #[ls,os])) (by rw[hls,hρ];cases z<;>rfl) trivial trivial).trans fun g1 w1 hd=>?_;obtain⟨I,B,bT,rfl,f1,F1,bl,_⟩:=hd;obtain⟨X,eX⟩:∃X,B 100=X:=⟨_,rfl⟩;have hX:(cu.obj 25 [ls,os]).at Tryz.prog w1 X:=by
  have h1:(cu.obj 25 [(cG z 50 53 51 52).ev (cQ ρ I B),os]).at Tryz.prog w1 (B 100):=by have:=bl.1.2;rw[hρ]at this⊢;exact this
  rw[ez,eX]at h1;exact h1
 have fI:FA 5 28 (.inRegion (opsOf (q5 12)) [1,2,3,4,5,6,7,8]::[.code (q5 13),.code (q5 7)]) [] .normal [(1,bI X),(4,.agg #[ls,os])] bT:=by
  have h1:FA 5 28 (.inRegion (opsOf (q5 12)) [1,2,3,4,5,6,7,8]::[.code (q5 13),.code (q5 7)]) [] .normal [(1,bI (B 100)),(4,.agg #[(cG z 50 53 51 52).ev (cQ ρ I B),os])] bT:=by rw[hρ]at F1⊢;exact F1
  rw[ez,eX]at h1;exact h1
 refine(wd2.go (bL [] [] [(4,.agg #[ls,os])]) (Q:=fun v w'=>∃n,v=iV n∧(n≤2147483647->F.outs.length≤2147483647)) fI rfl fun w' f2=>LV (h'.keep (f1.trans f2)) hlen).trans fun g2 w2 bX=>?_;obtain⟨cB,vv,rfl,f2,⟨n,rfl,hn⟩,F2⟩:=bX;refine(wd3.go (bL [] [] [(5,iV n)]) (Q:=fun v w'=>v=.bool (decide (n>2147483647))) F2 rfl fun w' f3=>LW).trans fun g3 w3 cn=>?_;obtain⟨cC,vv,rfl,f3,rfl,F3⟩:=cn;have f13:=f1.trans (f2.trans f3);have hX3:=bM hX (f2.trans f3);obtain⟨σ,bZ⟩:∃σ:Env,σ=bL [(51,F.lets.length),(52,c),(53,o)] [(50,A),(64,X)] []:=⟨_,rfl⟩;have es:(cG z 50 53 51 52).ev σ=ls:=by rw[bZ,hls];cases z<;>rfl
 have en:(dL z 51).ev σ=(F.lets.length:Int):=by
  rw[bZ];cases z with
  |false=>rfl
  |true=>rw[hz rfl];rfl
 have fin:∀{k:List Item} {w4:World} {eg:Frame},bA w w4->FA 5 28 (.code .ret::k) [] .normal [(2,.bool true)] eg->Goes (G eg cs) w4 fun g' w'=>∃fr' v,g'=G fr' cs∧cV 5 fr' w' v∧bA w w'∧∃b,v=.bool b∧(b=false->F.lets.length≤256∧F.outs.length≤2147483647∧∀x∈F.lets,x.tree.length≤1024):=fun{k w4 eg} f4 F4=>by refine(leave1 RY F4 rfl).mono fun g6 w6 dj=>?_;obtain⟨dJ,rfl,rfl,hL⟩:=dj;exact⟨dJ,_,rfl,hL,f4,true,rfl,fun h=>by cases h⟩
 by_cases pq:n>2147483647
 ·rw[decide_eq_true pq]at F3;refine(wd4.go σ F3 (by rw[bZ];rfl) trivial trivial).trans fun g4 w4 c9=>?_;obtain⟨I,B,eg,rfl,f4,F4,_⟩:=c9;exact fin (f13.trans f4) F4
 ·rw[decide_eq_false pq]at F3;by_cases jD:F.lets.length>256
  ·cases z with
   |true=>rw[hz rfl]at jD;simp only[aZ]at jD;omega
   |false=>
   refine(wd5.go σ F3 (by rw[bZ];rfl) ⟨by rw[bZ];exact decide_eq_true (by show((F.lets.length:Nat):Int)>256;omega),trivial⟩ ⟨by rw[bZ];rw[hls]at hX3;exact bE hX3 (i:=0) rfl,trivial⟩).trans fun g4 w4 c9=>?_
   obtain⟨I,B,eg,rfl,f4,F4,_⟩:=c9;exact fin (f13.trans f4) F4
  ·refine((wd6 z).go σ F3 (by rw[bZ];rfl) ⟨by
     show decide ((dL z 51).ev σ>256)=false;rw[en];exact decide_eq_false (by omega),trivial⟩ ⟨by
    rw[es,bZ];exact bE hX3 (i:=0) rfl,trivial⟩).trans fun g4 w4 c9=>?_
   obtain⟨I,B,eg,rfl,f4,F4,_⟩:=c9;rw[bZ]at F4;have f14:=f13.trans f4;refine(AB (w0:=w4) (c:=c) (os:=os) hz (fun i x hi=>(cL i x hi).keep f14) (by omega) (by rw[<-hls];exact bM hX3 f4) F.lets.length 0 (by omega) (fun x hx=>by simp at hx) (bA.refl _) F4).mono fun g5 w5 d_=>?_;obtain⟨gh,b,rfl,f5,hb,hL⟩:=d_;exact⟨gh,_,rfl,hL,f14.trans f5,b,rfl,fun h=>⟨by omega,hn (by omega),hb h⟩⟩
end
end Go.Proofs.YtmobbajggkjpgaaGreat
