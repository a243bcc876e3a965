/-
  GateLeaves: for every play: when a run has been told each body that was begun has ended, its thread lives no more, each cell holds what the log left in it; who fell is told, who was stopped is not; the law answers true, on every schedule, without a data race; the argument reads as it did. Conditions: none.
-/
import Derived.Test.YthaddgfbohmfoaaLJ
import GoSem.Step
import Derived.Orders
import Derived.Conc.Own5
import Derived.Laws.Sem
import Derived.Conc.Events
import Derived.Laws.Append
import Derived.IntWalk
import Derived.Conc.Own4
import Derived.AtR
import Derived.Calls
import Derived.Test.YthaddgfbohmfoaaRows
import Derived.ChangeSame
import Derived.ChangeVars
import Derived.JoinedOf
import Derived.RowKit
import Derived.RowKitTokens
import Derived.LaidLaws
import Derived.LaidHandle
import Derived.Stop.Joined
import Derived.Conc.Token
import Derived.Conc.TokenWalk
import Derived.Conc.Beside
import Derived.Conc.LeavingOf
import Derived.ProofKit
import Derived.ChangeSlices
import Derived.ChangeMaps5
import Derived.Deep.Slices
import Derived.WideKeyArgs
set_option linter.unusedSectionVars false
set_option maxRecDepth 100000
set_option linter.unusedVariables false
set_option linter.unusedSimpArgs false
namespace Go.Proofs.Ythaddgfbohmfoaa
open Go.ChangeShapes Go.WideShapes Go.ChangeAt Go.RowKit Go.Conc Go.Proofs.Ythaddgfbohmfoaa.SX Go.ChangeMaps
open Go.Proofs.Try renaming prog->aa
open _root_.List renaming mem_cons->ac,mem_cons_of_mem->am,mem_cons_self->an,getElem?_eq_getElem->aF,mem_map->aJ,all_eq_true->aO,getElem?_map->aZ,length_range->bh,length_map->bj,getElem?_range->bn
open _root_.Option.some renaming inj->au
open _root_.Array renaming toList_inj->bD
theorem uz{W W':World}{may:MemPlace->Prop}(h:cE (fun n=>W.heap.size≤n) W W'):W.keptBut W' may:=by
 refine⟨h.os,h.output,fun i hi=>?_⟩;have e:=h.heap i (Nat.not_le.2 hi);rw[e];split
 ·rename_i e1 e2;cases e1.symm.trans e2;exact⟨rfl,rfl,rfl,fun _ _=>rfl⟩
 ·rename_i e1 e2;cases e1.symm.trans e2;exact .inr ⟨rfl,rfl⟩
 ·rfl
theorem Try.Af:Try.prog.cellsOf 96=4:=by kernel_rfl
theorem Try.aa9:Try.prog.cellsOf 94=1:=by kernel_rfl
theorem Try.aa_:Try.prog.cellsOf 46=4:=by kernel_rfl
theorem Try.aa':Try.prog.cellsOf 44=1:=by kernel_rfl
theorem Try.aba:Try.prog.cellsOf 37=1:=by kernel_rfl
theorem Try.GQ:Try.prog.cellsOf 3=1:=by kernel_rfl
theorem Try.Wr:Try.prog.cellsOf 2=1:=by kernel_rfl
theorem Try.abb:Try.prog.cellsOf 34=1:=by kernel_rfl
theorem Try.abc:Try.prog.bytesOf 96=32:=by kernel_rfl
theorem Try.abd:Try.prog.bytesOf 94=24:=by kernel_rfl
theorem Try.ahh:Try.prog.bytesOf 3=8:=by kernel_rfl
theorem Try.abe:Try.prog.cellTypes Try.prog.depth 46=some [44,3,37,3]:=by kernel_rfl
section
variable {H:Type}{enc:TypeId×Value->H}{W:World}
theorem anK{l:List Value}(h:l.length=4):∃a b c d,l=[a,b,c,d]:=by
 match l,h with
 |[a,b,c,d],_=>exact⟨a,b,c,d,rfl⟩
theorem oZ{l r:List Nat}{n:Nat}(h:∀x∈l++r,x≤n):(∀x∈l,x≤n)∧∀x∈r,x≤n:=
 ⟨fun x hx=>h x (List.mem_append_left _ hx),fun x hx=>h x (List.mem_append_right _ hx)⟩
theorem EX{e:TypeId}{n:Nat}{d:DataW H}:∀{ds:List (DataW H)},(∀x∈DataW.weightsAll aa e ds,x≤n)->d∈ds->∀x∈d.weights aa e,x≤n
 |[],_,hd=>by cases hd
 |a::ds,h,hd=>by
  obtain⟨h1,h2⟩:=oZ (l:=a.weights aa e) h;rcases ac.1 hd with rfl|hd
  ·exact h1
  ·exact EX h2 hd
theorem abf{n:Nat}{cs:List Value}{x:DataW H×List MemPlace}(h:DataW.trod enc aa W 0 (fun _=>true) true n 96 cs=some x):
  ∃r:Rp,cs=[qn r.op,iV r.c,iV r.arg,iV r.nw]:=by
 obtain⟨xs,k,_,_,hl,dI,hf⟩:=DataW.trod_struct Try.underlying96 h;rw[Try.Af]at hl;obtain⟨a,b,c,d,rfl⟩:=anK hl;have hl4:xs.length=4:=dI;have g0:DataW.trod enc aa W 0 (fun _=>true) true k 34 [a]=some (xs[0]'(by omega)):=by have:=hf 0 _ rfl;rw[aF (by omega)]at this;simpa[Try.abb] using this
 have g1:DataW.trod enc aa W 0 (fun _=>true) true k 3 [b]=some (xs[1]'(by omega)):=by have:=hf 1 _ rfl;rw[aF (by omega)]at this;simpa[Try.GQ] using this
 have g2:DataW.trod enc aa W 0 (fun _=>true) true k 2 [c]=some (xs[2]'(by omega)):=by have:=hf 2 _ rfl;rw[aF (by omega)]at this;simpa[Try.Wr] using this
 have g3:DataW.trod enc aa W 0 (fun _=>true) true k 2 [d]=some (xs[3]'(by omega)):=by have:=hf 3 _ rfl;rw[aF (by omega)]at this;simpa[Try.Wr] using this
 obtain⟨n0,e0,_⟩:=DataW.trod_int Try.underlying34 g0;obtain⟨n1,e1,_⟩:=DataW.trod_int Try.underlying3 g1;obtain⟨n2,e2,_⟩:=DataW.trod_int Try.underlying2 g2;obtain⟨n3,e3,_⟩:=DataW.trod_int Try.underlying2 g3;cases e0;cases e1;cases e2;cases e3;exact⟨⟨n0,n1,n2,n3⟩,rfl⟩
instance:Inhabited Rp:=⟨⟨0,0,0,0⟩⟩
theorem vR{a:Addr}{v:Value}(h:W.cell? a=some v):a.block<W.heap.size:=FL h
theorem L_{n:Nat}{v:Value}{d:DataW H}{ps:List MemPlace}(h:DataW.trod enc aa W 0 (fun _=>true) true n 94 [v]=some (d,ps))(hw:∀x∈d.weights aa 94,x≤reachBytes):
  ∃l:List Rp,age W.heap.size W v l∧l.length≤4611686018427387904:=by
 rcases Go.Deep.open_slice Try.underlying94 h with⟨hc,hx⟩|⟨a,len,cap,m,k,D,Pl,hc,_,hl,hm,Qh,hx,Df⟩
 ·cases hc;exact⟨[],⟨true,none,0,0,0,rfl,fun _=>rfl,fun k r hr=>by cases hr⟩,by simp⟩
 ·cases hc;cases hx;simp only[if_true]at Qh;subst Qh;by_cases h0:len=0
  ·subst h0;exact⟨[],⟨true,some a,0,0,m,rfl,fun _=>rfl,fun k r hr=>by cases hr⟩,by simp⟩
  ·have hw':(((List.range len).map D).length+((List.range (m-len)).map fun j=>D (len+j)).length)*32≤reachBytes:=by
    have:=hw _ (show(((List.range len).map D).length+((List.range (m-len)).map fun j=>D (len+j)).length)*Try.prog.bytesOf 96∈_ by rw[DataW.weights,Try.underlying94];exact an)
    rwa[Try.abc]at this
   have hsp:a.spot=none:=by obtain⟨io,h1,_⟩:=Df 0 (by omega);obtain⟨_,_,h3⟩:=World.cells?_some h1;have h4:=h3 0 (by rw[Try.Af];decide);obtain⟨_,dI,_⟩:=World.cells?_some h1;rw[aF (by rw[dI,Try.Af];decide)]at h4;simpa[Addr.add] using World.cell?_spot h4
   obtain⟨b,o,spot⟩:=a;dsimp only at hsp;subst hsp;obtain⟨R,hR⟩:=Go.Deep.choose_lt (n:=len) (p:=fun i (r:Rp)=>pO W.heap.size W b (o+i*4) (qn r.op)∧pO W.heap.size W b (o+i*4+1) (iV r.c)∧pO W.heap.size W b (o+i*4+2) (iV r.arg)∧pO W.heap.size W b (o+i*4+3) (iV r.nw)) fun i hi=>by
    obtain⟨io,h1,h2⟩:=Df i (by omega);obtain⟨r,rfl⟩:=abf h2;obtain⟨_,_,h3⟩:=World.cells?_some h1;rw[Try.Af]at h3;have eG:∀j v,j<4->[qn r.op,iV r.c,iV r.arg,iV r.nw][j]?=some v->pO W.heap.size W b (o+i*4+j) v:=fun j v hj hv=>by have h4:=(h3 j hj).trans hv;rw[add_plain,add_plain]at h4;exact⟨vR h4,h4⟩
    exact⟨r,eG 0 _ (by decide) rfl,eG 1 _ (by decide) rfl,eG 2 _ (by decide) rfl,eG 3 _ (by decide) rfl⟩
   refine⟨(List.range len).map R,⟨false,none,b,o,m,?_,(fun e=>by cases e),fun k r hr=>?_⟩,?_⟩
   ·rw[bj,bh];rfl
   ·rw[aZ]at hr;by_cases hk:k<len
    ·rw[bn hk]at hr;cases hr;exact hR k hk
    ·rw[List.getElem?_eq_none (by rw[bh];omega)]at hr;cases hr
   ·rw[bj,bh]at*;have:reachBytes=140737488351232:=rfl;omega
theorem Ju{n:Nat}{v:Value}{d:DataW H}{ps:List MemPlace}(h:DataW.trod enc aa W 0 (fun _=>true) true n 44 [v]=some (d,ps))(hw:∀x∈d.weights aa 44,x≤reachBytes)(hv:∀a len cap,v=.slice (some a) len cap->a.spot=none):
  ∃L:List (List Rp),Jc W.heap.size W v L∧L.length≤4611686018427387904∧∀l∈L,l.length≤4611686018427387904:=by
 rcases Go.Deep.open_slice1 Try.underlying44 Try.aa9 h with⟨hc,hx⟩|⟨a,len,cap,m,k,V,D,Pl,hc,_,hl,hm,Qh,hx,Df⟩
 ·cases hc;exact⟨[],⟨true,0,0,0,rfl,fun _=>rfl,fun k r hr=>by cases hr⟩,by simp,fun l hl=>by cases hl⟩
 ·cases hc;cases hx;simp only[if_true]at Qh;subst Qh;obtain⟨b,o,spot⟩:=a;obtain rfl:spot=none:=hv _ _ _ rfl;have hw0:∀x∈(((List.range len).map D).length+((List.range (m-len)).map fun j=>D (len+j)).length)*Try.prog.bytesOf 94::(DataW.weightsAll aa 94 ((List.range len).map D)++DataW.weightsAll aa 94 ((List.range (m-len)).map fun j=>D (len+j))),x≤reachBytes:=fun x hx=>hw x (by
   rw[DataW.weights,Try.underlying44];exact hx)
  have hw1:=hw0 _ an;have hw2:=(oZ fun x hx=>hw0 x (am _ hx)).1;obtain⟨R,hR⟩:=Go.Deep.choose_lt (n:=len) (p:=fun i (l:List Rp)=>(∃x,pO W.heap.size W b (o+i) x∧age W.heap.size W x l)∧l.length≤4611686018427387904) fun i hi=>by obtain⟨h1,h2⟩:=Df i (by omega);obtain⟨l,hl,Fx⟩:=L_ h2 (EX hw2 (aJ.2 ⟨i,List.mem_range.2 hi,rfl⟩));rw[add_plain]at h1;exact⟨l,⟨V i,⟨vR h1,h1⟩,hl⟩,Fx⟩
  refine⟨(List.range len).map R,⟨false,b,o,m,?_,(fun e=>by cases e),fun k r hr=>?_⟩,?_,fun l hl=>?_⟩
  ·rw[bj,bh];rfl
  ·rw[aZ]at hr;by_cases hk:k<len
   ·rw[bn hk]at hr;cases hr;exact(hR k hk).1
   ·rw[List.getElem?_eq_none (by rw[bh];omega)]at hr;cases hr
  ·rw[bj,bh]at*;rw[Try.abd]at hw1;have:reachBytes=140737488351232:=rfl;omega
  ·obtain⟨i,hi,rfl⟩:=aJ.1 hl;exact(hR i (List.mem_range.1 hi)).2
theorem Ma{n:Nat}{v:Value}{d:DataW H}{ps:List MemPlace}(h:DataW.trod enc aa W 0 (fun _=>true) true n 37 [v]=some (d,ps))(hw:∀x∈d.weights aa 37,x≤reachBytes)(hv:∀a len cap,v=.slice (some a) len cap->a.spot=none):
  ∃L:List Int,Vr W.heap.size W v L∧L.length≤4611686018427387904:=by
 rcases Go.Deep.open_slice1 Try.underlying37 Try.GQ h with⟨hc,hx⟩|⟨a,len,cap,m,k,V,D,Pl,hc,_,hl,hm,Qh,hx,Df⟩
 ·cases hc;exact⟨[],⟨true,0,0,0,rfl,fun _=>rfl,fun k r hr=>by cases hr⟩,by simp⟩
 ·cases hc;cases hx;simp only[if_true]at Qh;subst Qh;obtain⟨b,o,spot⟩:=a;obtain rfl:spot=none:=hv _ _ _ rfl;have hw0:∀x∈(((List.range len).map D).length+((List.range (m-len)).map fun j=>D (len+j)).length)*Try.prog.bytesOf 3::(DataW.weightsAll aa 3 ((List.range len).map D)++DataW.weightsAll aa 3 ((List.range (m-len)).map fun j=>D (len+j))),x≤reachBytes:=fun x hx=>hw x (by
   rw[DataW.weights,Try.underlying37];exact hx)
  have hw1:=hw0 _ an;obtain⟨R,hR⟩:=Go.Deep.choose_lt (n:=len) (p:=fun i (n:Int)=>pO W.heap.size W b (o+i) (iV n)) fun i hi=>by obtain⟨h1,h2⟩:=Df i (by omega);obtain⟨n,e,_⟩:=DataW.trod_int Try.underlying3 h2;rw[add_plain,(List.cons.inj e).1]at h1;exact⟨n,vR h1,h1⟩
  refine⟨(List.range len).map R,⟨false,b,o,m,?_,(fun e=>by cases e),fun k r hr=>?_⟩,?_⟩
  ·rw[bj,bh];rfl
  ·rw[aZ]at hr;by_cases hk:k<len
   ·rw[bn hk]at hr;cases hr;exact hR k hk
   ·rw[List.getElem?_eq_none (by rw[bh];omega)]at hr;cases hr
  ·rw[bj,bh]at*;rw[Try.ahh]at hw1;have:reachBytes=140737488351232:=rfl;omega
theorem QQ{base:Nat}{v:Value}{d:DataW H}{ps:List MemPlace}(h:DataW.Trod enc aa W 0 (fun _=>true) true 46 v d ps)(hv:Value.okWide aa W .any base 46 v)(hw:∀x∈d.weights aa 46,x≤reachBytes):
  ∃p bv pv,v=.agg (sA bv p.first pv p.cd).toArray∧Dt W.heap.size W bv pv p∧p.Jd:=by
 obtain⟨fuel,hf⟩:=h;simp only[Value.okWide,Try.underlying46]at hv;obtain⟨cs,rfl,hsz,ts,vK,_,Rq⟩:=hv;rw[Try.abe]at vK;cases vK;have xx:DataW.trod enc aa W 0 (fun _=>true) true fuel 46 cs.toList=some (d,ps):=hf;obtain⟨xs,n,_,hx,hl,dI,hfd⟩:=DataW.trod_struct Try.underlying46 xx;rw[Try.aa_]at hl;obtain⟨a,b,c,e,W1⟩:=anK hl;obtain rfl:cs=#[a,b,c,e]:=by rw[<-bD];exact W1
 cases hx
 match xs,dI with
 |[x0,x1,x2,x3],_=>
  have g0:DataW.trod enc aa W 0 (fun _=>true) true n 44 [a]=some x0:=by have:=hfd 0 _ rfl;simpa[Try.aa'] using this
  have g1:DataW.trod enc aa W 0 (fun _=>true) true n 3 [b]=some x1:=by have:=hfd 1 _ rfl;simpa[Try.GQ] using this
  have g2:DataW.trod enc aa W 0 (fun _=>true) true n 37 [c]=some x2:=by have:=hfd 2 _ rfl;simpa[Try.aba] using this
  have g3:DataW.trod enc aa W 0 (fun _=>true) true n 3 [e]=some x3:=by have:=hfd 3 _ rfl;simpa[Try.GQ] using this
  have hw':∀x∈x0.1.weights aa 44++(x1.1.weights aa 3++(x2.1.weights aa 37++(x3.1.weights aa 3++[]))),x≤reachBytes:=fun x hx=>hw x (by rw[DataW.weights,Try.underlying46];exact hx)
  obtain⟨w0,w1⟩:=oZ hw';obtain⟨_,w2⟩:=oZ w1;obtain⟨w2,_⟩:=oZ w2;have spot:∀i v u,#[a,b,c,e][i]?=some v->[44,3,37,3][i % 4]?=some u->(∃z,Try.prog.underlying u=some (.slice z))->∀a' len cap,v=.slice (some a') len cap->a'.spot=none:=fun i v u hi hu ⟨z,hz⟩ a' len cap hv=>by
   obtain⟨u',hu',hok⟩:=Rq i v hi;have:u'=u:=by have h1:[44,3,37,3][i % 4]?=some u':=hu';rw[h1]at hu;exact au hu
   subst this hv;simp only[Cell.okWide,Cell.ok,hz]at hok;exact hok.2.2.2.1
  obtain⟨L,hL,hL1,hL2⟩:=Ju (d:=x0.1) (ps:=x0.2) g0 w0 (spot 0 a 44 rfl rfl ⟨_,Try.underlying44⟩);obtain⟨K,hK,hK1⟩:=Ma (d:=x2.1) (ps:=x2.2) g2 w2 (spot 2 c 37 rfl rfl ⟨_,Try.underlying37⟩);obtain⟨n1,e1,_⟩:=DataW.trod_int Try.underlying3 g1;obtain⟨n3,e3,_⟩:=DataW.trod_int Try.underlying3 g3;cases e1;cases e3;exact⟨⟨L,n1,K,n3⟩,a,c,rfl,⟨hL,hK⟩,hL2,hL1,hK1⟩
end
theorem QR:Bh aa 5=true:=by kernel_rfl
theorem Ws{W:World}{args:Array Value}(h:cm aa (solo (G (Frame.enter aa 5 args .normal) []) W) #[] (un 5 W.heap.size W)):
  ∃M nz o w' t',runNT aa (M+1) (solo (G (Frame.enter aa 5 args .normal) []) W) #[]=(.ended o w',t')∧runN aa M (solo (G (Frame.enter aa 5 args .normal) []) W)=.next nz∧
   step aa nz=.ended o w'∧Conc.Good aa (fun v W'=>v=.bool true∧cE (fun n=>W.heap.size≤n) W W') nz o w' t':=
 KH h fun m' T' hd=>by obtain⟨N,a,w,A,hE⟩:=hd;exact A.finish (fun _=>rfl) hE QR
theorem abg:laidOutB aa=true:=by kernel_rfl
theorem xv(os:Os)(started:os.Started)(H:Type)(enc:TypeId×Value->H):
  ReturnsInLeavingWide {} Try.checked os 5 .any (Rows.gateLeavesSpec.pre6 enc aa Try.f5 Rows.gateLeavesRow.domain false) (Rows.gateLeavesSpec.post enc aa Try.f5 false true false false):=by
 refine returnsInLeavingWide_of_change_sized (C:=Try.checked) Try.own started Try.func5
  (ChangeSpec.witness6 (enc:=enc) (C:=Try.checked) false ⟨#[],#[.agg #[.slice none 0 0,.int .i64 0,.slice none 0 0,.int .i64 0]],[]⟩ 8 (by kernel_rfl) (by kernel_rfl) (by kernel_rfl) (by kernel_rfl)) ?_
 intro W base args ds gs lj anL hW _ hwt _;have Kt:∀(j:Nat) t v,Try.f5.params[j]?=some t->args[j]?=some v->Value.okWide aa W .any base t v:=anL;have hW':=hW;obtain⟨p,q,hA0,hV,rfl,_,_⟩:=hW;have hA:DataW.TrodAll enc aa W 0 (fun _=>true) true Try.f5.params.toList args.toList ds p:=hA0;rw[Try.params5]at hA Kt;obtain⟨v0,d0,rfl,rfl,h0⟩:=trodAll_one hA;obtain⟨rfl,rfl⟩:=trodVars_none hV;have aub:∀x∈d0.weights aa 46,x≤reachBytes:=fun x hx=>by
  have h1:=aO.1 hwt x (by show x∈DataW.weightsEach aa (Try.f5.params.toList++_) _;rw[Try.params5];exact List.mem_append_left _ hx)
  exact of_decide_eq_true h1
 obtain⟨pl,bv,pv,rfl,hI,hs⟩:=QQ h0 (Kt 0 46 v0 rfl rfl) aub;obtain⟨M,nz,o,w',t',r1,r2,r3,r4⟩:=Ws (ahg hI hs);refine⟨M,nz,o,w',t',r1,r2,r3,r4.mono fun v hF=>?_⟩;obtain⟨rfl,hk⟩:=hF;have dU:∀x∈p++[],x.block<W.heap.size:=fun x hx=>by simpa using hW'.lt x hx
 have t1:=WideElems.Trod_stays (sp':=fun b=>decide (b<W.heap.size)) abg (by kernel_rfl) (of_decide_eq_true (by kernel_rfl)) h0 (W':=w') (fun x hx=>by
  have hb:=dU x (List.mem_append_left _ hx);have e:=hk.heap _ (Nat.not_le.2 hb);cases x with
  |cell b o=>show w'.cell? _=W.cell? _;simp only[World.cell?];rw[show w'.heap[b]?=W.heap[b]? from e]
  |map b=>exact e) (fun x hx=>decide_eq_true (dU x (List.mem_append_left _ hx)))
 exact⟨_,_,_,[],_,[],hW',trodAll_mk1 (shut_bool Try.underlying4 true),trodAll_mk1 t1,rfl,uz hk,fun h=>by cases h⟩
theorem gateLeaves_holds:Rows.GateLeavesSaid:=
 OpenClaim.holds_of_wide_leaving 5 Try.f5 rfl rfl rfl rfl rfl rfl rfl ⟨rfl,rfl,rfl,rfl,rfl⟩ rfl rfl rfl rfl rfl (by kernel_rfl) Try.func5 (by kernel_rfl)
  (of_decide_eq_true (by kernel_rfl)) (by unfold Func.isWrapper;first|(rw[if_pos (by decide+kernel)];kernel_rfl)|(rw[if_neg (by decide+kernel)];exact⟨rfl,rfl⟩))
  (fun os started H enc _=>xv os started H enc)
end Go.Proofs.Ythaddgfbohmfoaa
