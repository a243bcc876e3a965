/-
  A symbolic run of the model, proved sound, and the walk of the code: a text of its parts. Conditions: none.
-/
import Derived.Test.YtmobbajggkjpgaaGreatLA
import Derived.Laws.StructEq
import Derived.Laws.Append
import Derived.IntWalk
set_option linter.unusedSectionVars false
set_option maxRecDepth 100000
set_option linter.unusedVariables false
set_option linter.unusedSimpArgs false
namespace Go.Proofs.YtmobbajggkjpgaaGreat.SX
open _root_.List renaming mem_cons_of_mem->aa,getElem?_eq_getElem->af,mem_singleton->ah,mem_cons_self->ai,length_append->ak,getElem?_eq_some_iff->aq,mem_of_getElem?->ay,length_cons->aC,all_eq_true->aD,length_map->aE,drop_eq_getElem_cons->aJ,map_cons->aK,getElem?_eq_none->aM,length->aP,append_nil->aQ,mem_append->aR,length_range->aT,getElem?_append_left->aV,append_assoc->aY,map_congr_left->a_,mem_map->bq,eq_nil_of_length_eq_zero->bw
open _root_.Bool renaming and_eq_true->an,false_eq_true->aF
open _root_.Option.some renaming inj->au
open _root_.Option renaming map_some->av,map_none->aI
open _root_.Nat renaming le_refl->ax,le_trans->aA,zero_add->aG,eq_of_beq_eq_true->aH,mul_le_mul_right->bf
open _root_.Array renaming getElem?_eq_getElem->aO,getElem?_toList->bn,getElem?_setIfInBounds_ne->bu
open _root_.Int renaming toNat_natCast->bx
section
theorem bH{α β:Type}{x:M α}{f:α->M β}{b:β}:(x>>= f)=.ok b↔∃a,x=.ok a∧f a=.ok b:=by
 cases x with
 |ok a=>simp[bind,Except.bind]
 |error e=>simp[bind,Except.bind]
theorem bJ{α:Type}{a b:α}:(pure a:M α)=.ok b↔a=b:=by simp[pure,Except.pure]
theorem DC(ρ:Env)(v:Value):(Nt v).ev ρ=v:=by unfold Nt;split<;>simp[AV.ev,BE.ev,IE.ev,AA.ev,BR.ev]
theorem DD{U:Nat->Prop}(v:Value):(Nt v).In U:=by unfold Nt;split<;>simp[AV.In,BE.In,IE.In,AA.In,BR.In,k_]
theorem Fz(ρ:Env)(l:List Value):AV.evs ρ (l.map Nt)=l:=by
 rw[iU,List.map_map]
 conv=>rhs;rw[<-List.map_id l]
 exact a_ fun v _=>DC ρ v
theorem FG{U:Nat->Prop}(l:List Value):AV.iw U (l.map Nt):=cS.2 fun a ha=>by obtain⟨v,_,rfl⟩:=bq.1 ha;exact DD v
theorem DE(ρ:Env)(v:Value):(rS v).ev ρ=v:=by
 unfold rS;split
 ·simp[AV.ev,DC]
 ·exact DC ρ _
theorem DF{U:Nat->Prop}(v:Value):(rS v).In U:=by
 unfold rS;split
 ·exact DD _
 ·exact DD _
theorem J2(ρ:Env)(v:Value):(QW v).ev ρ=v:=by
 unfold QW;split
 ·simp[AV.ev,Fz]
 ·simp[AV.ev,Fz]
 ·exact DE ρ _
theorem J3{U:Nat->Prop}(v:Value):(QW v).In U:=by
 unfold QW;split
 ·exact FG _
 ·exact FG _
 ·exact DF _
theorem l6(ρ:Env)(v:Value):(ofValue v).ev ρ=v:=by
 unfold ofValue;split
 ·simp only[AV.ev,iU,List.map_map];congr 1;rename_i vs;have:vs.toList.map (AV.ev ρ ∘ QW)=vs.toList:=by
   conv=>rhs;rw[<-List.map_id vs.toList]
   exact a_ fun v _=>J2 ρ v
  rw[this]
 ·exact J2 ρ _
theorem l7{U:Nat->Prop}(v:Value):(ofValue v).In U:=by
 unfold ofValue;split
 ·exact cS.2 fun a ha=>by obtain⟨v,_,rfl⟩:=bq.1 ha;exact J3 v
 ·exact J3 _
mutual
theorem z7(ρ:Env):∀(a:AV) {v:Value},a.val?=some v->a.ev ρ=v
 |.bool b,v,h=>by cases b<;>simp_all [AV.val?,AV.ev,BE.ev]
 |.int k e,v,h=>by cases e<;>simp_all [AV.val?,AV.ev,IE.ev]
 |.str s,v,h=>by simp_all [AV.val?,AV.ev]
 |.ptr a,v,h=>by
  unfold AV.val? at h;split at h<;>simp_all [AV.ev,AA.ev,BR.ev,IE.ev]
  all_goals first
   |(obtain⟨rfl,rfl⟩:=h;simp_all [AV.ev,AA.ev,BR.ev,IE.ev];done)
   |(rename_i hh;subst hh;simp[AA.ev,BR.ev,IE.ev];done)
   |skip
 |.slice a l c,v,h=>by
  unfold AV.val? at h;split at h<;>simp_all [AV.ev,AA.ev,BR.ev,IE.ev]
  all_goals first
   |(obtain⟨rfl,rfl,rfl⟩:=‹_∧_∧_›;simp[IE.ev];done)
   |skip
 |.map r,v,h=>by cases r<;>simp_all [AV.val?,AV.ev]
 |.chan r,v,h=>by cases r<;>simp_all [AV.val?,AV.ev]
 |.func f x y,v,h=>by
  simp only[AV.val?]at h;split at h
  ·rename_i x' y' hx hy;simp only[AV.ev,lN ρ x hx,lN ρ y hy];simpa using h
  ·cases h
 |.nilFunc,v,h=>by simp_all [AV.val?,AV.ev]
 |.iface t u,v,h=>by
  simp only[AV.val?]at h;split at h
  ·rename_i u' hu;simp only[AV.ev,z7 ρ u hu];simpa using h
  ·cases h
 |.nilIface,v,h=>by simp_all [AV.val?,AV.ev]
 |.agg x,v,h=>by
  simp only[AV.val?]at h;split at h
  ·rename_i u' hu;simp only[AV.ev,lN ρ x hu];simpa using h
  ·cases h
 |.tuple x,v,h=>by
  simp only[AV.val?]at h;split at h
  ·rename_i u' hu;simp only[AV.ev,lN ρ x hu];simpa using h
  ·cases h
 |.bC i,v,h=>by simp[AV.val?]at h
 |.raw u,v,h=>by simp_all [AV.val?,AV.ev]
 |.ss e,v,h=>by simp[AV.val?]at h
theorem lN(ρ:Env):∀(l:List AV) {vs:List Value},AV.vals? l=some vs->AV.evs ρ l=vs
 |[],vs,h=>by simp_all [AV.vals?,AV.evs]
 |a::l,vs,h=>by
  simp only[AV.vals?]at h;split at h
  ·rename_i v vs' hv hvs;simp only[AV.evs,z7 ρ a hv,lN ρ l hvs];simpa using h
  ·cases h
end
section
variable {K:Ctx}{ρ:Env}{h:AH}{w:World}{U:Nat->Prop}
theorem z8(ρ:Env)(e:IE):e.fold.ev ρ=e.ev ρ:=by unfold IE.fold;split<;>simp[IE.ev,SE.ev]
theorem NL{e:IE}(hi:e.In U):e.fold.In U:=by unfold IE.fold;split<;>first|trivial|exact hi
theorem l8(R:Rel K ρ h w)(e:IE):(K.O.int e).ev ρ=e.ev ρ:=by
 unfold dH.int;split
 ·rename_i n hn;rw[<-z8 ρ e,hn]
 ·rename_i hn;cases hl:look IE.eI e.fold K.O.is with
  |none=>simp[z8]
  |some e'=>obtain⟨x,hx,he⟩:=iX hl;obtain rfl:=IE.cK he;simp only[Option.getD_some];rw[<-R.is _ hx,z8]
theorem qZ(I:f_ K U h){e:IE}(hi:e.In U):(K.O.int e).In U:=by
 unfold dH.int;split
 ·trivial
 ·cases hl:look IE.eI e.fold K.O.is with
  |none=>exact NL hi
  |some e'=>obtain⟨x,hx,_⟩:=iX hl;exact(I.A8.is _ hx).2
theorem vP(ρ:Env)(b:BE):b.fold.ev ρ=b.ev ρ:=by unfold BE.fold;split<;>simp[BE.ev,IE.ev,SE.ev]
theorem vQ{b:BE}(hi:b.In U):b.fold.In U:=by unfold BE.fold;split<;>first|trivial|exact hi
theorem lC(R:Rel K ρ h w)(b:BE):(K.O.bool b).ev ρ=b.ev ρ:=by
 unfold dH.bool;split
 ·rename_i n hn;rw[<-vP ρ b,hn]
 ·rename_i hn;split
  ·rename_i v hv;obtain⟨x,hx,he⟩:=iX hv;obtain rfl:=BE.cK he;rw[<-vP ρ b,R.bs _ hx];rfl
  ·exact vP ρ b
theorem qb{b:BE}(hi:b.In U):(K.O.bool b).In U:=by
 unfold dH.bool;split
 ·trivial
 ·split
  ·trivial
  ·exact vQ hi
theorem jS(R:Rel K ρ h w){b:BE}{t:Bool}(e:K.O.bool b=.lit t):b.ev ρ=t:=by rw[<-lC R b,e];rfl
theorem kZ(R:Rel K ρ h w){b:BE}{t:Bool}(e:K.O.dec b=.ok t):b.ev ρ=t:=by
 unfold dH.dec at e;split at e
 ·rename_i v hv;cases e;exact jS R hv
 ·cases e
theorem o_(R:Rel K ρ h w)(v:AV):(oF K.O v).ev ρ=v.ev ρ:=by cases v<;>simp only[oF,AV.ev];rw[l8 R]
theorem Bf(I:f_ K U h){v:AV}(hv:v.In U):(oF K.O v).In U:=by
 cases v<;>first|exact hv|skip
 exact qZ I hv
theorem gN{v:AV}{cs:List AV}(hc:v.cells?=.ok cs)(ρ:Env):(v.ev ρ).cells=(AV.evs ρ cs).toArray:=by cases v<;>simp[AV.cells?]at hc<;>subst hc<;>simp[AV.ev,Value.cells,AV.evs]
theorem kn{v:AV}{cs:List AV}(hc:v.cells?=.ok cs)(hi:v.In U):AV.iw U cs:=by cases v<;>simp[AV.cells?]at hc<;>subst hc<;>first|exact hi|exact⟨hi,trivial⟩
theorem Bg{P:Program}{t:TypeId}{z:AV}(h:zero? P t=.ok z):∃i v,P.info? t=some i∧i.zero=some v∧z=ofValue v:=by
 unfold zero? at h;split at h
 ·rename_i i hi;split at h
  ·rename_i v hv;cases h;exact⟨i,v,hi,hv,rfl⟩
  ·cases h
 ·cases h
theorem dX{P:Program}{Ev:Event->Prop}{E:Value->World->Prop}{t:TypeId}{z:AV}(hz:zero? P t=.ok z){Q:Value->World->Prop}{w:World}:wq P Ev E (zeroValue t) Q w↔Q (z.ev ρ) w:=by obtain⟨i,v,hi,hv,rfl⟩:=Bg hz;simp[zeroValue,dI hi,hv,l6]
theorem nN{P:Program}{t:TypeId}{z:AV}(hz:zero? P t=.ok z):z.In U:=by obtain⟨i,v,hi,hv,rfl⟩:=Bg hz;exact l7 v
theorem vh{E:Value->World->Prop}{t:TypeId}{cs:List AV}{off:Nat}{v:AV}(hp:part? K.P t cs off=.ok v){Q:Value->World->Prop}{w:World}(hq:Q (v.ev ρ) w):
  wq K.P K.Ev E (part t (AV.evs ρ cs).toArray off) Q w:=by
 unfold part? at hp;rw[bH]at hp;obtain⟨b,hb,hp⟩:=hp;simp only[part,bF,A7 hb];split at hp
 ·rename_i hb';rw[bH]at hp;obtain⟨n,hn,hp⟩:=hp;split at hp
  ·rename_i hle;cases hp;rw[if_pos hb'];simp only[bF,c6 hn,bG];simp only[AV.ev]at hq;have:(AV.evs ρ cs).toArray.extract off (off+n)=(AV.evs ρ ((cs.drop off).take n)).toArray:=by
    rw[iU,iU,List.extract_toArray];simp[List.extract_eq_take_drop,List.map_take,List.map_drop]
   rw[this];exact hq
  ·cases hp
 ·rename_i hb';rw[if_neg hb'];split at hp
  ·rename_i u hu;cases hp;have:(AV.evs ρ cs).toArray[off]?=some (v.ev ρ):=by
    rw[List.getElem?_toArray,mR,hu];rfl
   rw[this];exact hq
  ·cases hp
theorem sj{P:Program}{t:TypeId}{cs:List AV}{off:Nat}{v:AV}(hp:part? P t cs off=.ok v)(hi:AV.iw U cs):v.In U:=by
 unfold part? at hp;rw[bH]at hp;obtain⟨b,hb,hp⟩:=hp;split at hp
 ·rw[bH]at hp;obtain⟨n,hn,hp⟩:=hp;split at hp
  ·cases hp;exact cS.2 fun a ha=>cS.1 hi _ (List.mem_of_mem_drop (List.mem_of_mem_take ha))
  ·cases hp
 ·split at hp
  ·rename_i u hu;cases hp;exact cS.1 hi _ (ay hu)
  ·cases hp
theorem ko(R:Rel K ρ h w)(G:K.Good){E:Value->World->Prop}{t:TypeId}{a:AA}{v:AV}(hl:loadVar? K.P K.O h t a=.ok v){Q:Value->World->Prop}(hq:Q (v.ev ρ) w):
  wq K.P K.Ev E (loadVar t (a.ev ρ)) Q w:=by
 unfold loadVar? at hl;rw[bH]at hl;obtain⟨b,hb,hl⟩:=hl;simp only[loadVar,bF,A7 hb];split at hl
 ·rename_i hb';simp only[bH,bJ]at hl;obtain⟨n,hn,l,hl,rfl⟩:=hl;rw[if_pos hb'];simp only[bF,c6 hn,loadCells];exact kR R G hl (by simpa[AV.ev] using hq)
 ·rename_i hb';rw[if_neg hb'];obtain⟨h1,h2⟩:=o9 R G hl;rw[vf];exact⟨_,h1,h2 _,hq⟩
theorem mT(I:f_ K U h){t:TypeId}{a:AA}{v:AV}(hl:loadVar? K.P K.O h t a=.ok v):v.In U:=by
 unfold loadVar? at hl;rw[bH]at hl;obtain⟨b,hb,hl⟩:=hl;split at hl
 ·simp only[bH,bJ]at hl;obtain⟨n,hn,l,hl,rfl⟩:=hl;exact r_ I hl
 ·exact vN I hl
theorem mU(R:Rel K ρ h w)(G:K.Good){E:Value->World->Prop}{t:TypeId}{a:AA}{v:AV}{h':AH}(hs:storeVar? K.P h t a v=.ok h'){Q:Unit->World->Prop}
 (hq:∀w',Rel K ρ h' w'->bS K.own w w'->h'.nb=h.nb->h'.fJ=h.fJ->Q () w'):wq K.P K.Ev E (storeVar t (a.ev ρ) (v.ev ρ)) Q w:=by
 unfold storeVar? at hs;simp only[bH]at hs;obtain⟨cs,hc,n,hn,hs⟩:=hs;split at hs
 ·rename_i hlen;have hcells:=gN hc ρ;simp only[storeVar,bF,c6 hn,hcells];have hsz:(AV.evs ρ cs).toArray.size=n:=by simp[cM,hlen]
  rw[if_neg (by simpa using hsz)];exact oo G R hs hq
 ·cases hs
theorem qw(I:f_ K U h){t:TypeId}{a:AA}{v:AV}{h':AH}(hs:storeVar? K.P h t a v=.ok h')(ha:a.In U)(hv:v.In U):f_ K U h':=by
 unfold storeVar? at hs;simp only[bH]at hs;obtain⟨cs,hc,n,hn,hs⟩:=hs;split at hs
 ·exact qY ha I hs (kn hc hv)
 ·cases hs
theorem DG(R:Rel K ρ h w)(G:K.Good){i:Nat}{e:TypeId}{c:IE}(hb:cE i h.hp=some (.row [] e c)){n:Nat}{inf:TypeInfo}(hi:K.P.info? e=some inf)(hn:n<(c.ev ρ).toNat*inf.size)(v:Value):
  (∃u,w.cell? ⟨ρ.b i,n,none⟩=some u)∧w.frozen? ⟨ρ.b i,n,none⟩=false∧(∀s,K.Ev ⟨.cell ⟨ρ.b i,n,none⟩,true,s⟩)∧Rel K ρ h (w.setCell ⟨ρ.b i,n,none⟩ v)∧bS K.own w (w.setCell ⟨ρ.b i,n,none⟩ v):=by
 obtain⟨arr,ha,rest,aby,V1,Hy,Nw⟩:=R.arr hb rfl;obtain rfl:inf=aby:=by rw[hi]at Hy;exact au Hy
 have hlt:n<arr.size:=by rw[Nw];exact hn
 have hown:=R.own _ _ hb rfl;have Be:¬K.still (ρ.b i) n:=fun x=>by have:=R.gi _ _ hb n x;cases this
 refine⟨⟨arr[n],by rw[jm ha];simp[hlt]⟩,h_ ha,fun s=>G.wr _ _ hown Be,?_,?_⟩
 ·refine⟨fun j b hj=>?_,R.qV,R.inj,R.bs,R.is,fun p hp=>?_,fun m hm=>R.room m (by rw[size_setCell]at hm;exact hm),R.gi,fun b m hm=>by rw[size_setCell];exact R.low b m hm⟩
  ·by_cases ej:j=i
   ·subst ej;rw[hb]at hj;cases hj;refine⟨.cells (arr.setIfInBounds n v) e (0,0),?_,.inl ⟨_,rfl,(arr.setIfInBounds n v).toList,inf,(List.nil_append _).symm,hi,by simpa using Nw⟩⟩;rw[heap_setCell,if_pos rfl,ha];rfl
   ·obtain⟨o,ho,hi'⟩:=R.blk _ _ hj;exact⟨o,by rw[heap_setCell,if_neg (fun x=>ej (R.inj _ _ _ _ hj hb x)),ho],hi'⟩
  ·obtain⟨m1,m2,m3⟩:=R.mem p hp;refine⟨m1,?_,m3⟩;have hne:(p.1.ev ρ).block≠ρ.b i:=fun x=>m1 (x▸hown);simp only[World.cell?]at m2⊢;rw[heap_setCell,if_neg hne];exact m2
 ·refine⟨fun m hm=>?_,by rw[size_setCell];exact ax _,rfl,rfl,rfl⟩;rw[heap_setCell,if_neg (fun x=>hm (by rw[x];exact hown))]
theorem DI(G:K.Good){E:Value->World->Prop}{i:Nat}{e:TypeId}{c:IE}(hb:cE i h.hp=some (.row [] e c)){inf:TypeInfo}(hi:K.P.info? e=some inf){off:Nat}:
  ∀{l:List AV} {j:Nat} {w:World},Rel K ρ h w->rU l=true->off+j+l.length≤(c.ev ρ).toNat*inf.size->∀{Q:Unit->World->Prop},(∀w',Rel K ρ h w'->bS K.own w w'->Q () w')->
   wq K.P K.Ev E (storeCells ⟨ρ.b i,off,none⟩ (AV.evs ρ l) j) Q w:=by
 intro l
 induction l with
 |nil=>intro j w R _ _ Q hq;exact hq w R (bS.refl _ _)
 |cons v l ih=>
  intro j w R ho hle Q hq;simp only[rU,an]at ho;simp only[aC]at hle;obtain⟨s2,s3,s4,s5,s6⟩:=DG R G hb hi (n:=off+j) (by omega) (v.ev ρ);have ea:(⟨ρ.b i,off,none⟩:Addr).add j=⟨ρ.b i,off+j,none⟩:=by
   by_cases hj:j=0
   ·subst hj;rfl
   ·simp[Addr.add,hj]
  simp only[AV.evs,storeCells,bF];rw[o7,ea];exact⟨om ho.1 ρ,s2,s3,s4 _,ih s5 ho.2 (by omega) fun w' r1 r2=>hq w' r1 (s6.trans r2)⟩
theorem Bh(R:Rel K ρ h w)(G:K.Good){E:Value->World->Prop}{t:TypeId}{i:Nat}{off:IE}{v:AV}{h':AH}(hs:storeRow? K.P K.O h t i off v=.ok h'){Q:Unit->World->Prop}
 (hq:∀w',Rel K ρ h w'->bS K.own w w'->Q () w'):wq K.P K.Ev E (storeVar t ((⟨.dyn i,off⟩:AA).ev ρ) (v.ev ρ)) Q w∧h'=h:=by
 unfold storeRow? at hs;simp only[bH]at hs;obtain⟨cs,hc,hs⟩:=hs;split at hs
 ·rename_i e c hb;simp only[bH]at hs;obtain⟨size,hsz,ok,hok,n,hn,hs⟩:=hs;split at hs
  ·rename_i hh;obtain⟨hlen,hone,rfl,h0⟩:=hh;cases hs;refine⟨?_,rfl⟩;obtain⟨inf,hi,rfl⟩:=l5 hsz;have hcells:=gN hc ρ;simp only[storeVar,bF,c6 hn,hcells];have hs2:(AV.evs ρ cs).toArray.size=n:=by simp[cM,hlen]
   rw[if_neg (by simpa using hs2)];have hlt:((off.ev ρ).toNat:Int)+(Int.ofNat (cs.length-1))<((c.ev ρ).toNat:Int)*(Int.ofNat inf.size):=by have:=kZ R hok;exact of_decide_eq_true this
   have hle:(off.ev ρ).toNat+0+cs.length≤(c.ev ρ).toNat*inf.size:=by
    have h2:(off.ev ρ).toNat+(cs.length-1)<(c.ev ρ).toNat*inf.size:=by
     have:=hlt;simp only[Int.ofNat_eq_natCast]at this
     exact_mod_cast this
    omega
   show wq K.P K.Ev E (storeCells ⟨ρ.b i,(off.ev ρ).toNat,none⟩ (AV.evs ρ cs).toArray.toList 0) Q w;simp only[List.toList_toArray];exact DI G hb hi R hone hle hq
  ·cases hs
 ·cases hs
theorem Hz(R:Rel K ρ h w)(G:K.Good){E:Value->World->Prop}{t:TypeId}{a:AA}{v:AV}{h':AH}(hs:storeS? K.P K.O h t a v=.ok h'){Q:Unit->World->Prop}
 (hq:∀w',Rel K ρ h' w'->bS K.own w w'->Q () w'):wq K.P K.Ev E (storeVar t (a.ev ρ) (v.ev ρ)) Q w:=by
 unfold storeS? at hs;split at hs
 ·split at hs
  ·have hh:h'=h:=by
    unfold storeRow? at hs;simp only[bH]at hs;obtain⟨cs,hc,hs⟩:=hs;split at hs
    ·simp only[bH]at hs;obtain⟨size,hsz,ok,hok,n,hn,hs⟩:=hs;split at hs<;>cases hs;rfl
    ·cases hs
   subst hh;exact(Bh R G hs hq).1
  ·exact mU R G hs fun w' a b _ _=>hq w' a b
 ·exact mU R G hs fun w' a b _ _=>hq w' a b
end
end
section
variable {K:Ctx}{ρ:Env}{h:AH}{w:World}{U:Nat->Prop}
theorem qx{E:Value->World->Prop}{n:Nat}{arr:Array Value}{e:TypeId}{f:Nat×Nat}(hn:w.heap[n]?=some (.cells arr e f)){Q:Option (Addr×TypeId)->World->Prop}(hq:Q none w):wq K.P K.Ev E (viewAt n) Q w:=by
 simp only[viewAt,bF,r7];have:(w.shape? n).isSome=true:=by simp[World.shape?,hn]
 rw[if_pos this];exact hq
theorem qy{E:Value->World->Prop}{a:Addr}{arr:Array Value}{e:TypeId}{f:Nat×Nat}(hn:w.heap[a.block]?=some (.cells arr e f)){Q:Unit->World->Prop}(hq:Q () w):wq K.P K.Ev E (noView a) Q w:=by simp only[noView,bF];exact qx hn (by simpa using hq)
theorem nO{E:Value->World->Prop}{b o:Nat}{arr:Array Value}{e:TypeId}(hn:w.heap[b]?=some (.cells arr e (0,0))){Q:Bool->World->Prop}(hq:Q false w):wq K.P K.Ev E (stringish ⟨b,o,none⟩) Q w:=by simp only[stringish,bF,nM,h_ hn];simp only[aF,if_false,bF,r7,World.shape?,hn];have:w.frozen? ⟨b,arr.size,none⟩=false:=h_ hn;simp only[nM,this];exact hq
theorem Bi(R:Rel K ρ h w){E:Value->World->Prop}{i j m n:Nat}{b c:bO}(hb:cE i h.hp=some b)(hc:cE j h.hp=some c)(mb:b.nF=true)(mc:c.nF=true)(hne:i≠j){Q:Bool->World->Prop}(hq:Q false w):
  wq K.P K.Ev E (sameAddr ⟨ρ.b i,m,none⟩ ⟨ρ.b j,n,none⟩) Q w:=by
 obtain⟨a1,h1,_⟩:=R.arr hb mb;obtain⟨a2,h2,_⟩:=R.arr hc mc;have hne':¬ρ.b i=ρ.b j:=fun e=>hne (R.inj i j b c hb hc e);have alI:(ρ.b i==ρ.b j)=false:=by simpa using hne'
 simp only[sameAddr,bF,gk];rw[if_neg (by simp[hne'])];simp only[nM,bF,h_ h1,bG];simp only[nM,h_ h2,Bool.false_and,aF,if_false,bF,bG];refine qy h1 ?_;refine qy h2 ?_;simp only[mayBeOne,bF];refine nO h1 ?_;refine nO h2 ?_;simp only[Bool.false_and,Bool.or_false,bF,bG,aF,if_false];exact hq
theorem l9{E:Value->World->Prop}{b m n:Nat}{Q:Bool->World->Prop}(hq:Q (m==n) w):wq K.P K.Ev E (sameAddr ⟨b,m,none⟩ ⟨b,n,none⟩) Q w:=by
 simp only[sameAddr,gk,bF];rw[if_pos (by simp)];have:((⟨b,m,none⟩:Addr)==⟨b,n,none⟩)=(m==n):=by
  by_cases e:m=n
  ·subst e;simp
  ·have h1:(m==n)=false:=by simpa using e
   rw[h1];rw[beq_eq_false_iff_ne];intro x;cases x;exact e rfl
 simp only[bG];rw[this];exact hq
theorem HA{P:Program}{eq:TypeId->AV->AV->M BE}(hi:∀t x y b,eq t x y=.ok b->x.In U->y.In U->b.In U){xs ys:List AV}(hx:AV.iw U xs)(hy:AV.iw U ys):∀{l:List Field} {b:BE},eqAll? P eq xs ys l=.ok b->b.In U:=by
 intro l
 induction l with
 |nil=>intro b he;cases he;trivial
 |cons f l ih=>
  intro b he;unfold eqAll? at he;split at he
  ·cases he
  ·rw[bH]at he;obtain⟨a,ha,he⟩:=he;rw[bH]at he;obtain⟨c,hc,he⟩:=he;rw[bH]at he;obtain⟨r,hr,he⟩:=he;have:=hi _ _ _ _ hr (sj ha hx) (sj hc hy);split at he
   ·exact ih he
   ·cases he;trivial
   ·split at he
    ·cases he;exact this
    ·cases he
theorem J4:∀{d:Nat} {t:TypeId} {x y:AV} {b:BE},eq? K.P K.O h d t x y=.ok b->x.In U->y.In U->b.In U:=by
 intro d
 induction d with
 |zero=>intro t x y b he;simp[eq?]at he
 |succ d ih=>
  intro t x y b he hx hy;simp only[eq?]at he;rw[bH]at he;obtain⟨D,hD,he⟩:=he;split at he
  ·split at he<;>first|(rw[bJ]at he;subst he;trivial)|cases he
  ·split at he
   ·rw[bJ]at he;subst he;exact qb ⟨hx,hy⟩
   ·cases he
  ·rw[bJ]at he;subst he;trivial
  ·rw[bJ]at he;subst he;exact qb trivial
  ·rw[bJ]at he;subst he;exact qb trivial
  ·rw[bJ]at he;subst he;exact qb trivial
  ·rw[bJ]at he;subst he;trivial
  ·rw[bJ]at he;subst he;trivial
  ·rw[bH]at he;obtain⟨s,hs,he⟩:=he;split at he
   ·cases he
   ·split at he
    ·split at he
     ·rw[bJ]at he;subst he;trivial
     ·split at he
      ·split at he<;>first|(rw[bJ]at he;subst he;trivial)|cases he
      ·cases he
    ·split at he<;>first|(rw[bJ]at he;subst he;trivial)|cases he
    ·cases he
  ·rw[bJ]at he;subst he;trivial
  ·rw[bJ]at he;subst he;trivial
  ·rw[bJ]at he;subst he;trivial
  ·split at he
   ·split at he
    ·split at he
     ·exact ih he hx hy
     ·cases he
    ·cases he
   ·rw[bJ]at he;subst he;trivial
  rotate_right 2
  ·split at he
   ·cases he
   ·exact HA (fun _ _ _ _ h1 h2 h3=>ih h1 h2 h3) hx hy he
  ·cases he
  all_goals first
   |(rw[bJ]at he;subst he;trivial)
   |cases he
theorem J5{E:Value->World->Prop}{D:Nat}{eq:TypeId->AV->AV->M BE}(hi:∀{t x y b},eq t x y=.ok b->∀{Q:Bool->World->Prop},Q (b.ev ρ) w->wq K.P K.Ev E (Op.equalIn D t (x.ev ρ) (y.ev ρ)) Q w){xs ys:List AV}:
  ∀{l:List Field} {b:BE},eqAll? K.P eq xs ys l=.ok b->∀{Q:Option Bool×Unit->World->Prop},Q (if b.ev ρ=true then(none,())else(some false,())) w->wq K.P K.Ev E (forIn l ((none,()):Option Bool×Unit) fun f _=>
       if f.name≠ "_" then do
        let a<-part f.type (AV.evs ρ xs).toArray f.offset;let b<-part f.type (AV.evs ρ ys).toArray f.offset;let c<-Op.equalIn D f.type a b
        if(!c)=true then pure (ForInStep.done (some false,()))else pure (ForInStep.yield (none,()))
       else pure (ForInStep.yield (none,()))) Q w:=by
 intro l
 induction l with
 |nil=>intro b he Q hq;cases he;simp only[List.forIn_nil,bG];exact hq
 |cons f l ih=>
  intro b he Q hq;unfold eqAll? at he;split at he
  ·cases he
  ·rename_i hn;rw[bH]at he;obtain⟨a,ha,he⟩:=he;rw[bH]at he;obtain⟨c,hc,he⟩:=he;rw[bH]at he;obtain⟨r,hr,he⟩:=he;simp only[List.forIn_cons,bF];rw[if_pos hn];simp only[bF];refine vh ha (vh hc (hi hr ?_));split at he
   ·simp only[BE.ev,Bool.not_true,aF,if_false,bG];exact ih he hq
   ·cases he;simp only[BE.ev,Bool.not_false,if_true,bG]at hq⊢;exact hq
   ·split at he
    ·have e:=Except.ok.inj he;rw[e];by_cases hb:b.ev ρ=true
     ·rw[if_pos hb]at hq;simp only[hb,Bool.not_true,aF,if_false,bG,List.forIn_nil];exact hq
     ·rw[if_neg hb]at hq;have hb':b.ev ρ=false:=by simpa using hb
      simp only[hb',Bool.not_false,if_true,bG];exact hq
    ·cases he
theorem vR(a b:SE):(BE.seq false a b).ev ρ=(a.ev ρ==b.ev ρ):=by rw[beq_toListBytes];simp[BE.ev]
theorem DJ(R:Rel K ρ h w){E:Value->World->Prop}:∀{d D:Nat} {t:TypeId} {x y:AV} {b:BE},d≤D->eq? K.P K.O h d t x y=.ok b->∀{Q:Bool->World->Prop},Q (b.ev ρ) w->
  wq K.P K.Ev E (Op.equalIn D t (x.ev ρ) (y.ev ρ)) Q w:=by
 intro d
 induction d with
 |zero=>intro D t x y b _ he;simp[eq?]at he
 |succ d ih=>
  intro D t x y b hD he Q hq;obtain⟨D,rfl⟩:∃D',D=D'+1:=⟨D-1,by omega⟩;simp only[eq?]at he;rw[bH]at he;obtain⟨T,hT,he⟩:=he;have hU:=cZ hT;simp only[Op.equalIn,bF,bK hU];split at he
  ·
   rename_i a b';simp only[AV.ev];split at he
   ·rename_i t1 t2 e1 e2;rw[bJ]at he;subst he;rw[bG,jS R e1,jS R e2];exact hq
   ·cases he
  ·
   simp only[AV.ev];split at he
   ·rename_i hk;rw[bJ]at he;subst he;rw[lC R]at hq;simp only[gk,if_pos hk,bG];exact hq
   ·cases he
  ·simp only[AV.ev];rw[bJ]at he;subst he;rw[bG];exact hq
  ·simp only[AV.ev];rw[bJ]at he;subst he;rw[lC R,vR]at hq;rw[bG];exact hq
  ·simp only[AV.ev];rw[bJ]at he;subst he;rw[lC R,vR]at hq;rw[bG];exact hq
  ·simp only[AV.ev];rw[bJ]at he;subst he;rw[lC R,vR]at hq;rw[bG];exact hq
  ·rw[bJ]at he;subst he;rename_i b';cases b'<;>simpa[AV.ev,BE.ev] using hq
  ·rw[bJ]at he;subst he;simpa[AV.ev,BE.ev] using hq
  ·
   rename_i e a b';rw[bH]at he;obtain⟨s,hs,he⟩:=he;split at he
   ·cases he
   ·rename_i hs0;simp only[AV.ev,av,bF,c6 hs];rw[if_pos hs0];split at he
    ·rename_i i m j n h1 h2 h3 h4;have ea:a.ev ρ=⟨ρ.b i,m,none⟩:=by simp[AA.ev,h1,h2,BR.ev,IE.ev]
     have eb:b'.ev ρ=⟨ρ.b j,n,none⟩:=by simp[AA.ev,h3,h4,BR.ev,IE.ev]
     rw[ea,eb];split at he
     ·rename_i hij;rw[bJ]at he;subst he;have:i=j:=by simpa using hij
      subst this;exact l9 hq
     ·rename_i hij;have hne:i≠j:=by simpa using hij
      split at he
      ·rename_i hb hc;split at he
       ·rename_i hm;rw[an]at hm;rw[bJ]at he;subst he;exact Bi R hb hc hm.1 hm.2 hne hq
       ·cases he
      ·cases he
    ·rename_i i m j n h1 h2 h3 h4;have ea:a.ev ρ=⟨i,m,none⟩:=by simp[AA.ev,h1,h2,BR.ev,IE.ev]
     have eb:b'.ev ρ=⟨j,n,none⟩:=by simp[AA.ev,h3,h4,BR.ev,IE.ev]
     rw[ea,eb];split at he
     ·rename_i hij;rw[bJ]at he;subst he;have:i=j:=by simpa using hij
      subst this;exact l9 hq
     ·cases he
    ·cases he
  ·rw[bJ]at he;subst he;simpa[AV.ev,BE.ev] using hq
  ·rw[bJ]at he;subst he;simpa[AV.ev,BE.ev] using hq
  ·rw[bJ]at he;subst he;simpa[AV.ev,BE.ev] using hq
  ·
   rename_i tx vx ty vy;simp only[AV.ev];split at he
   ·rename_i htt;have:tx=ty:=by simpa using htt
    subst this;split at he
    ·rename_i i hi;split at he
     ·rename_i hcmp;simp only[gk,bF,dI hi];rw[if_neg (by simp),if_neg (by simp[hcmp])];exact ih (by omega) he hq
     ·cases he
    ·cases he
   ·rename_i htt;have:tx≠ty:=by simpa using htt
    rw[bJ]at he;subst he;simp only[gk];rw[if_pos this];exact hq
  ·rw[bJ]at he;subst he;rename_i b' _ _;cases b'<;>simpa[AV.ev,BE.ev] using hq
  ·rw[bJ]at he;subst he;simpa[AV.ev,BE.ev] using hq
  ·rw[bJ]at he;subst he;rename_i b';cases b'<;>simpa[AV.ev,BE.ev] using hq
  ·rw[bJ]at he;subst he;simpa[AV.ev,BE.ev] using hq
  ·rw[bJ]at he;subst he;simpa[AV.ev,BE.ev] using hq
  ·rw[bJ]at he;subst he;simpa[AV.ev,BE.ev] using hq
  ·rw[bJ]at he;subst he;simpa[AV.ev,BE.ev] using hq
  ·rw[bJ]at he;subst he;rename_i b';cases b'<;>simpa[AV.ev,BE.ev] using hq
  ·rw[bJ]at he;subst he;simpa[AV.ev,BE.ev] using hq
  ·rename_i fs xs ys;split at he
   ·cases he
   ·rename_i hst;simp only[AV.ev,bF,iH];rw[if_neg hst];simp only[bF];rw[<-Array.forIn_toList];refine J5 (fun h1 _ h2=>ih (by omega) h1 h2) he ?_;by_cases hb:b.ev ρ=true
    ·rw[if_pos hb];rw[hb]at hq;exact hq
    ·rw[if_neg hb];rw[show b.ev ρ=false by simpa using hb]at hq;exact hq
  ·cases he
theorem so(R:Rel K ρ h w){E:Value->World->Prop}{t:TypeId}{x y:AV}{b:BE}(he:eq? K.P K.O h 8 t x y=.ok b){Q:Bool->World->Prop}(hq:Q (b.ev ρ) w):
 wq K.P K.Ev E (Op.equal t (x.ev ρ) (y.ev ρ)) Q w:=DJ R (by unfold Op.maxDepth;omega) he hq
theorem FH{b c:BE}(hn:u9 b=.ok c)(ρ:Env):c.ev ρ=!b.ev ρ:=by
 cases b with
 |lit t=>simp[u9]at hn;subst hn;rfl
 |var i=>simp[u9]at hn
 |cmp o a b=>
  cases o<;>simp[u9]at hn<;>subst hn<;>simp only[BE.ev,A0]
  ·simp[bne]
  ·simp[bne]
  ·simp[decide_not.symm,Int.not_lt]
  ·simp[decide_not.symm,Int.not_le]
  ·simp[decide_not.symm,Int.not_lt]
  ·simp[decide_not.symm,Int.not_le]
 |seq n a b=>simp only[u9]at hn;cases hn;simp only[BE.ev];cases n<;>simp
theorem FI{b c:BE}(hn:u9 b=.ok c)(hi:b.In U):c.In U:=by
 cases b with
 |lit t=>simp[u9]at hn;subst hn;trivial
 |var i=>simp[u9]at hn
 |cmp o a b=>cases o<;>simp[u9]at hn<;>subst hn<;>exact hi
 |seq n a b=>simp only[u9]at hn;cases hn;trivial
end
section
variable {K:Ctx}{ρ:Env}{h:AH}{w:World}{U:Nat->Prop}
theorem HB(o:BinOp)(t:TypeId)(k:IntKind)(a b:Int)(ho:intArith? o=true):binOp o t (.int k a) (.int k b)=pure (.int k (iF o k a b)):=by cases o<;>simp_all [intArith?]<;>simp[binOp,iF,Op.intArith,Op.intBits]
theorem HC(o:BinOp)(t:TypeId)(k:IntKind)(a b:Int)(ho:cmp? o=true):binOp o t (.int k a) (.int k b)=pure (.bool (A0 o a b)):=by cases o<;>simp_all [cmp?]<;>simp[binOp,A0,Op.intCmp]
theorem binOp_eql(t:TypeId){x y:Value}(hx:(∃k n,x=.int k n)->¬∃k n,y=.int k n)(hs:(∃s,x=.string s)->¬∃s,y=.string s)(hf:∀k n,x≠.float k n)(hc:∀k n m,x≠.complex k n m):
  binOp .eql t x y=(do pure (.bool (<-Op.equal t x y))):=by
 cases x<;>first|exact absurd rfl (hf _ _)|exact absurd rfl (hc _ _ _)|skip
 all_goals cases y<;>first|rfl|exact absurd ⟨_,_,rfl⟩ (hx ⟨_,_,rfl⟩)|exact absurd ⟨_,rfl⟩ (hs ⟨_,rfl⟩)
theorem binOp_neq(t:TypeId){x y:Value}(hx:(∃k n,x=.int k n)->¬∃k n,y=.int k n)(hs:(∃s,x=.string s)->¬∃s,y=.string s)(hf:∀k n,x≠.float k n)(hc:∀k n m,x≠.complex k n m):
  binOp .neq t x y=(do pure (.bool (!(<-Op.equal t x y)))):=by
 cases x<;>first|exact absurd rfl (hf _ _)|exact absurd rfl (hc _ _ _)|skip
 all_goals cases y<;>first|rfl|exact absurd ⟨_,_,rfl⟩ (hx ⟨_,_,rfl⟩)|exact absurd ⟨_,rfl⟩ (hs ⟨_,rfl⟩)
theorem tK{d:Nat}{t:TypeId}{x y:AV}{b:BE}(he:eq? K.P K.O h d t x y=.ok b):(∀k n,x.ev ρ≠.float k n)∧(∀k n m,x.ev ρ≠.complex k n m)∧(((∃s,x=.str s)∨∃e,x=.ss e)∨∀s,x.ev ρ≠.string s)∧((∃k e,x=.int k e)∨∀k n,x.ev ρ≠.int k n)∧
  (((∃s,x=.str s)∨∃e,x=.ss e)->(∃s,y=.str s)∨∃e,y=.ss e)∧((∃k e,x=.int k e)->∃k e,y=.int k e):=by
 cases d with
 |zero=>simp[eq?]at he
 |succ d=>
  simp only[eq?]at he;rw[bH]at he;obtain⟨T,hT,he⟩:=he;split at he<;>first
   |(cases he;done)
   |(refine⟨?_,?_,?_,?_,?_,?_⟩<;>simp[AV.ev])
theorem sq(a b:ByteArray):Op.stringOp .eql a b=pure (.bool (a.toList==b.toList)):=rfl
theorem sr(a b:ByteArray):Op.stringOp .neq a b=pure (.bool !(a.toList==b.toList)):=rfl
theorem z9(R:Rel K ρ h w){b:IE}{t1:Bool}(JG:K.O.dec (.cmp .lss b (.lit 0))=.ok t1)(hn:¬t1=true):¬b.ev ρ<0:=by have h1:decide (b.ev ρ<0)=t1:=kZ R JG;intro hc;exact hn (h1▸decide_eq_true hc)
theorem Bj(R:Rel K ρ h w){b:IE}{t1:Bool}(JG:K.O.dec (.cmp .eql b (.lit 0))=.ok t1)(hn:¬t1=true):¬b.ev ρ=0:=by have h1:(b.ev ρ==0)=t1:=kZ R JG;intro hc;exact hn (h1▸by simp[hc])
theorem DL(R:Rel K ρ h w){E:Value->World->Prop}{o:BinOp}{t:TypeId}{a b:SE}{v:AV}(he:sOp? K.O o a b=.ok v){Q:Value->World->Prop}(hq:Q (v.ev ρ) w):
  wq K.P K.Ev E (binOp o t (.string (a.ev ρ)) (.string (b.ev ρ))) Q w:=by
 unfold sOp? at he;split at he
 ·cases he;simp only[AV.ev,lC R]at hq;simp only[binOp];rw[sq];simpa[BE.ev] using hq
 ·cases he;simp only[AV.ev,lC R]at hq;simp only[binOp];rw[sr];simpa[BE.ev] using hq
 ·split at he
  ·rename_i hd;cases he;have h1:decide (((a.ev ρ++b.ev ρ).size:Int)≤4611686018427387904)=true:=kZ R hd;have h2:=of_decide_eq_true h1;rw[ByteArray.size_append]at h2;simp only[binOp,Op.stringOp,gk];rw[if_neg (by simp only[IntKind.max,IntKind.bits,IntKind.signed];simp;omega)];exact hq
  ·cases he
  ·cases he
 ·cases he
theorem DM{O:dH}{o:BinOp}{a b:SE}{v:AV}(he:sOp? O o a b=.ok v):v.In U:=by
 unfold sOp? at he;split at he
 ·cases he;show BE.In U (O.bool _);unfold dH.bool;split
  ·trivial
  ·split<;>first|trivial|exact vQ trivial
 ·cases he;show BE.In U (O.bool _);unfold dH.bool;split
  ·trivial
  ·split<;>first|trivial|exact vQ trivial
 ·split at he
  ·cases he;trivial
  ·cases he
  ·cases he
 ·cases he
theorem J6(R:Rel K ρ h w){E:Value->World->Prop}{o:BinOp}{t:TypeId}{x y v:AV}(he:binOp? K.P K.O h o t x y=.ok v){Q:Value->World->Prop}(hq:Q (v.ev ρ) w):
  wq K.P K.Ev E (binOp o t (x.ev ρ) (y.ev ρ)) Q w:=by
 unfold binOp? at he;split at he
 ·
  rename_i k a k' b;simp only[AV.ev];split at he
  ·
   simp only[bH]at he;obtain⟨t1,JG,he⟩:=he;split at he
   ·cases he
   ·rename_i hn;rw[bJ]at he;subst he;simp only[AV.ev,l8 R]at hq;simp only[binOp,Op.shift,gk];rw[if_neg (z9 R JG hn)];exact hq
  ·simp only[bH]at he;obtain⟨t1,JG,he⟩:=he;split at he
   ·cases he
   ·rename_i hn;rw[bJ]at he;subst he;simp only[AV.ev,l8 R]at hq;simp only[binOp,Op.shift,gk];rw[if_neg (z9 R JG hn)];exact hq
  ·split at he
   ·rename_i hk;subst hk;simp only[bH]at he;obtain⟨t1,JG,he⟩:=he;split at he
    ·cases he
    ·rename_i hn;rw[bJ]at he;subst he;simp only[AV.ev,l8 R]at hq;simp only[binOp,Op.intDiv,gk];rw[if_neg (by simp),if_neg (Bj R JG hn)];exact hq
   ·cases he
  ·split at he
   ·rename_i hk;subst hk;simp only[bH]at he;obtain⟨t1,JG,he⟩:=he;split at he
    ·cases he
    ·rename_i hn;rw[bJ]at he;subst he;simp only[AV.ev,l8 R]at hq;simp only[binOp,Op.intDiv,gk];rw[if_neg (by simp),if_neg (Bj R JG hn)];exact hq
   ·cases he
  ·split at he
   ·rename_i hk;subst hk;split at he
    ·rename_i ho;rw[bJ]at he;subst he;simp only[AV.ev,l8 R]at hq;rw[HB _ _ _ _ _ ho];exact hq
    ·split at he
     ·rename_i ho;rw[bJ]at he;subst he;simp only[AV.ev]at hq;rw[lC R]at hq;rw[HC _ _ _ _ _ ho];exact hq
     ·cases he
   ·cases he
 ·
  rename_i a b;simp only[AV.ev];split at he
  ·rw[bJ]at he;subst he;simp only[binOp];rw[sq];exact hq
  ·rw[bJ]at he;subst he;simp only[binOp];rw[sr];exact hq
  ·split at he
   ·rename_i hle;rw[bJ]at he;subst he;simp only[binOp,Op.stringOp,gk];rw[if_neg (by simp only[IntKind.max,IntKind.bits,IntKind.signed];simp;omega)];exact hq
   ·cases he
  ·cases he
 ·exact DL R he hq
 ·exact DL R he hq
 ·exact DL R he hq
 ·rename_i hni Be J7 hn2 hn3;have V2:∀{b:BE},eq? K.P K.O h 8 t x y=.ok b->(∃s,x.ev ρ=.string s)->¬∃s,y.ev ρ=.string s:=by
   intro b hb;obtain⟨s1,s2,s3,s4,s5,s6⟩:=tK (ρ:=ρ) hb;rintro⟨s,e⟩;rcases s3 with h3|h3
   ·rcases h3 with⟨s',rfl⟩|⟨s',rfl⟩
    ·rcases s5 (.inl ⟨_,rfl⟩)with⟨s2,rfl⟩|⟨s2,rfl⟩
     ·exact absurd rfl (Be _ _ rfl)
     ·exact absurd rfl (hn3 _ _ rfl)
    ·rcases s5 (.inr ⟨_,rfl⟩)with⟨s2,rfl⟩|⟨s2,rfl⟩
     ·exact absurd rfl (hn2 _ _ rfl)
     ·exact absurd rfl (J7 _ _ rfl)
   ·exact absurd e (h3 _)
  split at he
  ·simp only[bH,bJ]at he;obtain⟨b,hb,rfl⟩:=he;obtain⟨s1,s2,s3,s4,s5,s6⟩:=tK (ρ:=ρ) hb;have hs:=V2 hb;have hi:(∃k n,x.ev ρ=.int k n)->¬∃k n,y.ev ρ=.int k n:=by
    rintro⟨k,n,e⟩;rcases s4 with⟨k',e',rfl⟩|h4
    ·obtain⟨k2,e2,rfl⟩:=s6 ⟨_,_,rfl⟩;exact absurd rfl (hni _ _ _ _ rfl)
    ·exact absurd e (h4 _ _)
   rw[binOp_eql t hi hs s1 s2];simp only[bF,bG];exact so R hb hq
  ·simp only[bH,bJ]at he;obtain⟨b,hb,c,hc,rfl⟩:=he;obtain⟨s1,s2,s3,s4,s5,s6⟩:=tK (ρ:=ρ) hb;have hs:=V2 hb;have hi:(∃k n,x.ev ρ=.int k n)->¬∃k n,y.ev ρ=.int k n:=by
    rintro⟨k,n,e⟩;rcases s4 with⟨k',e',rfl⟩|h4
    ·obtain⟨k2,e2,rfl⟩:=s6 ⟨_,_,rfl⟩;exact absurd rfl (hni _ _ _ _ rfl)
    ·exact absurd e (h4 _ _)
   rw[binOp_neq t hi hs s1 s2];simp only[bF,bG];refine so R hb ?_;simp only[AV.ev,FH hc]at hq;exact hq
  ·cases he
theorem HD(I:f_ K U h){o:BinOp}{t:TypeId}{x y v:AV}(he:binOp? K.P K.O h o t x y=.ok v)(hx:x.In U)(hy:y.In U):v.In U:=by
 unfold binOp? at he;split at he
 ·split at he
  all_goals try (split at he)
  all_goals try (simp only[bH]at he;obtain⟨t1,JG,he⟩:=he)
  all_goals try (split at he)
  all_goals try (split at he)
  all_goals first
   |(cases he;done)
   |(rw[bJ]at he;subst he;first|exact qZ I ⟨hx,hy⟩|exact qb ⟨hx,hy⟩)
 ·split at he
  all_goals try (split at he)
  all_goals first
   |(cases he;done)
   |(rw[bJ]at he;subst he;trivial)
 ·exact DM he
 ·exact DM he
 ·exact DM he
 ·split at he
  ·simp only[bH,bJ]at he;obtain⟨b,hb,rfl⟩:=he;exact J4 hb hx hy
  ·simp only[bH,bJ]at he;obtain⟨b,hb,c,hc,rfl⟩:=he;exact FI hc (J4 hb hx hy)
  ·cases he
theorem z_{op:BinOp}(ho:¬(op=.eql∨op=.neq))(t:TypeId)(x y:Operand)(a b:Value):eqGuard op t x y a b=pure ():=by cases op<;>simp_all [eqGuard]
theorem tL{E:Value->World->Prop}{t:TypeId}{ms:Array (String×TypeId)}(hm:K.P.underlying t=some (.interface ms))(Q1:ms.isEmpty=true){Q:Bool->World->Prop}(hq:Q false w):
  wq K.P K.Ev E (Op.eqGuardIn Op.maxDepth t .nilIface .nilIface) Q w:=by
 obtain⟨d,hd⟩:∃d,Op.maxDepth=d+1:=⟨9999,rfl⟩;rw[hd];simp only[Op.eqGuardIn,bF,bK hm,bG,Q1,Bool.not_true];exact hq
theorem yh{op:BinOp}(ho:op=.eql∨op=.neq)(t:TypeId)(x y:Operand)(hc:(isConst? x||isConst? y)=true):eqGuard op t x y .nilIface .nilIface=pure ():=by
 rcases ho with rfl|rfl<;>cases x<;>cases y<;>first
  |rfl
  |exact absurd (show false=true from hc) (by simp)
theorem Bl{op:BinOp}(ho:op=.eql∨op=.neq)(t:TypeId)(x y:Operand)(hc:¬(isConst? x||isConst? y)=true):eqGuard op t x y .nilIface .nilIface=(do
  if<-Op.eqGuardIn Op.maxDepth t .nilIface .nilIface then unsupported (.noEntry "binop/eql: two nil values of an interface type with methods, neither of them the literal nil")):=by
 rcases ho with rfl|rfl<;>cases x<;>cases y<;>first
  |rfl
  |exact absurd rfl hc
theorem Bm{op:BinOp}(ho:op=.eql∨op=.neq)(t:TypeId)(x y:Operand)(a b:Array Value):eqGuard op t x y (.agg a) (.agg b)=(do
  if !(<-program).eqGuardType (<-program).depth t then return
  if<-Op.eqGuardIn Op.maxDepth t (.agg a) (.agg b)then unsupported (.noEntry "binop/eql: two nil values of an interface type with methods, in a part of a struct or an array")):=by
 rcases ho with rfl|rfl<;>rfl
theorem yj{op:BinOp}(t:TypeId)(x y:Operand){a b:Value}(h1:a=.nilIface->b≠.nilIface)(h2:(∃c,a=.agg c)->¬∃c,b=.agg c):eqGuard op t x y a b=pure ():=by
 cases op<;>first
  |rfl
  |(cases a<;>first
   |rfl
   |(cases b<;>first
    |rfl
    |exact absurd rfl (h1 rfl)
    |exact absurd ⟨_,rfl⟩ (h2 ⟨_,rfl⟩)))
theorem DN{E:Value->World->Prop}{op:BinOp}{t:TypeId}{x y:Operand}{a b:AV}(he:eqGuard? K.P op t x y a b=.ok ()){Q:Unit->World->Prop}(hq:Q () w):
  wq K.P K.Ev E (eqGuard op t x y (a.ev ρ) (b.ev ρ)) Q w:=by
 by_cases ho:op=.eql∨op=.neq
 ·have hh:(match a,b with
    |.nilIface,.nilIface=>if isConst? x||isConst? y then(Except.ok ():M Unit)else
     match K.P.underlying t with
     |some (.interface ms)=>if ms.isEmpty then .ok ()else .error " two nil values"
     |_=>.error " two nil values"
    |.agg _,.agg _=>if K.P.eqGuardType K.P.depth t then .error " structs with interface values" else .ok ()
    |.raw _,_=>.error " raw"
    |_,.raw _=>.error " raw"
    |.bC _,_=>.error " veiled"
    |_,.bC _=>.error " veiled"
    |_,_=>.ok ())=.ok ():=by rcases ho with rfl|rfl<;>exact he
  split at hh
  ·
   simp only[AV.ev];split at hh
   ·rename_i hc;rw[yh ho t x y hc];exact hq
   ·rename_i hc;rw[Bl ho t x y hc];split at hh
    ·rename_i ms hm;split at hh
     ·rename_i Q1;simp only[bF];exact tL hm Q1 (by simpa using hq)
     ·cases hh
    ·cases hh
  ·simp only[AV.ev];rw[Bm ho];split at hh
   ·cases hh
   ·rename_i hg;simp only[bF,iH,gk];rw[if_pos (by simpa using hg)];exact hq
  all_goals try (cases hh;done)
  rename_i m1 m2 n1 n2 n3 n4;rw[yj]
  ·exact hq
  ·intro h1 h2;cases a<;>simp only[AV.ev]at h1<;>first
    |(cases h1;done)
    |skip
   all_goals cases b<;>simp only[AV.ev]at h2<;>first
    |(cases h2;done)
    |simp_all
  ·rintro⟨c,h1⟩ ⟨c',h2⟩;cases a<;>simp only[AV.ev]at h1<;>first
    |(cases h1;done)
    |skip
   all_goals cases b<;>simp only[AV.ev]at h2<;>first
    |(cases h2;done)
    |simp_all
 ·rw[z_ ho];exact hq
end
section
variable {K:Ctx}{ρ:Env}{h:AH}{w:World}{U:Nat->Prop}
theorem jT{x:AV}{a:AA}(hs:sureAddr? x=.ok a):x=.ptr (some a):=by
 unfold sureAddr? at hs;split at hs
 ·cases hs;rfl
 ·cases hs
theorem DO{E:Value->World->Prop}{s:TypeId}{x v:AV}{i:Nat}(he:fieldAddr? K.P s x i=.ok v){Q:Value->World->Prop}(hq:Q (v.ev ρ) w):wq K.P K.Ev E (Instr.fieldAt s (x.ev ρ) i) Q w:=by
 unfold fieldAddr? at he;simp only[bH]at he;obtain⟨D,hD,he⟩:=he;split at he
 ·rename_i fs;split at he
  ·rename_i f hf;simp only[bH]at he;obtain⟨a,ha,n,hn,he⟩:=he;split at he
   ·cases he
   ·rename_i hn0;rw[bJ]at he;subst he;obtain rfl:=jT ha;simp only[Instr.fieldAt,bF,bK (cZ hD),hf];simp only[AV.ev,av,Instr.sureAddr,bG,fieldPlace,bF,c6 hn];rw[if_neg hn0];simp only[AV.ev,av,AA.qX]at hq;exact hq
  ·cases he
 ·cases he
theorem yl{P:Program}{s:TypeId}{x v:AV}{i:Nat}(he:fieldAddr? P s x i=.ok v)(hx:x.In U):v.In U:=by
 unfold fieldAddr? at he;simp only[bH]at he;obtain⟨D,hD,he⟩:=he;split at he
 ·split at he
  ·simp only[bH]at he;obtain⟨a,ha,n,hn,he⟩:=he;split at he
   ·cases he
   ·rw[bJ]at he;subst he;obtain rfl:=jT ha;exact AA.tJ _ hx
  ·cases he
 ·cases he
theorem HE(ρ:Env)(a:IE)(n:Nat):(vC a n).ev ρ=(((a.ev ρ).toNat*n:Nat):Int):=by
 unfold vC;split
 ·simp[IE.ev]
 ·split
  ·rename_i h1;subst h1;simp[IE.ev]
  ·simp[IE.ev]
theorem yT{a:IE}(n:Nat)(hi:a.In U):(vC a n).In U:=by
 unfold vC;split
 ·trivial
 ·split
  ·exact hi
  ·exact⟨hi,trivial⟩
theorem AA.PJ(ρ:Env)(a:AA)(i:IE)(size:Nat):(a.at i size).ev ρ=(a.ev ρ).add ((i.ev ρ).toNat*size):=by
 have ht:=HE ρ i size;unfold AA.at;split
 ·rename_i n hn;rw[hn]at ht;simp only[IE.ev]at ht;rw[AA.qX];have:n=(i.ev ρ).toNat*size:=Int.ofNat.inj ht;rw[this]
 ·rename_i hn;split
  ·rename_i h0;simp only[AA.ev,h0,IE.ev,ht,Addr.add];simp only[bx,Int.toNat_zero,aG];split
   ·rename_i hz;rw[hz]
   ·rfl
  ·simp only[AA.ev,IE.ev,ht,Addr.add];have:((((a.off.ev ρ).toNat:Int)+(((i.ev ρ).toNat*size:Nat):Int))).toNat=(a.off.ev ρ).toNat+(i.ev ρ).toNat*size:=by omega
   rw[this];split
   ·rename_i hz;rw[hz];simp
   ·rfl
theorem AA.PK{a:AA}{i:IE}(size:Nat)(ha:a.In U)(hi:i.In U):(a.at i size).In U:=by
 unfold AA.at;split
 ·exact AA.tJ _ ha
 ·split
  ·exact⟨ha.1,yT _ hi⟩
  ·exact⟨ha.1,ha.2,yT _ hi⟩
theorem yU(R:Rel K ρ h w){i len:IE}(he:index? K.O i len=.ok ()):0≤i.ev ρ∧i.ev ρ<len.ev ρ:=by
 unfold index? at he;simp only[bH]at he;obtain⟨t1,h1,he⟩:=he;split at he
 ·rename_i e1;simp only[bH]at he;obtain⟨t2,h2,he⟩:=he;split at he
  ·rename_i e2;subst e1;subst e2;have a1:decide (0≤i.ev ρ)=true:=kZ R h1;have a2:decide (i.ev ρ<len.ev ρ)=true:=kZ R h2;exact⟨of_decide_eq_true a1,of_decide_eq_true a2⟩
  ·cases he
 ·cases he
theorem J8(ρ:Env)(len:IE){n:Int}(hn:0≤n)(hl:n<(match len with|.lit n=>IE.lit n|l=>.tn l).ev ρ):n<((len.ev ρ).toNat:Int):=by cases len<;>simp only[IE.ev]at hl⊢<;>omega
theorem DR(R:Rel K ρ h w){E:Value->World->Prop}{t:TypeId}{x i v:AV}(he:indexAddr? K.P K.O t x i=.ok v){Q:Value->World->Prop}(hq:Q (v.ev ρ) w):wq K.P K.Ev E (Instr.indexAt t (x.ev ρ) (i.ev ρ)) Q w:=by
 unfold indexAddr? at he;split at he
 ·rename_i k i;simp only[bH]at he;obtain⟨D,hD,he⟩:=he;split at he
  ·rename_i elem a len cap;simp only[bH,bJ]at he;obtain⟨_,V3,n,hn,rfl⟩:=he;obtain⟨h1,h2⟩:=yU R V3;have h3:=J8 ρ len h1 h2;simp only[AV.ev,av,AA.PJ]at hq;simp only[Instr.indexAt,AV.ev,av,asIntOf,bF,bG,bK (cZ hD)];simp only[gk,bF,c6 hn,bG];rw[if_pos ⟨h1,h3⟩];exact hq
  ·rename_i m elem a;simp only[bH,bJ]at he;obtain⟨_,V3,n,hn,rfl⟩:=he;obtain⟨h1,h2⟩:=yU R V3;have h3:i.ev ρ<(m:Int):=h2;simp only[AV.ev,av,AA.PJ]at hq;simp only[Instr.indexAt,AV.ev,av,asIntOf,bF,bG,bK (cZ hD),Instr.sureAddr];simp only[gk,bF,c6 hn,bG];rw[if_pos ⟨h1,h3⟩];exact hq
  ·cases he
 ·cases he
theorem ym{P:Program}{O:dH}{t:TypeId}{x i v:AV}(he:indexAddr? P O t x i=.ok v)(hx:x.In U)(hi:i.In U):v.In U:=by
 unfold indexAddr? at he;split at he
 ·simp only[bH]at he;obtain⟨D,hD,he⟩:=he;split at he
  ·simp only[bH,bJ]at he;obtain⟨_,V3,n,hn,rfl⟩:=he;exact AA.PK _ hx.1 hi
  ·simp only[bH,bJ]at he;obtain⟨_,V3,n,hn,rfl⟩:=he;exact AA.PK _ hx hi
  ·cases he
 ·cases he
theorem J9{E:Value->World->Prop}{t:TypeId}{x v:AV}{i:Nat}(he:field? K.P t x i=.ok v){Q:Value->World->Prop}(hq:Q (v.ev ρ) w):wq K.P K.Ev E (Instr.field t (x.ev ρ) i) Q w:=by
 unfold field? at he;simp only[bH]at he;obtain⟨D,hD,he⟩:=he;split at he
 ·rename_i fs cs;split at he
  ·rename_i f hf;simp only[Instr.field,bF,bK (cZ hD),hf,AV.ev,asAgg,bG];exact vh he hq
  ·cases he
 ·cases he
theorem HF{P:Program}{t:TypeId}{x v:AV}{i:Nat}(he:field? P t x i=.ok v)(hx:x.In U):v.In U:=by
 unfold field? at he;simp only[bH]at he;obtain⟨D,hD,he⟩:=he;split at he
 ·split at he
  ·exact sj he hx
  ·cases he
 ·cases he
theorem J_{E:Value->World->Prop}{t:TypeId}{x i v:AV}(he:indexOp? K.P t x i=.ok v){Q:Value->World->Prop}(hq:Q (v.ev ρ) w):wq K.P K.Ev E (Instr.index t (x.ev ρ) (i.ev ρ)) Q w:=by
 unfold indexOp? at he;simp only[bH]at he;obtain⟨D,hD,he⟩:=he;split at he
 ·rename_i n elem cs k i;split at he
  ·rename_i hlt;simp only[bH]at he;obtain⟨s,hs,he⟩:=he;simp only[Instr.index,AV.ev,IE.ev,asIntOf,bF,bG,bK (cZ hD)];simp only[gk,bF,c6 hs];rw[if_pos ⟨by simp,by simpa using hlt⟩];have:(Int.ofNat i).toNat=i:=rfl;rw[this];exact vh he hq
  ·cases he
 ·rename_i s k i;split at he
  ·rename_i b hb;rw[bJ]at he;subst he;simp only[Instr.index,AV.ev,IE.ev,asIntOf,bF,bG,bK (cZ hD)];have hlt:i<s.data.toList.length:=(aq.1 hb).1;have:(if 0≤Int.ofNat i then s[(Int.ofNat i).toNat]? else none)=some b:=by
    rw[if_pos (by simp)];have e:(Int.ofNat i).toNat=i:=rfl;rw[e];have hsz:i<s.size:=by simpa using hlt
    rw[getElem?_pos s i hsz];have h2:=(aq.1 hb).2;rw[<-h2];rfl
   rw[this];simp only[AV.ev,IE.ev]at hq;exact hq
  ·cases he
 ·cases he
theorem Bn{P:Program}{t:TypeId}{x i v:AV}(he:indexOp? P t x i=.ok v)(hx:x.In U):v.In U:=by
 unfold indexOp? at he;simp only[bH]at he;obtain⟨D,hD,he⟩:=he;split at he
 ·split at he
  ·simp only[bH]at he;obtain⟨s,hs,he⟩:=he;exact sj he hx
  ·cases he
 ·split at he
  ·rw[bJ]at he;subst he;trivial
  ·cases he
 ·cases he
theorem iI{e:IE}{n:Nat}(h:litNat? e=.ok n):e=.lit (.ofNat n):=by
 unfold litNat? at h;split at h
 ·cases h;rfl
 ·cases h
theorem qc{v:Option AV}{d n:Nat}(h:bound? v d=.ok n):(v=none∧n=d)∨∃k,v=some (.int k (.lit (.ofNat n))):=by
 unfold bound? at h;split at h
 ·cases h;exact .inl ⟨rfl,rfl⟩
 ·obtain rfl:=iI h;exact .inr ⟨_,rfl⟩
 ·cases h
theorem kH{E:Value->World->Prop}{k:IntKind}{n y:Nat}{code:BoundsCode}(hle:n≤y){Q:Nat->World->Prop}(hq:Q n w):wq K.P K.Ev E (Instr.sliceBound (.int k (Int.ofNat n)) y code) Q w:=by simp only[Instr.sliceBound,asIntOf,bF,bG,gk];rw[if_pos ⟨by simp,by simpa using hle⟩];exact hq
theorem J'{hi mx:Option AV}{len n:Nat}(h:high? hi mx len=.ok n):bound? hi len=.ok n∧(hi=none->mx=none):=by
 unfold high? at h;split at h
 ·cases h
 ·rename_i hn;refine⟨h,fun e=>?_⟩;subst e;cases mx with
  |none=>rfl
  |some v=>exact absurd rfl (hn _ rfl)
theorem l_{E:Value->World->Prop}{isS:Bool}{len cap:Nat}{lo hi mx:Option AV}{l h m:Nat}(he:bounds? len cap lo hi mx=.ok (l,h,m)){Q:Nat×Nat×Nat->World->Prop}(hq:Q (l,h,m) w):
  wq K.P K.Ev E (Instr.sliceBounds isS len cap (lo.map (AV.ev ρ)) (hi.map (AV.ev ρ)) (mx.map (AV.ev ρ))) Q w:=by
 unfold bounds? at he;simp only[bH]at he;obtain⟨m',hm,h',hh,l',hl,he⟩:=he;split at he
 ·rename_i hle;rw[bJ]at he;cases he;obtain⟨hmc,hhm,hlh⟩:=hle;obtain⟨hh2,abA⟩:=J' hh;have low:∀{code:BoundsCode},(match lo.map (AV.ev ρ)with|some v=>wq K.P K.Ev E (Instr.sliceBound v h code) (fun a w=>Q (a,h,m) w) w|none=>Q (0,h,m) w):=by
   intro code;rcases qc hl with⟨rfl,rfl⟩|⟨k,rfl⟩
   ·exact hq
   ·simp only[av,AV.ev,IE.ev];exact kH hlh hq
  rcases qc hm with⟨rfl,rfl⟩|⟨k,rfl⟩
  ·rcases qc hh2 with⟨rfl,rfl⟩|⟨k,rfl⟩
   ·simp only[Instr.sliceBounds,aI,bF,bG];have:=low (code:=if(none:Option Value).isSome then .slice3C else .sliceB);revert this;cases lo<;>first|exact id|(simp only[av,aI,bF,bG];exact id)
   ·simp only[Instr.sliceBounds,aI,av,AV.ev,IE.ev,bF,bG];refine kH hhm ?_;have:=low (code:=if(none:Option Value).isSome then .slice3C else .sliceB);revert this;cases lo<;>first|exact id|(simp only[av,aI,bF,bG];exact id)
  ·cases hi with
   |none=>exact absurd (abA rfl) (by simp)
   |some hv=>
    rcases qc hh2 with⟨e,_⟩|⟨k2,e⟩
    ·cases e
    ·cases e;simp only[Instr.sliceBounds,av,AV.ev,IE.ev,bF,bG];refine kH hmc ?_;refine kH hhm ?_;have:=low (code:=if(some (Value.int k (Int.ofNat m))).isSome then .slice3C else .sliceB);revert this;cases lo<;>first|exact id|(simp only[av,aI,bF,bG];exact id)
 ·cases he
theorem DT(ρ:Env)(a:Option AA)(n:Nat):(a.map (·.add n)).map (AA.ev ρ)=(a.map (AA.ev ρ)).map (·.add n):=by
 cases a with
 |none=>rfl
 |some a=>simp[AA.qX]
theorem kr{E:Value->World->Prop}{t:TypeId}{x v:AV}{lo hi mx:Option AV}(he:sliceOp? K.P t x lo hi mx=.ok v){Q:Value->World->Prop}(hq:Q (v.ev ρ) w):
  wq K.P K.Ev E (Instr.sliceAt t (x.ev ρ) (lo.map (AV.ev ρ)) (hi.map (AV.ev ρ)) (mx.map (AV.ev ρ))) Q w:=by
 unfold sliceOp? at he;simp only[bH]at he;obtain⟨D,hD,he⟩:=he;have hU:=cZ hD;split at he
 ·rename_i elem a len cap;simp only[bH]at he;obtain⟨n,hn,⟨l,h',m⟩,hb,s,hs,he⟩:=he;obtain rfl:=iI hn;rw[bJ]at he;subst he;simp only[Instr.sliceAt,bF,bK hU,Instr.slice,AV.ev,IE.ev];refine l_ hb ?_;simp only[bF,c6 hs,bG];simp only[AV.ev,IE.ev]at hq;have e1:(Int.ofNat (h'-l)).toNat=h'-l:=rfl;have e2:(Int.ofNat (m-l)).toNat=m-l:=rfl;rw[e1,e2]at hq;by_cases hml:m=l
  ·rw[if_pos hml]at hq⊢;exact hq
  ·rw[if_neg hml]at hq⊢;rw[DT]at hq;exact hq
 ·rename_i s;split at he
  ·cases he
  ·simp only[bH]at he;obtain⟨⟨l,h',m⟩,hb,he⟩:=he;rw[bJ]at he;subst he;simp only[Instr.sliceAt,bF,bK hU,Instr.slice,AV.ev,aI];simp only[Option.isSome_none,aF,if_false];have:=l_ (K:=K) (ρ:=ρ) (w:=w) (E:=E) (isS:=false) hb (Q:=fun r w=>Q (.string (s.extract r.1 r.2.1)) w) hq;rw[bF];exact this
 ·rename_i n elem a;simp only[bH]at he;obtain⟨⟨l,h',m⟩,hb,s,hs,he⟩:=he;rw[bJ]at he;subst he;simp only[Instr.sliceAt,bF,bK hU,AV.ev,av,Instr.sureAddr,bG];refine l_ hb ?_;simp only[bF,c6 hs,bG];simp only[AV.ev,IE.ev]at hq;have e1:(Int.ofNat (h'-l)).toNat=h'-l:=rfl;have e2:(Int.ofNat (m-l)).toNat=m-l:=rfl;rw[e1,e2]at hq;by_cases hml:m=l
  ·rw[if_pos hml]at hq⊢;exact hq
  ·rw[if_neg hml]at hq⊢;simp only[av,AA.qX]at hq;exact hq
 ·cases he
theorem Bo{P:Program}{t:TypeId}{x v:AV}{lo hi mx:Option AV}(he:sliceOp? P t x lo hi mx=.ok v)(hx:x.In U):v.In U:=by
 unfold sliceOp? at he;simp only[bH]at he;obtain⟨D,hD,he⟩:=he;split at he
 ·rename_i elem a len cap;simp only[bH]at he;obtain⟨n,hn,⟨l,h',m⟩,hb,s,hs,he⟩:=he;rw[bJ]at he;subst he;refine⟨?_,trivial,trivial⟩;split
  ·exact hx.1
  ·cases a with
   |none=>trivial
   |some a=>exact AA.tJ _ hx.1
 ·split at he
  ·cases he
  ·simp only[bH]at he;obtain⟨⟨l,h',m⟩,hb,he⟩:=he;rw[bJ]at he;subst he;trivial
 ·rename_i n elem a;simp only[bH]at he;obtain⟨⟨l,h',m⟩,hb,s,hs,he⟩:=he;rw[bJ]at he;subst he;refine⟨?_,trivial,trivial⟩;split
  ·exact hx
  ·exact AA.tJ _ hx
 ·cases he
end
section
variable {K:Ctx}{ρ:Env}{h:AH}{w:World}{U:Nat->Prop}
theorem DU(R:Rel K ρ h w){E:Value->World->Prop}{src dst:TypeId}{x v:AV}(he:convert? K.P K.O h src dst x=.ok v){Q:Value->World->Prop}(hq:Q (v.ev ρ) w):
  wq K.P K.Ev E (convert src dst (x.ev ρ)) Q w:=by
 unfold convert? at he;simp only[bH]at he;obtain⟨S,hS,D,hD,he⟩:=he;have hS':=cZ hS;have hD':=cZ hD;unfold convert;simp only[bF,bK hS',bK hD'];split at he
 ·rename_i k k' e;rw[bJ]at he;subst he;simp only[AV.ev,l8 R,IE.ev]at hq;simp only[AV.ev,Conv.intToInt];exact hq
 ·rw[bJ]at he;subst he;cases S<;>exact hq
 ·rename_i t i n;split at he
  ·rename_i b hb;simp only[bH]at he;obtain⟨s,hs,he⟩:=he;split at he
   ·rename_i hc;rw[bJ]at he;subst he;obtain⟨arr,ha,hf⟩:=R.arr hb (r9 hc.1);obtain⟨u,hu⟩:∃u,b.cs[n]?=some u:=⟨_,af hc.1⟩;have hlt:n<arr.size:=(Array.getElem?_eq_some_iff.1 (vL hf hu)).1;simp only[AV.ev,av,AA.ev,BR.ev,IE.ev]at hq⊢;have e0:(Int.ofNat n).toNat=n:=rfl;rw[e0]at hq⊢;simp only[Conv.unsafePointer,bF,bK hS',bK hD',Conv.seenAt];refine qx ha ?_;simp only[bG,cellsIn,bF,r7,World.shape?,ha];simp only[c6 hs];have h1:(decide (s=0)||(decide (n≥arr.size)&&(none:Option Nat).isNone))=false:=by
     simp[hc.2,Nat.not_le.2 hlt]
    simp only[h1,aF,if_false];exact hq
   ·cases he
  ·cases he
 ·cases he
theorem Bp(I:f_ K U h){src dst:TypeId}{x v:AV}(he:convert? K.P K.O h src dst x=.ok v)(hx:x.In U):v.In U:=by
 unfold convert? at he;simp only[bH]at he;obtain⟨S,hS,D,hD,he⟩:=he;split at he
 ·rw[bJ]at he;subst he;exact qZ I hx
 ·rw[bJ]at he;subst he;trivial
 ·split at he
  ·simp only[bH]at he;obtain⟨s,hs,he⟩:=he;split at he
   ·rw[bJ]at he;subst he;exact hx
   ·cases he
  ·cases he
 ·cases he
theorem yo{E:Value->World->Prop}{x v:AV}{xt asserted:TypeId}{ok:Bool}(he:typeAssert? K.P x asserted ok=.ok v){Q:Value->World->Prop}(hq:Q (v.ev ρ) w):
  wq K.P K.Ev E (Instr.typeAssert (x.ev ρ) xt asserted ok) Q w:=by
 unfold typeAssert? at he;simp only[bH]at he;obtain⟨D,hD,he⟩:=he;have hU:=cZ hD;have cA:∀{a b:Option TypeId} {m:String} {r:M AV},r=(if ok then(do pure (.tuple [<-zero? K.P asserted,.bool (.lit false)]))else .error "typeAssert fails")->r=.ok v->
   wq K.P K.Ev E (if ok then(do pure (.tuple #[<-zeroValue asserted,.bool false]))else runtimePanic (.typeAssertion a b asserted m):Sem Value) Q w:=by
  intro a b m r e hr;subst e;split at hr
  ·rename_i hok;simp only[bH,bJ]at hr;obtain⟨z,hz,rfl⟩:=hr;simp only[if_pos hok,bF,dX (ρ:=ρ) hz,bG];simpa[AV.ev,AV.evs,BE.ev] using hq
  ·cases hr
 have holds:∀{u:AV} {r:M AV},r=pure (if ok then .tuple [u,.bool (.lit true)]else u)->r=.ok v->Q (if ok then .tuple #[u.ev ρ,.bool true]else u.ev ρ) w:=by
  intro u r e hr;subst e;rw[bJ]at hr;subst hr;split at hq
  ·rename_i hok;simpa[AV.ev,AV.evs,BE.ev,hok] using hq
  ·rename_i hok;simpa[hok] using hq
 simp only[Instr.typeAssert,bF,bK hU];split at he
 ·simp only[AV.ev];exact cA rfl he
 ·rename_i want t u;simp only[AV.ev];split at he
  ·rename_i i hi;simp only[bF,dI hi];split at he
   ·rename_i hm;rw[rQ hm];exact holds rfl he
   ·rename_i hm;obtain⟨m,hm'⟩:=rR hm;rw[hm'];exact cA rfl he
  ·cases he
 ·rename_i hni;simp only[AV.ev];cases D<;>first|exact absurd rfl (hni _)|exact cA rfl he
 ·rename_i t u hni;simp only[AV.ev];split at he
  ·rename_i ht;cases D<;>first|exact absurd rfl (hni _)|(simp only[gk];rw[if_pos ht];exact holds rfl he)
  ·rename_i ht;cases D<;>first|exact absurd rfl (hni _)|(simp only[if_neg ht];exact cA rfl he)
 ·cases he
theorem vS{P:Program}{x v:AV}{asserted:TypeId}{ok:Bool}(he:typeAssert? P x asserted ok=.ok v)(hx:x.In U):v.In U:=by
 unfold typeAssert? at he;simp only[bH]at he;obtain⟨D,hD,he⟩:=he;have cA:∀{r:M AV},r=(if ok then(do pure (.tuple [<-zero? P asserted,.bool (.lit false)]))else .error "typeAssert fails")->r=.ok v->v.In U:=by
  intro r e hr;subst e;split at hr
  ·simp only[bH,bJ]at hr;obtain⟨z,hz,rfl⟩:=hr;exact⟨nN hz,trivial,trivial⟩
  ·cases hr
 have holds:∀{u:AV} {r:M AV},u.In U->r=pure (if ok then .tuple [u,.bool (.lit true)]else u)->r=.ok v->v.In U:=by
  intro u r hu e hr;subst e;rw[bJ]at hr;subst hr;split
  ·exact⟨hu,trivial,trivial⟩
  ·exact hu
 split at he
 ·exact cA rfl he
 ·split at he
  ·split at he
   ·exact holds hx rfl he
   ·exact cA rfl he
  ·cases he
 ·exact cA rfl he
 ·split at he
  ·refine holds ?_ rfl he;exact hx
  ·exact cA rfl he
 ·cases he
theorem Ka{l vs:List AV}{off:Nat}(hl:AV.iw U l)(hv:AV.iw U vs):AV.iw U (yP l off vs):=by
 induction vs generalizing l off with
 |nil=>exact hl
 |cons v vs ih=>
  refine ih (cS.2 fun a ha=>?_) hv.2;rcases List.mem_or_eq_of_mem_set ha with h'|rfl
  ·exact cS.1 hl _ h'
  ·exact hv.1
theorem yV(ρ:Env):∀(vs l:List AV) (off k:Nat),((AV.evs ρ vs).zipIdx k).foldl (fun(cs:Array Value) (x:Value×Nat)=>cs.setIfInBounds (off+x.2) x.1) (AV.evs ρ l).toArray=(AV.evs ρ (yP l (off+k) vs)).toArray
 |[],l,off,k=>rfl
 |v::vs,l,off,k=>by
  simp only[AV.evs,List.zipIdx_cons,List.foldl_cons,yP];have:(AV.evs ρ l).toArray.setIfInBounds (off+k) (v.ev ρ)=(AV.evs ρ (l.set (off+k) v)).toArray:=by rw[vg];simp
  rw[this];exact yV ρ vs (l.set (off+k) v) off (k+1)
theorem pg{place:Nat->Option (Nat×Nat)}:∀{parts:List (Nat×AV)} {cells r:List AV},fill? place cells parts=.ok r->
  Instr.fill place (AV.evs ρ cells).toArray (parts.map fun p=>(p.1,p.2.ev ρ))=some (AV.evs ρ r).toArray:=by
 intro parts
 induction parts with
 |nil=>intro cells r hf;simp[fill?]at hf;subst hf;rfl
 |cons p parts ih=>
  obtain⟨i,v⟩:=p;intro cells r hf;simp only[fill?]at hf;split at hf
  ·cases hf
  ·rename_i off size hp;split at hf
   ·rename_i cs hcs;split at hf
    ·rename_i hc;simp only[aK,Instr.fill,hp];rw[gN hcs ρ];have e1:(AV.evs ρ cs).toArray.size=size:=by simp[cM,hc.1]
     have e2:¬off+(AV.evs ρ cs).toArray.size>(AV.evs ρ cells).toArray.size:=by simp[cM];exact hc.2
     rw[if_neg (by simp only[Bool.or_eq_true,decide_eq_true_eq,not_or];exact⟨by simpa using e1,e2⟩)];have e3:(AV.evs ρ cs).toArray.zipIdx.foldl (fun(cs:Array Value) (x:Value×Nat)=>cs.setIfInBounds (off+x.2) x.1) (AV.evs ρ cells).toArray=(AV.evs ρ (yP cells off cs)).toArray:=by rw[<-Array.foldl_toList,Array.toList_zipIdx];exact yV ρ cs cells off 0
     rw[<-ih hf];congr 1
    ·cases hf
   ·cases hf
theorem vT{place:Nat->Option (Nat×Nat)}:∀{parts:List (Nat×AV)} {cells r:List AV},fill? place cells parts=.ok r->AV.iw U cells->(∀p∈parts,p.2.In U)->AV.iw U r:=by
 intro parts
 induction parts with
 |nil=>intro cells r hf hc _;simp[fill?]at hf;subst hf;exact hc
 |cons p parts ih=>
  obtain⟨i,v⟩:=p;intro cells r hf hc hp;simp only[fill?]at hf;split at hf
  ·cases hf
  ·split at hf
   ·rename_i cs hcs;split at hf
    ·exact ih hf (Ka hc (kn hcs (hp (i,v) (by simp)))) fun p hp'=>hp p (aa _ hp')
    ·cases hf
   ·cases hf
theorem DV{P:Program}{Ev:Event->Prop}{E:Value->World->Prop}:∀{fs:List Field} {places:List (Nat×Nat)},(fs.mapM fun f=>(do pure (f.offset,<-sizeOf? P f.type):M (Nat×Nat)))=.ok places->
  ∀{Q:List (Nat×Nat)->World->Prop} {w:World},Q places w->wq P Ev E (fs.mapM fun f=>(do pure (f.offset,<-sizeOf f.type):Sem (Nat×Nat))) Q w:=by
 intro fs
 induction fs with
 |nil=>intro places hm Q w hq;simp[bJ]at hm;subst hm;simpa using hq
 |cons f fs ih=>intro places hm Q w hq;simp only[List.mapM_cons,bH,bJ]at hm;obtain⟨p,⟨n,hn,rfl⟩,l,hl,rfl⟩:=hm;simp only[List.mapM_cons,bF,c6 hn,bG];exact ih hl (by simpa using hq)
theorem Kb{E:Value->World->Prop}{t:TypeId}{parts:List (Nat×AV)}{v:AV}(he:build? K.P t parts=.ok v){Q:Value->World->Prop}(hq:Q (v.ev ρ) w):
  wq K.P K.Ev E (Instr.build t (parts.map fun p=>(p.1,p.2.ev ρ)).toArray) Q w:=by
 unfold build? at he;simp only[bH]at he;obtain⟨z,hz,cs,hcs,D,hD,he⟩:=he;have hc:=gN hcs ρ;simp only[Instr.build,bF,dX (ρ:=ρ) hz,bK (cZ hD),hc];split at he
 ·rename_i fs;simp only[bH,bJ]at he;obtain⟨places,hp,r,hr,rfl⟩:=he;have:(fs.mapM fun f=>(do pure (f.offset,<-sizeOf f.type):Sem (Nat×Nat)))=List.toArray<$>(fs.toList.mapM fun f=>(do pure (f.offset,<-sizeOf f.type):Sem (Nat×Nat))):=by
   rw[Array.mapM_eq_mapM_toList]
  simp only[bF];rw[this,JU];refine DV hp ?_;have e:=pg (ρ:=ρ) hr;have:(places.toArray[·]?:Nat->Option (Nat×Nat))=(places[·]?):=by funext i;simp
  simp only[this,List.toList_toArray];rw[e];exact hq
 ·rename_i n elem;simp only[bH,bJ]at he;obtain⟨s,hs,r,hr,rfl⟩:=he;simp only[bF,c6 hs];have e:=pg (ρ:=ρ) hr;rw[e];exact hq
 ·cases he
theorem HG{P:Program}{t:TypeId}{parts:List (Nat×AV)}{v:AV}(he:build? P t parts=.ok v)(hp:∀p∈parts,p.2.In U):v.In U:=by
 unfold build? at he;simp only[bH]at he;obtain⟨z,hz,cs,hcs,D,hD,he⟩:=he;have hc:AV.iw U cs:=kn hcs (nN hz);split at he
 ·simp only[bH,bJ]at he;obtain⟨places,_,r,hr,rfl⟩:=he;exact vT hr hc hp
 ·simp only[bH,bJ]at he;obtain⟨s,hs,r,hr,rfl⟩:=he;exact vT hr hc hp
 ·cases he
end
structure nC(K:Ctx)(U:Nat->Prop)(ρ:Env)(h:AH)(w:World)(s:Sem Value)(v:AV)(h':AH):Prop where
 mem:v.In (plus U h.nb h'.nb)
 qz:c7 K U h h'
 run:∀{E:Value->World->Prop} {Q:Value->World->Prop},(∀x w',After K U ρ w h' (fun ρ'=>x=v.ev ρ') w'->Q x w')->wq K.P K.Ev E s Q w
section
variable {K:Ctx}{ρ:Env}{h:AH}{w:World}{U:Nat->Prop}
theorem nC.pure(R:Rel K ρ h w)(I:f_ K U h){s:Sem Value}{v:AV}(hi:v.In U)(hw:∀{E Q:Value->World->Prop},Q (v.ev ρ) w->wq K.P K.Ev E s Q w):nC K U ρ h w s v h:=
 ⟨AV.In.mono b_ _ hi,c7.refl I,fun hq=>hw (hq _ _ (After.same R rfl))⟩
theorem lD{E:Value->World->Prop}{t:TypeId}{v:Value}{cs:Array Value}(hc:v.cells=cs){Q:Addr->World->Prop}(hq:Q ⟨w.heap.size,0,none⟩ {w with heap:=w.heap.push (.cells cs t (0,0))}):wq K.P K.Ev E (newVar t v) Q w:=by simp only[newVar,newRow,bF,jJ,hc];exact hq
theorem Kc(R:Rel K ρ h w)(I:f_ K U h){elem:TypeId}{z v:AV}{cs:List AV}{h':AH}(hz:zero? K.P elem=.ok z)(hc:z.cells?=.ok cs)(ha:alloc? h (.cells cs elem)=.ok (v,h')):
  nC K U ρ h w (Instr.alloc elem true (.tuple #[])) v h':=by
 obtain⟨_,h1,h2,h3⟩:=oq R I ha (kn hc (nN hz));refine⟨h1,h2,fun{E Q} hq=>?_⟩;simp only[Instr.alloc,bF,dX (ρ:=ρ) hz];refine lD (gN hc ρ) ?_;obtain⟨ρ',a1,a2,a3,a4⟩:=h3 (AV.evs ρ cs).toArray (by simp[bO.fits]);exact hq _ _ ⟨ρ',a1,a2,a3,a4.symm⟩
theorem Q2(R:Rel K ρ h w)(I:f_ K U h){elem:TypeId}{x v:AV}{cs:List AV}{h':AH}(hx:x.In U)(hc:x.cells?=.ok cs)(ha:alloc? h (.cells cs elem)=.ok (v,h')):
  nC K U ρ h w (Instr.box elem (x.ev ρ)) v h':=by
 obtain⟨_,h1,h2,h3⟩:=oq R I ha (kn hc hx);refine⟨h1,h2,fun{E Q} hq=>?_⟩;simp only[Instr.box,bF];refine lD (gN hc ρ) ?_;obtain⟨ρ',a1,a2,a3,a4⟩:=h3 (AV.evs ρ cs).toArray (by simp[bO.fits]);exact hq _ _ ⟨ρ',a1,a2,a3,a4.symm⟩
theorem FJ{l:List AV}(hl:AV.iw U l):∀n,AV.iw U (A4 n l)
 |0=>trivial
 |n+1=>cS.2 fun a ha=>by
  simp only[A4,aR]at ha;rcases ha with ha|ha
  ·exact cS.1 hl _ ha
  ·exact cS.1 (FJ hl n) _ ha
theorem yW(l:List Value)(hl:0<l.length):∀n:Nat,(List.range (n*l.length)).map (fun i=>l.toArray[i % l.length]!)=(List.replicate n l).flatten
 |0=>by simp
 |n+1=>by
  have e:(n+1)*l.length=l.length+n*l.length:=by rw[Nat.succ_mul,Nat.add_comm]
  rw[e,List.range_add,List.map_append,List.map_map,List.replicate_succ,List.flatten_cons];congr 1
  ·refine List.ext_getElem (by simp) fun i h1 h2=>?_;simp only[aE,aT]at h1;simp[Nat.mod_eq_of_lt h1,af h1]
  ·rw[<-yW l hl n];refine a_ fun i _=>?_;simp
theorem FK(ρ:Env):∀(n:Nat) (l:List AV),AV.evs ρ (A4 n l)=(List.replicate n (AV.evs ρ l)).flatten
 |0,l=>by simp[A4,AV.evs]
 |n+1,l=>by simp[A4,jC,FK ρ n l,List.replicate_succ]
theorem HH(ρ:Env){z:AV}{zc:List AV}{size n:Nat}(hc:z.cells?=.ok zc)(hs:zc.length=size)(h0:0<size):
  (Array.range (n*size)).map (fun i=>(z.ev ρ).cells[i % (z.ev ρ).cells.size]!)=(AV.evs ρ (A4 n zc)).toArray:=by
 rw[gN hc ρ];have hl:(AV.evs ρ zc).length=size:=by rw[cM,hs]
 have h1:(AV.evs ρ zc).toArray.size=size:=by simp[hl]
 rw[h1,FK];have:=yW (AV.evs ρ zc) (by rw[hl];exact h0) n;rw[hl]at this;rw[<-this];apply Array.toList_inj.1;simp[Array.toList_range]
theorem yX{α:Type}{E:Value->World->Prop}{elem:TypeId}{size n:Nat}{l:List AV}(hz:zeros? K.P elem size n=.ok l){kk:Array Value->Sem α}{Q:α->World->Prop}
 (hq:∀zero:Array Value,(Array.range (n*size)).map (zero[· % zero.size]!)=(AV.evs ρ l).toArray->wq K.P K.Ev E (kk zero) Q w):
  wq K.P K.Ev E (if n*size=0 then(do
   let zero<-Pure.pure #[]
   kk zero)else(do
   let z<-zeroValue elem;let zero<-Pure.pure z.cells
   kk zero)) Q w:=by
 unfold zeros? at hz;split at hz
 ·rename_i h0;cases hz;rw[if_pos h0];exact hq _ (by rw[h0];simp[AV.evs,Array.range])
 ·rename_i h0;simp only[bH]at hz;obtain⟨z,hz,zc,hc,HJ⟩:=hz;split at HJ
  ·rename_i hs;rw[bJ]at HJ;subst HJ;rw[if_neg h0];simp only[bF,dX (ρ:=ρ) hz,bG];exact hq _ (HH ρ hc hs (Nat.pos_of_ne_zero fun e=>h0 (by rw[e];simp)))
  ·cases HJ
theorem yY{P:Program}{elem:TypeId}{size n:Nat}{l:List AV}(hz:zeros? P elem size n=.ok l):AV.iw U l:=by
 unfold zeros? at hz;split at hz
 ·cases hz;trivial
 ·simp only[bH]at hz;obtain⟨z,hz,zc,hc,HJ⟩:=hz;split at HJ
  ·rw[bJ]at HJ;subst HJ;exact FJ (kn hc (nN hz)) _
  ·cases HJ
theorem mV{P:Program}{t:TypeId}{n:Nat}(h:bytesOf? P t=.ok n):∃i,P.info? t=some i∧i.bytes=n:=by
 unfold bytesOf? at h;split at h
 ·rename_i i hi;exact⟨i,hi,by simpa using h⟩
 ·cases h
theorem yp(R:Rel K ρ h w)(I:f_ K U h){t:TypeId}{len:Nat}{parts:List (Nat×AV)}{v:AV}{h':AH}(hp:∀p∈parts,p.2.In U)(he:buildSlice? K.P h t len parts=.ok (v,h')):
  nC K U ρ h w (Instr.buildSlice t len (parts.map fun p=>(p.1,p.2.ev ρ)).toArray) v h':=by
 unfold buildSlice? at he;simp only[bH]at he;obtain⟨D,hD,he⟩:=he;split at he
 ·rename_i elem;simp only[bH]at he;obtain⟨size,hs,he⟩:=he;split at he
  ·cases he
  ·rename_i hlen;simp only[bH]at he;obtain⟨z,hz,cells,hc,ha⟩:=he;have hin:AV.iw U cells:=vT hc (yY hz) hp;obtain⟨h1,h2,h3⟩:=jR R I ha hin trivial trivial;refine⟨h1,h2,fun{E Q} hq=>?_⟩;simp only[Instr.buildSlice,bF,bK (cZ hD),c6 hs];rw[if_neg (by simp only[gt_iff_lt,Nat.not_lt];omega)];refine yX (ρ:=ρ) hz fun zero hzero=>?_;rw[hzero,pg (ρ:=ρ) hc];simp only[newRow,bF,jJ,bG];obtain⟨ρ',a1,a2,a3,a4⟩:=h3 (AV.evs ρ cells).toArray (by simp[bO.fits]);exact hq _ _ ⟨ρ',a1,a2,a3,a4.symm⟩
 ·cases he
theorem Aa(G:K.Good)(R:Rel K ρ h w)(I:f_ K U h){t:TypeId}{l c v:AV}{h':AH}(he:makeSlice? K.P h t l c=.ok (v,h')):
  nC K U ρ h w (Instr.makeSlice t (l.ev ρ) (c.ev ρ)) v h':=by
 unfold makeSlice? at he;simp only[bH]at he;obtain⟨D,hD,he⟩:=he;split at he
 ·rename_i elem;split at he
  ·rename_i k1 l k2 c;simp only[bH]at he;obtain⟨l',hl,c',hc,size,hs,bytes,hb,he⟩:=he;obtain rfl:=iI hl;obtain rfl:=iI hc;split at he
   ·rename_i hle;obtain⟨hlc,NM,oQ⟩:=hle;simp only[bH]at he;obtain⟨cells,hz,ha⟩:=he;obtain⟨i,hi,Kd⟩:=mV hb;obtain⟨h1,h2,h3⟩:=jR R I ha (yY hz) trivial trivial;refine⟨h1,h2,fun{E Q} hq=>?_⟩;have wl:IntKind.i64.wrap (Int.ofNat l')=l':=IntWalk.i64_in _ ⟨by have:(0:Int)≤Int.ofNat l':=Int.natCast_nonneg _;omega,by have:Int.ofNat l'≤(1048576:Nat):=Int.ofNat_le.2 (aA hlc NM);omega⟩;have wc:IntKind.i64.wrap (Int.ofNat c')=c':=IntWalk.i64_in _ ⟨by have:(0:Int)≤Int.ofNat c':=Int.natCast_nonneg _;omega,by have:Int.ofNat c'≤(1048576:Nat):=Int.ofNat_le.2 NM;omega⟩;have hmul:bytes*c'≤68719476736:=Nat.mul_le_mul oQ NM;have V4:((i.bytes:Int)*(c':Int))≤68719476736:=by rw[Kd,<-Int.natCast_mul];exact Int.ofNat_le.2 hmul
    simp only[Instr.makeSlice,AV.ev,IE.ev,asInt,asIntOf,bF,bK (cZ hD),bG,dI hi,wl,wc];have Bq:(((decide ((c':Int)<0)||decide ((i.bytes:Int)*(c':Int)>2 ^ 48))||decide ((l':Int)<0))||decide ((l':Int)>(c':Int)))=false:=by
     have hp:(2:Int) ^ 48=281474976710656:=by decide
     rw[hp];simp only[Bool.or_eq_false_iff,decide_eq_false_iff_not];refine⟨⟨⟨by omega,by omega⟩,by omega⟩,by omega⟩
    rw[if_neg (by rw[Bq];simp)];have ask:∀{Q':Unit->World->Prop},Q' () w->wq K.P K.Ev E (askRoom (((c':Int)).toNat*i.bytes)) Q' w:=by
     intro Q' qA;unfold askRoom;simp only[gk,oh,bG];split
     ·exact⟨G.noRoom,qA⟩
     ·exact qA
    simp only[bF,bG];refine ask ?_;simp only[c6 hs,bx];refine yX (ρ:=ρ) hz fun zero hzero=>?_;rw[hzero];simp only[newRow,bF,jJ,bG];obtain⟨ρ',a1,a2,a3,a4⟩:=h3 (AV.evs ρ cells).toArray (by simp[bO.fits]);exact hq _ _ ⟨ρ',a1,a2,a3,a4.symm⟩
   ·cases he
  ·cases he
 ·cases he
theorem DW(G:K.Good)(R:Rel K ρ h w)(I:f_ K U h){t:TypeId}{l c v:AV}{h':AH}(V5:c.In U)(he:makeRow? K.P K.O h t l c=.ok (v,h')):
  nC K U ρ h w (Instr.makeSlice t (l.ev ρ) (c.ev ρ)) v h':=by
 unfold makeRow? at he;simp only[bH]at he;obtain⟨D,hD,he⟩:=he;split at he
 ·rename_i elem;split at he
  ·rename_i k1 l k2 c;simp only[bH]at he;obtain⟨z,hz,size,hs,bytes,hb,neg,hneg,big,jD,he⟩:=he;split at he
   ·rename_i hle;obtain⟨hlc,hn,hg,oQ⟩:=hle;subst hn;subst hg;obtain rfl:=IE.cK hlc;obtain⟨i,hi,Kd⟩:=mV hb;obtain⟨h1,h2,h3⟩:=jR R I he (b:=.row [] elem l) ⟨trivial,V5⟩ V5 V5;refine⟨h1,h2,fun{E Q} hq=>?_⟩;have c0:¬l.ev ρ<0:=z9 R hneg (by simp);have c1':¬l.ev ρ>4294967296:=by
     unfold VU at jD;split at jD
     ·rename_i b yb;cases jD;have c1:decide (l.ev ρ>1048576)=false:=kZ R yb;have:=of_decide_eq_false c1;omega
     ·have c1:decide (l.ev ρ>4294967296)=false:=kZ R jD;exact of_decide_eq_false c1
    generalize hL:l.ev ρ=n at c0 c1';have wl:IntKind.i64.wrap n=n:=IntWalk.i64_in _ ⟨by omega,by omega⟩;have V4:((i.bytes:Int)*n)≤65536*4294967296:=Int.mul_le_mul (by rw[Kd];exact Int.ofNat_le.2 oQ) (by omega) (by omega) (by decide);simp only[Instr.makeSlice,AV.ev,asInt,asIntOf,bF,bK (cZ hD),bG,dI hi,hL,wl];have Bq:(((decide (n<0)||decide ((i.bytes:Int)*n>2 ^ 48))||decide (n<0))||decide (n>n))=false:=by
     have hp:(2:Int) ^ 48=281474976710656:=by decide
     rw[hp];simp only[Bool.or_eq_false_iff,decide_eq_false_iff_not];refine⟨⟨⟨c0,by omega⟩,c0⟩,by omega⟩
    rw[if_neg (by rw[Bq];simp)];have ask:∀{Q':Unit->World->Prop},Q' () w->wq K.P K.Ev E (askRoom (n.toNat*i.bytes)) Q' w:=by
     intro Q' qA;unfold askRoom;simp only[gk,oh,bG];split
     ·exact⟨G.noRoom,qA⟩
     ·exact qA
    simp only[bF,bG];refine ask ?_;simp only[c6 hs];have fin:∀zero:Array Value,wq K.P K.Ev E (do
      let a<-newRow elem ((Array.range (n.toNat*size)).map (zero[· % zero.size]!))
      pure (.slice (some a) n.toNat n.toNat)) Q w:=by
     intro zero;simp only[newRow,bF,jJ,bG];obtain⟨ρ',a1,a2,a3,a4⟩:=h3 ((Array.range (n.toNat*size)).map (zero[· % zero.size]!)) (by obtain⟨i',hi',hi2⟩:=l5 hs;refine⟨_,i',(List.nil_append _).symm,hi',?_⟩;rw[hL,hi2];simp)
     rw[hL]at a4;exact hq _ _ ⟨ρ',a1,a2,a3,a4.symm⟩
    by_cases h0:n.toNat*size=0
    ·rw[if_pos h0];exact fin #[]
    ·rw[if_neg h0];simp only[bF,dX (ρ:=ρ) hz,bG];exact fin _
   ·cases he
  ·cases he
 ·cases he
theorem yq(G:K.Good)(R:Rel K ρ h w)(I:f_ K U h){t:TypeId}{l c v:AV}{h':AH}(V5:c.In U)(he:makeSliceS? K.P K.O h t l c=.ok (v,h')):
  nC K U ρ h w (Instr.makeSlice t (l.ev ρ) (c.ev ρ)) v h':=by
 unfold makeSliceS? at he;split at he
 ·exact Aa G R I he
 ·exact DW G R I V5 he
end
section
variable {K:Ctx}{ρ:Env}{h:AH}{w:World}{U:Nat->Prop}
theorem mW(G:K.Good){E:Value->World->Prop}{b:Nat}(ho:K.own b){e:TypeId}:∀{l:List Value} {off j:Nat} {arr:Array Value} {w:World},(∀n,off+j≤n->¬K.still b n)->w.heap[b]?=some (.cells arr e (0,0))->off+j+l.length≤arr.size->(∀v∈l,v.oneCell'=true)->
  ∀{Q:Unit->World->Prop},(∀w' (gn:Array Value),w'.heap[b]?=some (.cells gn e (0,0))->(∀n,n≠b->w'.heap[n]?=w.heap[n]?)->w'.heap.size=w.heap.size->w'.tape=w.tape->w'.os=w.os->w'.output=w.output->
   gn.size=arr.size->(∀n,n<off+j->gn[n]?=arr[n]?)->(∀n,n<l.length->gn[off+j+n]?=l[n]?)->Q () w')->wq K.P K.Ev E (storeCells ⟨b,off,none⟩ l j) Q w:=by
 intro l
 induction l with
 |nil=>intro off j arr w Be hb hle _ Q hq;exact hq w arr hb (fun _ _=>rfl) rfl rfl rfl rfl rfl (fun _ _=>rfl) (fun n hn=>by simp at hn)
 |cons v l ih=>
  intro off j arr w Be hb hle hone Q hq;simp only[aC]at hle;simp only[storeCells,bF];rw[o7];have ha:(⟨b,off,none⟩:Addr).add j=⟨b,off+j,none⟩:=by unfold Addr.add;split<;>simp_all
  rw[ha];have hlt:off+j<arr.size:=by omega
  refine⟨hone v (by simp),⟨_,(jm hb).trans (aO hlt)⟩,h_ hb,G.wr _ _ ho (Be _ (ax _)),?_⟩;have hb':(w.setCell ⟨b,off+j,none⟩ v).heap[b]?=some (.cells (arr.setIfInBounds (off+j) v) e (0,0)):=by rw[heap_setCell,if_pos rfl,hb];rfl
  refine ih (arr:=arr.setIfInBounds (off+j) v) (fun n hn=>Be n (by omega)) hb' (by simp;omega) (fun u hu=>hone u (aa _ hu)) ?_;intro w' gn q1 q2 q3 q4 q5 q6 q7 q8 q9;refine hq w' gn q1 (fun n hn=>?_) (q3.trans (size_setCell _ _ _)) q4 q5 q6 (by rw[q7];simp) (fun n hn=>?_) (fun n hn=>?_)
  ·rw[q2 n hn,heap_setCell,if_neg hn]
  ·rw[q8 n (by omega),bu (by omega)]
  ·cases n with
   |zero=>rw[Nat.add_zero,q8 (off+j) (by omega)];simp[hlt]
   |succ n=>have:=q9 n (by simp at hn;omega);rw[List.getElem?_cons_succ,<-this];congr 1;omega
theorem oH{need cap bytes:Nat}(h1:cap<need)(h2:need≤1048576)(h3:bytes≤1024):¬Builtin.nextslicecap need cap*bytes>2 ^ 48:=by have:=nextslicecap_le h1;have h4:Builtin.nextslicecap need cap*bytes≤2097152*1024:=Nat.mul_le_mul (by omega) h3;omega
theorem uw{new:List AV}(h1:new.all (·.oneCell?)=true)(ρ:Env):∀v∈AV.evs ρ new,v.oneCell'=true:=by rw[iU];intro v hv;obtain⟨a,ha,rfl⟩:=bq.1 hv;exact om (aD.1 h1 a ha) ρ
theorem su{O:dH}{size:Nat}{x:AV}{n:Nat}{new:List AV}(ha:appArgs? O h size x=.ok (n,new)):new.length=n*size:=by
 unfold appArgs? at ha;split at ha
 ·split at ha
  ·cases ha;simp
  ·cases ha
 ·simp only[bH,bJ]at ha;obtain⟨m,hm,l,hl,e⟩:=ha;cases e;exact sg hl
 ·split at ha
  ·rename_i h1;cases ha;simp[h1]
  ·cases ha
 ·cases ha
theorem ux(I:f_ K U h){size:Nat}{x:AV}{n:Nat}{new:List AV}(ha:appArgs? K.O h size x=.ok (n,new)):AV.iw U new:=by
 unfold appArgs? at ha;split at ha
 ·split at ha
  ·cases ha;trivial
  ·cases ha
 ·simp only[bH,bJ]at ha;obtain⟨m,hm,l,hl,e⟩:=ha;cases e;exact r_ I hl
 ·split at ha
  ·cases ha;exact cS.2 fun a ha=>by obtain⟨c,_,rfl⟩:=bq.1 ha;trivial
  ·cases ha
 ·cases ha
theorem Br{E:Value->World->Prop}{O:dH}{size:Nat}{x:AV}{n:Nat}{new:List AV}(ha:appArgs? O h size x=.ok (n,new)){Q:Nat->World->Prop}(hq:Q n w):wq K.P K.Ev E (Builtin.lenOf (x.ev ρ)) Q w:=by
 unfold appArgs? at ha;split at ha
 ·split at ha
  ·cases ha;exact hq
  ·cases ha
 ·simp only[bH,bJ]at ha;obtain⟨m,hm,l,hl,e⟩:=ha;cases e;obtain rfl:=iI hm;exact hq
 ·split at ha
  ·cases ha;exact hq
  ·cases ha
 ·cases ha
theorem qB(R:Rel K ρ h w)(G:K.Good){E:Value->World->Prop}{size:Nat}{x:AV}{n:Nat}{new:List AV}(ha:appArgs? K.O h size x=.ok (n,new)){Q:Array Value->World->Prop}(hq:Q (AV.evs ρ new).toArray w):
  wq K.P K.Ev E (Builtin.firstCells size n (x.ev ρ)) Q w:=by
 unfold appArgs? at ha;split at ha
 ·split at ha
  ·cases ha;exact hq
  ·cases ha
 ·simp only[bH,bJ]at ha;obtain⟨m,hm,l,hl,e⟩:=ha;cases e;simp only[AV.ev,av,Builtin.firstCells,loadCells];exact kR R G hl (by simpa using hq)
 ·split at ha
  ·rename_i t h1;cases ha;simp only[AV.ev,Builtin.firstCells,bG];have:(t.extract 0 t.size).data.map (fun b=>Value.int .u8 b.toNat)=(AV.evs ρ (t.data.toList.map fun c=>AV.int .u8 (.lit c.toNat))).toArray:=by
    have e0:t.extract 0 t.size=t:=ByteArray.extract_zero_size;rw[e0,iU,List.map_map];apply Array.toList_inj.1;simp[AV.ev,IE.ev]
   rw[this];exact hq
  ·cases ha
 ·cases ha
theorem oI(R:Rel K ρ h w)(I:f_ K U h){old:Option Nat}{cs:List AV}{elem:TypeId}{len:Nat}{v:AV}{h':AH}(ha:allocRow? h old cs elem len=.ok (v,h'))(hc:AV.iw U cs):
  v.In (plus U h.nb h'.nb)∧c7 K U h h'∧∀(m:Nat) (c:Nat) (w':World) (arr:Array Value) (rest:List Value) (i:TypeInfo),bS K.own w w'->w'.heap[m]?=some (.cells arr elem (0,0))->(K.own m∧∀n,¬K.still m n)->Rel K ρ (match old with|some i=>{h with hp:=jk i h.hp}|none=>h) w'->
   (∀j b,cE j (match old with|some i=>jk i h.hp|none=>h.hp)=some b->ρ.b j≠m)->arr.toList=AV.evs ρ cs++rest->K.P.info? elem=some i->arr.size=c*i.size->
   After K U ρ w h' (fun ρ'=>v.ev ρ'=.slice (some ⟨m,0,none⟩) len c) w':=by
 obtain⟨hp,nb,fJ⟩:=h;simp only[allocRow?]at ha;split at ha
 ·rename_i hlt;cases ha;have yg:¬U nb:=I.fresh _ (ax _) hlt;have hin:bO.In (plus U nb (nb+1)) (.row cs elem (.var nb)):=⟨AV.iw.mono b_ _ hc,.inr ⟨ax _,Nat.lt_succ_self _⟩⟩;refine⟨⟨⟨.inr ⟨ax _,Nat.lt_succ_self _⟩,trivial⟩,trivial,.inr ⟨ax _,Nat.lt_succ_self _⟩⟩,?_,?_⟩
  ·cases old with
   |none=>exact⟨Nat.le_succ _,rfl,I.ins hlt hin⟩
   |some i=>exact⟨Nat.le_succ _,rfl,(I.drop i).ins hlt hin⟩
  ·intro m c w' arr rest inf hk hm ho R' hne Ab vU hsz;have hf:(bO.row cs elem (.var nb)).fits K.P (ρ.upd nb m c) arr:=⟨rest,inf,by rw[AV.fe (fM yg) cs hc];exact Ab,vU,by simpa[IE.ev,Env.upd] using hsz⟩;refine⟨ρ.upd nb m c,fM yg,?_,hk,?_⟩
   ·cases old with
    |none=>exact Rel.ins R' I hlt hm ho.1 hne ho.2 hf
    |some i=>exact Rel.ins R' (I.drop i) hlt hm ho.1 hne ho.2 hf
   ·simp[AV.ev,AA.ev,BR.ev,IE.ev,Env.upd]
 ·cases ha
theorem FL(G:K.Good)(R:Rel K ρ h w){E:Value->World->Prop}{elem:TypeId}{i:TypeInfo}{z:AV}{zc:List AV}{need sCap sLen n size:Nat}{s x:Value}{old new:List AV}(hi:K.P.info? elem=some i)(hsz:i.size=size)(hz:zero? K.P elem=.ok z)(hc:z.cells?=.ok zc)(hzl:zc.length=size)
 (hold:∀{Q':Array Value->World->Prop} {w':World},Rel K ρ h w'->Q' (AV.evs ρ old).toArray w'->wq K.P K.Ev E (Builtin.firstCells size sLen s) Q' w')
 (hnew:∀{Q':Array Value->World->Prop} {w':World},Rel K ρ h w'->Q' (AV.evs ρ new).toArray w'->wq K.P K.Ev E (Builtin.firstCells size n x) Q' w')
 (hlen:(old++new).length=need*size)(V6:need≤1048576){Q:Value->World->Prop}
 (hq:∀(dx:Nat) (w0:World) (arr:Array Value) (rest:List Value),w0.heap=w.heap->w0.tape=w.tape->w0.os=w.os->w0.output=w.output->arr.toList=AV.evs ρ (old++new)++rest->arr.size=dx*size->need≤dx->
   Q (.slice (some ⟨w.heap.size,0,none⟩) need dx) {w0 with heap:=w0.heap.push (.cells arr elem (0,0))}):
  wq K.P K.Ev E (do
   let dx<-choose (.appendCap need sCap elem)
   askRoom (dx*(<-typeInfo elem).bytes)
   let old<-Builtin.firstCells size sLen s;let new<-Builtin.firstCells size n x;let rest:=Builtin.zeroCells (<-zeroValue elem).cells (dx-need)
   Pure.pure (.slice (some (<-newRow elem (old++new++rest))) need dx)) Q w:=by
 simp only[bF];rw[tI];rw[if_neg (by simp[Question.forced])];intro nn;simp only[dI hi];have ask:∀{m:Nat} {Q':Unit->World->Prop} {w':World},Q' () w'->wq K.P K.Ev E (askRoom m) Q' w':=by
  intro m Q' w' qA;unfold askRoom;simp only[gk,oh,bG];split
  ·exact⟨G.noRoom,qA⟩
  ·exact qA
 refine ask ?_;have R':Rel K ρ h {w with drawn:=w.drawn+1}:=R.at rfl;refine hold R' ?_;refine hnew R' ?_;simp only[dX (ρ:=ρ) hz,newRow,bF,jJ,bG];have Ke:need≤Question.cut (.appendCap need sCap elem) nn:=by simp only[Question.cut];omega
 generalize hcap:Question.cut (.appendCap need sCap elem) nn=dx at Ke;refine hq dx {w with drawn:=w.drawn+1} _ (Builtin.zeroCells (z.ev ρ).cells (dx-need)).toList rfl rfl rfl rfl ?_ ?_ Ke
 ·simp[jC]
 ·have e1:(z.ev ρ).cells.size=size:=by rw[gN hc ρ];simp[cM,hzl]
  have e2:old.length+new.length=need*size:=by simpa using hlen
  simp only[Array.size_append,Builtin.zeroCells,Array.size_map,Array.size_range,List.size_toArray,cM,e1];rw[e2,<-Nat.add_mul];congr 1;omega
end
section
variable {K:Ctx}{ρ:Env}{h:AH}{w:World}{U:Nat->Prop}
theorem HK{a:AA}{v:AV}{h':AH}(hs:og h a v=.ok h'):h'.nb=h.nb∧h'.fJ=h.fJ:=by
 unfold og at hs;split at hs
 ·split at hs
  ·split at hs
   ·cases hs;exact⟨rfl,rfl⟩
   ·cases hs
  ·cases hs
 ·cases hs
theorem HL{a:AA}{v:AV}{h':AH}(hs:gJ h a v=.ok h'):h'.nb=h.nb∧h'.fJ=h.fJ:=by
 unfold gJ at hs;split at hs
 ·rename_i h1 hh;cases hs;exact HK hh
 ·split at hs
  ·rename_i h1 hh;cases hs;unfold preSet? at hh;split at hh
   ·split at hh
    ·split at hh
     ·split at hh
      ·cases hh;exact⟨rfl,rfl⟩
      ·cases hh
     ·cases hh
    ·cases hh
   ·cases hh
  ·cases hs
theorem tM{a:AA}:∀{l:List AV} {j:Nat} {h h':AH},kh h a l j=.ok h'->h'.nb=h.nb∧h'.fJ=h.fJ:=by
 intro l
 induction l with
 |nil=>intro j h h' hs;simp[kh]at hs;subst hs;exact⟨rfl,rfl⟩
 |cons v l ih=>
  intro j h h' hs;simp only[kh]at hs;split at hs
  ·rename_i h1 VY;have a1:=HL VY;have a2:=ih hs;exact⟨a2.1.trans a1.1,a2.2.trans a1.2⟩
  ·cases hs
theorem c7.of_same{h':AH}(I':f_ K U h')(e1:h'.nb=h.nb)(e2:h'.fJ=h.fJ):c7 K U h h':=
 ⟨by omega,e2,I'.congr fun n=>⟨.inl,fun x=>x.elim id fun x=>by omega⟩⟩
theorem vV(ρ:Env)(m:IE)(k:Nat):((iS m k).ev ρ).toNat=(m.ev ρ).toNat+k:=by
 unfold iS;split
 ·simp
 ·simp only[IE.ev];simp;omega
theorem DX{m:IE}(k:Nat)(h:m.In U):(iS m k).In U:=by
 unfold iS;split
 ·exact h
 ·exact⟨h,trivial⟩
theorem tN(G:K.Good){E:Value->World->Prop}{b:Nat}(ho:K.own b){arr:Array Value}{e:TypeId}{w:World}(hb:w.heap[b]?=some (.cells arr e (0,0))):∀{n j:Nat} {acc:Array Value},j+n≤arr.size->
  ∀{Q:Array Value->World->Prop},Q (acc++((arr.toList.drop j).take n).toArray) w->wq K.P K.Ev E (loadCellsFrom ⟨b,0,none⟩ j n acc) Q w:=by
 intro n
 induction n with
 |zero=>intro j acc hj Q hq;simpa[loadCellsFrom] using hq
 |succ n ih=>
  intro j acc hj Q hq;simp only[loadCellsFrom,bF];rw[vf];have ha:(⟨b,0,none⟩:Addr).add j=⟨b,j,none⟩:=by unfold Addr.add;split<;>simp_all
  rw[ha];have hlt:j<arr.size:=by omega
  refine⟨_,(jm hb).trans (aO hlt),G.rd _ _ ho,ih (by omega) ?_⟩;have:(arr.toList.drop j).take (n+1)=arr[j]::(arr.toList.drop (j+1)).take n:=by rw[aJ (by simpa using hlt),List.take_succ_cons];rfl
  rw[this]at hq;simpa using hq
theorem Kg(G:K.Good)(R:Rel K ρ h w){E:Value->World->Prop}{elem:TypeId}{i:TypeInfo}{z:AV}{zc:List AV}{need sCap sLen n size:Nat}{s x:Value}{old new:List Value}(hi:K.P.info? elem=some i)(hsz:i.size=size)(hz:zero? K.P elem=.ok z)(hc:z.cells?=.ok zc)(hzl:zc.length=size)
 (hold:∀{Q':Array Value->World->Prop} {w':World},w'.heap=w.heap->Q' old.toArray w'->wq K.P K.Ev E (Builtin.firstCells size sLen s) Q' w')
 (hnew:∀{Q':Array Value->World->Prop} {w':World},Rel K ρ h w'->Q' new.toArray w'->wq K.P K.Ev E (Builtin.firstCells size n x) Q' w')
 (hlen:(old++new).length=need*size)(V6:need≤1048576){Q:Value->World->Prop}
 (hq:∀(dx:Nat) (w0:World) (arr:Array Value) (rest:List Value),w0.heap=w.heap->w0.tape=w.tape->w0.os=w.os->w0.output=w.output->arr.toList=old++new++rest->arr.size=dx*size->need≤dx->
   Q (.slice (some ⟨w.heap.size,0,none⟩) need dx) {w0 with heap:=w0.heap.push (.cells arr elem (0,0))}):
  wq K.P K.Ev E (do
   let dx<-choose (.appendCap need sCap elem)
   askRoom (dx*(<-typeInfo elem).bytes)
   let old<-Builtin.firstCells size sLen s;let new<-Builtin.firstCells size n x;let rest:=Builtin.zeroCells (<-zeroValue elem).cells (dx-need)
   Pure.pure (.slice (some (<-newRow elem (old++new++rest))) need dx)) Q w:=by
 simp only[bF];rw[tI];rw[if_neg (by simp[Question.forced])];intro nn;simp only[dI hi];have ask:∀{m:Nat} {Q':Unit->World->Prop} {w':World},Q' () w'->wq K.P K.Ev E (askRoom m) Q' w':=by
  intro m Q' w' qA;unfold askRoom;simp only[gk,oh,bG];split
  ·exact⟨G.noRoom,qA⟩
  ·exact qA
 refine ask ?_;have R':Rel K ρ h {w with drawn:=w.drawn+1}:=R.at rfl;refine hold rfl ?_;refine hnew R' ?_;simp only[dX (ρ:=ρ) hz,newRow,bF,jJ,bG];have Ke:need≤Question.cut (.appendCap need sCap elem) nn:=by simp only[Question.cut];omega
 generalize hcap:Question.cut (.appendCap need sCap elem) nn=dx at Ke;refine hq dx {w with drawn:=w.drawn+1} _ (Builtin.zeroCells (z.ev ρ).cells (dx-need)).toList rfl rfl rfl rfl ?_ ?_ Ke
 ·simp
 ·have e1:(z.ev ρ).cells.size=size:=by rw[gN hc ρ];simp[cM,hzl]
  have e2:old.length+new.length=need*size:=by simpa using hlen
  simp only[Array.size_append,Builtin.zeroCells,Array.size_map,Array.size_range,List.size_toArray,e1];rw[e2,<-Nat.add_mul];congr 1;omega
theorem Ac{E Q:Value->World->Prop}{argTypes:Array TypeId}{ty sType xType elem:TypeId}{X:TypeDesc}{base:Option AA}{sl sc:IE}{x:AV}{n size bytes:Nat}{new:List AV}{info:TypeInfo}(h0:argTypes[0]?=some sType)(h1:argTypes[1]?=some xType)
 (hX:under? K.P xType=.ok X)(Vx:∀k,X=.int k->False)(hS:under? K.P sType=.ok (.slice elem))(hsz:sizeOf? K.P elem=.ok size)(j4:K.P.info? elem=some info)(Kd:info.bytes=bytes)(hb0:0<bytes)(yb:bytes≤1024)(hnew:appArgs? K.O h size x=.ok (n,new))
 (pq:(sl.ev ρ).toNat+n≤1048576)
 (hq:wq K.P K.Ev E (if(sl.ev ρ).toNat+n≤(sc.ev ρ).toNat then(do
    let new<-Builtin.firstCells size n (x.ev ρ)
    match base.map (AA.ev ρ)with
    |some a=>do
     storeCells (a.add ((sl.ev ρ).toNat*size)) new.toList
     Pure.pure (.slice (base.map (AA.ev ρ)) ((sl.ev ρ).toNat+n) (sc.ev ρ).toNat)
    |none=>Pure.pure (.slice (base.map (AA.ev ρ)) ((sl.ev ρ).toNat+n) (sc.ev ρ).toNat))
   else(do
    let dx<-choose (.appendCap ((sl.ev ρ).toNat+n) (sc.ev ρ).toNat elem)
    askRoom (dx*(<-typeInfo elem).bytes)
    let old<-Builtin.firstCells size (sl.ev ρ).toNat (.slice (base.map (AA.ev ρ)) (sl.ev ρ).toNat (sc.ev ρ).toNat);let new<-Builtin.firstCells size n (x.ev ρ);let rest:=Builtin.zeroCells (<-zeroValue elem).cells (dx-((sl.ev ρ).toNat+n))
    Pure.pure (.slice (some (<-newRow elem (old++new++rest))) ((sl.ev ρ).toNat+n) dx))) Q w):
  wq K.P K.Ev E (Builtin.append_ argTypes ty #[(AV.slice base sl sc).ev ρ,x.ev ρ]) Q w:=by
 have hX':=cZ hX;clear hX;unfold Builtin.append_;simp only[h0,h1,List.getElem?_toArray,List.getElem?_cons_zero,List.getElem?_cons_succ,bF,bK (cZ hS),c6 hsz,bK hX',bG,AV.ev];cases X<;>first
  |exact absurd rfl (Vx _)
  |skip
 all_goals simp only[aF,if_false]
 all_goals rw[bF]
 all_goals refine Br hnew ?_
 all_goals simp only[Bool.not_false,if_true]
 all_goals by_cases hc:(sl.ev ρ).toNat+n≤(sc.ev ρ).toNat
 all_goals first
  |(rw[if_pos hc]at hq⊢;cases base<;>exact hq)
  |(rw[if_neg hc]at hq⊢;rw[bF,dI j4];rw[if_neg (by rw[Kd];intro hh;exact hh.2.elim id (fun h3=>by omega))];rw[bF,dI j4];rw[if_neg (by rw[Kd];exact oH (by omega) pq yb)];exact hq)
theorem va(R:Rel K ρ h w)(I:f_ K U h){old s:Nat}{lk:Bool}{n:IE}{fs ws:List (IE×AV)}{cs:List AV}{elem:TypeId}{len:IE}{v:AV}{h':AH}(ha:allocPre? h old lk s n fs ws cs elem len=.ok (v,h'))(hc:(bO.pre lk s n fs ws cs elem (.lit 0)).In U)(hl:len.In U):
  v.In (plus U h.nb h'.nb)∧c7 K U h h'∧∀(m:Nat) (c:Nat) (w':World) (arr pre:Array Value) (rest:List Value) (i:TypeInfo),bS K.own w w'->w'.heap[m]?=some (.cells arr elem (0,0))->(K.own m∧∀k,K.still m k->lk=true∧∃i,K.P.info? elem=some i∧k<(n.ev ρ).toNat*i.size)->Rel K ρ {h with hp:=jk old h.hp} w'->
   (∀j b,cE j (jk old h.hp)=some b->ρ.b j≠m)->vK K.P ρ s n fs ws elem i pre->arr.toList=wrote ρ pre.toList ws++(AV.evs ρ cs++rest)->arr.size=c*i.size->
   After K U ρ w h' (fun ρ'=>v.ev ρ'=.slice (some ⟨m,0,none⟩) (len.ev ρ).toNat c) w':=by
 obtain⟨hp,nb,fJ⟩:=h;simp only[allocPre?]at ha;split at ha
 ·rename_i hlt;cases ha;have yg:¬U nb:=I.fresh _ (ax _) hlt;have hnb:plus U nb (nb+1) nb:=.inr ⟨ax _,Nat.lt_succ_self _⟩;have Q3:=bO.In.mono (b_ (U:=U) (a:=nb) (b:=nb+1)) hc;have hin:bO.In (plus U nb (nb+1)) (.pre lk s n fs ws cs elem (.var nb)):=⟨Q3.1,Q3.2.1,Q3.2.2.1,Q3.2.2.2.1,hnb⟩;refine⟨⟨⟨hnb,trivial⟩,IE.In.mono b_ hl,hnb⟩,⟨Nat.le_succ _,rfl,(I.drop old).ins hlt hin⟩,?_⟩;intro m c w' arr pre rest inf hk hm ho R' hne hp Ab hsz;have A:cv U ρ (ρ.upd nb m c):=fM yg;have hf:(bO.pre lk s n fs ws cs elem (.var nb)).fits K.P (ρ.upd nb m c) arr:=
   ⟨pre,rest,inf,hp.mS A hc.1 hc.2.1 hc.2.2.1,by rw[o8 A _ hc.2.2.1,AV.fe A cs hc.2.2.2.1];exact Ab,by simpa[IE.ev,Env.upd] using hsz⟩
  refine⟨ρ.upd nb m c,A,Rel.VZ R' (I.drop old) hlt hm ho.1 hne (fun k hk'=>by have:=ho.2 k hk';rw[<-IE.bV A hc.1]at this;exact this) (.inl ⟨arr,rfl,hf⟩),hk,?_⟩;have:(len.ev (ρ.upd nb m c))=len.ev ρ:=IE.bV A hl;simp[AV.ev,AA.ev,BR.ev,IE.ev,Env.upd]at this⊢;rw[<-this]
 ·cases ha
theorem HM(G:K.Good)(R:Rel K ρ h w)(I:f_ K U h){argTypes:Array TypeId}{ty sType xType elem:TypeId}{X:TypeDesc}{base:Option AA}{sl sc:IE}{x z:AV}{zc:List AV}{n size bytes:Nat}{new:List AV}{v:AV}{h':AH}(h0:argTypes[0]?=some sType)(h1:argTypes[1]?=some xType)
 (hX:under? K.P xType=.ok X)(Vx:∀k,X=.int k->False)(hS:under? K.P sType=.ok (.slice elem))(hsz:sizeOf? K.P elem=.ok size)(hz:zero? K.P elem=.ok z)(oU:z.cells?=.ok zc)(hbytes:bytesOf? K.P elem=.ok bytes)(hzl:zc.length=size)(hs0:0<size)(hb0:0<bytes)(yb:bytes≤1024)
 (hnew:appArgs? K.O h size x=.ok (n,new))(hall:new.all (·.oneCell?)=true)(hs:(AV.slice base sl sc).In U)(he:appPre? K.O h base sl sc n size new elem=.ok (v,h')):
  nC K U ρ h w (Builtin.append_ argTypes ty #[(AV.slice base sl sc).ev ρ,x.ev ρ]) v h':=by
 have Dy:=su hnew;have hni:=ux I hnew;obtain⟨info,j4,Kd⟩:=mV hbytes;obtain⟨info',vX,his⟩:=l5 hsz;obtain rfl:info=info':=by rw[j4]at vX;exact au vX
 have DY:info.size=size:=by rw[<-his]
 have hone:=uw hall ρ;unfold appPre? at he;split at he
 rotate_left
 ·cases he
 rename_i a;split at he
 rotate_left
 ·cases he
 rename_i i HN hoff;split at he
 rotate_left
 ·cases he
 rename_i lk s m fs ws cs e c' hfind;split at he
 rotate_left
 ·cases he
 rename_i hok;unfold preOk? at hok;simp only[an,decide_eq_true_eq]at hok;obtain⟨⟨⟨⟨hee,hcc⟩,hk⟩,hsl⟩,Q4⟩:=hok;have Q5:=hee.symm;subst Q5;have Q6:=IE.cK hcc;subst Q6;have hk':=aH hk;have Q7:=IE.cK hsl;subst Q7;generalize hkk:cs.length / size=k at*;have pq:((iS m k).ev ρ).toNat+n≤1048576:=by
  split at Q4
  ·rename_i b hd;subst Q4;have:=kZ R hd;have h2:((((iS m k).ev ρ).toNat:Int)+(n:Int)≤1048576):=of_decide_eq_true this;omega
  ·cases Q4
 have V7:((iS m k).ev ρ).toNat=(m.ev ρ).toNat+k:=vV ρ m k;obtain⟨arr,ha1,pre,rest,i1,hp,V1,Nw⟩:=R.arr hfind rfl;obtain rfl:info=i1:=by have:=hp.info;rw[j4]at this;exact au this
 have hown:=R.own _ _ hfind rfl;have Be:∀k,K.still (ρ.b i) k->lk=true∧∃i,K.P.info? elem=some i∧k<(m.ev ρ).toNat*i.size:=fun n hs=>R.gi _ _ hfind n hs;have AU:=I.hp _ _ hfind;generalize Q8:((iS m k).ev ρ).toNat=sLen at*;have abG:∀k,sLen*size+0≤k->¬K.still (ρ.b i) k:=fun k hk2 hs=>by
  obtain⟨_,i2,h2,h3⟩:=Be k hs;obtain rfl:info=i2:=by rw[j4]at h2;exact au h2
  rw[DY]at h3;have:(m.ev ρ).toNat*size≤sLen*size:=bf _ (by omega);omega
 obtain⟨V,hV⟩:∃V,V=wrote ρ pre.toList ws++AV.evs ρ cs:=⟨_,rfl⟩;have Vy:V.length=sLen*size:=by rw[hV,ak,lB,cM,<-hk',Array.length_toList,hp.size,DY,V7,Nat.add_mul]
 have Q9:arr.toList=V++rest:=by rw[V1,hV,aY]
 have abH:arr.size=sLen*size+rest.length:=by have:=congrArg aP Q9;rw[ak,Vy]at this;simpa using this
 have hcap:sLen≤(sc.ev ρ).toNat:=by
  have h5:sLen*size≤(sc.ev ρ).toNat*size:=by rw[<-DY,<-Nw,DY];omega
  exact Nat.le_of_mul_le_mul_right h5 hs0
 have FM:a.ev ρ=⟨ρ.b i,0,none⟩:=by simp[AA.ev,HN,hoff,BR.ev,IE.ev]
 have front:=fun{E:Value->World->Prop} {Q:Value->World->Prop}=>Ac (K:=K) (ρ:=ρ) (h:=h) (w:=w) (E:=E) (Q:=Q) (ty:=ty) (base:=some a) (sl:=iS m k) (sc:=sc) (x:=x) h0 h1 hX Vx hS hsz j4 Kd hb0 yb hnew (by rw[Q8];exact pq);rw[Q8]at front;have new?:∀{E:Value->World->Prop} {Q':Array Value->World->Prop} {w':World},Rel K ρ h w'->Q' (AV.evs ρ new).toArray w'->wq K.P K.Ev E (Builtin.firstCells size n (x.ev ρ)) Q' w':=fun R' qA=>qB R' G hnew qA;split at he
 ·rw[bJ]at he;cases he;have pz:new=[]:=bw (by simpa using Dy);subst pz;refine nC.pure R I hs fun{E Q} hq=>front ?_;rw[if_pos (by omega),bF];refine new? R ?_;simp only[av,AV.evs,bF,storeCells,bG];have:(AV.slice (some a) (iS m k) sc).ev ρ=.slice (some (a.ev ρ)) (sLen+0) (sc.ev ρ).toNat:=by simp only[AV.ev,av,Q8];rfl
  rw[<-this];exact hq
 ·rename_i hn0;have hin:(bO.pre lk s m fs ws (cs++new) elem (.lit 0)).In U:=⟨AU.1,AU.2.1,AU.2.2.1,cS.2 fun x hx'=>by
   rcases aR.1 hx' with h'|h'
   ·exact cS.1 AU.2.2.2.1 _ h'
   ·exact cS.1 hni _ h',trivial⟩
  obtain⟨r1,r2,r3⟩:=va R I he hin (DX _ AU.1);have V8:((iS m (k+n)).ev ρ).toNat=sLen+n:=by rw[vV];omega
  rw[V8]at r3;refine⟨r1,r2,fun{E Q} hq=>front ?_⟩;by_cases hfit:sLen+n≤(sc.ev ρ).toNat
  ·rw[if_pos hfit,bF];refine new? R ?_;simp only[av,bF,FM];have Q_:(⟨ρ.b i,0,none⟩:Addr).add (sLen*size)=⟨ρ.b i,sLen*size,none⟩:=by unfold Addr.add;split<;>simp_all
   rw[Q_];have hroom:sLen*size+0+(AV.evs ρ new).length≤arr.size:=by rw[Nw,DY,cM,Dy,Nat.add_zero,<-Nat.add_mul];exact bf _ hfit
   refine mW G hown abG ha1 hroom hone ?_;intro w' gn q1 q2 q3 q4 q5 q6 q7 q8 q9;have eJ:∀j b,cE j (jk i h.hp)=some b->cE j h.hp=some b∧j≠i:=fun j b hb=>by
    rw[iG _ _ _ I.nodup]at hb;split at hb
    · cases hb
    · rename_i hne;exact⟨hb,hne⟩
   have Kh:∀j b,cE j (jk i h.hp)=some b->ρ.b j≠ρ.b i:=fun j b hb e=>(eJ j b hb).2 (R.inj _ _ _ _ (eJ j b hb).1 hfind e);have Kw:bS K.own w w':=⟨fun m hm=>q2 m (fun e=>hm (by rw[e];exact hown)),by rw[q3];exact ax _,q4,q5,q6⟩;have Rw:Rel K ρ {h with hp:=jk i h.hp} w':=
    ⟨fun j b hb=>by obtain⟨vY,x1,x2⟩:=R.blk j b (eJ j b hb).1;exact⟨vY,by rw[q2 _ (Kh j b hb)];exact x1,x2⟩,
     fun j b hb=>R.qV j b (eJ j b hb).1,fun j k b c hb hc e=>R.inj j k b c (eJ j b hb).1 (eJ k c hc).1 e,R.bs,R.is,
     fun p hp=>by obtain⟨m1,m2,m3⟩:=R.mem p hp;refine⟨m1,?_,m3⟩;simp only[World.cell?]at m2⊢;rw[q2 _ (fun e=>m1 (by rw[e];exact hown))];exact m2,
     fun m hm=>R.room m (by rw[q3]at hm;exact hm),fun j b hb=>R.gi j b (eJ j b hb).1,fun b n hs=>by rw[q3];exact R.low b n hs⟩
   have Ab:gn.toList=wrote ρ pre.toList ws++(AV.evs ρ (cs++new)++gn.toList.drop (sLen*size+n*size)):=by
    have hl:V++AV.evs ρ new=gn.toList.take (sLen*size+n*size):=by
      refine List.ext_getElem? fun j=>?_;rw[List.getElem?_take];by_cases hm:j<sLen*size
      ·rw[aV (by rw[Vy];exact hm),if_pos (by omega),(show gn.toList[j]?=gn[j]? from bn),q8 j (by omega),(show arr[j]?=arr.toList[j]? from Array.getElem?_toList.symm),Q9,aV (by rw[Vy];exact hm)]
      ·rw[List.getElem?_append_right (by rw[Vy];omega),Vy];by_cases hm2:j<sLen*size+n*size
       ·rw[if_pos hm2,(show gn.toList[j]?=gn[j]? from bn)];have:=q9 (j-sLen*size) (by rw[cM,Dy];omega);rw[<-this];congr 1;omega
       ·rw[if_neg hm2,aM (by rw[cM,Dy];omega)]
    rw[jC,<-aY,<-aY,<-hV,hl];exact(List.take_append_drop _ _).symm
   obtain⟨ρ',a1,a2,a3,a4⟩:=r3 (ρ.b i) (sc.ev ρ).toNat w' gn pre _ info Kw q1 ⟨hown,Be⟩ Rw Kh hp Ab (by rw[q7];exact Nw);exact hq _ _ ⟨ρ',a1,a2,a3,a4.symm⟩
  ·rw[if_neg hfit];have hold:∀{E:Value->World->Prop} {Q':Array Value->World->Prop} {w':World},w'.heap=w.heap->Q' V.toArray w'->wq K.P K.Ev E (Builtin.firstCells size sLen (.slice (some (a.ev ρ)) sLen (sc.ev ρ).toNat)) Q' w':=by
    intro E Q' w' hh qA;simp only[Builtin.firstCells,loadCells,FM];refine tN G hown (by rw[hh];exact ha1) (by omega) ?_;have:(arr.toList.drop 0).take (sLen*size)=V:=by rw[List.drop_zero,Q9,List.take_append_of_le_length (by omega),List.take_of_length_le (by omega)]
    rw[this];simpa using qA
   refine Kg G R j4 DY hz oU hzl (fun hh=>hold hh) (fun R'=>new? R') (by rw[ak,Vy,cM,Dy,Nat.add_mul]) pq ?_;intro dx w0 vY yZ e1 e2 e3 e4 e5 e6 e7;have R0:Rel K ρ h w0:=R.at e1;obtain⟨Rp,Kp⟩:=R0.push (.cells vY elem (0,0));have K0:bS K.own w w0:=⟨fun _ _=>by rw[e1],by rw[e1];exact ax _,e2,e3,e4⟩;obtain⟨ρ',a1,a2,a3,a4⟩:=r3 w.heap.size dx {w0 with heap:=w0.heap.push (.cells vY elem (0,0))} vY pre yZ info (K0.trans Kp) (by rw[<-e1];simp) ⟨R.room _ (ax _),fun n hs=>by have:=R.low _ n hs;omega⟩ (Rp.drop I i)
    (fun j b hb e=>by
      rw[iG _ _ _ I.nodup]at hb;split at hb
      ·cases hb
      ·obtain⟨gn,ha',_⟩:=R.blk j b hb;have:=jx ha';omega) hp (by rw[e5,hV,jC,aY,aY,aY]) (by rw[DY];exact e6)
   exact hq _ _ ⟨ρ',a1,a2,a3,a4.symm⟩
theorem DZ(G:K.Good)(R:Rel K ρ h w)(I:f_ K U h){argTypes:Array TypeId}{ty:TypeId}{s x v:AV}{h':AH}(hs:s.In U)(hx:x.In U)(he:append? K.P h argTypes s x K.O=.ok (v,h')):
  nC K U ρ h w (Builtin.append_ argTypes ty #[s.ev ρ,x.ev ρ]) v h':=by
 unfold append? at he;split at he
 ·rename_i sType xType h0 h1;simp only[bH]at he;obtain⟨X,hX,he⟩:=he;split at he
  ·cases he
  ·rename_i Vx;simp only[bH]at he;obtain⟨S,hS,he⟩:=he;split at he
   ·rename_i elem;simp only[bH]at he;obtain⟨size,hsz,z,hz,zc,oU,bytes,hbytes,he⟩:=he;split at he
    ·rename_i Bq;obtain⟨hzl,hs0,hb0,yb⟩:=Bq;simp only[bH]at he;obtain⟨⟨n,new⟩,hnew,he⟩:=he;split at he
     ·rename_i hall;split at he
      ·rename_i base sl sc;split at he
       rotate_left
       ·exact HM G R I h0 h1 hX (fun k e=>Vx k e) hS hsz hz oU hbytes hzl hs0 hb0 yb hnew hall hs he
       rename_i sn;simp only[bH]at he;obtain⟨sLen,hsl,he⟩:=he;have Q7:=iI hsl;cases Q7;split at he
       ·rename_i pq;have Dy:=su hnew;have hni:=ux I hnew;obtain⟨info,j4,Kd⟩:=mV hbytes;obtain⟨info',vX,his⟩:=l5 hsz;obtain rfl:info=info':=by rw[j4]at vX;exact au vX
        have front:∀{E:Value->World->Prop} {Q:Value->World->Prop},wq K.P K.Ev E (if sLen+n≤(sc.ev ρ).toNat then(do
           let new<-Builtin.firstCells size n (x.ev ρ)
           match base.map (AA.ev ρ)with
           |some a=>do
            storeCells (a.add (sLen*size)) new.toList
            Pure.pure (.slice (base.map (AA.ev ρ)) (sLen+n) (sc.ev ρ).toNat)
           |none=>Pure.pure (.slice (base.map (AA.ev ρ)) (sLen+n) (sc.ev ρ).toNat))
          else(do
           let dx<-choose (.appendCap (sLen+n) (sc.ev ρ).toNat elem)
           askRoom (dx*(<-typeInfo elem).bytes)
           let old<-Builtin.firstCells size sLen (.slice (base.map (AA.ev ρ)) sLen (sc.ev ρ).toNat);let new<-Builtin.firstCells size n (x.ev ρ);let rest:=Builtin.zeroCells (<-zeroValue elem).cells (dx-(sLen+n))
           Pure.pure (.slice (some (<-newRow elem (old++new++rest))) (sLen+n) dx))) Q w->
          wq K.P K.Ev E (Builtin.append_ argTypes ty #[(AV.slice base (.lit (.ofNat sLen)) sc).ev ρ,x.ev ρ]) Q w:=by
         intro E Q hq;have hX':=cZ hX;clear hX he;unfold Builtin.append_;simp only[h0,h1,List.getElem?_toArray,List.getElem?_cons_zero,List.getElem?_cons_succ,bF,bK (cZ hS),c6 hsz,bK hX',bG,AV.ev,IE.ev];cases X<;>first
          |exact absurd rfl (Vx _)
          |skip
         all_goals simp only[aF,if_false]
         all_goals rw[bF]
         all_goals refine Br hnew ?_
         all_goals have e0:(Int.ofNat sLen).toNat=sLen:=rfl
         all_goals simp only[e0,Bool.not_false,if_true]
         all_goals by_cases hc:sLen+n≤(sc.ev ρ).toNat
         all_goals first
          |(rw[if_pos hc]at hq⊢;cases base<;>exact hq)
          |(rw[if_neg hc]at hq⊢;rw[bF,dI j4];rw[if_neg (by rw[Kd];intro hh;exact hh.2.elim id (fun h3=>by omega))];rw[bF,dI j4];rw[if_neg (by rw[Kd];exact oH (by omega) pq yb)];exact hq)
        have hone:=uw hall ρ;have new?:∀{E:Value->World->Prop} {Q':Array Value->World->Prop} {w':World},Rel K ρ h w'->Q' (AV.evs ρ new).toArray w'->wq K.P K.Ev E (Builtin.firstCells size n (x.ev ρ)) Q' w':=fun R' qA=>qB R' G hnew qA;have DY:info.size=size:=by rw[<-his]
        have old?:∀{old:List AV},appOld? K.O h base sLen size=.ok old->
          old.length=sLen*size∧AV.iw U old∧∀{E:Value->World->Prop} {Q':Array Value->World->Prop} {w':World},Rel K ρ h w'->Q' (AV.evs ρ old).toArray w'->wq K.P K.Ev E (Builtin.firstCells size sLen (.slice (base.map (AA.ev ρ)) sLen (sc.ev ρ).toNat)) Q' w':=by
         intro old ho;unfold appOld? at ho;split at ho
         ·split at ho
          ·rename_i h00;cases ho;exact⟨by simp[h00],trivial,fun R' qA=>qA⟩
          ·cases ho
         ·refine⟨sg ho,r_ I ho,fun R' qA=>?_⟩;simp only[av,Builtin.firstCells,loadCells];exact kR R' G ho (by simpa using qA)
        split at he
        ·
         rename_i cap;have ec:((IE.lit (Int.ofNat cap)).ev ρ).toNat=cap:=rfl;split at he
         ·rename_i hle;unfold appFit? at he;split at he
          ·rename_i a;simp only[bH,bJ]at he;obtain⟨h2,hst,e⟩:=he;cases e;have hnb:=tM hst;have I':=qY (AA.tJ _ hs.1) I hst hni;refine⟨⟨AA.In.mono b_ hs.1,trivial,trivial⟩,c7.of_same I' hnb.1 hnb.2,fun{E Q} hq=>front ?_⟩;rw[ec,if_pos hle,bF];refine new? R ?_;simp only[av,bF];rw[<-AA.qX];refine oo G R hst fun w' r1 r2 _ _=>?_;exact hq _ _ ⟨ρ,cv.refl _ _,r1,r2,rfl⟩
          ·split at he
           ·rename_i hn0;rw[bJ]at he;cases he;subst hn0;refine nC.pure R I ⟨trivial,trivial,trivial⟩ fun{E Q} hq=>front ?_;rw[ec,if_pos hle,bF];refine new? R ?_;exact hq
           ·cases he
         ·rename_i hle;unfold appGrow? at he;simp only[bH]at he;obtain⟨old,hold,ha⟩:=he;obtain⟨o1,o2,o3⟩:=old? hold;have hin:AV.iw U (old++new):=cS.2 fun a ha=>by
           rcases aR.1 ha with h'|h'
           ·exact cS.1 o2 _ h'
           ·exact cS.1 hni _ h'
          obtain⟨r1,r2,r3⟩:=oI R I ha hin;refine⟨r1,r2,fun{E Q} hq=>front ?_⟩;rw[ec,if_neg hle];refine FL G R j4 DY hz oU hzl (fun R'=>o3 R') (fun R'=>new? R') (by rw[ak,o1,Dy,Nat.add_mul]) pq ?_;intro dx w0 arr rest e1 e2 e3 e4 e5 e6 e7;have R0:Rel K ρ h w0:=R.at e1;obtain⟨Rp,Kp⟩:=R0.push (.cells arr elem (0,0));have K0:bS K.own w w0:=⟨fun _ _=>by rw[e1],by rw[e1];exact ax _,e2,e3,e4⟩;obtain⟨ρ',a1,a2,a3,a4⟩:=r3 w.heap.size dx {w0 with heap:=w0.heap.push (.cells arr elem (0,0))} arr rest info (K0.trans Kp) (by rw[<-e1];simp) ⟨R.room _ (ax _),fun n hs=>by have:=R.low _ n hs;omega⟩ Rp
           (fun j b hb e=>by obtain⟨gn,ha',_⟩:=R.blk j b hb;have:=jx ha';omega) e5 j4 (by rw[DY];exact e6)
          exact hq _ _ ⟨ρ',a1,a2,a3,a4.symm⟩
        ·
         unfold appRow? at he;split at he
         ·rename_i a;split at he
          ·rename_i i HN hoff;split at he
           ·rename_i cs e c' hfind;split at he
            ·rename_i hc3;obtain⟨hee,hcc,hlen⟩:=hc3;have Q5:=hee.symm;subst Q5;have Q6:=IE.cK hcc;subst Q6;obtain⟨arr,ha1,rest,i1,V1,Hy,Nw⟩:=R.arr hfind rfl;obtain rfl:info=i1:=by rw[j4]at Hy;exact au Hy
             have hown:=R.own _ _ hfind rfl;have Be:∀n,¬K.still (ρ.b i) n:=fun n hs=>by have:=R.gi _ _ hfind n hs;cases this
             have AU:=I.hp _ _ hfind;have abH:arr.size=cs.length+rest.length:=by have:=congrArg aP V1;simpa[cM] using this
             have hcap:sLen≤(sc.ev ρ).toNat:=by
              have h5:sLen*size≤(sc.ev ρ).toNat*size:=by rw[<-DY,<-Nw,DY];omega
              exact Nat.le_of_mul_le_mul_right h5 hs0
             have FM:a.ev ρ=⟨ρ.b i,0,none⟩:=by simp[AA.ev,HN,hoff,BR.ev,IE.ev]
             split at he
             ·rename_i hn0;rw[bJ]at he;cases he;subst hn0;have pz:new=[]:=bw (by simpa using Dy);subst pz;refine nC.pure R I hs fun{E Q} hq=>front ?_;rw[if_pos (by omega),bF];refine new? R ?_;simp only[av,AV.evs,bF,storeCells,bG];exact hq
             ·rename_i hn0;have hin:AV.iw U (cs.take (sLen*size)++new):=cS.2 fun x hx'=>by
               rcases aR.1 hx' with h'|h'
               ·exact cS.1 AU.1 _ (List.mem_of_mem_take h')
               ·exact cS.1 hni _ h'
              obtain⟨r1,r2,r3⟩:=oI R I he hin;refine⟨r1,r2,fun{E Q} hq=>front ?_⟩;by_cases hfit:sLen+n≤(sc.ev ρ).toNat
              ·
               rw[if_pos hfit,bF];refine new? R ?_;simp only[av,bF,FM];have Q_:(⟨ρ.b i,0,none⟩:Addr).add (sLen*size)=⟨ρ.b i,sLen*size,none⟩:=by unfold Addr.add;split<;>simp_all
               rw[Q_];have hroom:sLen*size+0+(AV.evs ρ new).length≤arr.size:=by rw[Nw,DY,cM,Dy,Nat.add_zero,<-Nat.add_mul];exact bf _ hfit
               refine mW G hown (fun n _=>Be n) ha1 hroom hone ?_;intro w' gn q1 q2 q3 q4 q5 q6 q7 q8 q9;have eJ:∀j b,cE j (jk i h.hp)=some b->cE j h.hp=some b∧j≠i:=fun j b hb=>by
                rw[iG _ _ _ I.nodup]at hb;split at hb
                · cases hb
                · rename_i hne;exact⟨hb,hne⟩
               have Kh:∀j b,cE j (jk i h.hp)=some b->ρ.b j≠ρ.b i:=fun j b hb e=>(eJ j b hb).2 (R.inj _ _ _ _ (eJ j b hb).1 hfind e);have Kw:bS K.own w w':=⟨fun m hm=>q2 m (fun e=>hm (by rw[e];exact hown)),by rw[q3];exact ax _,q4,q5,q6⟩;have Rw:Rel K ρ {h with hp:=jk i h.hp} w':=
                ⟨fun j b hb=>by obtain⟨vY,x1,x2⟩:=R.blk j b (eJ j b hb).1;exact⟨vY,by rw[q2 _ (Kh j b hb)];exact x1,x2⟩,
                 fun j b hb=>R.qV j b (eJ j b hb).1,fun j k b c hb hc e=>R.inj j k b c (eJ j b hb).1 (eJ k c hc).1 e,R.bs,R.is,
                 fun p hp=>by obtain⟨m1,m2,m3⟩:=R.mem p hp;refine⟨m1,?_,m3⟩;simp only[World.cell?]at m2⊢;rw[q2 _ (fun e=>m1 (by rw[e];exact hown))];exact m2,
                 fun m hm=>R.room m (by rw[q3]at hm;exact hm),fun j b hb=>R.gi j b (eJ j b hb).1,fun b n hs=>by rw[q3];exact R.low b n hs⟩
               have Ab:gn.toList=AV.evs ρ (cs.take (sLen*size)++new)++gn.toList.drop (sLen*size+n*size):=by
                have hl:(AV.evs ρ (cs.take (sLen*size)++new))=gn.toList.take (sLen*size+n*size):=by
                  refine List.ext_getElem? fun m=>?_;rw[List.getElem?_take];rw[jC];have Nx:(AV.evs ρ (cs.take (sLen*size))).length=sLen*size:=by rw[cM,List.length_take];omega
                  by_cases hm:m<sLen*size
                  ·rw[aV (by rw[Nx];exact hm),if_pos (by omega),mR,List.getElem?_take,if_pos hm,(show gn.toList[m]?=gn[m]? from bn),q8 m (by omega),(show arr[m]?=arr.toList[m]? from Array.getElem?_toList.symm),V1,aV (by rw[cM];omega),mR]
                  ·rw[List.getElem?_append_right (by rw[Nx];omega),Nx];by_cases hm2:m<sLen*size+n*size
                   ·rw[if_pos hm2,(show gn.toList[m]?=gn[m]? from bn)];have:=q9 (m-sLen*size) (by rw[cM,Dy];omega);rw[<-this];congr 1;omega
                   ·rw[if_neg hm2,aM (by rw[cM,Dy];omega)]
                rw[hl];exact(List.take_append_drop _ _).symm
               obtain⟨ρ',a1,a2,a3,a4⟩:=r3 (ρ.b i) (sc.ev ρ).toNat w' gn _ info Kw q1 ⟨hown,Be⟩ Rw Kh Ab j4 (by rw[q7];exact Nw);exact hq _ _ ⟨ρ',a1,a2,a3,a4.symm⟩
              ·
               rw[if_neg hfit];have hold:∀{E:Value->World->Prop} {Q':Array Value->World->Prop} {w':World},Rel K ρ h w'->Q' (AV.evs ρ (cs.take (sLen*size))).toArray w'->wq K.P K.Ev E (Builtin.firstCells size sLen (.slice (some (a.ev ρ)) sLen (sc.ev ρ).toNat)) Q' w':=by
                intro E Q' w' R' qA;have hl:∀(m j:Nat),j+m≤cs.length->kN K.O h a m j=.ok ((cs.drop j).take m):=by
                  intro m
                  induction m with
                  |zero=>intro j _;simp[kN]
                  |succ m ih=>
                   intro j hj;have h1:rT K.O h (a.add j)=.ok cs[j]:=by
                    unfold rT yO;have:(a.add j)=⟨.dyn i,.lit (.ofNat j)⟩:=by simp only[AA.add,HN,hoff,yd,aG]
                    rw[this];simp only[hfind,bO.cs];rw[af (by omega)]
                   simp only[kN,h1];rw[ih (j+1) (by omega)];simp only;rw[aJ (by omega:j<cs.length),List.take_succ_cons]
                simp only[Builtin.firstCells,loadCells];exact kR R' G (hl (sLen*size) 0 (by omega)) (by simpa using qA)
               refine FL G R j4 DY hz oU hzl (fun R'=>hold R') (fun R'=>new? R') (by rw[ak,List.length_take,Dy,Nat.add_mul,Nat.min_eq_left hlen]) pq ?_;intro dx w0 vY yZ e1 e2 e3 e4 e5 e6 e7;have R0:Rel K ρ h w0:=R.at e1;obtain⟨Rp,Kp⟩:=R0.push (.cells vY elem (0,0));have K0:bS K.own w w0:=⟨fun _ _=>by rw[e1],by rw[e1];exact ax _,e2,e3,e4⟩;obtain⟨ρ',a1,a2,a3,a4⟩:=r3 w.heap.size dx {w0 with heap:=w0.heap.push (.cells vY elem (0,0))} vY yZ info (K0.trans Kp) (by rw[<-e1];simp) ⟨R.room _ (ax _),fun n hs=>by have:=R.low _ n hs;omega⟩ (Rp.drop I i)
                (fun j b hb e=>by
                  rw[iG _ _ _ I.nodup]at hb;split at hb
                  ·cases hb
                  ·obtain⟨gn,ha',_⟩:=R.blk j b hb;have:=jx ha';omega) e5 j4 (by rw[DY];exact e6)
               exact hq _ _ ⟨ρ',a1,a2,a3,a4.symm⟩
            ·cases he
           ·cases he
          ·cases he
         ·cases he
       ·cases he
      ·cases he
     ·cases he
    ·cases he
   ·cases he
 ·cases he
end
section
variable {K:Ctx}{ρ:Env}{h:AH}{w:World}{U:Nat->Prop}
theorem D1{P:Program}{es:List (AV×AV)}{o:Obj}(h:(bO.map es).is P ρ o):∃arr nu,o=.map arr nu∧arr.toList.map (fun e=>(e.key,e.val))=es.map fun p=>(p.1.ev ρ,p.2.ev ρ):=by
 rcases h with⟨arr,_,h⟩|h
 ·exact h.elim
 ·exact h
theorem jK{P:Program}{Ev:Event->Prop}{E:Value->World->Prop}{r:Nat}{o:Obj}(h1:w.heap[r]?=some o)(h2:∀c e f,o≠.cells c e f)(h3:Ev ⟨.obj r,false,o.isChan⟩){Q:Obj->World->Prop}(hq:Q o w):wq P Ev E (getObj r) Q w:=
 ⟨o,h1,h2,h3,hq⟩
theorem tO{P:Program}{Ev:Event->Prop}{E:Value->World->Prop}{r:Nat}{o o':Obj}(h1:w.heap[r]?=some o')(h2:∀c e f,o'≠.cells c e f)(h3:Ev ⟨.obj r,true,o.isChan⟩){Q:Unit->World->Prop}(hq:Q () {w with heap:=w.heap.setIfInBounds r o}):wq P Ev E (setObj r o) Q w:=
 ⟨⟨o',h1,h2⟩,h3,hq⟩
theorem qC(R:Rel K ρ h w)(I:f_ K U h){b:bO}{mk:BR->AV}{v:AV}{h':AH}(ha:allocO? h b mk=.ok (v,h'))(hb:b.In U)(hmk:∀r,BR.In (plus U h.nb (h.nb+1)) r->(mk r).In (plus U h.nb (h.nb+1)))(hst:∀n,b.qQ n=b.qQ n):
  v.In (plus U h.nb h'.nb)∧c7 K U h h'∧∀o,b.is K.P ρ o->After K U ρ w h' (fun ρ'=>v.ev ρ'=(mk (.dyn h.nb)).ev (ρ.upd h.nb w.heap.size 0)) {w with heap:=w.heap.push o}:=by
 obtain⟨hp,nb,fJ⟩:=h;simp only[allocO?]at ha;split at ha
 ·rename_i hlt;cases ha;have yg:¬U nb:=I.fresh _ (ax _) hlt;refine⟨hmk _ (.inr ⟨ax _,Nat.lt_succ_self _⟩),⟨Nat.le_succ _,rfl,I.ins hlt (bO.In.mono b_ hb)⟩,fun o ho=>?_⟩;obtain⟨R',kp⟩:=R.push o;refine⟨ρ.upd nb w.heap.size 0,fM yg,R'.V0 I hlt (by simp) (R.room _ (ax _)) (fun j x hx e=>?_) (fun n hs=>by have:=R.low _ n hs;omega) (A_ (fM yg) hb ho),kp,rfl⟩;obtain⟨gn,ha,_⟩:=R.blk j x hx;have:=jx ha;omega
 ·cases ha
theorem Bs(R:Rel K ρ h w)(I:f_ K U h){t:TypeId}{s v:AV}{h':AH}(ha:makeChan? K.P h t s=.ok (v,h')):nC K U ρ h w (Instr.makeChan t (s.ev ρ)) v h':=by
 unfold makeChan? at ha;split at ha
 ·rename_i k d elem hu;split at ha
  ·rename_i i hi;obtain⟨h1,h2,h3⟩:=qC R I ha trivial (fun r hr=>hr) (fun _=>rfl);refine⟨h1,h2,fun{E Q} hq=>?_⟩;simp only[Instr.makeChan,AV.ev,IE.ev,bF,asInt,asIntOf,bG,bK hu,dI hi];have hm:¬(Int.ofNat 0<0∨Int.ofNat 0>IntKind.i64.max∨(i.bytes:Int)*Int.ofNat 0>2 ^ 48-112):=by
    simp[IntKind.max,IntKind.bits];decide
   simp only[hm,if_false,bF,bG,jJ];obtain⟨ρ',a1,a2,a3,a4⟩:=h3 (.chan 0 #[] false 0 0 false) (.inr ⟨0,rfl⟩);refine hq _ _ ⟨ρ',a1,a2,a3,?_⟩;show Value.chan (some w.heap.size)=v.ev ρ';rw[a4];simp[AV.ev,BR.ev,Env.upd]
  ·cases ha
 ·cases ha
theorem D2(R:Rel K ρ h w)(I:f_ K U h){t:TypeId}{r:Option AV}{v:AV}{h':AH}(ha:makeMap? h r=.ok (v,h')):nC K U ρ h w (Instr.makeMap t (r.map (AV.ev ρ))) v h':=by
 unfold makeMap? at ha;split at ha
 ·obtain⟨h1,h2,h3⟩:=qC R I ha (nofun) (fun r hr=>hr) (fun _=>rfl);refine⟨h1,h2,fun{E Q} hq=>?_⟩;simp only[Instr.makeMap,aI,bF,bG,jJ];obtain⟨ρ',a1,a2,a3,a4⟩:=h3 (.map #[] 0) (.inr ⟨#[],0,rfl,rfl⟩);refine hq _ _ ⟨ρ',a1,a2,a3,?_⟩;show Value.map (some w.heap.size)=v.ev ρ';rw[a4];simp[AV.ev,BR.ev,Env.upd]
 ·cases ha
def Found(ρ:Env)(w:World)(Q:Option (Nat×Value)->World->Prop):Option AV->Prop
 |some v=>∀j,Q (some (j,v.ev ρ)) w
 |none=>Q none w
theorem yu(R:Rel K ρ h w){E:Value->World->Prop}{key:TypeId}{k:AV}:∀{es:List (AV×AV)} {L:List MapEntry} {i:Nat} {r:Option AV},L.map (fun e=>(e.key,e.val))=es.map (fun p=>(p.1.ev ρ,p.2.ev ρ))->
  findA? K.P K.O h key k es=.ok r->∀{Q:Option (Nat×Value)->World->Prop},Found ρ w Q r->wq K.P K.Ev E (Instr.findAsking key (k.ev ρ) L i) Q w:=by
 intro es
 induction es with
 |nil=>
  intro L i r hL he Q hq;obtain rfl:L=[]:=by simpa using hL
  cases he;exact hq
 |cons p es ih=>
  intro L i r hL he Q hq;cases L with
  |nil=>simp at hL
  |cons e L=>
   simp only[aK,List.cons.injEq,Prod.mk.injEq]at hL;obtain⟨⟨e1,e2⟩,hL⟩:=hL;obtain⟨a,v⟩:=p;have he':(match eq? K.P K.O h 8 key k a with
    |.ok (.lit true)=>.ok (some v)
    |.ok (.lit false)=>findA? K.P K.O h key k es
    |.ok _=>.error "a maps key open"
    |.error e=>.error e)=Except.ok r:=he
   simp only[Instr.findAsking,bF,e1];split at he'
   ·rename_i hb;cases he';refine so R hb ?_;show wq K.P K.Ev E (if true=true then _ else _) Q w;simp only[if_true,bG,e2];exact hq i
   ·rename_i hb;refine so R hb ?_;show wq K.P K.Ev E (if false=true then _ else _) Q w;simp only[aF,if_false];exact ih hL he' hq
   ·cases he'
   ·cases he'
theorem Ki(R:Rel K ρ h w){key:TypeId}{D:TypeDesc}(hu:K.P.underlying key=some D)(hD:D=.string∨∃kk,D=.int kk){k a:AV}{b:Bool}(he:eq? K.P K.O h 8 key k a=.ok (.lit b)):Instr.sameNow D (k.ev ρ) (a.ev ρ)=some b:=by
 simp only[eq?]at he;rw[bH]at he;obtain⟨T,hT,he⟩:=he;obtain rfl:T=D:=by have:=cZ hT;rw[hu]at this;exact(au this).symm
 have str:∀{x y:SE},dH.bool K.O (.seq false x y)=.lit b->(x.ev ρ==y.ev ρ)=b:=fun{x y} e=>by have:=jS R e;rw[vR]at this;exact this
 split at he
 ·rcases hD with h|⟨kk,h⟩<;>cases h
 ·split at he
  ·rename_i hk;rw[bJ]at he;have:=jS R he;subst hk;show(if _=_ then some _ else none)=some b;rw[if_pos rfl,<-this];rfl
  ·cases he
 ·rw[bJ]at he;cases he;rfl
 ·rw[bJ]at he;exact congrArg some (str he)
 ·rw[bJ]at he;exact congrArg some (str he)
 ·rw[bJ]at he;exact congrArg some (str he)
 all_goals (rcases hD with h|⟨kk,h⟩<;>first|(cases h;done)|(cases he;done))
theorem Bt(R:Rel K ρ h w){key:TypeId}{D:TypeDesc}(hu:K.P.underlying key=some D)(hD:D=.string∨∃kk,D=.int kk){k:AV}:∀{es:List (AV×AV)} {L:List MapEntry} {i:Nat} {r:Option AV},L.map (fun e=>(e.key,e.val))=es.map (fun p=>(p.1.ev ρ,p.2.ev ρ))->findA? K.P K.O h key k es=.ok r->
  ∃q,Instr.findNow D (k.ev ρ) L i=some q∧∀{Q:Option (Nat×Value)->World->Prop},Found ρ w Q r->Q q w:=by
 intro es
 induction es with
 |nil=>
  intro L i r hL he;obtain rfl:L=[]:=by simpa using hL
  cases he;exact⟨none,rfl,fun{Q} hq=>hq⟩
 |cons p es ih=>
  intro L i r hL he;cases L with
  |nil=>simp at hL
  |cons e L=>
   simp only[aK,List.cons.injEq,Prod.mk.injEq]at hL;obtain⟨⟨e1,e2⟩,hL⟩:=hL;obtain⟨a,v⟩:=p;have he':(match eq? K.P K.O h 8 key k a with
    |.ok (.lit true)=>.ok (some v)
    |.ok (.lit false)=>findA? K.P K.O h key k es
    |.ok _=>.error "a maps key open"
    |.error e=>.error e)=Except.ok r:=he
   unfold Instr.findNow;rw[e1];split at he'
   ·rename_i hb;cases he';rw[Ki R hu hD hb];exact⟨_,rfl,fun{Q} hq=>by rw[e2];exact hq i⟩
   ·rename_i hb;rw[Ki R hu hD hb];exact ih hL he'
   ·cases he'
   ·cases he'
theorem q_(R:Rel K ρ h w){E:Value->World->Prop}{key:TypeId}{k:AV}{es:List (AV×AV)}{L:List MapEntry}{r:Option AV}(hk:keyOk? K.P key=true)(hL:L.map (fun e=>(e.key,e.val))=es.map (fun p=>(p.1.ev ρ,p.2.ev ρ)))
 (he:findA? K.P K.O h key k es=.ok r){Q:Option (Nat×Value)->World->Prop}(hq:Found ρ w Q r):wq K.P K.Ev E (Instr.findKey key (k.ev ρ) L) Q w:=by
 unfold keyOk? at hk;split at hk
 ·rename_i e hu;simp only[Instr.findKey,bF,bK hu];cases L with
  |nil=>
   have:es=[]:=by simpa using hL.symm
   subst this;cases he;exact hq
  |cons x L=>
   have:Instr.findNow (.pointer e) (k.ev ρ) (x::L) 0=none:=by simp[Instr.findNow,Instr.sameNow]
   rw[this];exact yu R hL he hq
 ·rename_i hu;simp only[Instr.findKey,bF,bK hu];obtain⟨q,e,qA⟩:=Bt (i:=0) R hu (.inl rfl) hL he;rw[e];exact qA hq
 ·rename_i kk hu;simp only[Instr.findKey,bF,bK hu];obtain⟨q,e,qA⟩:=Bt (i:=0) R hu (.inr ⟨_,rfl⟩) hL he;rw[e];exact qA hq
 ·cases hk
theorem pA{P:Program}{key:TypeId}(hk:keySize? P key=true):∃e n,P.underlying key=some (.pointer e)∧sizeOf? P e=.ok n∧n≠0:=by
 unfold keySize? at hk;split at hk
 ·rename_i e hu;split at hk
  ·rename_i n hs;refine⟨e,n,hu,hs,fun h=>?_⟩;subst h;cases hk
  ·cases hk
 ·cases hk
theorem sx{P:Program}{key:TypeId}(hk:keySize? P key=true):keyOk? P key=true:=by obtain⟨e,n,hu,_⟩:=pA hk;unfold keyOk?;rw[hu]
theorem HO{E:Value->World->Prop}{key:TypeId}(hk:keySize? K.P key=true){b m n:Nat}{Q:Bool->World->Prop}(hq:Q (m==n) w):wq K.P K.Ev E (Op.equal key (.pointer (some ⟨b,m,none⟩)) (.pointer (some ⟨b,n,none⟩))) Q w:=by
 obtain⟨e,k,hu,hs,h0⟩:=pA hk;have key':∀D,wq K.P K.Ev E (Op.equalIn (D+1) key (.pointer (some ⟨b,m,none⟩)) (.pointer (some ⟨b,n,none⟩))) Q w:=fun D=>by simp only[Op.equalIn,bF,bK hu,c6 hs];rw[if_pos h0];exact l9 hq
 exact key' 9999
theorem vZ{E:Value->World->Prop}{key:TypeId}(hk:keySize? K.P key=true){a:AA}{r:Option AV}:∀{es:List (Value×Value)} {L:List MapEntry} {i:Nat},L.map (fun e=>(e.key,e.val))=es->r8 ρ es a r->∀{Q:Option (Nat×Value)->World->Prop},Found ρ w Q r->
  wq K.P K.Ev E (Instr.findAsking key (.pointer (some (a.ev ρ))) L i) Q w:=by
 intro es
 induction es with
 |nil=>
  intro L i hL hK Q hq;obtain rfl:L=[]:=by simpa using hL
  obtain⟨_,h2⟩:=hK;cases r with
  |none=>exact hq
  |some v=>obtain⟨E1,E2,h3,_⟩:=h2;simp at h3
 |cons p es ih=>
  intro L i hL hK Q hq;cases L with
  |nil=>simp at hL
  |cons e L=>
   simp only[aK,List.cons.injEq]at hL;obtain⟨rfl,hL⟩:=hL;obtain⟨h1,h2⟩:=hK;obtain⟨off,ho⟩:=h1 _ (ai ..);dsimp only at ho;have ea:a.ev ρ=⟨(a.ev ρ).block,(a.ev ρ).off,none⟩:=by unfold AA.ev;rfl
   simp only[Instr.findAsking,bF,ho];rw[ea];refine HO hk ?_;have rest:(e.key≠.pointer (some (a.ev ρ))->r8 ρ es a r):=fun hne=>by
    refine⟨fun q hq=>h1 q (aa _ hq),?_⟩;cases r with
    |none=>exact fun q hq=>h2 q (aa _ hq)
    |some v=>
     obtain⟨E1,E2,h3,h4⟩:=h2;cases E1 with
     |nil=>simp only[List.nil_append,List.cons.injEq,Prod.mk.injEq]at h3;exact absurd h3.1.1 hne
     |cons q E1=>simp only[List.cons_append,List.cons.injEq]at h3;exact⟨E1,E2,h3.2,fun q' qA=>h4 q' (aa _ qA)⟩
   by_cases hoff:(a.ev ρ).off=off
   ·have hkey:e.key=.pointer (some (a.ev ρ)):=by rw[ho,<-hoff,<-ea]
    have hb:((a.ev ρ).off==off)=true:=by simpa using hoff
    rw[hb];simp only[if_true,bG];cases r with
    |none=>exact absurd hkey (h2 _ (ai ..))
    |some v=>
     obtain⟨E1,E2,h3,h4⟩:=h2;cases E1 with
     |nil=>simp only[List.nil_append,List.cons.injEq,Prod.mk.injEq]at h3;rw[h3.1.2];exact hq i
     |cons q E1=>simp only[List.cons_append,List.cons.injEq]at h3;exact absurd (by rw[<-h3.1];exact hkey) (h4 q (ai ..))
   ·have hb:((a.ev ρ).off==off)=false:=by simpa using hoff
    rw[hb];simp only[aF,if_false];rw[<-ea];refine ih hL (rest fun hx=>hoff ?_) hq;rw[ho]at hx;simp only[Value.pointer.injEq,Option.some.injEq]at hx;rw[<-hx]
theorem pB{E:Value->World->Prop}{key:TypeId}(hk:keySize? K.P key=true){a:AA}{r:Option AV}{L:List MapEntry}(hK:r8 ρ (L.map fun e=>(e.key,e.val)) a r){Q:Option (Nat×Value)->World->Prop}(hq:Found ρ w Q r):wq K.P K.Ev E (Instr.findKey key (.pointer (some (a.ev ρ))) L) Q w:=by
 obtain⟨e,n,hu,_⟩:=pA hk;simp only[Instr.findKey,bF,bK hu];cases L with
 |nil=>
  obtain⟨_,h2⟩:=hK;cases r with
  |none=>exact hq
  |some v=>obtain⟨E1,E2,h3,_⟩:=h2;simp at h3
 |cons x L=>
  have:Instr.findNow (.pointer e) (.pointer (some (a.ev ρ))) (x::L) 0=none:=by simp[Instr.findNow,Instr.sameNow]
  rw[this];exact vZ hk rfl hK hq
theorem y3{a:AA}{r:Option AV}:∀{fs:List (AA×Option AV)},Fp a fs=some r->(a,r)∈fs
 |[],h=>by cases h
 |p::l,h=>by
  have h':(match a.eI p.1 with
   |true=>some p.2
   |false=>Fp a l)=some r:=h
  split at h'
  ·rename_i he;cases h';rw[AA.cK he];exact ai ..
  ·exact aa _ (y3 h')
theorem Ad{P:Program}{s:Nat}{n:IE}{fs:List (AA×Option AV)}{ws:List (AV×AV)}{o:Obj}(h:(bO.jA s n fs ws).is P ρ o):∃arr nu E,o=.map arr nu∧ρ.v s=JW E∧E.length=(n.ev ρ).toNat∧arr.toList.map (fun e=>(e.key,e.val))=E++ws.map (fun p=>(p.1.ev ρ,p.2.ev ρ))∧∀p∈fs,r8 ρ E p.1 p.2:=by
 rcases h with⟨arr,_,h⟩|h
 ·exact h.elim
 ·exact h
theorem tP{key:TypeId}{x k:AV}{r:Option AV}(he:lookV? K.P h key x k=some r):∃i s n fs a,x=.map (some (.dyn i))∧cE i h.hp=some (.jA s n fs [])∧k=.ptr (some a)∧keySize? K.P key=true∧(a,r)∈fs:=by
 unfold lookV? at he;split at he
 ·rename_i i;split at he
  ·rename_i s n fs ws hb;split at he
   ·rename_i a hs;exact⟨i,s,n,fs,a,rfl,hb,rfl,hs,y3 he⟩
   ·cases he
  ·cases he
 ·cases he
theorem mZ{E:Value->World->Prop}{key:TypeId}{k:Value}{b:Bool}(hk:keyOk? K.P key=true){Q:Unit->World->Prop}(hq:Q () w):wq K.P K.Ev E (Instr.checkKey b 10000 key k) Q w:=by
 unfold keyOk? at hk;split at hk
 ·rename_i e hu;unfold Instr.checkKey;simp only[bF,bK hu];cases k<;>exact hq
 ·rename_i hu;unfold Instr.checkKey;simp only[bF,bK hu];cases k<;>exact hq
 ·rename_i kk hu;unfold Instr.checkKey;simp only[bF,bK hu];cases k<;>exact hq
 ·cases hk
theorem Ae(R:Rel K ρ h w)(G:K.Good){x:AV}{es:List (AV×AV)}(he:entries? h x=.ok es):(x=.map none∧es=[])∨∃i arr nu,x=.map (some (.dyn i))∧cE i h.hp=some (.map es)∧w.heap[ρ.b i]?=some (.map arr nu)∧arr.toList.map (fun e=>(e.key,e.val))=es.map fun p=>(p.1.ev ρ,p.2.ev ρ):=by
 unfold entries? at he;split at he
 ·cases he;exact .inl ⟨rfl,rfl⟩
 ·rename_i i;split at he
  ·rename_i es' hb;cases he;obtain⟨o,h1,h2⟩:=R.blk _ _ hb;obtain⟨arr,nu,rfl,h3⟩:=D1 h2;exact .inr ⟨i,arr,nu,rfl,hb,h1,h3⟩
  ·cases he
 ·cases he
theorem HP(R:Rel K ρ h w)(G:K.Good){E:Value->World->Prop}{t:TypeId}{x k v:AV}{ok:Bool}(he:lookup? K.P K.O h t x k ok=.ok v){Q:Value->World->Prop}(hq:Q (v.ev ρ) w):wq K.P K.Ev E (Instr.lookup t (x.ev ρ) (k.ev ρ) ok) Q w:=by
 unfold lookup? at he;split at he
 ·rename_i key elem hu;split at he
  ·rename_i r hv;obtain⟨i,s,n,fs,a,rfl,hb,rfl,hks,hmem⟩:=tP hv;obtain⟨o,h1,h2⟩:=R.blk _ _ hb;obtain⟨arr,nu,L,rfl,h3,h4,h5,h6⟩:=Ad h2;have hK:r8 ρ (arr.toList.map fun e=>(e.key,e.val)) a r:=by
    rw[h5,List.map_nil,aQ];exact h6 _ hmem
   simp only[Instr.lookup,bF,bK hu,AV.ev,av,BR.ev,bG];refine jK h1 (by intros;simp) (G.obj _ _ _ (R.own _ _ hb rfl)) ?_;simp only[bF,bG];refine mZ (sx hks) ?_;split at he
   ·rename_i u;cases he;refine pB hks hK ?_;intro j;simp only[bG];cases ok<;>exact hq
   ·split at he
    ·rename_i z hz;cases he;refine pB hks hK ?_;show wq K.P K.Ev E (zeroValue elem>>= _) Q w;rw[bF,dX (ρ:=ρ) hz];cases ok<;>exact hq
    ·cases he
  split at he
  ·rename_i hk;split at he
   ·rename_i es hes;have rest:∀{arr:Array MapEntry},arr.toList.map (fun e=>(e.key,e.val))=es.map (fun p=>(p.1.ev ρ,p.2.ev ρ))->
      wq K.P K.Ev E (do
       Instr.checkKey arr.isEmpty 10000 key (k.ev ρ)
       let(v,b)<-match<-Instr.findKey key (k.ev ρ) arr.toList with
        |some (_,v)=>pure (v,true)
        |none=>pure (<-zeroValue elem,false)
       pure (if ok then .tuple #[v,.bool b]else v)) Q w:=by
     intro arr hL;rw[bF];refine mZ hk ?_;rw[bF];split at he
     ·rename_i u hf;cases he;refine q_ R hk hL hf ?_;intro j;simp only[bG];cases ok<;>exact hq
     ·rename_i hf;split at he
      ·rename_i z hz;cases he;refine q_ R hk hL hf ?_;show wq K.P K.Ev E (zeroValue elem>>= _) Q w;rw[bF,dX (ρ:=ρ) hz];cases ok<;>exact hq
      ·cases he
     ·cases he
    rcases Ae R G hes with⟨rfl,rfl⟩|⟨i,arr,nu,rfl,hb,hw,hL⟩
    ·simp only[Instr.lookup,bF,bK hu,AV.ev,aI,bG];have:=rest (arr:=#[]) rfl;simp only[bF,bG]at this;exact this
    ·simp only[Instr.lookup,bF,bK hu,AV.ev,av,BR.ev,bG];refine jK hw (by intros;simp) (G.obj _ _ _ (R.own _ _ hb rfl)) ?_;have:=rest hL;simp only[bF,bG]at this⊢;exact this
   ·cases he
  ·cases he
 ·cases he
theorem HQ{P:Program}{O:dH}{key:TypeId}{k v:AV}:∀{es:List (AV×AV)},(∀p∈es,p.1.In U∧p.2.In U)->findA? P O h key k es=.ok (some v)->v.In U:=by
 intro es
 induction es with
 |nil=>intro _ he;cases he
 |cons p es ih=>
  intro hi he;obtain⟨a,u⟩:=p;have he':(match eq? P O h 8 key k a with
    |.ok (.lit true)=>.ok (some u)
    |.ok (.lit false)=>findA? P O h key k es
    |.ok _=>.error "a maps key open"
    |.error e=>.error e)=Except.ok (some v):=he
  split at he'
  ·cases he';exact(hi _ (ai ..)).2
  ·exact ih (fun p hp=>hi p (aa _ hp)) he'
  ·cases he'
  ·cases he'
theorem D3(I:f_ K U h){t:TypeId}{x k v:AV}{ok:Bool}(he:lookup? K.P K.O h t x k ok=.ok v):v.In U:=by
 have hb':∀{u:AV} {b:Bool},u.In U->(if ok then AV.tuple [u,.bool (.lit b)]else u).In U:=fun hu=>by
  cases ok
  ·exact hu
  ·exact⟨hu,trivial,trivial⟩
 unfold lookup? at he;split at he
 ·split at he
  ·rename_i r hv;obtain⟨i,s,n,fs,a,rfl,hb,rfl,hks,hmem⟩:=tP hv;split at he
   ·rename_i u;cases he;exact hb' ((I.hp _ _ hb).2.1 _ hmem).2
   ·split at he
    ·rename_i z hz;cases he;exact hb' (nN hz)
    ·cases he
  split at he
  ·split at he
   ·rename_i es hes;split at he
    ·rename_i u hf;cases he;refine hb' (HQ (fun p hp=>?_) hf);unfold entries? at hes;split at hes
     ·cases hes;cases hp
     ·split at hes
      ·rename_i hbk;cases hes;exact I.hp _ _ hbk p hp
      ·cases hes
     ·cases hes
    ·split at he
     ·rename_i z hz;cases he;exact hb' (nN hz)
     ·cases he
    ·cases he
   ·cases he
  ·cases he
 ·cases he
theorem Rel.V9(R:Rel K ρ h w){i:Nat}{b b':bO}{o':Obj}(hb:cE i h.hp=some b)(ho:b'.is K.P ρ o')(hbc:b.isChan=false)(hl:∀n,b.kY K.P ρ n->b'.kY K.P ρ n):
  Rel K ρ {h with hp:=vA i b' h.hp} {w with heap:=w.heap.setIfInBounds (ρ.b i) o'}∧bS K.own w {w with heap:=w.heap.setIfInBounds (ρ.b i) o'}:=by
 have hown:=R.own _ _ hb hbc;obtain⟨o,h1,_⟩:=R.blk _ _ hb;have hlt:=jx h1;have hne:∀m,m≠ρ.b i->(w.heap.setIfInBounds (ρ.b i) o')[m]?=w.heap[m]?:=fun m hm=>bu (fun e=>hm e.symm);refine⟨⟨fun j c hj=>?_,fun j c hj=>?_,fun j k c d hj hk e=>?_,R.bs,R.is,fun p hp=>?_,fun m hm=>R.room m (by simpa using hm),fun j c hj m hm=>?_,fun b m hm=>by have:=R.low b m hm;simpa using this⟩,⟨fun m hm=>hne m (fun e=>hm (e▸hown)),by simp,rfl,rfl,rfl⟩⟩
 ·rw[dw]at hj;split at hj
  ·rename_i e;subst e;rw[hb]at hj;cases hj;exact⟨o',by simp[hlt],ho⟩
  ·rename_i e;obtain⟨o2,ha',hf'⟩:=R.blk _ _ hj;refine⟨o2,?_,hf'⟩;show(w.heap.setIfInBounds (ρ.b i) o')[_]?=_;rw[hne _ (fun x=>e (R.inj _ _ _ _ hj hb x)),ha']
 ·rw[dw]at hj;split at hj
  ·rename_i e;subst e;exact .inl hown
  ·exact R.qV _ _ hj
 ·rw[dw]at hj hk;split at hj<;>split at hk
  ·rename_i e1 e2;exact e1.trans e2.symm
  ·rename_i e1 e2;subst e1;exact R.inj _ _ _ _ hb hk e
  ·rename_i e1 e2;subst e2;exact R.inj _ _ _ _ hj hb e
  ·exact R.inj _ _ _ _ hj hk e
 ·obtain⟨m1,m2,m3⟩:=R.mem p hp;refine⟨m1,?_,m3⟩;simp only[World.cell?]at m2⊢;rw[hne _ (fun x=>m1 (by rw[x];exact hown))];exact m2
 ·rw[dw]at hj;split at hj
  ·rename_i e;subst e;rw[hb]at hj;cases hj;exact hl m (R.gi _ _ hb m hm)
  ·exact R.gi _ _ hj m hm
theorem pC(I:f_ K U h){t:TypeId}{x k v:AV}{h':AH}(hk:k.In U)(hv:v.In U)(he:mapUpdate? K.P K.O h t x k v=.ok h'):f_ K U h'∧h'.nb=h.nb∧h'.fJ=h.fJ:=by
 unfold mapUpdate? at he;split at he
 ·split at he
  ·rename_i es hb;split at he
   ·split at he
    ·cases he;refine⟨⟨fun j c hj=>?_,fun j hj=>I.keys j (by rw[iW]at hj;exact hj),by rw[iW];exact I.nodup,I.fresh,I.A8⟩,rfl,rfl⟩;rw[dw]at hj;split at hj
     ·rw[hb]at hj;cases hj;intro p hp;rcases aR.1 hp with hp|hp
      ·exact I.hp _ _ hb p hp
      ·obtain rfl:=ah.1 hp;exact⟨hk,hv⟩
     ·exact I.hp _ _ hj
    ·cases he
    ·cases he
   ·cases he
  ·rename_i s n fs ws hb;split at he
   ·cases he;refine⟨⟨fun j c hj=>?_,fun j hj=>I.keys j (by rw[iW]at hj;exact hj),by rw[iW];exact I.nodup,I.fresh,I.A8⟩,rfl,rfl⟩;rw[dw]at hj;split at hj
    ·rw[hb]at hj;cases hj;obtain⟨i1,i2,i3⟩:=I.hp _ _ hb;refine⟨i1,i2,fun p hp=>?_⟩;rcases aR.1 hp with hp|hp
     ·exact i3 p hp
     ·obtain rfl:=ah.1 hp;exact⟨hk,hv⟩
    ·exact I.hp _ _ hj
   ·cases he
  ·cases he
 ·cases he
theorem sB(R:Rel K ρ h w)(G:K.Good){E:Value->World->Prop}{t:TypeId}{x k v:AV}{h':AH}(he:mapUpdate? K.P K.O h t x k v=.ok h'){Q:Unit->World->Prop}(hq:∀w',Rel K ρ h' w'->bS K.own w w'->Q () w'):wq K.P K.Ev E (Instr.mapUpdate t (x.ev ρ) (k.ev ρ) (v.ev ρ)) Q w:=by
 unfold mapUpdate? at he;split at he
 ·rename_i key elem i hu;split at he
  ·rename_i es hb;split at he
   ·rename_i hk;split at he
    ·rename_i hf;cases he;obtain⟨o,h1,h2⟩:=R.blk _ _ hb;obtain⟨arr,nu,rfl,h3⟩:=D1 h2;have own:=R.own _ _ hb rfl;simp only[Instr.mapUpdate,bF,bK hu,AV.ev,av,BR.ev];refine jK h1 (by intros;simp) (G.obj _ _ _ own) ?_;simp only[bF];refine mZ hk ?_;refine q_ R hk h3 hf ?_;refine tO h1 (by intros;simp) (G.obj _ _ _ own) ?_;obtain⟨r1,r2⟩:=R.V9 hb (b':=.map (es++[(k,v)])) (o':=.map (arr.push {key:=k.ev ρ,val:=v.ev ρ,born:=nu}) (nu+1)) (.inr ⟨_,_,rfl,by simp[h3]⟩) rfl (fun n hn=>by cases hn);exact hq _ r1 r2
    ·cases he
    ·cases he
   ·cases he
  ·rename_i s n fs ws hb;split at he
   ·rename_i hv;cases he;obtain⟨i',s',n',fs',a,hx,hb',rfl,hks,hmem⟩:=tP hv;cases hx;rw[hb]at hb';cases hb';obtain⟨o,h1,h2⟩:=R.blk _ _ hb;obtain⟨arr,nu,L,rfl,h3,h4,h5,h6⟩:=Ad h2;have own:=R.own _ _ hb rfl;have hK:r8 ρ (arr.toList.map fun e=>(e.key,e.val)) a none:=by
     rw[h5,List.map_nil,aQ];exact h6 _ hmem
    simp only[Instr.mapUpdate,bF,bK hu,AV.ev,av,BR.ev];refine jK h1 (by intros;simp) (G.obj _ _ _ own) ?_;simp only[bF];refine mZ (sx hks) ?_;refine pB hks hK ?_;refine tO h1 (by intros;simp) (G.obj _ _ _ own) ?_;obtain⟨r1,r2⟩:=R.V9 hb (b':=.jA s n fs ([]++[(.ptr (some a),v)])) (o':=.map (arr.push {key:=.pointer (some (a.ev ρ)),val:=v.ev ρ,born:=nu}) (nu+1)) (.inr ⟨_,_,L,rfl,h3,h4,by simp[h5,AV.ev],h6⟩) rfl (fun n hn=>by cases hn);exact hq _ r1 r2
   ·cases he
  ·cases he
 ·cases he
end
def jw.ev(ρ:Env):jw->Target
 |.fn f c=>.fn f (AV.evs ρ c).toArray
 |.builtin b a t c=>.builtin b a t c
def AD.ev(ρ:Env)(d:AD):Deferred:={target:=d.target.ev ρ,args:=(AV.evs ρ d.args).toArray}
def jw.In(U:Nat->Prop):jw->Prop
 |.fn _ c=>AV.iw U c
 |.builtin _ _ _ _=>True
def AD.In(U:Nat->Prop)(d:AD):Prop:=d.target.In U∧AV.iw U d.args
def AN.is(ρ:Env):AN->Next->Prop
 |.value v,nx=>nx=.value (v.ev ρ)
 |.skip,nx=>nx=.skip
 |.enter f args,nx=>nx=.enter f (AV.evs ρ args).toArray
 |.defer d,nx=>nx=.defer (d.ev ρ)
 |.recover,nx=>nx=.recover
 |.panic _,_=>False
def AN.In(U:Nat->Prop):AN->Prop
 |.value v=>v.In U
 |.skip=>True
 |.enter _ args=>AV.iw U args
 |.defer d=>d.In U
 |.recover=>True
 |.panic v=>v.In U
structure rN(K:Ctx)(U:Nat->Prop)(ρ:Env)(h:AH)(w:World)(s:Sem Next)(n:AN)(h':AH):Prop where
 mem:n.In (plus U h.nb h'.nb)
 qz:c7 K U h h'
 run:∀{E:Value->World->Prop} {Q:Next->World->Prop},(∀nx w',After K U ρ w h' (fun ρ'=>n.is ρ' nx) w'->Q nx w')->(∀v,n=.panic v->h'=h->E (v.ev ρ) w)->wq K.P K.Ev E s Q w
section
variable {K:Ctx}{ρ:Env}{h:AH}{w:World}{U:Nat->Prop}
theorem gQ{r:M AV}{n:AN}{h':AH}(he:kO r h=.ok (n,h')):∃v,r=.ok v∧n=.value v∧h'=h:=by
 unfold kO at he;split at he
 ·cases he;exact⟨_,rfl,rfl,rfl⟩
 ·cases he
theorem iJ{r:M (AV×AH)}{n:AN}{h':AH}(he:kG r=.ok (n,h')):∃v,r=.ok (v,h')∧n=.value v:=by
 unfold kG at he;split at he
 ·cases he;exact⟨_,rfl,rfl⟩
 ·cases he
theorem tQ{r:M AH}{n:AN}{h':AH}(he:vB r=.ok (n,h')):r=.ok h'∧n=.skip:=by
 unfold vB at he;split at he
 ·cases he;exact⟨rfl,rfl⟩
 ·cases he
theorem nC.next{s:Sem Value}{v:AV}{h':AH}(H:nC K U ρ h w s v h'):rN K U ρ h w (do Pure.pure (.value (<-s))) (.value v) h':=
 ⟨H.mem,H.qz,fun hq _=>by simp only[bF,bG];exact H.run fun x w' ⟨ρ',a1,a2,a3,a4⟩=>hq _ _ ⟨ρ',a1,a2,a3,by rw[a4];rfl⟩⟩
theorem rN.pure(R:Rel K ρ h w)(I:f_ K U h){s:Sem Value}{v:AV}(hi:v.In U)(hw:∀{E Q:Value->World->Prop},Q (v.ev ρ) w->wq K.P K.Ev E s Q w):rN K U ρ h w (do Pure.pure (.value (<-s))) (.value v) h:=
 (nC.pure R I hi hw).next
theorem Ra{E:Value->World->Prop}{argTypes:Array TypeId}{ty t:TypeId}{x:AV}{e:IE}(ht:argTypes[0]?=some t)(R:Rel K ρ h w)(G:K.Good)(he:lenOf? K.P h t x=.ok e){Q:Value->World->Prop}(hq:Q (.int .i64 (e.ev ρ)) w):
  wq K.P K.Ev E (Builtin.len_ argTypes ty #[x.ev ρ]) Q w:=by
 unfold lenOf? at he;simp only[bH]at he;obtain⟨D,hD,he⟩:=he;simp only[Builtin.len_,ht,List.getElem?_toArray,List.getElem?_cons_zero,bF,bK (cZ hD)];split at he
 ·rw[bJ]at he;subst he;exact hq
 ·rw[bJ]at he;subst he;exact hq
 ·rw[bJ]at he;subst he;simp only;exact hq
 ·rw[bJ]at he;subst he;exact hq
 ·rw[bJ]at he;subst he;exact hq
 ·rw[bJ]at he;subst he;exact hq
 ·rw[bJ]at he;subst he;exact hq
 ·rename_i i;split at he
  ·rename_i es hb;rw[bJ]at he;subst he;obtain⟨o,h1,h2⟩:=R.blk _ _ hb;obtain⟨arr,nu,rfl,h3⟩:=D1 h2;simp only[AV.ev,av,BR.ev,bF];refine jK h1 (by intros;simp) (G.obj _ _ _ (R.own _ _ hb rfl)) ?_;have:arr.size=es.length:=by have:=congrArg aP h3;simpa using this
   simp only[this];exact hq
  ·rename_i s n fs ws hb;split at he
   ·rw[bJ]at he;subst he;obtain⟨o,h1,h2⟩:=R.blk _ _ hb;obtain⟨arr,nu,L,rfl,h3,h4,h5,h6⟩:=Ad h2;simp only[AV.ev,av,BR.ev,bF];refine jK h1 (by intros;simp) (G.obj _ _ _ (R.own _ _ hb rfl)) ?_;have:arr.size=(n.ev ρ).toNat:=by
     have:=congrArg aP h5;rw[<-h4];simpa using this
    simp only[this];exact hq
   ·cases he
  ·cases he
 ·cases he
theorem HR(I:f_ K U h){t:TypeId}{x:AV}{e:IE}(he:lenOf? K.P h t x=.ok e)(hx:x.In U):e.In U:=by
 unfold lenOf? at he;simp only[bH]at he;obtain⟨D,hD,he⟩:=he;split at he
 ·rw[bJ]at he;subst he;trivial
 ·rw[bJ]at he;subst he;trivial
 ·rw[bJ]at he;subst he;trivial
 ·rw[bJ]at he;subst he;exact hx.2.1
 ·rw[bJ]at he;subst he;trivial
 ·rw[bJ]at he;subst he;trivial
 ·rw[bJ]at he;subst he;trivial
 ·split at he
  ·rw[bJ]at he;subst he;trivial
  ·rename_i s n fs ws hb;split at he
   ·rw[bJ]at he;subst he;exact(I.hp _ _ hb).1
   ·cases he
  ·cases he
 ·cases he
theorem Rb(R:Rel K ρ h w){E:Value->World->Prop}:∀{l:List AV} {x v:AV},minMax? K.O false x l=.ok v->∀{Q:Value->World->Prop},Q (v.ev ρ) w->wq K.P K.Ev E ((AV.evs ρ l).foldlM Builtin.min2 (x.ev ρ)) Q w:=by
 intro l
 induction l with
 |nil=>intro x v he Q hq;simp[minMax?]at he;subst he;exact hq
 |cons y l ih=>
  intro x v he Q hq;unfold minMax? at he;split at he
  ·rename_i pz;cases pz
  ·rename_i k x' k' y' l' hl;cases hl;split at he
   ·rename_i hk;subst hk;simp only[bH]at he;obtain⟨t,ht,he⟩:=he;have hd:=kZ R ht;simp only[aF,if_false,BE.ev,A0]at hd;simp only[AV.evs,List.foldlM_cons,bF,AV.ev,Builtin.min2,bG];have:=ih he hq;simp only[AV.ev]at this;by_cases hlt:y'.ev ρ<x'.ev ρ
    ·rw[if_pos hlt];have ht':t=true:=by rw[<-hd];exact decide_eq_true hlt
     subst ht';exact this
    ·rw[if_neg hlt];have ht':t=false:=by rw[<-hd];exact decide_eq_false hlt
     subst ht';exact this
   ·cases he
  ·cases he
theorem Rc(R:Rel K ρ h w){E:Value->World->Prop}:∀{l:List AV} {x v:AV},minMax? K.O true x l=.ok v->∀{Q:Value->World->Prop},Q (v.ev ρ) w->wq K.P K.Ev E ((AV.evs ρ l).foldlM Builtin.max2 (x.ev ρ)) Q w:=by
 intro l
 induction l with
 |nil=>intro x v he Q hq;simp[minMax?]at he;subst he;exact hq
 |cons y l ih=>
  intro x v he Q hq;unfold minMax? at he;split at he
  ·rename_i pz;cases pz
  ·rename_i k x' k' y' l' hl;cases hl;split at he
   ·rename_i hk;subst hk;simp only[bH]at he;obtain⟨t,ht,he⟩:=he;have hd:=kZ R ht;simp only[if_true,BE.ev,A0]at hd;simp only[AV.evs,List.foldlM_cons,bF,AV.ev,Builtin.max2,bG];have:=ih he hq;simp only[AV.ev]at this;by_cases hlt:y'.ev ρ>x'.ev ρ
    ·rw[if_pos hlt];have ht':t=true:=by rw[<-hd];exact decide_eq_true hlt
     subst ht';exact this
    ·rw[if_neg hlt];have ht':t=false:=by rw[<-hd];exact decide_eq_false hlt
     subst ht';exact this
   ·cases he
  ·cases he
theorem v_{O:dH}{mx:Bool}:∀{l:List AV} {x v:AV},minMax? O mx x l=.ok v->x.In U->AV.iw U l->v.In U:=by
 intro l
 induction l with
 |nil=>intro x v he hx _;simp[minMax?]at he;subst he;exact hx
 |cons y l ih=>
  intro x v he hx hl;unfold minMax? at he;split at he
  ·rename_i pz;cases pz
  ·rename_i k x' k' y' l' hl';cases hl';split at he
   ·simp only[bH]at he;obtain⟨t,ht,he⟩:=he;refine ih he ?_ hl.2;cases t
    ·exact hx
    ·exact hl.1
   ·cases he
  ·cases he
theorem Kj(G:K.Good)(R:Rel K ρ h w)(I:f_ K U h){argTypes:Array TypeId}{ty:TypeId}{d s v:AV}{h':AH}(hdi:d.In U)(he:copy? K.P K.O h argTypes d s=.ok (v,h')):nC K U ρ h w (Builtin.copy_ argTypes ty #[d.ev ρ,s.ev ρ]) v h':=by
 unfold copy? at he;split at he
 ·rename_i dType h0;simp only[bH]at he;obtain⟨D,hD,he⟩:=he;split at he
  ·rename_i elem;simp only[bH]at he;obtain⟨size,hs,he⟩:=he;split at he
   ·rename_i base dl c sb sl c2;simp only[bH]at he;obtain⟨m,hm,n,hn,new,hnew,he⟩:=he;obtain rfl:=iI hm;obtain rfl:=iI hn;have e0:(Int.ofNat m).toNat=m:=rfl;have e1:(Int.ofNat n).toNat=n:=rfl;have first:∀{E:Value->World->Prop} {Q':Array Value->World->Prop},Q' (AV.evs ρ new).toArray w->wq K.P K.Ev E (Builtin.firstCells size (Nat.min m n) (.slice (sb.map (AA.ev ρ)) m (c2.ev ρ).toNat)) Q' w:=by
     intro E Q' qA;unfold copyFrom? at hnew;split at hnew
     ·simp only[av,Builtin.firstCells,loadCells];exact kR R G hnew (by simpa using qA)
     ·cases hnew;exact qA
    have abI:AV.iw U new:=by
     unfold copyFrom? at hnew;split at hnew
     ·exact r_ I hnew
     ·cases hnew;trivial
    have front:∀{E:Value->World->Prop} {Q:Value->World->Prop},wq K.P K.Ev E (do
      if let some a:=base.map (AA.ev ρ)then storeCells a (AV.evs ρ new)
      Pure.pure (goInt (Nat.min m n:Nat)):Sem Value) Q w->wq K.P K.Ev E (Builtin.copy_ argTypes ty #[(AV.slice base (.lit (.ofNat n)) c).ev ρ,(AV.slice sb (.lit (.ofNat m)) c2).ev ρ]) Q w:=by
     intro E Q hq;simp only[Builtin.copy_,h0,List.getElem?_toArray,List.getElem?_cons_zero,List.getElem?_cons_succ,bF,bK (cZ hD),AV.ev,IE.ev,e0,e1,Builtin.lenOf,bG,c6 hs];refine first ?_
     exact hq
    unfold copyTo? at he;split at he
    ·rename_i a;split at he
     ·rename_i h2 hst;cases he;have hnb:=tM hst;refine⟨trivial,c7.of_same (qY hdi.1 I hst abI) hnb.1 hnb.2,fun{E Q} hq=>front ?_⟩;simp only[av,bF];refine oo G R hst fun w' r1 r2 _ _=>?_;exact hq _ _ ⟨ρ,cv.refl _ _,r1,r2,rfl⟩
     ·cases he
    ·cases he;refine nC.pure R I trivial fun{E Q} hq=>front ?_;simp only[aI,bF,bG];exact hq
   ·cases he
  ·cases he
 ·cases he
theorem Bu(G:K.Good)(R:Rel K ρ h w)(I:f_ K U h){b:Builtin}{argTypes:Array TypeId}{ty:TypeId}{consts:Array Bool}{args:List AV}{n:AN}{h':AH}(ha:AV.iw U args)(he:builtin? K.P K.O h b argTypes args=.ok (n,h')):
  rN K U ρ h w (builtin b argTypes ty consts (AV.evs ρ args).toArray) n h':=by
 unfold builtin? at he;split at he
 ·rename_i x;split at he
  ·rename_i t ht;split at he
   ·rename_i e hl;cases he;exact rN.pure R I (v:=.int .i64 (K.O.int e)) (qZ I (HR I hl ha.1)) fun{E Q} hq=>Ra ht R G hl (by simpa only[AV.ev,l8 R] using hq)
   ·cases he
  ·cases he
 ·rename_i a l c;split at he
  ·rename_i t ht;split at he
   ·rename_i elem hD;cases he;refine rN.pure R I (v:=.int .i64 (K.O.int (.tn c))) (qZ I ha.1.2.2) fun{E Q} hq=>?_;simp only[AV.ev,l8 R,IE.ev]at hq;simp only[AV.evs,AV.ev,Builtin.cap_,ht,List.getElem?_toArray,List.getElem?_cons_zero,bF,bK (cZ hD),bG];exact hq
   ·cases he
  ·cases he
 ·obtain⟨v,hv,rfl⟩:=iJ he;exact(DZ G R I ha.1 ha.2.1 hv).next
 ·obtain⟨v,hv,rfl⟩:=iJ he;exact(Kj G R I ha.1 hv).next
 ·rename_i x l;obtain⟨v,hv,rfl,rfl⟩:=gQ he;exact rN.pure R I (v_ hv ha.1 ha.2) fun{E Q} hq=>Rb R hv hq
 ·rename_i x l;obtain⟨v,hv,rfl,rfl⟩:=gQ he;exact rN.pure R I (v_ hv ha.1 ha.2) fun{E Q} hq=>Rc R hv hq
 ·cases he;exact⟨trivial,c7.refl I,fun hq _=>hq _ _ (After.same R rfl)⟩
 ·rename_i t v;cases he;exact⟨AV.In.mono b_ (.iface t v) ha.1,c7.refl I,fun hq hE=>hE _ rfl rfl⟩
 ·cases he
end
def Kk(P:Program)(f:FuncId):Bool:=
 match P.funcs[f]? with
 |some fn=>!(fn.name== "runtime.NumGoroutine")&&fn.body.isSome
 |none=>false
structure sC(P:Program)(f:FuncId)(e:Array Value->Sem Value):Prop where
 fact:∃fn,P.funcs[f]?=some fn∧(fn.name== "runtime.NumGoroutine")=false∧fn.body.isNone=true∧Extern.findNext fn=none∧Extern.find fn=some e
structure Ctx.iK(K:Ctx):Prop where
 fns:K.O.fns.all (Kk K.P)=true
 ext:∀p∈K.O.ext,sC K.P p.1 p.2
 mixed:K.P.follows .mixedOrders=true
section
variable {K:Ctx}{ρ:Env}{h:AH}{w:World}{U:Nat->Prop}
theorem Kl{E:Value->World->Prop}{f:FuncId}{args:Array Value}(hf:Kk K.P f=true){Q:Next->World->Prop}(hq:Q (.enter f args) w):wq K.P K.Ev E (callFunc f args) Q w:=by
 unfold Kk at hf;split at hf
 ·rename_i fn hfn;simp only[an,Bool.not_eq_true']at hf;simp only[callFunc,bF,iH,hfn];rw[if_neg (by rw[hf.1];simp),if_neg (by have:=hf.2;revert this;cases fn.body<;>simp)];exact hq
 ·cases hf
theorem y4(G:K.Good){E:Value->World->Prop}{f:FuncId}{e:Array Value->Sem Value}{args:Array Value}(hf:sC K.P f e){Q:Next->World->Prop}(hq:wq K.P K.Ev E (e args) (fun v w=>Q (.value v) w) w):wq K.P K.Ev E (callFunc f args) Q w:=by obtain⟨fn,h1,h2,h3,h4,h5⟩:=hf.fact;simp only[callFunc,bF,iH,h1];rw[if_neg (by rw[h2];simp),if_pos h3];simp only[bF,oh,h4,h5,bG];exact⟨G.ext _ rfl,hq⟩
def iL(K:Ctx)(ext:Ext):Prop:=∀{U:Nat->Prop} {ρ:Env} {h:AH} {w:World} {f:FuncId} {args:List AV} {v:AV} {h':AH},Rel K ρ h w->f_ K U h->AV.iw U args->ext h f args=.ok (v,h')->
 rN K U ρ h w (callFunc f (AV.evs ρ args).toArray) (.value v) h'
theorem sD(G:K.Good)(F:K.iK){ext:Ext}(X:iL K ext)(R:Rel K ρ h w)(I:f_ K U h){f:FuncId}{args:List AV}{n:AN}{h':AH}(ha:AV.iw U args)(he:invokeFn? K.P K.O ext h f args=.ok (n,h')):
  rN K U ρ h w (callFunc f (AV.evs ρ args).toArray) n h':=by
 have D4:∀{r:M (AV×AH)},r=ext h f args->(match r with|.ok (v,h)=>(.ok (.value v,h):M (AN×AH))|.error e=>.error e)=.ok (n,h')->rN K U ρ h w (callFunc f (AV.evs ρ args).toArray) n h':=by
  intro r hr hh;split at hh
  ·cases hh;exact X R I ha hr.symm
  ·cases hh
 unfold invokeFn? at he;split at he
 ·rename_i hc;cases he;have hf:Kk K.P f=true:=aD.1 F.fns f (by simpa using hc);exact⟨AV.iw.mono b_ _ ha,c7.refl I,fun hq _=>Kl hf (hq _ _ (After.same R rfl))⟩
 ·split at he
  ·rename_i e hl;obtain⟨x,hx,hxe⟩:=iX hl;have:f=x:=by simpa using hxe
   subst this;split at he
   ·rename_i vs hvs;split at he
    ·rename_i v hv;cases he;refine⟨l7 _,c7.refl I,fun hq _=>y4 G (F.ext _ hx) ?_⟩;rw[lN ρ args hvs];exact gm hv (hq _ _ (After.same R (by simp[AN.is,l6])))
    ·exact D4 rfl he
   ·exact D4 rfl he
  ·exact D4 rfl he
theorem HS{E:Value->World->Prop}{t:TypeId}{v r:AV}{name:String}{f:FuncId}(he:method? K.P t v name=.ok (f,r)){Q:FuncId×Value->World->Prop}(hq:Q (f,r.ev ρ) w):
  wq K.P K.Ev E (method (K.P.types.size+Made.depth) t (v.ev ρ) name) Q w:=by
 unfold method? at he;split at he
 ·cases he
 ·rename_i i hi;split at he
  ·cases he
  ·rename_i m hm;split at he
   ·rename_i hp;obtain⟨d,hd⟩:∃d,K.P.types.size+Made.depth=d+1:=⟨K.P.types.size+99,rfl⟩;have hpe:m.path.toList=[]:=by simpa using hp
    rw[hd];simp only[method,bF,dI hi,hm,hpe,follow,bG];split at he
    ·rename_i f' hf;split at he
     ·rename_i e hu;cases he;simp only[hf,receiverAt,bF,bK hu,Place.get,bG];exact hq
     ·cases he
    ·rename_i f' hf;split at he
     ·cases he
     ·rename_i D hnp hu;cases he;simp only[hf,receiverAt,bF,bK hu];cases D<;>first
       |exact absurd hu (hnp _)
       |exact hq
     ·cases he
    ·cases he
   ·split at he
    ·rename_i u hu;split at he
     ·rename_i f' r' hr;cases he;rw[z7 ρ v hu];exact gm hr (by simpa[l6] using hq)
     ·cases he
    ·cases he
theorem D5{P:Program}{t:TypeId}{v r:AV}{name:String}{f:FuncId}(he:method? P t v name=.ok (f,r))(hv:v.In U):r.In U:=by
 unfold method? at he;split at he
 ·cases he
 ·split at he
  ·cases he
  ·split at he
   ·split at he
    all_goals try (split at he)
    all_goals first|(cases he;exact hv)|cases he
   ·split at he
    ·split at he
     ·cases he;exact l7 _
     ·cases he
    ·cases he
theorem rj(G:K.Good)(F:K.iK){ext:Ext}(X:iL K ext)(R:Rel K ρ h w)(I:f_ K U h){d:AD}{n:AN}{h':AH}(hd:d.In U)(he:invoke? K.P K.O ext h d=.ok (n,h')):
  rN K U ρ h w (invoke (d.target.ev ρ) (AV.evs ρ d.args).toArray) n h':=by
 obtain⟨target,args⟩:=d;obtain⟨oJ,bX⟩:=hd;unfold invoke? at he;dsimp only at he oJ bX⊢;split at he
 ·exact Bu G R I bX he
 ·rename_i f captured;have e:invoke (jw.ev ρ (.fn (.func f) captured)) (AV.evs ρ args).toArray=callFunc f (AV.evs ρ (args++captured)).toArray:=by
   simp[jw.ev,invoke,jC]
  rw[e];exact sD G F X R I (cS.2 fun a ha=>(aR.1 ha).elim (cS.1 bX a) (cS.1 oJ a)) he
 ·rename_i name captured;split at he
  ·rename_i t v args';split at he
   ·rename_i f r hm;have hr:=D5 hm bX.1;obtain⟨r1,r2,r3⟩:=sD G F X R I (args:=r::args') ⟨hr,bX.2⟩ he;refine⟨r1,r2,fun{E Q} hq hE=>?_⟩;have e:(AV.evs ρ (AV.iface t v::args')).toArray=#[.iface t (v.ev ρ)]++(AV.evs ρ args').toArray:=by simp[AV.evs,AV.ev]
    simp only[jw.ev,invoke,e];have e0:(#[Value.iface t (v.ev ρ)]++(AV.evs ρ args').toArray)[0]?=some (.iface t (v.ev ρ)):=by simp
    have e1:(#[Value.iface t (v.ev ρ)]++(AV.evs ρ args').toArray).extract 1 (#[Value.iface t (v.ev ρ)]++(AV.evs ρ args').toArray).size=(AV.evs ρ args').toArray:=by simp
    rw[e0];simp only[callMethod,e1,bF,iH];refine HS hm ?_;have e2:#[r.ev ρ]++(AV.evs ρ args').toArray=(AV.evs ρ (r::args')).toArray:=by simp[AV.evs]
    simp only[e2];exact r3 hq hE
   ·cases he
  ·cases he
 ·cases he
theorem Bv(I:f_ K U h){t:TypeId}{a:AA}{v:AV}{h':AH}(hs:storeS? K.P K.O h t a v=.ok h')(ha:a.In U)(hv:v.In U):f_ K U h'∧h'.nb=h.nb∧h'.fJ=h.fJ:=by
 have old:∀{h':AH},storeVar? K.P h t a v=.ok h'->f_ K U h'∧h'.nb=h.nb∧h'.fJ=h.fJ:=fun hs=>by
  refine⟨qw I hs ha hv,?_⟩;unfold storeVar? at hs;simp only[bH]at hs;obtain⟨cs,hc,nn,hn,hs⟩:=hs;split at hs
  ·exact tM hs
  ·cases hs
 unfold storeS? at hs;split at hs
 ·split at hs
  ·unfold storeRow? at hs;simp only[bH]at hs;obtain⟨cs,hc,hs⟩:=hs;split at hs
   ·simp only[bH]at hs;obtain⟨size,hsz,ok,hok,n,hn,hs⟩:=hs;split at hs<;>cases hs;exact⟨I,rfl,rfl⟩
   ·cases hs
  ·exact old hs
 ·exact old hs
theorem we{E:Value->World->Prop}{sE:Operand->AV}{c:Call}{ty:TypeId}{d:AD}(he:resolve? sE c ty=.ok d){Q:Deferred->World->Prop}(hq:Q (d.ev ρ) w):wq K.P K.Ev E (resolve (fun x=>(sE x).ev ρ) c ty) Q w:=by
 have hargs:c.args.map (fun x=>(sE x).ev ρ)=(AV.evs ρ (c.args.toList.map sE)).toArray:=by rw[iU,List.map_map];apply Array.toList_inj.1;simp[Function.comp_def]
 unfold resolve? at he;split at he
 ·rename_i b hb;cases he;simp only[resolve,hb,hargs,bG];exact hq
 ·rename_i recv name hb;cases he;simp only[resolve,hb,hargs,bG];have:#[(sE recv).ev ρ]++(AV.evs ρ (c.args.toList.map sE)).toArray=(AV.evs ρ (sE recv::c.args.toList.map sE)).toArray:=by simp[AV.evs]
  rw[this];exact hq
 ·rename_i f hb;split at he
  ·rename_i fn first captured hf
   cases he;simp only[resolve,hb,hargs,hf,AV.ev,Deferred.ofValue,bG];have:(AV.evs ρ first).toArray++(AV.evs ρ (c.args.toList.map sE)).toArray=(AV.evs ρ (first++c.args.toList.map sE)).toArray:=by simp[jC]
   rw[this];exact hq
  ·cases he
theorem uy{sE:Operand->AV}{c:Call}{ty:TypeId}{d:AD}(he:resolve? sE c ty=.ok d)(hA:∀x,(sE x).In U):d.In U:=by
 have hargs:AV.iw U (c.args.toList.map sE):=cS.2 fun a ha=>by obtain⟨x,_,rfl⟩:=bq.1 ha;exact hA x
 unfold resolve? at he;split at he
 ·cases he;exact⟨trivial,hargs⟩
 ·cases he;exact⟨trivial,hA _,hargs⟩
 ·rename_i f hb;split at he
  ·rename_i fn first captured hf
   cases he;have:=hA f;rw[hf]at this;exact⟨this.2,cS.2 fun a ha=>(aR.1 ha).elim (cS.1 this.1 a) (cS.1 hargs a)⟩
  ·cases he
theorem Km(G:K.Good)(F:K.iK){ext:Ext}(X:iL K ext)(R:Rel K ρ h w)(I:f_ K U h){sE:Operand->AV}(hA:∀x,(sE x).In U){o:Oper}{n:AN}{h':AH}(he:op? K.P K.O ext h sE o=.ok (n,h')):
  rN K U ρ h w (execOp (fun x=>(sE x).ev ρ) o) n h':=by
 have V_:∀(parts:Array (Nat×Operand)),(parts.map fun(i,x)=>(i,(sE x).ev ρ))=((parts.toList.map fun(i,x)=>(i,sE x)).map fun p=>(p.1,p.2.ev ρ)).toArray:=fun parts=>by apply Array.toList_inj.1;simp[Function.comp_def]
 have in2:∀(parts:Array (Nat×Operand)),∀p∈(parts.toList.map fun(i,x)=>(i,sE x)),p.2.In U:=fun parts p hp=>by obtain⟨q,_,rfl⟩:=bq.1 hp;exact hA _
 have inm:∀(l:List Operand),AV.iw U (l.map sE):=fun l=>cS.2 fun a ha=>by obtain⟨x,_,rfl⟩:=bq.1 ha;exact hA x
 have wh:∀{v:AV},v.In U->(AN.value v).In (plus U h.nb h.nb):=fun hv=>AV.In.mono b_ _ hv;unfold op? at he;unfold execOp;split at he
 ·rename_i x ho;cases he;simp only[ho];exact⟨wh (hA x),c7.refl I,fun hq _=>hq _ _ (After.same R rfl)⟩
 ·rename_i x ho;cases he;simp only[ho];exact⟨wh (hA x),c7.refl I,fun hq _=>hq _ _ (After.same R rfl)⟩
 ·rename_i c a b ho;simp only[ho];split at he
  ·rename_i t ht;split at he
   ·rename_i t' ht';cases he;have hb:=jS R ht';refine⟨wh (by split;exact hA a;exact hA b),c7.refl I,fun hq _=>?_⟩;simp only[ht,AV.ev,asBool,bF,bG,hb];exact hq _ _ (After.same R (by cases t'<;>rfl))
   ·cases he
  ·cases he
 ·rename_i elem ho;simp only[ho];split at he
  ·rename_i z hz;split at he
   ·rename_i cs hc;obtain⟨v,hv,rfl⟩:=iJ he;exact(Kc R I hz hc hv).next
   ·cases he
  ·cases he
 ·rename_i elem x ho;simp only[ho];split at he
  ·rename_i cs hc;obtain⟨v,hv,rfl⟩:=iJ he;exact(Q2 R I (hA x) hc hv).next
  ·cases he
 ·rename_i t parts ho;simp only[ho];obtain⟨v,hv,rfl,rfl⟩:=gQ he;rw[V_];exact rN.pure R I (HG hv (in2 parts)) fun{E Q} hq=>Kb hv hq
 ·rename_i t len parts ho;simp only[ho];obtain⟨v,hv,rfl⟩:=iJ he;rw[V_];exact(yp R I (in2 parts) hv).next
 ·rename_i t a ho;simp only[ho];split at he
  ·rename_i a' ha;obtain⟨v,hv,rfl,rfl⟩:=gQ he;refine rN.pure R I (mT I hv) fun{E Q} hq=>?_;rw[jT ha];simp only[Instr.loadAt,AV.ev,av,Instr.sureAddr,bF,bG];exact ko R G hv hq
  ·cases he
 ·rename_i t a x ho;simp only[ho];split at he
  ·rename_i a' ha;obtain⟨hv,rfl⟩:=tQ he;obtain⟨I',hnb⟩:=Bv I hv (by have:=hA a;rw[jT ha]at this;exact this) (hA x);refine⟨trivial,c7.of_same I' hnb.1 hnb.2,fun hq _=>?_⟩;rw[jT ha];simp only[Instr.storeAt,AV.ev,av,Instr.sureAddr,bF,bG];exact Hz R G hv fun w' r1 r2=>hq _ _ ⟨ρ,cv.refl _ _,r1,r2,rfl⟩
  ·cases he
 ·rename_i x ho;simp only[ho];split at he
  ·rename_i a ha;cases he;have hx:=hA x;rw[ha]at hx;refine⟨wh hx,c7.refl I,fun hq _=>?_⟩;simp only[ha,AV.ev,av,bG];exact hq _ _ (After.same R rfl)
  ·rename_i t v ha;cases he;have hx:=hA x;rw[ha]at hx;refine⟨wh hx,c7.refl I,fun hq _=>?_⟩;simp only[ha,AV.ev,bG];exact hq _ _ (After.same R rfl)
  ·rename_i f a b ha;cases he;have hx:=hA x;rw[ha]at hx;refine⟨wh hx,c7.refl I,fun hq _=>?_⟩;simp only[ha,AV.ev,bG];exact hq _ _ (After.same R rfl)
  ·cases he
 ·rename_i op t x y yt ho;simp only[ho];split at he
  ·rename_i hg;obtain⟨v,hv,rfl,rfl⟩:=gQ he;refine rN.pure R I (HD I hv (hA x) (hA y)) fun{E Q} hq=>?_;rw[bF];exact DN hg (J6 R hv hq)
  ·cases he
 ·rename_i ty x ho;simp only[ho];split at he
  ·rename_i b hb;split at he
   ·rename_i c hc;cases he;have hx:=hA x;rw[hb]at hx;refine rN.pure R I (v:=.bool (K.O.bool c)) (qb (FI hc hx)) fun{E Q} hq=>?_;simp only[hb,AV.ev,Op.unary,bG];simp only[AV.ev,lC R,FH hc]at hq;exact hq
   ·cases he
  ·cases he
 ·rename_i ty x ho;simp only[ho];split at he
  ·rename_i k e hb;cases he;have hx:=hA x;rw[hb]at hx;refine rN.pure R I (v:=.int k (K.O.int (.op .sub k (.lit 0) e))) (qZ I ⟨trivial,hx⟩) fun{E Q} hq=>?_;simp only[hb,AV.ev,Op.unary,Op.intArith,bG];simp only[AV.ev,l8 R,IE.ev,iF]at hq;exact hq
  ·cases he
 ·rename_i src dst x ho;simp only[ho];obtain⟨v,hv,rfl,rfl⟩:=gQ he;exact rN.pure R I (Bp I hv (hA x)) fun{E Q} hq=>DU R hv hq
 ·rename_i t x ho;simp only[ho];split at he
  ·cases he
  ·rename_i D hD hni;cases he;refine rN.pure R I (v:=.iface t (sE x)) (hA x) fun{E Q} hq=>?_;simp only[Instr.makeInterface,bF,bK hni];cases D<;>first
    |exact absurd hni (hD _)
    |exact hq
  ·cases he
 ·rename_i fn first captured ho
  simp only[ho];cases he;refine rN.pure R I (v:=.func fn (first.toList.map sE) (captured.toList.map sE)) ⟨inm _,inm _⟩ fun{E Q} hq=>?_;have e1:∀(l:Array Operand),l.map (fun x=>(sE x).ev ρ)=(AV.evs ρ (l.toList.map sE)).toArray:=fun l=>by rw[iU,List.map_map];apply Array.toList_inj.1;simp[Function.comp_def]
  simp only[Instr.makeFunc,e1,bG];exact hq
 ·rename_i t l c ho;simp only[ho];obtain⟨v,hv,rfl⟩:=iJ he;have:=(yq G R I (Bf I (hA c)) hv).next;rw[o_ R,o_ R]at this;exact this
 ·rename_i t x lo hi mx ho;simp only[ho];obtain⟨v,hv,rfl,rfl⟩:=gQ he;refine rN.pure R I (Bo hv (hA x)) fun{E Q} hq=>?_;have:=kr (K:=K) (ρ:=ρ) (w:=w) (E:=E) hv hq;simpa only[Option.map_map,Function.comp_def,o_ R] using this
 ·rename_i s x f ho;simp only[ho];obtain⟨v,hv,rfl,rfl⟩:=gQ he;exact rN.pure R I (yl hv (hA x)) fun{E Q} hq=>DO hv hq
 ·rename_i t x f ho;simp only[ho];obtain⟨v,hv,rfl,rfl⟩:=gQ he;exact rN.pure R I (HF hv (hA x)) fun{E Q} hq=>J9 hv hq
 ·rename_i t x ix ho;simp only[ho];obtain⟨v,hv,rfl,rfl⟩:=gQ he;exact rN.pure R I (ym hv (hA x) (Bf I (hA ix))) fun{E Q} hq=>by have:=DR (E:=E) R hv hq;rw[o_ R]at this;exact this
 ·rename_i t x ix ho;simp only[ho];obtain⟨v,hv,rfl,rfl⟩:=gQ he;exact rN.pure R I (Bn hv (hA x)) fun{E Q} hq=>by have:=J_ (K:=K) (ρ:=ρ) (w:=w) (E:=E) hv hq;rw[o_ R]at this;exact this
 ·rename_i x xt asserted ok ho;simp only[ho];obtain⟨v,hv,rfl,rfl⟩:=gQ he;exact rN.pure R I (vS hv (hA x)) fun{E Q} hq=>yo hv hq
 ·rename_i t ix ho;simp only[ho];split at he
  ·rename_i vs hvs;split at he
   ·rename_i v hv;cases he;have hx:=hA t;rw[hvs]at hx;refine rN.pure R I (v:=v) (cS.1 hx _ (ay hv)) fun{E Q} hq=>?_;simp only[hvs,AV.ev,Instr.extract];have:(AV.evs ρ vs).toArray[ix]?=some (v.ev ρ):=by rw[List.getElem?_toArray,mR,hv];rfl
    rw[this];exact hq
   ·cases he
  ·cases he
 ·rename_i c ho;simp only[ho];split at he
  ·rename_i d hd;obtain⟨r1,r2,r3⟩:=rj G F X R I (uy hd hA) he;exact⟨r1,r2,fun{E Q} hq hE=>by simp only[bF];exact we (ρ:=ρ) hd (r3 hq hE)⟩
  ·cases he
 ·rename_i c ho;simp only[ho];split at he
  ·rename_i d hd;cases he;have hin:=uy hd hA;refine⟨⟨by have:=hin.1;revert this;cases d.target<;>first|exact fun x=>AV.iw.mono b_ _ x|exact id,AV.iw.mono b_ _ hin.2⟩,c7.refl I,fun{E Q} hq hE=>?_⟩;simp only[bF];exact we (ρ:=ρ) hd (hq _ _ (After.same R rfl))
  ·cases he
 ·rename_i x ho;simp only[ho];split at he
  ·rename_i t v hx;cases he;have hi:=hA x;rw[hx]at hi;refine⟨wh hi,c7.refl I,fun{E Q} hq hE=>?_⟩;simp only[hx,AV.ev,Instr.panic,bF,Dv];exact hE _ rfl rfl
  ·cases he
 ·rename_i t s ho;simp only[ho];obtain⟨v,hv,rfl⟩:=iJ he;exact(Bs R I hv).next
 ·rename_i t r ho;simp only[ho];obtain⟨v,hv,rfl⟩:=iJ he;have:(r.map fun x=>(sE x).ev ρ)=(r.map sE).map (AV.ev ρ):=by cases r<;>rfl
  rw[this];exact(D2 R I hv).next
 ·rename_i t x k ok ho;simp only[ho];obtain⟨v,hv,rfl,rfl⟩:=gQ he;exact rN.pure R I (D3 I hv) fun{E Q} hq=>HP R G hv hq
 ·rename_i t m k x ho;simp only[ho];obtain⟨hv,rfl⟩:=tQ he;obtain⟨I',n1,n2⟩:=pC I (hA k) (hA x) hv;refine⟨trivial,c7.of_same I' n1 n2,fun hq _=>?_⟩;simp only[bF,bG];exact sB R G hv fun w' r1 r2=>hq _ _ ⟨ρ,cv.refl _ _,r1,r2,rfl⟩
 ·rename_i t m k x ho;simp only[ho];obtain⟨hv,rfl⟩:=tQ he;obtain⟨I',n1,n2⟩:=pC I (hA k) (hA x) hv;refine⟨trivial,c7.of_same I' n1 n2,fun hq _=>?_⟩;simp only[bF,bG];exact sB R G hv fun w' r1 r2=>hq _ _ ⟨ρ,cv.refl _ _,r1,r2,rfl⟩
 ·cases he
end
end Go.Proofs.YtmobbajggkjpgaaGreat.SX
