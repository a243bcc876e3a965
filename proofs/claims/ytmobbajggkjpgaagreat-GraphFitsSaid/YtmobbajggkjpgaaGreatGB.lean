/-
  A symbolic run of the model, proved sound, and the walk of the code: a text of its parts. Conditions: none.
-/
import Derived.Test.YtmobbajggkjpgaaGreatGA
import Derived.Laws.Append
import Derived.IntWalk
import Derived.Conc.Own4
import Derived.AtR
set_option linter.unusedSectionVars false
set_option maxRecDepth 100000
set_option linter.unusedVariables false
set_option linter.unusedSimpArgs false
namespace Go.Proofs.YtmobbajggkjpgaaGreat.SX
open _root_.List renaming getElem?_eq_getElem->aa,mem_cons_of_mem->af,mem_singleton->ah,mem_cons_self->aj,length_append->an,mem_of_getElem?->az,length_cons->aC,length_map->aD,all_eq_true->aE,drop_eq_getElem_cons->aG,getElem?_append_left->aK,length_range->aP,getElem?_eq_none->aQ,length->aR,mem_append->aT,map_cons->aU,append_nil->aV,append_assoc->a_,mem_map->bf,map_congr_left->bh,map_append->bu,eq_nil_of_length_eq_zero->bz
open _root_.Bool renaming and_eq_true->aq,false_eq_true->aH
open _root_.Option.some renaming inj->au
open _root_.Option renaming map_some->av,map_none->aM
open _root_.Nat renaming le_trans->ax,le_refl->ay,zero_add->aF,eq_of_beq_eq_true->aJ,mul_le_mul_right->bk
open _root_.Array renaming getElem?_eq_getElem->aS,getElem?_toList->aY,getElem?_setIfInBounds_ne->bw
structure nP(K:Ctx)(U:Nat->Prop)(ρ:Env)(h:AH)(w:World)(s:Sem Value)(v:AV)(h':AH):Prop where
 mem:v.In (plus U h.nb h'.nb)
 qP:dg K U h h'
 run:∀{E:Value->World->Prop} {Q:Value->World->Prop},(∀x w',After K U ρ w h' (fun ρ'=>x=v.ev ρ') w'->Q x w')->wq K.P K.Ev E s Q w
section
variable {K:Ctx}{ρ:Env}{h:AH}{w:World}{U:Nat->Prop}
theorem nP.pure(R:Rel K ρ h w)(I:gf K U h){s:Sem Value}{v:AV}(hi:v.In U)(hw:∀{E Q:Value->World->Prop},Q (v.ev ρ) w->wq K.P K.Ev E s Q w):nP K U ρ h w s v h:=
 ⟨AV.In.mono ck _ hi,dg.refl I,fun hq=>hw (hq _ _ (After.same R rfl))⟩
theorem lM{E:Value->World->Prop}{t:TypeId}{v:Value}{cs:Array Value}(hc:v.cells=cs){Q:Addr->World->Prop}(hq:Q ⟨w.heap.size,0,none⟩ {w with heap:=w.heap.push (.cells cs t (0,0))}):wq K.P K.Ev E (newVar t v) Q w:=by simp only[newVar,newRow,bH,jO,hc];exact hq
theorem Mo(R:Rel K ρ h w)(I:gf K U h){elem:TypeId}{z v:AV}{cs:List AV}{h':AH}(hz:zero? K.P elem=.ok z)(hc:z.cells?=.ok cs)(ha:alloc? h (.cells cs elem)=.ok (v,h')):
  nP K U ρ h w (Instr.alloc elem true (.tuple #[])) v h':=by
 obtain⟨_,h1,h2,h3⟩:=oD R I ha (kH hc (nZ hz));refine⟨h1,h2,fun{E Q} hq=>?_⟩;simp only[Instr.alloc,bH,ef (ρ:=ρ) hz];refine lM (gW hc ρ) ?_;obtain⟨ρ',a1,a2,a3,a4⟩:=h3 (AV.evs ρ cs).toArray (by simp[bQ.fits]);exact hq _ _ ⟨ρ',a1,a2,a3,a4.symm⟩
theorem U7(R:Rel K ρ h w)(I:gf K U h){elem:TypeId}{x v:AV}{cs:List AV}{h':AH}(hx:x.In U)(hc:x.cells?=.ok cs)(ha:alloc? h (.cells cs elem)=.ok (v,h')):
  nP K U ρ h w (Instr.box elem (x.ev ρ)) v h':=by
 obtain⟨_,h1,h2,h3⟩:=oD R I ha (kH hc hx);refine⟨h1,h2,fun{E Q} hq=>?_⟩;simp only[Instr.box,bH];refine lM (gW hc ρ) ?_;obtain⟨ρ',a1,a2,a3,a4⟩:=h3 (AV.evs ρ cs).toArray (by simp[bQ.fits]);exact hq _ _ ⟨ρ',a1,a2,a3,a4.symm⟩
theorem HC{l:List AV}(hl:AV.Ins U l):∀n,AV.Ins U (Cj n l)
 |0=>trivial
 |n+1=>cW.2 fun a ha=>by
  simp only[Cj,aT]at ha;rcases ha with ha|ha
  ·exact cW.1 hl _ ha
  ·exact cW.1 (HC hl n) _ ha
theorem zS(l:List Value)(hl:0<l.length):∀n:Nat,(List.range (n*l.length)).map (fun i=>l.toArray[i % l.length]!)=(List.replicate n l).flatten
 |0=>by simp
 |n+1=>by
  have e:(n+1)*l.length=l.length+n*l.length:=by rw[Nat.succ_mul,Nat.add_comm]
  rw[e,List.range_add,bu,List.map_map,List.replicate_succ,List.flatten_cons];congr 1
  ·refine List.ext_getElem (by simp) fun i h1 h2=>?_;simp only[aD,aP]at h1;simp[Nat.mod_eq_of_lt h1,aa h1]
  ·rw[<-zS l hl n];refine bh fun i _=>?_;simp
theorem HD(ρ:Env):∀(n:Nat) (l:List AV),AV.evs ρ (Cj n l)=(List.replicate n (AV.evs ρ l)).flatten
 |0,l=>by simp[Cj,AV.evs]
 |n+1,l=>by simp[Cj,jK,HD ρ n l,List.replicate_succ]
theorem JP(ρ:Env){z:AV}{zc:List AV}{size n:Nat}(hc:z.cells?=.ok zc)(hs:zc.length=size)(h0:0<size):
  (Array.range (n*size)).map (fun i=>(z.ev ρ).cells[i % (z.ev ρ).cells.size]!)=(AV.evs ρ (Cj n zc)).toArray:=by
 rw[gW hc ρ];have hl:(AV.evs ρ zc).length=size:=by rw[cO,hs]
 have h1:(AV.evs ρ zc).toArray.size=size:=by simp[hl]
 rw[h1,HD];have:=zS (AV.evs ρ zc) (by rw[hl];exact h0) n;rw[hl]at this;rw[<-this];apply Array.toList_inj.1;simp[Array.toList_range]
theorem zT{α:Type}{E:Value->World->Prop}{elem:TypeId}{size n:Nat}{l:List AV}(hz:zeros? K.P elem size n=.ok l){kk:Array Value->Sem α}{Q:α->World->Prop}
 (hq:∀zero:Array Value,(Array.range (n*size)).map (zero[· % zero.size]!)=(AV.evs ρ l).toArray->wq K.P K.Ev E (kk zero) Q w):
  wq K.P K.Ev E (if n*size=0 then(do
   let zero<-Pure.pure #[]
   kk zero)else(do
   let z<-zeroValue elem;let zero<-Pure.pure z.cells
   kk zero)) Q w:=by
 unfold zeros? at hz;split at hz
 ·rename_i h0;cases hz;rw[if_pos h0];exact hq _ (by rw[h0];simp[AV.evs,Array.range])
 ·rename_i h0;simp only[bJ]at hz;obtain⟨z,hz,zc,hc,JQ⟩:=hz;split at JQ
  ·rename_i hs;rw[bL]at JQ;subst JQ;rw[if_neg h0];simp only[bH,ef (ρ:=ρ) hz,bI];exact hq _ (JP ρ hc hs (Nat.pos_of_ne_zero fun e=>h0 (by rw[e];simp)))
  ·cases JQ
theorem zU{P:Program}{elem:TypeId}{size n:Nat}{l:List AV}(hz:zeros? P elem size n=.ok l):AV.Ins U l:=by
 unfold zeros? at hz;split at hz
 ·cases hz;trivial
 ·simp only[bJ]at hz;obtain⟨z,hz,zc,hc,JQ⟩:=hz;split at JQ
  ·rw[bL]at JQ;subst JQ;exact HC (kH hc (nZ hz)) _
  ·cases JQ
theorem m_{P:Program}{t:TypeId}{n:Nat}(h:bytesOf? P t=.ok n):∃i,P.info? t=some i∧i.bytes=n:=by
 unfold bytesOf? at h;split at h
 ·rename_i i hi;exact⟨i,hi,by simpa using h⟩
 ·cases h
theorem zn(R:Rel K ρ h w)(I:gf K U h){t:TypeId}{len:Nat}{parts:List (Nat×AV)}{v:AV}{h':AH}(hp:∀p∈parts,p.2.In U)(he:buildSlice? K.P h t len parts=.ok (v,h')):
  nP K U ρ h w (Instr.buildSlice t len (parts.map fun p=>(p.1,p.2.ev ρ)).toArray) v h':=by
 unfold buildSlice? at he;simp only[bJ]at he;obtain⟨D,hD,he⟩:=he;split at he
 ·rename_i elem;simp only[bJ]at he;obtain⟨size,hs,he⟩:=he;split at he
  ·cases he
  ·rename_i hlen;simp only[bJ]at he;obtain⟨z,hz,cells,hc,ha⟩:=he;have hin:AV.Ins U cells:=xl hc (zU hz) hp;obtain⟨h1,h2,h3⟩:=jX R I ha hin trivial trivial;refine⟨h1,h2,fun{E Q} hq=>?_⟩;simp only[Instr.buildSlice,bH,bM (c8 hD),c9 hs];rw[if_neg (by simp only[gt_iff_lt,Nat.not_lt];omega)];refine zT (ρ:=ρ) hz fun zero hzero=>?_;rw[hzero,pL (ρ:=ρ) hc];simp only[newRow,bH,jO,bI];obtain⟨ρ',a1,a2,a3,a4⟩:=h3 (AV.evs ρ cells).toArray (by simp[bQ.fits]);exact hq _ _ ⟨ρ',a1,a2,a3,a4.symm⟩
 ·cases he
theorem Br(G:K.Good)(R:Rel K ρ h w)(I:gf K U h){t:TypeId}{l c v:AV}{h':AH}(he:makeSlice? K.P h t l c=.ok (v,h')):
  nP K U ρ h w (Instr.makeSlice t (l.ev ρ) (c.ev ρ)) v h':=by
 unfold makeSlice? at he;simp only[bJ]at he;obtain⟨D,hD,he⟩:=he;split at he
 ·rename_i elem;split at he
  ·rename_i k1 l k2 c;simp only[bJ]at he;obtain⟨l',hl,c',hc,size,hs,bytes,hb,he⟩:=he;obtain rfl:=iO hl;obtain rfl:=iO hc;split at he
   ·rename_i hle;obtain⟨hlc,QF,o7⟩:=hle;simp only[bJ]at he;obtain⟨cells,hz,ha⟩:=he;obtain⟨i,hi,hib⟩:=m_ hb;obtain⟨h1,h2,h3⟩:=jX R I ha (zU hz) trivial trivial;refine⟨h1,h2,fun{E Q} hq=>?_⟩;have wl:IntKind.i64.wrap (Int.ofNat l')=l':=IntWalk.i64_in _ ⟨by have:(0:Int)≤Int.ofNat l':=Int.natCast_nonneg _;omega,by have:Int.ofNat l'≤(1048576:Nat):=Int.ofNat_le.2 (ax hlc QF);omega⟩;have wc:IntKind.i64.wrap (Int.ofNat c')=c':=IntWalk.i64_in _ ⟨by have:(0:Int)≤Int.ofNat c':=Int.natCast_nonneg _;omega,by have:Int.ofNat c'≤(1048576:Nat):=Int.ofNat_le.2 QF;omega⟩;have hmul:bytes*c'≤68719476736:=Nat.mul_le_mul o7 QF;have aaa:((i.bytes:Int)*(c':Int))≤68719476736:=by rw[hib,<-Int.natCast_mul];exact Int.ofNat_le.2 hmul
    simp only[Instr.makeSlice,AV.ev,IE.ev,asInt,asIntOf,bH,bM (c8 hD),bI,dP hi,wl,wc];have CG:(((decide ((c':Int)<0)||decide ((i.bytes:Int)*(c':Int)>2 ^ 48))||decide ((l':Int)<0))||decide ((l':Int)>(c':Int)))=false:=by
     have hp:(2:Int) ^ 48=281474976710656:=by decide
     rw[hp];simp only[Bool.or_eq_false_iff,decide_eq_false_iff_not];refine⟨⟨⟨by omega,by omega⟩,by omega⟩,by omega⟩
    rw[if_neg (by rw[CG];simp)];have ask:∀{Q':Unit->World->Prop},Q' () w->wq K.P K.Ev E (askRoom (((c':Int)).toNat*i.bytes)) Q' w:=by
     intro Q' qQ;unfold askRoom;simp only[gq,oA,bI];split
     ·exact⟨G.noRoom,qQ⟩
     ·exact qQ
    simp only[bH,bI];refine ask ?_;simp only[c9 hs,Int.toNat_natCast];refine zT (ρ:=ρ) hz fun zero hzero=>?_;rw[hzero];simp only[newRow,bH,jO,bI];obtain⟨ρ',a1,a2,a3,a4⟩:=h3 (AV.evs ρ cells).toArray (by simp[bQ.fits]);exact hq _ _ ⟨ρ',a1,a2,a3,a4.symm⟩
   ·cases he
  ·cases he
 ·cases he
theorem FI(G:K.Good)(R:Rel K ρ h w)(I:gf K U h){t:TypeId}{l c v:AV}{h':AH}(hcU:c.In U)(he:makeRow? K.P K.O h t l c=.ok (v,h')):
  nP K U ρ h w (Instr.makeSlice t (l.ev ρ) (c.ev ρ)) v h':=by
 unfold makeRow? at he;simp only[bJ]at he;obtain⟨D,hD,he⟩:=he;split at he
 ·rename_i elem;split at he
  ·rename_i k1 l k2 c;simp only[bJ]at he;obtain⟨z,hz,size,hs,bytes,hb,neg,hneg,big,hbig,he⟩:=he;split at he
   ·rename_i hle;obtain⟨hlc,hn,hg,o7⟩:=hle;subst hn;subst hg;obtain rfl:=IE.cM hlc;obtain⟨i,hi,hib⟩:=m_ hb;obtain⟨h1,h2,h3⟩:=jX R I he (b:=.row [] elem l) ⟨trivial,hcU⟩ hcU hcU;refine⟨h1,h2,fun{E Q} hq=>?_⟩;have c0:¬l.ev ρ<0:=Bp R hneg (by simp);have c1':¬l.ev ρ>4294967296:=by
     unfold Z1 at hbig;split at hbig
     ·rename_i b zV;cases hbig;have c1:decide (l.ev ρ>1048576)=false:=lq R zV;have:=of_decide_eq_false c1;omega
     ·have c1:decide (l.ev ρ>4294967296)=false:=lq R hbig;exact of_decide_eq_false c1
    generalize hL:l.ev ρ=n at c0 c1';have wl:IntKind.i64.wrap n=n:=IntWalk.i64_in _ ⟨by omega,by omega⟩;have aaa:((i.bytes:Int)*n)≤65536*4294967296:=Int.mul_le_mul (by rw[hib];exact Int.ofNat_le.2 o7) (by omega) (by omega) (by decide);simp only[Instr.makeSlice,AV.ev,asInt,asIntOf,bH,bM (c8 hD),bI,dP hi,hL,wl];have CG:(((decide (n<0)||decide ((i.bytes:Int)*n>2 ^ 48))||decide (n<0))||decide (n>n))=false:=by
     have hp:(2:Int) ^ 48=281474976710656:=by decide
     rw[hp];simp only[Bool.or_eq_false_iff,decide_eq_false_iff_not];refine⟨⟨⟨c0,by omega⟩,c0⟩,by omega⟩
    rw[if_neg (by rw[CG];simp)];have ask:∀{Q':Unit->World->Prop},Q' () w->wq K.P K.Ev E (askRoom (n.toNat*i.bytes)) Q' w:=by
     intro Q' qQ;unfold askRoom;simp only[gq,oA,bI];split
     ·exact⟨G.noRoom,qQ⟩
     ·exact qQ
    simp only[bH,bI];refine ask ?_;simp only[c9 hs];have fin:∀zero:Array Value,wq K.P K.Ev E (do
      let a<-newRow elem ((Array.range (n.toNat*size)).map (zero[· % zero.size]!))
      pure (.slice (some a) n.toNat n.toNat)) Q w:=by
     intro zero;simp only[newRow,bH,jO,bI];obtain⟨ρ',a1,a2,a3,a4⟩:=h3 ((Array.range (n.toNat*size)).map (zero[· % zero.size]!)) (by obtain⟨i',hi',hi2⟩:=mg hs;refine⟨_,i',(List.nil_append _).symm,hi',?_⟩;rw[hL,hi2];simp)
     rw[hL]at a4;exact hq _ _ ⟨ρ',a1,a2,a3,a4.symm⟩
    by_cases h0:n.toNat*size=0
    ·rw[if_pos h0];exact fin #[]
    ·rw[if_neg h0];simp only[bH,ef (ρ:=ρ) hz,bI];exact fin _
   ·cases he
  ·cases he
 ·cases he
theorem zo(G:K.Good)(R:Rel K ρ h w)(I:gf K U h){t:TypeId}{l c v:AV}{h':AH}(hcU:c.In U)(he:makeSliceS? K.P K.O h t l c=.ok (v,h')):
  nP K U ρ h w (Instr.makeSlice t (l.ev ρ) (c.ev ρ)) v h':=by
 unfold makeSliceS? at he;split at he
 ·exact Br G R I he
 ·exact FI G R I hcU he
end
section
variable {K:Ctx}{ρ:Env}{h:AH}{w:World}{U:Nat->Prop}
theorem ni(G:K.Good){E:Value->World->Prop}{b:Nat}(ho:K.own b){e:TypeId}:∀{l:List Value} {off j:Nat} {arr:Array Value} {w:World},(∀n,off+j≤n->¬K.still b n)->w.heap[b]?=some (.cells arr e (0,0))->off+j+l.length≤arr.size->(∀v∈l,v.oneCell'=true)->
  ∀{Q:Unit->World->Prop},(∀w' (gx:Array Value),w'.heap[b]?=some (.cells gx e (0,0))->(∀n,n≠b->w'.heap[n]?=w.heap[n]?)->w'.heap.size=w.heap.size->w'.tape=w.tape->w'.os=w.os->w'.output=w.output->
   gx.size=arr.size->(∀n,n<off+j->gx[n]?=arr[n]?)->(∀n,n<l.length->gx[off+j+n]?=l[n]?)->Q () w')->wq K.P K.Ev E (storeCells ⟨b,off,none⟩ l j) Q w:=by
 intro l
 induction l with
 |nil=>intro off j arr w Cv hb hle _ Q hq;exact hq w arr hb (fun _ _=>rfl) rfl rfl rfl rfl rfl (fun _ _=>rfl) (fun n hn=>by simp at hn)
 |cons v l ih=>
  intro off j arr w Cv hb hle hone Q hq;simp only[aC]at hle;simp only[storeCells,bH];rw[pH];have ha:(⟨b,off,none⟩:Addr).add j=⟨b,off+j,none⟩:=by unfold Addr.add;split<;>simp_all
  rw[ha];have hlt:off+j<arr.size:=by omega
  refine⟨hone v (by simp),⟨_,(iN hb).trans (aS hlt)⟩,gv hb,G.wr _ _ ho (Cv _ (ay _)),?_⟩;have hb':(w.setCell ⟨b,off+j,none⟩ v).heap[b]?=some (.cells (arr.setIfInBounds (off+j) v) e (0,0)):=by rw[heap_setCell,if_pos rfl,hb];rfl
  refine ih (arr:=arr.setIfInBounds (off+j) v) (fun n hn=>Cv n (by omega)) hb' (by simp;omega) (fun u hu=>hone u (af _ hu)) ?_;intro w' gx q1 q2 q3 q4 q5 q6 q7 q8 q9;refine hq w' gx q1 (fun n hn=>?_) (q3.trans (size_setCell _ _ _)) q4 q5 q6 (by rw[q7];simp) (fun n hn=>?_) (fun n hn=>?_)
  ·rw[q2 n hn,heap_setCell,if_neg hn]
  ·rw[q8 n (by omega),bw (by omega)]
  ·cases n with
   |zero=>rw[Nat.add_zero,q8 (off+j) (by omega)];simp[hlt]
   |succ n=>have:=q9 n (by simp at hn;omega);rw[List.getElem?_cons_succ,<-this];congr 1;omega
theorem oS{need cap bytes:Nat}(h1:cap<need)(h2:need≤1048576)(h3:bytes≤1024):¬Builtin.nextslicecap need cap*bytes>2 ^ 48:=by have:=nextslicecap_le h1;have h4:Builtin.nextslicecap need cap*bytes≤2097152*1024:=Nat.mul_le_mul (by omega) h3;omega
theorem u5{new:List AV}(h1:new.all (·.oneCell?)=true)(ρ:Env):∀v∈AV.evs ρ new,v.oneCell'=true:=by rw[ja];intro v hv;obtain⟨a,ha,rfl⟩:=bf.1 hv;exact oB (aE.1 h1 a ha) ρ
theorem sZ{O:dN}{size:Nat}{x:AV}{n:Nat}{new:List AV}(ha:appArgs? O h size x=.ok (n,new)):new.length=n*size:=by
 unfold appArgs? at ha;split at ha
 ·split at ha
  ·cases ha;simp
  ·cases ha
 ·simp only[bJ,bL]at ha;obtain⟨m,hm,l,hl,e⟩:=ha;cases e;exact sU hl
 ·split at ha
  ·rename_i h1;cases ha;simp[h1]
  ·cases ha
 ·cases ha
theorem u6(I:gf K U h){size:Nat}{x:AV}{n:Nat}{new:List AV}(ha:appArgs? K.O h size x=.ok (n,new)):AV.Ins U new:=by
 unfold appArgs? at ha;split at ha
 ·split at ha
  ·cases ha;trivial
  ·cases ha
 ·simp only[bJ,bL]at ha;obtain⟨m,hm,l,hl,e⟩:=ha;cases e;exact sS I hl
 ·split at ha
  ·cases ha;exact cW.2 fun a ha=>by obtain⟨c,_,rfl⟩:=bf.1 ha;trivial
  ·cases ha
 ·cases ha
theorem CH{E:Value->World->Prop}{O:dN}{size:Nat}{x:AV}{n:Nat}{new:List AV}(ha:appArgs? O h size x=.ok (n,new)){Q:Nat->World->Prop}(hq:Q n w):wq K.P K.Ev E (Builtin.lenOf (x.ev ρ)) Q w:=by
 unfold appArgs? at ha;split at ha
 ·split at ha
  ·cases ha;exact hq
  ·cases ha
 ·simp only[bJ,bL]at ha;obtain⟨m,hm,l,hl,e⟩:=ha;cases e;obtain rfl:=iO hm;exact hq
 ·split at ha
  ·cases ha;exact hq
  ·cases ha
 ·cases ha
theorem qR(R:Rel K ρ h w)(G:K.Good){E:Value->World->Prop}{size:Nat}{x:AV}{n:Nat}{new:List AV}(ha:appArgs? K.O h size x=.ok (n,new)){Q:Array Value->World->Prop}(hq:Q (AV.evs ρ new).toArray w):
  wq K.P K.Ev E (Builtin.firstCells size n (x.ev ρ)) Q w:=by
 unfold appArgs? at ha;split at ha
 ·split at ha
  ·cases ha;exact hq
  ·cases ha
 ·simp only[bJ,bL]at ha;obtain⟨m,hm,l,hl,e⟩:=ha;cases e;simp only[AV.ev,av,Builtin.firstCells,loadCells];exact k6 R G hl (by simpa using hq)
 ·split at ha
  ·rename_i t h1;cases ha;simp only[AV.ev,Builtin.firstCells,bI];have:(t.extract 0 t.size).data.map (fun b=>Value.int .u8 b.toNat)=(AV.evs ρ (t.data.toList.map fun c=>AV.int .u8 (.lit c.toNat))).toArray:=by
    have e0:t.extract 0 t.size=t:=ByteArray.extract_zero_size;rw[e0,ja,List.map_map];apply Array.toList_inj.1;simp[AV.ev,IE.ev]
   rw[this];exact hq
  ·cases ha
 ·cases ha
theorem oT(R:Rel K ρ h w)(I:gf K U h){old:Option Nat}{cs:List AV}{elem:TypeId}{len:Nat}{v:AV}{h':AH}(ha:allocRow? h old cs elem len=.ok (v,h'))(hc:AV.Ins U cs):
  v.In (plus U h.nb h'.nb)∧dg K U h h'∧∀(m:Nat) (c:Nat) (w':World) (arr:Array Value) (rest:List Value) (i:TypeInfo),bU K.own w w'->w'.heap[m]?=some (.cells arr elem (0,0))->(K.own m∧∀n,¬K.still m n)->Rel K ρ (match old with|some i=>{h with hp:=jw i h.hp}|none=>h) w'->
   (∀j b,cG j (match old with|some i=>jw i h.hp|none=>h.hp)=some b->ρ.b j≠m)->arr.toList=AV.evs ρ cs++rest->K.P.info? elem=some i->arr.size=c*i.size->
   After K U ρ w h' (fun ρ'=>v.ev ρ'=.slice (some ⟨m,0,none⟩) len c) w':=by
 obtain⟨hp,nb,lim⟩:=h;simp only[allocRow?]at ha;split at ha
 ·rename_i hlt;cases ha;have zf:¬U nb:=I.fresh _ (ay _) hlt;have hin:bQ.In (plus U nb (nb+1)) (.row cs elem (.var nb)):=⟨AV.Ins.mono ck _ hc,.inr ⟨ay _,Nat.lt_succ_self _⟩⟩;refine⟨⟨⟨.inr ⟨ay _,Nat.lt_succ_self _⟩,trivial⟩,trivial,.inr ⟨ay _,Nat.lt_succ_self _⟩⟩,?_,?_⟩
  ·cases old with
   |none=>exact⟨Nat.le_succ _,rfl,I.ins hlt hin⟩
   |some i=>exact⟨Nat.le_succ _,rfl,(I.drop i).ins hlt hin⟩
  ·intro m c w' arr rest inf hk hm ho R' hne Bs rS hsz;have hf:(bQ.row cs elem (.var nb)).fits K.P (ρ.upd nb m c) arr:=⟨rest,inf,by rw[AV.fG (fR zf) cs hc];exact Bs,rS,by simpa[IE.ev,Env.upd] using hsz⟩;refine⟨ρ.upd nb m c,fR zf,?_,hk,?_⟩
   ·cases old with
    |none=>exact Rel.ins R' I hlt hm ho.1 hne ho.2 hf
    |some i=>exact Rel.ins R' (I.drop i) hlt hm ho.1 hne ho.2 hf
   ·simp[AV.ev,AA.ev,BR.ev,IE.ev,Env.upd]
 ·cases ha
theorem HE(G:K.Good)(R:Rel K ρ h w){E:Value->World->Prop}{elem:TypeId}{i:TypeInfo}{z:AV}{zc:List AV}{need sCap sLen n size:Nat}{s x:Value}{old new:List AV}(hi:K.P.info? elem=some i)(hsz:i.size=size)(hz:zero? K.P elem=.ok z)(hc:z.cells?=.ok zc)(hzl:zc.length=size)
 (hold:∀{Q':Array Value->World->Prop} {w':World},Rel K ρ h w'->Q' (AV.evs ρ old).toArray w'->wq K.P K.Ev E (Builtin.firstCells size sLen s) Q' w')
 (hnew:∀{Q':Array Value->World->Prop} {w':World},Rel K ρ h w'->Q' (AV.evs ρ new).toArray w'->wq K.P K.Ev E (Builtin.firstCells size n x) Q' w')
 (hlen:(old++new).length=need*size)(aac:need≤1048576){Q:Value->World->Prop}
 (hq:∀(dG:Nat) (w0:World) (arr:Array Value) (rest:List Value),w0.heap=w.heap->w0.tape=w.tape->w0.os=w.os->w0.output=w.output->arr.toList=AV.evs ρ (old++new)++rest->arr.size=dG*size->need≤dG->
   Q (.slice (some ⟨w.heap.size,0,none⟩) need dG) {w0 with heap:=w0.heap.push (.cells arr elem (0,0))}):
  wq K.P K.Ev E (do
   let dG<-choose (.appendCap need sCap elem)
   askRoom (dG*(<-typeInfo elem).bytes)
   let old<-Builtin.firstCells size sLen s;let new<-Builtin.firstCells size n x;let rest:=Builtin.zeroCells (<-zeroValue elem).cells (dG-need)
   Pure.pure (.slice (some (<-newRow elem (old++new++rest))) need dG)) Q w:=by
 simp only[bH];rw[uo];rw[if_neg (by simp[Question.forced])];intro nn;simp only[dP hi];have ask:∀{m:Nat} {Q':Unit->World->Prop} {w':World},Q' () w'->wq K.P K.Ev E (askRoom m) Q' w':=by
  intro m Q' w' qQ;unfold askRoom;simp only[gq,oA,bI];split
  ·exact⟨G.noRoom,qQ⟩
  ·exact qQ
 refine ask ?_;have R':Rel K ρ h {w with drawn:=w.drawn+1}:=R.at rfl;refine hold R' ?_;refine hnew R' ?_;simp only[ef (ρ:=ρ) hz,newRow,bH,jO,bI];have Mp:need≤Question.cut (.appendCap need sCap elem) nn:=by simp only[Question.cut];omega
 generalize hcap:Question.cut (.appendCap need sCap elem) nn=dG at Mp;refine hq dG {w with drawn:=w.drawn+1} _ (Builtin.zeroCells (z.ev ρ).cells (dG-need)).toList rfl rfl rfl rfl ?_ ?_ Mp
 ·simp[jK]
 ·have e1:(z.ev ρ).cells.size=size:=by rw[gW hc ρ];simp[cO,hzl]
  have e2:old.length+new.length=need*size:=by simpa using hlen
  simp only[Array.size_append,Builtin.zeroCells,Array.size_map,Array.size_range,List.size_toArray,cO,e1];rw[e2,<-Nat.add_mul];congr 1;omega
end
section
variable {K:Ctx}{ρ:Env}{h:AH}{w:World}{U:Nat->Prop}
theorem JR{a:AA}{v:AV}{h':AH}(hs:oz h a v=.ok h'):h'.nb=h.nb∧h'.lim=h.lim:=by
 unfold oz at hs;split at hs
 ·split at hs
  ·split at hs
   ·cases hs;exact⟨rfl,rfl⟩
   ·cases hs
  ·cases hs
 ·cases hs
theorem JS{a:AA}{v:AV}{h':AH}(hs:gT h a v=.ok h'):h'.nb=h.nb∧h'.lim=h.lim:=by
 unfold gT at hs;split at hs
 ·rename_i h1 hh;cases hs;exact JR hh
 ·split at hs
  ·rename_i h1 hh;cases hs;unfold preSet? at hh;split at hh
   ·split at hh
    ·split at hh
     ·split at hh
      ·cases hh;exact⟨rfl,rfl⟩
      ·cases hh
     ·cases hh
    ·cases hh
   ·cases hh
  ·cases hs
theorem uv{a:AA}:∀{l:List AV} {j:Nat} {h h':AH},kF h a l j=.ok h'->h'.nb=h.nb∧h'.lim=h.lim:=by
 intro l
 induction l with
 |nil=>intro j h h' hs;simp[kF]at hs;subst hs;exact⟨rfl,rfl⟩
 |cons v l ih=>
  intro j h h' hs;simp only[kF]at hs;split at hs
  ·rename_i h1 Z5;have a1:=JS Z5;have a2:=ih hs;exact⟨a2.1.trans a1.1,a2.2.trans a1.2⟩
  ·cases hs
theorem dg.of_same{h':AH}(I':gf K U h')(e1:h'.nb=h.nb)(e2:h'.lim=h.lim):dg K U h h':=
 ⟨by omega,e2,I'.congr fun n=>⟨.inl,fun x=>x.elim id fun x=>by omega⟩⟩
theorem xm(ρ:Env)(m:IE)(k:Nat):((iZ m k).ev ρ).toNat=(m.ev ρ).toNat+k:=by
 unfold iZ;split
 ·simp
 ·simp only[IE.ev];simp;omega
theorem FJ{m:IE}(k:Nat)(h:m.In U):(iZ m k).In U:=by
 unfold iZ;split
 ·exact h
 ·exact⟨h,trivial⟩
theorem uw(G:K.Good){E:Value->World->Prop}{b:Nat}(ho:K.own b){arr:Array Value}{e:TypeId}{w:World}(hb:w.heap[b]?=some (.cells arr e (0,0))):∀{n j:Nat} {acc:Array Value},j+n≤arr.size->
  ∀{Q:Array Value->World->Prop},Q (acc++((arr.toList.drop j).take n).toArray) w->wq K.P K.Ev E (loadCellsFrom ⟨b,0,none⟩ j n acc) Q w:=by
 intro n
 induction n with
 |zero=>intro j acc hj Q hq;simpa[loadCellsFrom] using hq
 |succ n ih=>
  intro j acc hj Q hq;simp only[loadCellsFrom,bH];rw[v_];have ha:(⟨b,0,none⟩:Addr).add j=⟨b,j,none⟩:=by unfold Addr.add;split<;>simp_all
  rw[ha];have hlt:j<arr.size:=by omega
  refine⟨_,(iN hb).trans (aS hlt),G.rd _ _ ho,ih (by omega) ?_⟩;have:(arr.toList.drop j).take (n+1)=arr[j]::(arr.toList.drop (j+1)).take n:=by rw[aG (by simpa using hlt),List.take_succ_cons];rfl
  rw[this]at hq;simpa using hq
theorem Mq(G:K.Good)(R:Rel K ρ h w){E:Value->World->Prop}{elem:TypeId}{i:TypeInfo}{z:AV}{zc:List AV}{need sCap sLen n size:Nat}{s x:Value}{old new:List Value}(hi:K.P.info? elem=some i)(hsz:i.size=size)(hz:zero? K.P elem=.ok z)(hc:z.cells?=.ok zc)(hzl:zc.length=size)
 (hold:∀{Q':Array Value->World->Prop} {w':World},w'.heap=w.heap->Q' old.toArray w'->wq K.P K.Ev E (Builtin.firstCells size sLen s) Q' w')
 (hnew:∀{Q':Array Value->World->Prop} {w':World},Rel K ρ h w'->Q' new.toArray w'->wq K.P K.Ev E (Builtin.firstCells size n x) Q' w')
 (hlen:(old++new).length=need*size)(aac:need≤1048576){Q:Value->World->Prop}
 (hq:∀(dG:Nat) (w0:World) (arr:Array Value) (rest:List Value),w0.heap=w.heap->w0.tape=w.tape->w0.os=w.os->w0.output=w.output->arr.toList=old++new++rest->arr.size=dG*size->need≤dG->
   Q (.slice (some ⟨w.heap.size,0,none⟩) need dG) {w0 with heap:=w0.heap.push (.cells arr elem (0,0))}):
  wq K.P K.Ev E (do
   let dG<-choose (.appendCap need sCap elem)
   askRoom (dG*(<-typeInfo elem).bytes)
   let old<-Builtin.firstCells size sLen s;let new<-Builtin.firstCells size n x;let rest:=Builtin.zeroCells (<-zeroValue elem).cells (dG-need)
   Pure.pure (.slice (some (<-newRow elem (old++new++rest))) need dG)) Q w:=by
 simp only[bH];rw[uo];rw[if_neg (by simp[Question.forced])];intro nn;simp only[dP hi];have ask:∀{m:Nat} {Q':Unit->World->Prop} {w':World},Q' () w'->wq K.P K.Ev E (askRoom m) Q' w':=by
  intro m Q' w' qQ;unfold askRoom;simp only[gq,oA,bI];split
  ·exact⟨G.noRoom,qQ⟩
  ·exact qQ
 refine ask ?_;have R':Rel K ρ h {w with drawn:=w.drawn+1}:=R.at rfl;refine hold rfl ?_;refine hnew R' ?_;simp only[ef (ρ:=ρ) hz,newRow,bH,jO,bI];have Mp:need≤Question.cut (.appendCap need sCap elem) nn:=by simp only[Question.cut];omega
 generalize hcap:Question.cut (.appendCap need sCap elem) nn=dG at Mp;refine hq dG {w with drawn:=w.drawn+1} _ (Builtin.zeroCells (z.ev ρ).cells (dG-need)).toList rfl rfl rfl rfl ?_ ?_ Mp
 ·simp
 ·have e1:(z.ev ρ).cells.size=size:=by rw[gW hc ρ];simp[cO,hzl]
  have e2:old.length+new.length=need*size:=by simpa using hlen
  simp only[Array.size_append,Builtin.zeroCells,Array.size_map,Array.size_range,List.size_toArray,e1];rw[e2,<-Nat.add_mul];congr 1;omega
theorem Bt{E Q:Value->World->Prop}{argTypes:Array TypeId}{ty sType xType elem:TypeId}{X:TypeDesc}{base:Option AA}{sl sc:IE}{x:AV}{n size bytes:Nat}{new:List AV}{info:TypeInfo}(h0:argTypes[0]?=some sType)(h1:argTypes[1]?=some xType)
 (hX:under? K.P xType=.ok X)(ZB:∀k,X=.int k->False)(hS:under? K.P sType=.ok (.slice elem))(hsz:sizeOf? K.P elem=.ok size)(kr:K.P.info? elem=some info)(hib:info.bytes=bytes)(hb0:0<bytes)(zV:bytes≤1024)(hnew:appArgs? K.O h size x=.ok (n,new))
 (pM:(sl.ev ρ).toNat+n≤1048576)
 (hq:wq K.P K.Ev E (if(sl.ev ρ).toNat+n≤(sc.ev ρ).toNat then(do
    let new<-Builtin.firstCells size n (x.ev ρ)
    match base.map (AA.ev ρ)with
    |some a=>do
     storeCells (a.add ((sl.ev ρ).toNat*size)) new.toList
     Pure.pure (.slice (base.map (AA.ev ρ)) ((sl.ev ρ).toNat+n) (sc.ev ρ).toNat)
    |none=>Pure.pure (.slice (base.map (AA.ev ρ)) ((sl.ev ρ).toNat+n) (sc.ev ρ).toNat))
   else(do
    let dG<-choose (.appendCap ((sl.ev ρ).toNat+n) (sc.ev ρ).toNat elem)
    askRoom (dG*(<-typeInfo elem).bytes)
    let old<-Builtin.firstCells size (sl.ev ρ).toNat (.slice (base.map (AA.ev ρ)) (sl.ev ρ).toNat (sc.ev ρ).toNat);let new<-Builtin.firstCells size n (x.ev ρ);let rest:=Builtin.zeroCells (<-zeroValue elem).cells (dG-((sl.ev ρ).toNat+n))
    Pure.pure (.slice (some (<-newRow elem (old++new++rest))) ((sl.ev ρ).toNat+n) dG))) Q w):
  wq K.P K.Ev E (Builtin.append_ argTypes ty #[(AV.slice base sl sc).ev ρ,x.ev ρ]) Q w:=by
 have hX':=c8 hX;clear hX;unfold Builtin.append_;simp only[h0,h1,List.getElem?_toArray,List.getElem?_cons_zero,List.getElem?_cons_succ,bH,bM (c8 hS),c9 hsz,bM hX',bI,AV.ev];cases X<;>first
  |exact absurd rfl (ZB _)
  |skip
 all_goals simp only[aH,if_false]
 all_goals rw[bH]
 all_goals refine CH hnew ?_
 all_goals simp only[Bool.not_false,if_true]
 all_goals by_cases hc:(sl.ev ρ).toNat+n≤(sc.ev ρ).toNat
 all_goals first
  |(rw[if_pos hc]at hq⊢;cases base<;>exact hq)
  |(rw[if_neg hc]at hq⊢;rw[bH,dP kr];rw[if_neg (by rw[hib];intro hh;exact hh.2.elim id (fun h3=>by omega))];rw[bH,dP kr];rw[if_neg (by rw[hib];exact oS (by omega) pM zV)];exact hq)
theorem vU(R:Rel K ρ h w)(I:gf K U h){old s:Nat}{lk:Bool}{n:IE}{fs ws:List (IE×AV)}{cs:List AV}{elem:TypeId}{len:IE}{v:AV}{h':AH}(ha:allocPre? h old lk s n fs ws cs elem len=.ok (v,h'))(hc:(bQ.pre lk s n fs ws cs elem (.lit 0)).In U)(hl:len.In U):
  v.In (plus U h.nb h'.nb)∧dg K U h h'∧∀(m:Nat) (c:Nat) (w':World) (arr pre:Array Value) (rest:List Value) (i:TypeInfo),bU K.own w w'->w'.heap[m]?=some (.cells arr elem (0,0))->(K.own m∧∀k,K.still m k->lk=true∧∃i,K.P.info? elem=some i∧k<(n.ev ρ).toNat*i.size)->Rel K ρ {h with hp:=jw old h.hp} w'->
   (∀j b,cG j (jw old h.hp)=some b->ρ.b j≠m)->wZ K.P ρ s n fs ws elem i pre->arr.toList=wrote ρ pre.toList ws++(AV.evs ρ cs++rest)->arr.size=c*i.size->
   After K U ρ w h' (fun ρ'=>v.ev ρ'=.slice (some ⟨m,0,none⟩) (len.ev ρ).toNat c) w':=by
 obtain⟨hp,nb,lim⟩:=h;simp only[allocPre?]at ha;split at ha
 ·rename_i hlt;cases ha;have zf:¬U nb:=I.fresh _ (ay _) hlt;have hnb:plus U nb (nb+1) nb:=.inr ⟨ay _,Nat.lt_succ_self _⟩;have U8:=bQ.In.mono (ck (U:=U) (a:=nb) (b:=nb+1)) hc;have hin:bQ.In (plus U nb (nb+1)) (.pre lk s n fs ws cs elem (.var nb)):=⟨U8.1,U8.2.1,U8.2.2.1,U8.2.2.2.1,hnb⟩;refine⟨⟨⟨hnb,trivial⟩,IE.In.mono ck hl,hnb⟩,⟨Nat.le_succ _,rfl,(I.drop old).ins hlt hin⟩,?_⟩;intro m c w' arr pre rest inf hk hm ho R' hne hp Bs hsz;have A:cz U ρ (ρ.upd nb m c):=fR zf;have hf:(bQ.pre lk s n fs ws cs elem (.var nb)).fits K.P (ρ.upd nb m c) arr:=
   ⟨pre,rest,inf,hp.agree A hc.1 hc.2.1 hc.2.2.1,by rw[pI A _ hc.2.2.1,AV.fG A cs hc.2.2.2.1];exact Bs,by simpa[IE.ev,Env.upd] using hsz⟩
  refine⟨ρ.upd nb m c,A,Rel.Z6 R' (I.drop old) hlt hm ho.1 hne (fun k hk'=>by have:=ho.2 k hk';rw[<-IE.bZ A hc.1]at this;exact this) (.inl ⟨arr,rfl,hf⟩),hk,?_⟩;have:(len.ev (ρ.upd nb m c))=len.ev ρ:=IE.bZ A hl;simp[AV.ev,AA.ev,BR.ev,IE.ev,Env.upd]at this⊢;rw[<-this]
 ·cases ha
theorem JU(G:K.Good)(R:Rel K ρ h w)(I:gf K U h){argTypes:Array TypeId}{ty sType xType elem:TypeId}{X:TypeDesc}{base:Option AA}{sl sc:IE}{x z:AV}{zc:List AV}{n size bytes:Nat}{new:List AV}{v:AV}{h':AH}(h0:argTypes[0]?=some sType)(h1:argTypes[1]?=some xType)
 (hX:under? K.P xType=.ok X)(ZB:∀k,X=.int k->False)(hS:under? K.P sType=.ok (.slice elem))(hsz:sizeOf? K.P elem=.ok size)(hz:zero? K.P elem=.ok z)(oU:z.cells?=.ok zc)(hbytes:bytesOf? K.P elem=.ok bytes)(hzl:zc.length=size)(hs0:0<size)(hb0:0<bytes)(zV:bytes≤1024)
 (hnew:appArgs? K.O h size x=.ok (n,new))(hall:new.all (·.oneCell?)=true)(hs:(AV.slice base sl sc).In U)(he:appPre? K.O h base sl sc n size new elem=.ok (v,h')):
  nP K U ρ h w (Builtin.append_ argTypes ty #[(AV.slice base sl sc).ev ρ,x.ev ρ]) v h':=by
 have hnl:=sZ hnew;have hni:=u6 I hnew;obtain⟨info,kr,hib⟩:=m_ hbytes;obtain⟨info',xo,his⟩:=mg hsz;obtain rfl:info=info':=by rw[kr]at xo;exact au xo
 have FK:info.size=size:=by rw[<-his]
 have hone:=u5 hall ρ;unfold appPre? at he;split at he
 rotate_left
 ·cases he
 rename_i a;split at he
 rotate_left
 ·cases he
 rename_i i hblk hoff;split at he
 rotate_left
 ·cases he
 rename_i lk s m fs ws cs e c' hfind;split at he
 rotate_left
 ·cases he
 rename_i hok;unfold preOk? at hok;simp only[aq,decide_eq_true_eq]at hok;obtain⟨⟨⟨⟨hee,hcc⟩,hk⟩,hsl⟩,U9⟩:=hok;have U_:=hee.symm;subst U_;have Va:=IE.cM hcc;subst Va;have hk':=aJ hk;have Vb:=IE.cM hsl;subst Vb;generalize hkk:cs.length / size=k at*;have pM:((iZ m k).ev ρ).toNat+n≤1048576:=by
  split at U9
  ·rename_i b hd;subst U9;have:=lq R hd;have h2:((((iZ m k).ev ρ).toNat:Int)+(n:Int)≤1048576):=of_decide_eq_true this;omega
  ·cases U9
 have aae:((iZ m k).ev ρ).toNat=(m.ev ρ).toNat+k:=xm ρ m k;obtain⟨arr,SU,pre,rest,i1,hp,Z8,Qr⟩:=R.arr hfind rfl;obtain rfl:info=i1:=by have:=hp.info;rw[kr]at this;exact au this
 have hown:=R.own _ _ hfind rfl;have Cv:∀k,K.still (ρ.b i) k->lk=true∧∃i,K.P.info? elem=some i∧k<(m.ev ρ).toNat*i.size:=fun n hs=>R.gp _ _ hfind n hs;have Ce:=I.hp _ _ hfind;generalize Vc:((iZ m k).ev ρ).toNat=sLen at*;have afh:∀k,sLen*size+0≤k->¬K.still (ρ.b i) k:=fun k hk2 hs=>by
  obtain⟨_,i2,h2,h3⟩:=Cv k hs;obtain rfl:info=i2:=by rw[kr]at h2;exact au h2
  rw[FK]at h3;have:(m.ev ρ).toNat*size≤sLen*size:=bk _ (by omega);omega
 obtain⟨V,hV⟩:∃V,V=wrote ρ pre.toList ws++AV.evs ρ cs:=⟨_,rfl⟩;have ZC:V.length=sLen*size:=by rw[hV,an,lJ,cO,<-hk',Array.length_toList,hp.size,FK,aae,Nat.add_mul]
 have Vd:arr.toList=V++rest:=by rw[Z8,hV,a_]
 have afi:arr.size=sLen*size+rest.length:=by have:=congrArg aR Vd;rw[an,ZC]at this;simpa using this
 have hcap:sLen≤(sc.ev ρ).toNat:=by
  have h5:sLen*size≤(sc.ev ρ).toNat*size:=by rw[<-FK,<-Qr,FK];omega
  exact Nat.le_of_mul_le_mul_right h5 hs0
 have HF:a.ev ρ=⟨ρ.b i,0,none⟩:=by simp[AA.ev,hblk,hoff,BR.ev,IE.ev]
 have front:=fun{E:Value->World->Prop} {Q:Value->World->Prop}=>Bt (K:=K) (ρ:=ρ) (h:=h) (w:=w) (E:=E) (Q:=Q) (ty:=ty) (base:=some a) (sl:=iZ m k) (sc:=sc) (x:=x) h0 h1 hX ZB hS hsz kr hib hb0 zV hnew (by rw[Vc];exact pM);rw[Vc]at front;have new?:∀{E:Value->World->Prop} {Q':Array Value->World->Prop} {w':World},Rel K ρ h w'->Q' (AV.evs ρ new).toArray w'->wq K.P K.Ev E (Builtin.firstCells size n (x.ev ρ)) Q' w':=fun R' qQ=>qR R' G hnew qQ;split at he
 ·rw[bL]at he;cases he;have oE:new=[]:=bz (by simpa using hnl);subst oE;refine nP.pure R I hs fun{E Q} hq=>front ?_;rw[if_pos (by omega),bH];refine new? R ?_;simp only[av,AV.evs,bH,storeCells,bI];have:(AV.slice (some a) (iZ m k) sc).ev ρ=.slice (some (a.ev ρ)) (sLen+0) (sc.ev ρ).toNat:=by simp only[AV.ev,av,Vc];rfl
  rw[<-this];exact hq
 ·rename_i hn0;have hin:(bQ.pre lk s m fs ws (cs++new) elem (.lit 0)).In U:=⟨Ce.1,Ce.2.1,Ce.2.2.1,cW.2 fun x hx'=>by
   rcases aT.1 hx' with h'|h'
   ·exact cW.1 Ce.2.2.2.1 _ h'
   ·exact cW.1 hni _ h',trivial⟩
  obtain⟨r1,r2,r3⟩:=vU R I he hin (FJ _ Ce.1);have aaf:((iZ m (k+n)).ev ρ).toNat=sLen+n:=by rw[xm];omega
  rw[aaf]at r3;refine⟨r1,r2,fun{E Q} hq=>front ?_⟩;by_cases hfit:sLen+n≤(sc.ev ρ).toNat
  ·rw[if_pos hfit,bH];refine new? R ?_;simp only[av,bH,HF];have Ve:(⟨ρ.b i,0,none⟩:Addr).add (sLen*size)=⟨ρ.b i,sLen*size,none⟩:=by unfold Addr.add;split<;>simp_all
   rw[Ve];have hroom:sLen*size+0+(AV.evs ρ new).length≤arr.size:=by rw[Qr,FK,cO,hnl,Nat.add_zero,<-Nat.add_mul];exact bk _ hfit
   refine ni G hown afh SU hroom hone ?_;intro w' gx q1 q2 q3 q4 q5 q6 q7 q8 q9;have dS:∀j b,cG j (jw i h.hp)=some b->cG j h.hp=some b∧j≠i:=fun j b hb=>by
    rw[iL _ _ _ I.nodup]at hb;split at hb
    · cases hb
    · rename_i hne;exact⟨hb,hne⟩
   have Mr:∀j b,cG j (jw i h.hp)=some b->ρ.b j≠ρ.b i:=fun j b hb e=>(dS j b hb).2 (R.inj _ _ _ _ (dS j b hb).1 hfind e);have Kw:bU K.own w w':=⟨fun m hm=>q2 m (fun e=>hm (by rw[e];exact hown)),by rw[q3];exact ay _,q4,q5,q6⟩;have Rw:Rel K ρ {h with hp:=jw i h.hp} w':=
    ⟨fun j b hb=>by obtain⟨xp,x1,x2⟩:=R.blk j b (dS j b hb).1;exact⟨xp,by rw[q2 _ (Mr j b hb)];exact x1,x2⟩,
     fun j b hb=>R.rN j b (dS j b hb).1,fun j k b c hb hc e=>R.inj j k b c (dS j b hb).1 (dS k c hc).1 e,R.bs,R.is,
     fun p hp=>by obtain⟨m1,m2,m3⟩:=R.mem p hp;refine⟨m1,?_,m3⟩;simp only[World.cell?]at m2⊢;rw[q2 _ (fun e=>m1 (by rw[e];exact hown))];exact m2,
     fun m hm=>R.room m (by rw[q3]at hm;exact hm),fun j b hb=>R.gp j b (dS j b hb).1,fun b n hs=>by rw[q3];exact R.low b n hs⟩
   have Bs:gx.toList=wrote ρ pre.toList ws++(AV.evs ρ (cs++new)++gx.toList.drop (sLen*size+n*size)):=by
    have hl:V++AV.evs ρ new=gx.toList.take (sLen*size+n*size):=by
      refine List.ext_getElem? fun j=>?_;rw[List.getElem?_take];by_cases hm:j<sLen*size
      ·rw[aK (by rw[ZC];exact hm),if_pos (by omega),(show gx.toList[j]?=gx[j]? from aY),q8 j (by omega),(show arr[j]?=arr.toList[j]? from Array.getElem?_toList.symm),Vd,aK (by rw[ZC];exact hm)]
      ·rw[List.getElem?_append_right (by rw[ZC];omega),ZC];by_cases hm2:j<sLen*size+n*size
       ·rw[if_pos hm2,(show gx.toList[j]?=gx[j]? from aY)];have:=q9 (j-sLen*size) (by rw[cO,hnl];omega);rw[<-this];congr 1;omega
       ·rw[if_neg hm2,aQ (by rw[cO,hnl];omega)]
    rw[jK,<-a_,<-a_,<-hV,hl];exact(List.take_append_drop _ _).symm
   obtain⟨ρ',a1,a2,a3,a4⟩:=r3 (ρ.b i) (sc.ev ρ).toNat w' gx pre _ info Kw q1 ⟨hown,Cv⟩ Rw Mr hp Bs (by rw[q7];exact Qr);exact hq _ _ ⟨ρ',a1,a2,a3,a4.symm⟩
  ·rw[if_neg hfit];have hold:∀{E:Value->World->Prop} {Q':Array Value->World->Prop} {w':World},w'.heap=w.heap->Q' V.toArray w'->wq K.P K.Ev E (Builtin.firstCells size sLen (.slice (some (a.ev ρ)) sLen (sc.ev ρ).toNat)) Q' w':=by
    intro E Q' w' hh qQ;simp only[Builtin.firstCells,loadCells,HF];refine uw G hown (by rw[hh];exact SU) (by omega) ?_;have:(arr.toList.drop 0).take (sLen*size)=V:=by rw[List.drop_zero,Vd,List.take_append_of_le_length (by omega),List.take_of_length_le (by omega)]
    rw[this];simpa using qQ
   refine Mq G R kr FK hz oU hzl (fun hh=>hold hh) (fun R'=>new? R') (by rw[an,ZC,cO,hnl,Nat.add_mul]) pM ?_;intro dG w0 xp zW e1 e2 e3 e4 e5 e6 e7;have R0:Rel K ρ h w0:=R.at e1;obtain⟨Rp,Kp⟩:=R0.push (.cells xp elem (0,0));have K0:bU K.own w w0:=⟨fun _ _=>by rw[e1],by rw[e1];exact ay _,e2,e3,e4⟩;obtain⟨ρ',a1,a2,a3,a4⟩:=r3 w.heap.size dG {w0 with heap:=w0.heap.push (.cells xp elem (0,0))} xp pre zW info (K0.trans Kp) (by rw[<-e1];simp) ⟨R.room _ (ay _),fun n hs=>by have:=R.low _ n hs;omega⟩ (Rp.drop I i)
    (fun j b hb e=>by
      rw[iL _ _ _ I.nodup]at hb;split at hb
      ·cases hb
      ·obtain⟨gx,ha',_⟩:=R.blk j b hb;have:=jF ha';omega) hp (by rw[e5,hV,jK,a_,a_,a_]) (by rw[FK];exact e6)
   exact hq _ _ ⟨ρ',a1,a2,a3,a4.symm⟩
theorem FL(G:K.Good)(R:Rel K ρ h w)(I:gf K U h){argTypes:Array TypeId}{ty:TypeId}{s x v:AV}{h':AH}(hs:s.In U)(hx:x.In U)(he:append? K.P h argTypes s x K.O=.ok (v,h')):
  nP K U ρ h w (Builtin.append_ argTypes ty #[s.ev ρ,x.ev ρ]) v h':=by
 unfold append? at he;split at he
 ·rename_i sType xType h0 h1;simp only[bJ]at he;obtain⟨X,hX,he⟩:=he;split at he
  ·cases he
  ·rename_i ZB;simp only[bJ]at he;obtain⟨S,hS,he⟩:=he;split at he
   ·rename_i elem;simp only[bJ]at he;obtain⟨size,hsz,z,hz,zc,oU,bytes,hbytes,he⟩:=he;split at he
    ·rename_i CG;obtain⟨hzl,hs0,hb0,zV⟩:=CG;simp only[bJ]at he;obtain⟨⟨n,new⟩,hnew,he⟩:=he;split at he
     ·rename_i hall;split at he
      ·rename_i base sl sc;split at he
       rotate_left
       ·exact JU G R I h0 h1 hX (fun k e=>ZB k e) hS hsz hz oU hbytes hzl hs0 hb0 zV hnew hall hs he
       rename_i sn;simp only[bJ]at he;obtain⟨sLen,hsl,he⟩:=he;have Vb:=iO hsl;cases Vb;split at he
       ·rename_i pM;have hnl:=sZ hnew;have hni:=u6 I hnew;obtain⟨info,kr,hib⟩:=m_ hbytes;obtain⟨info',xo,his⟩:=mg hsz;obtain rfl:info=info':=by rw[kr]at xo;exact au xo
        have front:∀{E:Value->World->Prop} {Q:Value->World->Prop},wq K.P K.Ev E (if sLen+n≤(sc.ev ρ).toNat then(do
           let new<-Builtin.firstCells size n (x.ev ρ)
           match base.map (AA.ev ρ)with
           |some a=>do
            storeCells (a.add (sLen*size)) new.toList
            Pure.pure (.slice (base.map (AA.ev ρ)) (sLen+n) (sc.ev ρ).toNat)
           |none=>Pure.pure (.slice (base.map (AA.ev ρ)) (sLen+n) (sc.ev ρ).toNat))
          else(do
           let dG<-choose (.appendCap (sLen+n) (sc.ev ρ).toNat elem)
           askRoom (dG*(<-typeInfo elem).bytes)
           let old<-Builtin.firstCells size sLen (.slice (base.map (AA.ev ρ)) sLen (sc.ev ρ).toNat);let new<-Builtin.firstCells size n (x.ev ρ);let rest:=Builtin.zeroCells (<-zeroValue elem).cells (dG-(sLen+n))
           Pure.pure (.slice (some (<-newRow elem (old++new++rest))) (sLen+n) dG))) Q w->
          wq K.P K.Ev E (Builtin.append_ argTypes ty #[(AV.slice base (.lit (.ofNat sLen)) sc).ev ρ,x.ev ρ]) Q w:=by
         intro E Q hq;have hX':=c8 hX;clear hX he;unfold Builtin.append_;simp only[h0,h1,List.getElem?_toArray,List.getElem?_cons_zero,List.getElem?_cons_succ,bH,bM (c8 hS),c9 hsz,bM hX',bI,AV.ev,IE.ev];cases X<;>first
          |exact absurd rfl (ZB _)
          |skip
         all_goals simp only[aH,if_false]
         all_goals rw[bH]
         all_goals refine CH hnew ?_
         all_goals have e0:(Int.ofNat sLen).toNat=sLen:=rfl
         all_goals simp only[e0,Bool.not_false,if_true]
         all_goals by_cases hc:sLen+n≤(sc.ev ρ).toNat
         all_goals first
          |(rw[if_pos hc]at hq⊢;cases base<;>exact hq)
          |(rw[if_neg hc]at hq⊢;rw[bH,dP kr];rw[if_neg (by rw[hib];intro hh;exact hh.2.elim id (fun h3=>by omega))];rw[bH,dP kr];rw[if_neg (by rw[hib];exact oS (by omega) pM zV)];exact hq)
        have hone:=u5 hall ρ;have new?:∀{E:Value->World->Prop} {Q':Array Value->World->Prop} {w':World},Rel K ρ h w'->Q' (AV.evs ρ new).toArray w'->wq K.P K.Ev E (Builtin.firstCells size n (x.ev ρ)) Q' w':=fun R' qQ=>qR R' G hnew qQ;have FK:info.size=size:=by rw[<-his]
        have old?:∀{old:List AV},appOld? K.O h base sLen size=.ok old->
          old.length=sLen*size∧AV.Ins U old∧∀{E:Value->World->Prop} {Q':Array Value->World->Prop} {w':World},Rel K ρ h w'->Q' (AV.evs ρ old).toArray w'->wq K.P K.Ev E (Builtin.firstCells size sLen (.slice (base.map (AA.ev ρ)) sLen (sc.ev ρ).toNat)) Q' w':=by
         intro old ho;unfold appOld? at ho;split at ho
         ·split at ho
          ·rename_i h00;cases ho;exact⟨by simp[h00],trivial,fun R' qQ=>qQ⟩
          ·cases ho
         ·refine⟨sU ho,sS I ho,fun R' qQ=>?_⟩;simp only[av,Builtin.firstCells,loadCells];exact k6 R' G ho (by simpa using qQ)
        split at he
        ·
         rename_i cap;have ec:((IE.lit (Int.ofNat cap)).ev ρ).toNat=cap:=rfl;split at he
         ·rename_i hle;unfold appFit? at he;split at he
          ·rename_i a;simp only[bJ,bL]at he;obtain⟨h2,hst,e⟩:=he;cases e;have hnb:=uv hst;have I':=rQ (AA.uq _ hs.1) I hst hni;refine⟨⟨AA.In.mono ck hs.1,trivial,trivial⟩,dg.of_same I' hnb.1 hnb.2,fun{E Q} hq=>front ?_⟩;rw[ec,if_pos hle,bH];refine new? R ?_;simp only[av,bH];rw[<-AA.rP];refine oC G R hst fun w' r1 r2 _ _=>?_;exact hq _ _ ⟨ρ,cz.refl _ _,r1,r2,rfl⟩
          ·split at he
           ·rename_i hn0;rw[bL]at he;cases he;subst hn0;refine nP.pure R I ⟨trivial,trivial,trivial⟩ fun{E Q} hq=>front ?_;rw[ec,if_pos hle,bH];refine new? R ?_;exact hq
           ·cases he
         ·rename_i hle;unfold appGrow? at he;simp only[bJ]at he;obtain⟨old,hold,ha⟩:=he;obtain⟨o1,o2,o3⟩:=old? hold;have hin:AV.Ins U (old++new):=cW.2 fun a ha=>by
           rcases aT.1 ha with h'|h'
           ·exact cW.1 o2 _ h'
           ·exact cW.1 hni _ h'
          obtain⟨r1,r2,r3⟩:=oT R I ha hin;refine⟨r1,r2,fun{E Q} hq=>front ?_⟩;rw[ec,if_neg hle];refine HE G R kr FK hz oU hzl (fun R'=>o3 R') (fun R'=>new? R') (by rw[an,o1,hnl,Nat.add_mul]) pM ?_;intro dG w0 arr rest e1 e2 e3 e4 e5 e6 e7;have R0:Rel K ρ h w0:=R.at e1;obtain⟨Rp,Kp⟩:=R0.push (.cells arr elem (0,0));have K0:bU K.own w w0:=⟨fun _ _=>by rw[e1],by rw[e1];exact ay _,e2,e3,e4⟩;obtain⟨ρ',a1,a2,a3,a4⟩:=r3 w.heap.size dG {w0 with heap:=w0.heap.push (.cells arr elem (0,0))} arr rest info (K0.trans Kp) (by rw[<-e1];simp) ⟨R.room _ (ay _),fun n hs=>by have:=R.low _ n hs;omega⟩ Rp
           (fun j b hb e=>by obtain⟨gx,ha',_⟩:=R.blk j b hb;have:=jF ha';omega) e5 kr (by rw[FK];exact e6)
          exact hq _ _ ⟨ρ',a1,a2,a3,a4.symm⟩
        ·
         unfold appRow? at he;split at he
         ·rename_i a;split at he
          ·rename_i i hblk hoff;split at he
           ·rename_i cs e c' hfind;split at he
            ·rename_i hc3;obtain⟨hee,hcc,hlen⟩:=hc3;have U_:=hee.symm;subst U_;have Va:=IE.cM hcc;subst Va;obtain⟨arr,SU,rest,i1,Z8,JG,Qr⟩:=R.arr hfind rfl;obtain rfl:info=i1:=by rw[kr]at JG;exact au JG
             have hown:=R.own _ _ hfind rfl;have Cv:∀n,¬K.still (ρ.b i) n:=fun n hs=>by have:=R.gp _ _ hfind n hs;cases this
             have Ce:=I.hp _ _ hfind;have afi:arr.size=cs.length+rest.length:=by have:=congrArg aR Z8;simpa[cO] using this
             have hcap:sLen≤(sc.ev ρ).toNat:=by
              have h5:sLen*size≤(sc.ev ρ).toNat*size:=by rw[<-FK,<-Qr,FK];omega
              exact Nat.le_of_mul_le_mul_right h5 hs0
             have HF:a.ev ρ=⟨ρ.b i,0,none⟩:=by simp[AA.ev,hblk,hoff,BR.ev,IE.ev]
             split at he
             ·rename_i hn0;rw[bL]at he;cases he;subst hn0;have oE:new=[]:=bz (by simpa using hnl);subst oE;refine nP.pure R I hs fun{E Q} hq=>front ?_;rw[if_pos (by omega),bH];refine new? R ?_;simp only[av,AV.evs,bH,storeCells,bI];exact hq
             ·rename_i hn0;have hin:AV.Ins U (cs.take (sLen*size)++new):=cW.2 fun x hx'=>by
               rcases aT.1 hx' with h'|h'
               ·exact cW.1 Ce.1 _ (List.mem_of_mem_take h')
               ·exact cW.1 hni _ h'
              obtain⟨r1,r2,r3⟩:=oT R I he hin;refine⟨r1,r2,fun{E Q} hq=>front ?_⟩;by_cases hfit:sLen+n≤(sc.ev ρ).toNat
              ·
               rw[if_pos hfit,bH];refine new? R ?_;simp only[av,bH,HF];have Ve:(⟨ρ.b i,0,none⟩:Addr).add (sLen*size)=⟨ρ.b i,sLen*size,none⟩:=by unfold Addr.add;split<;>simp_all
               rw[Ve];have hroom:sLen*size+0+(AV.evs ρ new).length≤arr.size:=by rw[Qr,FK,cO,hnl,Nat.add_zero,<-Nat.add_mul];exact bk _ hfit
               refine ni G hown (fun n _=>Cv n) SU hroom hone ?_;intro w' gx q1 q2 q3 q4 q5 q6 q7 q8 q9;have dS:∀j b,cG j (jw i h.hp)=some b->cG j h.hp=some b∧j≠i:=fun j b hb=>by
                rw[iL _ _ _ I.nodup]at hb;split at hb
                · cases hb
                · rename_i hne;exact⟨hb,hne⟩
               have Mr:∀j b,cG j (jw i h.hp)=some b->ρ.b j≠ρ.b i:=fun j b hb e=>(dS j b hb).2 (R.inj _ _ _ _ (dS j b hb).1 hfind e);have Kw:bU K.own w w':=⟨fun m hm=>q2 m (fun e=>hm (by rw[e];exact hown)),by rw[q3];exact ay _,q4,q5,q6⟩;have Rw:Rel K ρ {h with hp:=jw i h.hp} w':=
                ⟨fun j b hb=>by obtain⟨xp,x1,x2⟩:=R.blk j b (dS j b hb).1;exact⟨xp,by rw[q2 _ (Mr j b hb)];exact x1,x2⟩,
                 fun j b hb=>R.rN j b (dS j b hb).1,fun j k b c hb hc e=>R.inj j k b c (dS j b hb).1 (dS k c hc).1 e,R.bs,R.is,
                 fun p hp=>by obtain⟨m1,m2,m3⟩:=R.mem p hp;refine⟨m1,?_,m3⟩;simp only[World.cell?]at m2⊢;rw[q2 _ (fun e=>m1 (by rw[e];exact hown))];exact m2,
                 fun m hm=>R.room m (by rw[q3]at hm;exact hm),fun j b hb=>R.gp j b (dS j b hb).1,fun b n hs=>by rw[q3];exact R.low b n hs⟩
               have Bs:gx.toList=AV.evs ρ (cs.take (sLen*size)++new)++gx.toList.drop (sLen*size+n*size):=by
                have hl:(AV.evs ρ (cs.take (sLen*size)++new))=gx.toList.take (sLen*size+n*size):=by
                  refine List.ext_getElem? fun m=>?_;rw[List.getElem?_take];rw[jK];have Qs:(AV.evs ρ (cs.take (sLen*size))).length=sLen*size:=by rw[cO,List.length_take];omega
                  by_cases hm:m<sLen*size
                  ·rw[aK (by rw[Qs];exact hm),if_pos (by omega),m7,List.getElem?_take,if_pos hm,(show gx.toList[m]?=gx[m]? from aY),q8 m (by omega),(show arr[m]?=arr.toList[m]? from Array.getElem?_toList.symm),Z8,aK (by rw[cO];omega),m7]
                  ·rw[List.getElem?_append_right (by rw[Qs];omega),Qs];by_cases hm2:m<sLen*size+n*size
                   ·rw[if_pos hm2,(show gx.toList[m]?=gx[m]? from aY)];have:=q9 (m-sLen*size) (by rw[cO,hnl];omega);rw[<-this];congr 1;omega
                   ·rw[if_neg hm2,aQ (by rw[cO,hnl];omega)]
                rw[hl];exact(List.take_append_drop _ _).symm
               obtain⟨ρ',a1,a2,a3,a4⟩:=r3 (ρ.b i) (sc.ev ρ).toNat w' gx _ info Kw q1 ⟨hown,Cv⟩ Rw Mr Bs kr (by rw[q7];exact Qr);exact hq _ _ ⟨ρ',a1,a2,a3,a4.symm⟩
              ·
               rw[if_neg hfit];have hold:∀{E:Value->World->Prop} {Q':Array Value->World->Prop} {w':World},Rel K ρ h w'->Q' (AV.evs ρ (cs.take (sLen*size))).toArray w'->wq K.P K.Ev E (Builtin.firstCells size sLen (.slice (some (a.ev ρ)) sLen (sc.ev ρ).toNat)) Q' w':=by
                intro E Q' w' R' qQ;have hl:∀(m j:Nat),j+m≤cs.length->kW K.O h a m j=.ok ((cs.drop j).take m):=by
                  intro m
                  induction m with
                  |zero=>intro j _;simp[kW]
                  |succ m ih=>
                   intro j hj;have h1:sG K.O h (a.add j)=.ok cs[j]:=by
                    unfold sG zL;have:(a.add j)=⟨.dyn i,.lit (.ofNat j)⟩:=by simp only[AA.add,hblk,hoff,zb,aF]
                    rw[this];simp only[hfind,bQ.cs];rw[aa (by omega)]
                   simp only[kW,h1];rw[ih (j+1) (by omega)];simp only;rw[aG (by omega:j<cs.length),List.take_succ_cons]
                simp only[Builtin.firstCells,loadCells];exact k6 R' G (hl (sLen*size) 0 (by omega)) (by simpa using qQ)
               refine HE G R kr FK hz oU hzl (fun R'=>hold R') (fun R'=>new? R') (by rw[an,List.length_take,hnl,Nat.add_mul,Nat.min_eq_left hlen]) pM ?_;intro dG w0 xp zW e1 e2 e3 e4 e5 e6 e7;have R0:Rel K ρ h w0:=R.at e1;obtain⟨Rp,Kp⟩:=R0.push (.cells xp elem (0,0));have K0:bU K.own w w0:=⟨fun _ _=>by rw[e1],by rw[e1];exact ay _,e2,e3,e4⟩;obtain⟨ρ',a1,a2,a3,a4⟩:=r3 w.heap.size dG {w0 with heap:=w0.heap.push (.cells xp elem (0,0))} xp zW info (K0.trans Kp) (by rw[<-e1];simp) ⟨R.room _ (ay _),fun n hs=>by have:=R.low _ n hs;omega⟩ (Rp.drop I i)
                (fun j b hb e=>by
                  rw[iL _ _ _ I.nodup]at hb;split at hb
                  ·cases hb
                  ·obtain⟨gx,ha',_⟩:=R.blk j b hb;have:=jF ha';omega) e5 kr (by rw[FK];exact e6)
               exact hq _ _ ⟨ρ',a1,a2,a3,a4.symm⟩
            ·cases he
           ·cases he
          ·cases he
         ·cases he
       ·cases he
      ·cases he
     ·cases he
    ·cases he
   ·cases he
 ·cases he
end
section
variable {K:Ctx}{ρ:Env}{h:AH}{w:World}{U:Nat->Prop}
theorem FM{P:Program}{es:List (AV×AV)}{o:Obj}(h:(bQ.map es).is P ρ o):∃arr nH,o=.map arr nH∧arr.toList.map (fun e=>(e.key,e.val))=es.map fun p=>(p.1.ev ρ,p.2.ev ρ):=by
 rcases h with⟨arr,_,h⟩|h
 ·exact h.elim
 ·exact h
theorem jP{P:Program}{Ev:Event->Prop}{E:Value->World->Prop}{r:Nat}{o:Obj}(h1:w.heap[r]?=some o)(h2:∀c e f,o≠.cells c e f)(h3:Ev ⟨.obj r,false,o.isChan⟩){Q:Obj->World->Prop}(hq:Q o w):wq P Ev E (getObj r) Q w:=
 ⟨o,h1,h2,h3,hq⟩
theorem ux{P:Program}{Ev:Event->Prop}{E:Value->World->Prop}{r:Nat}{o o':Obj}(h1:w.heap[r]?=some o')(h2:∀c e f,o'≠.cells c e f)(h3:Ev ⟨.obj r,true,o.isChan⟩){Q:Unit->World->Prop}(hq:Q () {w with heap:=w.heap.setIfInBounds r o}):wq P Ev E (setObj r o) Q w:=
 ⟨⟨o',h1,h2⟩,h3,hq⟩
theorem qS(R:Rel K ρ h w)(I:gf K U h){b:bQ}{mk:BR->AV}{v:AV}{h':AH}(ha:allocO? h b mk=.ok (v,h'))(hb:b.In U)(hmk:∀r,BR.In (plus U h.nb (h.nb+1)) r->(mk r).In (plus U h.nb (h.nb+1)))(hst:∀n,b.rI n=b.rI n):
  v.In (plus U h.nb h'.nb)∧dg K U h h'∧∀o,b.is K.P ρ o->After K U ρ w h' (fun ρ'=>v.ev ρ'=(mk (.dyn h.nb)).ev (ρ.upd h.nb w.heap.size 0)) {w with heap:=w.heap.push o}:=by
 obtain⟨hp,nb,lim⟩:=h;simp only[allocO?]at ha;split at ha
 ·rename_i hlt;cases ha;have zf:¬U nb:=I.fresh _ (ay _) hlt;refine⟨hmk _ (.inr ⟨ay _,Nat.lt_succ_self _⟩),⟨Nat.le_succ _,rfl,I.ins hlt (bQ.In.mono ck hb)⟩,fun o ho=>?_⟩;obtain⟨R',kp⟩:=R.push o;refine⟨ρ.upd nb w.heap.size 0,fR zf,R'.Z7 I hlt (by simp) (R.room _ (ay _)) (fun j x hx e=>?_) (fun n hs=>by have:=R.low _ n hs;omega) (Cq (fR zf) hb ho),kp,rfl⟩;obtain⟨gx,ha,_⟩:=R.blk j x hx;have:=jF ha;omega
 ·cases ha
theorem CI(R:Rel K ρ h w)(I:gf K U h){t:TypeId}{s v:AV}{h':AH}(ha:makeChan? K.P h t s=.ok (v,h')):nP K U ρ h w (Instr.makeChan t (s.ev ρ)) v h':=by
 unfold makeChan? at ha;split at ha
 ·rename_i k d elem hu;split at ha
  ·rename_i i hi;obtain⟨h1,h2,h3⟩:=qS R I ha trivial (fun r hr=>hr) (fun _=>rfl);refine⟨h1,h2,fun{E Q} hq=>?_⟩;simp only[Instr.makeChan,AV.ev,IE.ev,bH,asInt,asIntOf,bI,bM hu,dP hi];have hm:¬(Int.ofNat 0<0∨Int.ofNat 0>IntKind.i64.max∨(i.bytes:Int)*Int.ofNat 0>2 ^ 48-112):=by
    simp[IntKind.max,IntKind.bits];decide
   simp only[hm,if_false,bH,bI,jO];obtain⟨ρ',a1,a2,a3,a4⟩:=h3 (.chan 0 #[] false 0 0 false) (.inr ⟨0,rfl⟩);refine hq _ _ ⟨ρ',a1,a2,a3,?_⟩;show Value.chan (some w.heap.size)=v.ev ρ';rw[a4];simp[AV.ev,BR.ev,Env.upd]
  ·cases ha
 ·cases ha
theorem FN(R:Rel K ρ h w)(I:gf K U h){t:TypeId}{r:Option AV}{v:AV}{h':AH}(ha:makeMap? h r=.ok (v,h')):nP K U ρ h w (Instr.makeMap t (r.map (AV.ev ρ))) v h':=by
 unfold makeMap? at ha;split at ha
 ·obtain⟨h1,h2,h3⟩:=qS R I ha (nofun) (fun r hr=>hr) (fun _=>rfl);refine⟨h1,h2,fun{E Q} hq=>?_⟩;simp only[Instr.makeMap,aM,bH,bI,jO];obtain⟨ρ',a1,a2,a3,a4⟩:=h3 (.map #[] 0) (.inr ⟨#[],0,rfl,rfl⟩);refine hq _ _ ⟨ρ',a1,a2,a3,?_⟩;show Value.map (some w.heap.size)=v.ev ρ';rw[a4];simp[AV.ev,BR.ev,Env.upd]
 ·cases ha
def Found(ρ:Env)(w:World)(Q:Option (Nat×Value)->World->Prop):Option AV->Prop
 |some v=>∀j,Q (some (j,v.ev ρ)) w
 |none=>Q none w
theorem zp(R:Rel K ρ h w){E:Value->World->Prop}{key:TypeId}{k:AV}:∀{es:List (AV×AV)} {L:List MapEntry} {i:Nat} {r:Option AV},L.map (fun e=>(e.key,e.val))=es.map (fun p=>(p.1.ev ρ,p.2.ev ρ))->
  findA? K.P K.O h key k es=.ok r->∀{Q:Option (Nat×Value)->World->Prop},Found ρ w Q r->wq K.P K.Ev E (Instr.findAsking key (k.ev ρ) L i) Q w:=by
 intro es
 induction es with
 |nil=>
  intro L i r hL he Q hq;obtain rfl:L=[]:=by simpa using hL
  cases he;exact hq
 |cons p es ih=>
  intro L i r hL he Q hq;cases L with
  |nil=>simp at hL
  |cons e L=>
   simp only[aU,List.cons.injEq,Prod.mk.injEq]at hL;obtain⟨⟨e1,e2⟩,hL⟩:=hL;obtain⟨a,v⟩:=p;have he':(match eq? K.P K.O h 8 key k a with
    |.ok (.lit true)=>.ok (some v)
    |.ok (.lit false)=>findA? K.P K.O h key k es
    |.ok _=>.error "a maps key open"
    |.error e=>.error e)=Except.ok r:=he
   simp only[Instr.findAsking,bH,e1];split at he'
   ·rename_i hb;cases he';refine sW R hb ?_;show wq K.P K.Ev E (if true=true then _ else _) Q w;simp only[if_true,bI,e2];exact hq i
   ·rename_i hb;refine sW R hb ?_;show wq K.P K.Ev E (if false=true then _ else _) Q w;simp only[aH,if_false];exact ih hL he' hq
   ·cases he'
   ·cases he'
theorem Ms(R:Rel K ρ h w){key:TypeId}{D:TypeDesc}(hu:K.P.underlying key=some D)(hD:D=.string∨∃kk,D=.int kk){k a:AV}{b:Bool}(he:eq? K.P K.O h 8 key k a=.ok (.lit b)):Instr.sameNow D (k.ev ρ) (a.ev ρ)=some b:=by
 simp only[eq?]at he;rw[bJ]at he;obtain⟨T,hT,he⟩:=he;obtain rfl:T=D:=by have:=c8 hT;rw[hu]at this;exact(au this).symm
 have str:∀{x y:SE},dN.bool K.O (.seq false x y)=.lit b->(x.ev ρ==y.ev ρ)=b:=fun{x y} e=>by have:=jY R e;rw[xj]at this;exact this
 split at he
 ·rcases hD with h|⟨kk,h⟩<;>cases h
 ·split at he
  ·rename_i hk;rw[bL]at he;have:=jY R he;subst hk;show(if _=_ then some _ else none)=some b;rw[if_pos rfl,<-this];rfl
  ·cases he
 ·rw[bL]at he;cases he;rfl
 ·rw[bL]at he;exact congrArg some (str he)
 ·rw[bL]at he;exact congrArg some (str he)
 ·rw[bL]at he;exact congrArg some (str he)
 all_goals (rcases hD with h|⟨kk,h⟩<;>first|(cases h;done)|(cases he;done))
theorem CJ(R:Rel K ρ h w){key:TypeId}{D:TypeDesc}(hu:K.P.underlying key=some D)(hD:D=.string∨∃kk,D=.int kk){k:AV}:∀{es:List (AV×AV)} {L:List MapEntry} {i:Nat} {r:Option AV},L.map (fun e=>(e.key,e.val))=es.map (fun p=>(p.1.ev ρ,p.2.ev ρ))->findA? K.P K.O h key k es=.ok r->
  ∃q,Instr.findNow D (k.ev ρ) L i=some q∧∀{Q:Option (Nat×Value)->World->Prop},Found ρ w Q r->Q q w:=by
 intro es
 induction es with
 |nil=>
  intro L i r hL he;obtain rfl:L=[]:=by simpa using hL
  cases he;exact⟨none,rfl,fun{Q} hq=>hq⟩
 |cons p es ih=>
  intro L i r hL he;cases L with
  |nil=>simp at hL
  |cons e L=>
   simp only[aU,List.cons.injEq,Prod.mk.injEq]at hL;obtain⟨⟨e1,e2⟩,hL⟩:=hL;obtain⟨a,v⟩:=p;have he':(match eq? K.P K.O h 8 key k a with
    |.ok (.lit true)=>.ok (some v)
    |.ok (.lit false)=>findA? K.P K.O h key k es
    |.ok _=>.error "a maps key open"
    |.error e=>.error e)=Except.ok r:=he
   unfold Instr.findNow;rw[e1];split at he'
   ·rename_i hb;cases he';rw[Ms R hu hD hb];exact⟨_,rfl,fun{Q} hq=>by rw[e2];exact hq i⟩
   ·rename_i hb;rw[Ms R hu hD hb];exact ih hL he'
   ·cases he'
   ·cases he'
theorem rT(R:Rel K ρ h w){E:Value->World->Prop}{key:TypeId}{k:AV}{es:List (AV×AV)}{L:List MapEntry}{r:Option AV}(hk:keyOk? K.P key=true)(hL:L.map (fun e=>(e.key,e.val))=es.map (fun p=>(p.1.ev ρ,p.2.ev ρ)))
 (he:findA? K.P K.O h key k es=.ok r){Q:Option (Nat×Value)->World->Prop}(hq:Found ρ w Q r):wq K.P K.Ev E (Instr.findKey key (k.ev ρ) L) Q w:=by
 unfold keyOk? at hk;split at hk
 ·rename_i e hu;simp only[Instr.findKey,bH,bM hu];cases L with
  |nil=>
   have:es=[]:=by simpa using hL.symm
   subst this;cases he;exact hq
  |cons x L=>
   have:Instr.findNow (.pointer e) (k.ev ρ) (x::L) 0=none:=by simp[Instr.findNow,Instr.sameNow]
   rw[this];exact zp R hL he hq
 ·rename_i hu;simp only[Instr.findKey,bH,bM hu];obtain⟨q,e,qQ⟩:=CJ (i:=0) R hu (.inl rfl) hL he;rw[e];exact qQ hq
 ·rename_i kk hu;simp only[Instr.findKey,bH,bM hu];obtain⟨q,e,qQ⟩:=CJ (i:=0) R hu (.inr ⟨_,rfl⟩) hL he;rw[e];exact qQ hq
 ·cases hk
theorem pN{P:Program}{key:TypeId}(hk:keySize? P key=true):∃e n,P.underlying key=some (.pointer e)∧sizeOf? P e=.ok n∧n≠0:=by
 unfold keySize? at hk;split at hk
 ·rename_i e hu;split at hk
  ·rename_i n hs;refine⟨e,n,hu,hs,fun h=>?_⟩;subst h;cases hk
  ·cases hk
 ·cases hk
theorem s0{P:Program}{key:TypeId}(hk:keySize? P key=true):keyOk? P key=true:=by obtain⟨e,n,hu,_⟩:=pN hk;unfold keyOk?;rw[hu]
theorem JV{E:Value->World->Prop}{key:TypeId}(hk:keySize? K.P key=true){b m n:Nat}{Q:Bool->World->Prop}(hq:Q (m==n) w):wq K.P K.Ev E (Op.equal key (.pointer (some ⟨b,m,none⟩)) (.pointer (some ⟨b,n,none⟩))) Q w:=by
 obtain⟨e,k,hu,hs,h0⟩:=pN hk;have key':∀D,wq K.P K.Ev E (Op.equalIn (D+1) key (.pointer (some ⟨b,m,none⟩)) (.pointer (some ⟨b,n,none⟩))) Q w:=fun D=>by simp only[Op.equalIn,bH,bM hu,c9 hs];rw[if_pos h0];exact mu hq
 exact key' 9999
theorem xq{E:Value->World->Prop}{key:TypeId}(hk:keySize? K.P key=true){a:AA}{r:Option AV}:∀{es:List (Value×Value)} {L:List MapEntry} {i:Nat},L.map (fun e=>(e.key,e.val))=es->sQ ρ es a r->∀{Q:Option (Nat×Value)->World->Prop},Found ρ w Q r->
  wq K.P K.Ev E (Instr.findAsking key (.pointer (some (a.ev ρ))) L i) Q w:=by
 intro es
 induction es with
 |nil=>
  intro L i hL hK Q hq;obtain rfl:L=[]:=by simpa using hL
  obtain⟨_,h2⟩:=hK;cases r with
  |none=>exact hq
  |some v=>obtain⟨E1,E2,h3,_⟩:=h2;simp at h3
 |cons p es ih=>
  intro L i hL hK Q hq;cases L with
  |nil=>simp at hL
  |cons e L=>
   simp only[aU,List.cons.injEq]at hL;obtain⟨rfl,hL⟩:=hL;obtain⟨h1,h2⟩:=hK;obtain⟨off,ho⟩:=h1 _ (aj ..);dsimp only at ho;have ea:a.ev ρ=⟨(a.ev ρ).block,(a.ev ρ).off,none⟩:=by unfold AA.ev;rfl
   simp only[Instr.findAsking,bH,ho];rw[ea];refine JV hk ?_;have rest:(e.key≠.pointer (some (a.ev ρ))->sQ ρ es a r):=fun hne=>by
    refine⟨fun q hq=>h1 q (af _ hq),?_⟩;cases r with
    |none=>exact fun q hq=>h2 q (af _ hq)
    |some v=>
     obtain⟨E1,E2,h3,h4⟩:=h2;cases E1 with
     |nil=>simp only[List.nil_append,List.cons.injEq,Prod.mk.injEq]at h3;exact absurd h3.1.1 hne
     |cons q E1=>simp only[List.cons_append,List.cons.injEq]at h3;exact⟨E1,E2,h3.2,fun q' qQ=>h4 q' (af _ qQ)⟩
   by_cases hoff:(a.ev ρ).off=off
   ·have hkey:e.key=.pointer (some (a.ev ρ)):=by rw[ho,<-hoff,<-ea]
    have hb:((a.ev ρ).off==off)=true:=by simpa using hoff
    rw[hb];simp only[if_true,bI];cases r with
    |none=>exact absurd hkey (h2 _ (aj ..))
    |some v=>
     obtain⟨E1,E2,h3,h4⟩:=h2;cases E1 with
     |nil=>simp only[List.nil_append,List.cons.injEq,Prod.mk.injEq]at h3;rw[h3.1.2];exact hq i
     |cons q E1=>simp only[List.cons_append,List.cons.injEq]at h3;exact absurd (by rw[<-h3.1];exact hkey) (h4 q (aj ..))
   ·have hb:((a.ev ρ).off==off)=false:=by simpa using hoff
    rw[hb];simp only[aH,if_false];rw[<-ea];refine ih hL (rest fun hx=>hoff ?_) hq;rw[ho]at hx;simp only[Value.pointer.injEq,Option.some.injEq]at hx;rw[<-hx]
theorem pO{E:Value->World->Prop}{key:TypeId}(hk:keySize? K.P key=true){a:AA}{r:Option AV}{L:List MapEntry}(hK:sQ ρ (L.map fun e=>(e.key,e.val)) a r){Q:Option (Nat×Value)->World->Prop}(hq:Found ρ w Q r):wq K.P K.Ev E (Instr.findKey key (.pointer (some (a.ev ρ))) L) Q w:=by
 obtain⟨e,n,hu,_⟩:=pN hk;simp only[Instr.findKey,bH,bM hu];cases L with
 |nil=>
  obtain⟨_,h2⟩:=hK;cases r with
  |none=>exact hq
  |some v=>obtain⟨E1,E2,h3,_⟩:=h2;simp at h3
 |cons x L=>
  have:Instr.findNow (.pointer e) (.pointer (some (a.ev ρ))) (x::L) 0=none:=by simp[Instr.findNow,Instr.sameNow]
  rw[this];exact xq hk rfl hK hq
theorem zX{a:AA}{r:Option AV}:∀{fs:List (AA×Option AV)},Ho a fs=some r->(a,r)∈fs
 |[],h=>by cases h
 |p::l,h=>by
  have h':(match a.fe p.1 with
   |true=>some p.2
   |false=>Ho a l)=some r:=h
  split at h'
  ·rename_i he;cases h';rw[AA.cM he];exact aj ..
  ·exact af _ (zX h')
theorem Bu{P:Program}{s:Nat}{n:IE}{fs:List (AA×Option AV)}{ws:List (AV×AV)}{o:Obj}(h:(bQ.jI s n fs ws).is P ρ o):∃arr nH E,o=.map arr nH∧ρ.v s=L8 E∧E.length=(n.ev ρ).toNat∧arr.toList.map (fun e=>(e.key,e.val))=E++ws.map (fun p=>(p.1.ev ρ,p.2.ev ρ))∧∀p∈fs,sQ ρ E p.1 p.2:=by
 rcases h with⟨arr,_,h⟩|h
 ·exact h.elim
 ·exact h
theorem uy{key:TypeId}{x k:AV}{r:Option AV}(he:lookV? K.P h key x k=some r):∃i s n fs a,x=.map (some (.dyn i))∧cG i h.hp=some (.jI s n fs [])∧k=.ptr (some a)∧keySize? K.P key=true∧(a,r)∈fs:=by
 unfold lookV? at he;split at he
 ·rename_i i;split at he
  ·rename_i s n fs ws hb;split at he
   ·rename_i a hs;exact⟨i,s,n,fs,a,rfl,hb,rfl,hs,zX he⟩
   ·cases he
  ·cases he
 ·cases he
theorem nj{E:Value->World->Prop}{key:TypeId}{k:Value}{b:Bool}(hk:keyOk? K.P key=true){Q:Unit->World->Prop}(hq:Q () w):wq K.P K.Ev E (Instr.checkKey b 10000 key k) Q w:=by
 unfold keyOk? at hk;split at hk
 ·rename_i e hu;unfold Instr.checkKey;simp only[bH,bM hu];cases k<;>exact hq
 ·rename_i hu;unfold Instr.checkKey;simp only[bH,bM hu];cases k<;>exact hq
 ·rename_i kk hu;unfold Instr.checkKey;simp only[bH,bM hu];cases k<;>exact hq
 ·cases hk
theorem Bv(R:Rel K ρ h w)(G:K.Good){x:AV}{es:List (AV×AV)}(he:entries? h x=.ok es):(x=.map none∧es=[])∨∃i arr nH,x=.map (some (.dyn i))∧cG i h.hp=some (.map es)∧w.heap[ρ.b i]?=some (.map arr nH)∧arr.toList.map (fun e=>(e.key,e.val))=es.map fun p=>(p.1.ev ρ,p.2.ev ρ):=by
 unfold entries? at he;split at he
 ·cases he;exact .inl ⟨rfl,rfl⟩
 ·rename_i i;split at he
  ·rename_i es' hb;cases he;obtain⟨o,h1,h2⟩:=R.blk _ _ hb;obtain⟨arr,nH,rfl,h3⟩:=FM h2;exact .inr ⟨i,arr,nH,rfl,hb,h1,h3⟩
  ·cases he
 ·cases he
theorem JW(R:Rel K ρ h w)(G:K.Good){E:Value->World->Prop}{t:TypeId}{x k v:AV}{ok:Bool}(he:lookup? K.P K.O h t x k ok=.ok v){Q:Value->World->Prop}(hq:Q (v.ev ρ) w):wq K.P K.Ev E (Instr.lookup t (x.ev ρ) (k.ev ρ) ok) Q w:=by
 unfold lookup? at he;split at he
 ·rename_i key elem hu;split at he
  ·rename_i r hv;obtain⟨i,s,n,fs,a,rfl,hb,rfl,hks,hmem⟩:=uy hv;obtain⟨o,h1,h2⟩:=R.blk _ _ hb;obtain⟨arr,nH,L,rfl,h3,h4,h5,h6⟩:=Bu h2;have hK:sQ ρ (arr.toList.map fun e=>(e.key,e.val)) a r:=by
    rw[h5,List.map_nil,aV];exact h6 _ hmem
   simp only[Instr.lookup,bH,bM hu,AV.ev,av,BR.ev,bI];refine jP h1 (by intros;simp) (G.obj _ _ _ (R.own _ _ hb rfl)) ?_;simp only[bH,bI];refine nj (s0 hks) ?_;split at he
   ·rename_i u;cases he;refine pO hks hK ?_;intro j;simp only[bI];cases ok<;>exact hq
   ·split at he
    ·rename_i z hz;cases he;refine pO hks hK ?_;show wq K.P K.Ev E (zeroValue elem>>= _) Q w;rw[bH,ef (ρ:=ρ) hz];cases ok<;>exact hq
    ·cases he
  split at he
  ·rename_i hk;split at he
   ·rename_i es hes;have rest:∀{arr:Array MapEntry},arr.toList.map (fun e=>(e.key,e.val))=es.map (fun p=>(p.1.ev ρ,p.2.ev ρ))->
      wq K.P K.Ev E (do
       Instr.checkKey arr.isEmpty 10000 key (k.ev ρ)
       let(v,b)<-match<-Instr.findKey key (k.ev ρ) arr.toList with
        |some (_,v)=>pure (v,true)
        |none=>pure (<-zeroValue elem,false)
       pure (if ok then .tuple #[v,.bool b]else v)) Q w:=by
     intro arr hL;rw[bH];refine nj hk ?_;rw[bH];split at he
     ·rename_i u hf;cases he;refine rT R hk hL hf ?_;intro j;simp only[bI];cases ok<;>exact hq
     ·rename_i hf;split at he
      ·rename_i z hz;cases he;refine rT R hk hL hf ?_;show wq K.P K.Ev E (zeroValue elem>>= _) Q w;rw[bH,ef (ρ:=ρ) hz];cases ok<;>exact hq
      ·cases he
     ·cases he
    rcases Bv R G hes with⟨rfl,rfl⟩|⟨i,arr,nH,rfl,hb,hw,hL⟩
    ·simp only[Instr.lookup,bH,bM hu,AV.ev,aM,bI];have:=rest (arr:=#[]) rfl;simp only[bH,bI]at this;exact this
    ·simp only[Instr.lookup,bH,bM hu,AV.ev,av,BR.ev,bI];refine jP hw (by intros;simp) (G.obj _ _ _ (R.own _ _ hb rfl)) ?_;have:=rest hL;simp only[bH,bI]at this⊢;exact this
   ·cases he
  ·cases he
 ·cases he
theorem JX{P:Program}{O:dN}{key:TypeId}{k v:AV}:∀{es:List (AV×AV)},(∀p∈es,p.1.In U∧p.2.In U)->findA? P O h key k es=.ok (some v)->v.In U:=by
 intro es
 induction es with
 |nil=>intro _ he;cases he
 |cons p es ih=>
  intro hi he;obtain⟨a,u⟩:=p;have he':(match eq? P O h 8 key k a with
    |.ok (.lit true)=>.ok (some u)
    |.ok (.lit false)=>findA? P O h key k es
    |.ok _=>.error "a maps key open"
    |.error e=>.error e)=Except.ok (some v):=he
  split at he'
  ·cases he';exact(hi _ (aj ..)).2
  ·exact ih (fun p hp=>hi p (af _ hp)) he'
  ·cases he'
  ·cases he'
theorem FO(I:gf K U h){t:TypeId}{x k v:AV}{ok:Bool}(he:lookup? K.P K.O h t x k ok=.ok v):v.In U:=by
 have hb':∀{u:AV} {b:Bool},u.In U->(if ok then AV.tuple [u,.bool (.lit b)]else u).In U:=fun hu=>by
  cases ok
  ·exact hu
  ·exact⟨hu,trivial,trivial⟩
 unfold lookup? at he;split at he
 ·split at he
  ·rename_i r hv;obtain⟨i,s,n,fs,a,rfl,hb,rfl,hks,hmem⟩:=uy hv;split at he
   ·rename_i u;cases he;exact hb' ((I.hp _ _ hb).2.1 _ hmem).2
   ·split at he
    ·rename_i z hz;cases he;exact hb' (nZ hz)
    ·cases he
  split at he
  ·split at he
   ·rename_i es hes;split at he
    ·rename_i u hf;cases he;refine hb' (JX (fun p hp=>?_) hf);unfold entries? at hes;split at hes
     ·cases hes;cases hp
     ·split at hes
      ·rename_i hbk;cases hes;exact I.hp _ _ hbk p hp
      ·cases hes
     ·cases hes
    ·split at he
     ·rename_i z hz;cases he;exact hb' (nZ hz)
     ·cases he
    ·cases he
   ·cases he
  ·cases he
 ·cases he
theorem Rel.aag(R:Rel K ρ h w){i:Nat}{b b':bQ}{o':Obj}(hb:cG i h.hp=some b)(ho:b'.is K.P ρ o')(hbc:b.isChan=false)(hl:∀n,b.lp K.P ρ n->b'.lp K.P ρ n):
  Rel K ρ {h with hp:=wP i b' h.hp} {w with heap:=w.heap.setIfInBounds (ρ.b i) o'}∧bU K.own w {w with heap:=w.heap.setIfInBounds (ρ.b i) o'}:=by
 have hown:=R.own _ _ hb hbc;obtain⟨o,h1,_⟩:=R.blk _ _ hb;have hlt:=jF h1;have hne:∀m,m≠ρ.b i->(w.heap.setIfInBounds (ρ.b i) o')[m]?=w.heap[m]?:=fun m hm=>bw (fun e=>hm e.symm);refine⟨⟨fun j c hj=>?_,fun j c hj=>?_,fun j k c d hj hk e=>?_,R.bs,R.is,fun p hp=>?_,fun m hm=>R.room m (by simpa using hm),fun j c hj m hm=>?_,fun b m hm=>by have:=R.low b m hm;simpa using this⟩,⟨fun m hm=>hne m (fun e=>hm (e▸hown)),by simp,rfl,rfl,rfl⟩⟩
 ·rw[dF]at hj;split at hj
  ·rename_i e;subst e;rw[hb]at hj;cases hj;exact⟨o',by simp[hlt],ho⟩
  ·rename_i e;obtain⟨o2,ha',hf'⟩:=R.blk _ _ hj;refine⟨o2,?_,hf'⟩;show(w.heap.setIfInBounds (ρ.b i) o')[_]?=_;rw[hne _ (fun x=>e (R.inj _ _ _ _ hj hb x)),ha']
 ·rw[dF]at hj;split at hj
  ·rename_i e;subst e;exact .inl hown
  ·exact R.rN _ _ hj
 ·rw[dF]at hj hk;split at hj<;>split at hk
  ·rename_i e1 e2;exact e1.trans e2.symm
  ·rename_i e1 e2;subst e1;exact R.inj _ _ _ _ hb hk e
  ·rename_i e1 e2;subst e2;exact R.inj _ _ _ _ hj hb e
  ·exact R.inj _ _ _ _ hj hk e
 ·obtain⟨m1,m2,m3⟩:=R.mem p hp;refine⟨m1,?_,m3⟩;simp only[World.cell?]at m2⊢;rw[hne _ (fun x=>m1 (by rw[x];exact hown))];exact m2
 ·rw[dF]at hj;split at hj
  ·rename_i e;subst e;rw[hb]at hj;cases hj;exact hl m (R.gp _ _ hb m hm)
  ·exact R.gp _ _ hj m hm
theorem pP(I:gf K U h){t:TypeId}{x k v:AV}{h':AH}(hk:k.In U)(hv:v.In U)(he:mapUpdate? K.P K.O h t x k v=.ok h'):gf K U h'∧h'.nb=h.nb∧h'.lim=h.lim:=by
 unfold mapUpdate? at he;split at he
 ·split at he
  ·rename_i es hb;split at he
   ·split at he
    ·cases he;refine⟨⟨fun j c hj=>?_,fun j hj=>I.keys j (by rw[jb]at hj;exact hj),by rw[jb];exact I.nodup,I.fresh,I.Co⟩,rfl,rfl⟩;rw[dF]at hj;split at hj
     ·rw[hb]at hj;cases hj;intro p hp;rcases aT.1 hp with hp|hp
      ·exact I.hp _ _ hb p hp
      ·obtain rfl:=ah.1 hp;exact⟨hk,hv⟩
     ·exact I.hp _ _ hj
    ·cases he
    ·cases he
   ·cases he
  ·rename_i s n fs ws hb;split at he
   ·cases he;refine⟨⟨fun j c hj=>?_,fun j hj=>I.keys j (by rw[jb]at hj;exact hj),by rw[jb];exact I.nodup,I.fresh,I.Co⟩,rfl,rfl⟩;rw[dF]at hj;split at hj
    ·rw[hb]at hj;cases hj;obtain⟨i1,i2,i3⟩:=I.hp _ _ hb;refine⟨i1,i2,fun p hp=>?_⟩;rcases aT.1 hp with hp|hp
     ·exact i3 p hp
     ·obtain rfl:=ah.1 hp;exact⟨hk,hv⟩
    ·exact I.hp _ _ hj
   ·cases he
  ·cases he
 ·cases he
theorem s9(R:Rel K ρ h w)(G:K.Good){E:Value->World->Prop}{t:TypeId}{x k v:AV}{h':AH}(he:mapUpdate? K.P K.O h t x k v=.ok h'){Q:Unit->World->Prop}(hq:∀w',Rel K ρ h' w'->bU K.own w w'->Q () w'):wq K.P K.Ev E (Instr.mapUpdate t (x.ev ρ) (k.ev ρ) (v.ev ρ)) Q w:=by
 unfold mapUpdate? at he;split at he
 ·rename_i key elem i hu;split at he
  ·rename_i es hb;split at he
   ·rename_i hk;split at he
    ·rename_i hf;cases he;obtain⟨o,h1,h2⟩:=R.blk _ _ hb;obtain⟨arr,nH,rfl,h3⟩:=FM h2;have own:=R.own _ _ hb rfl;simp only[Instr.mapUpdate,bH,bM hu,AV.ev,av,BR.ev];refine jP h1 (by intros;simp) (G.obj _ _ _ own) ?_;simp only[bH];refine nj hk ?_;refine rT R hk h3 hf ?_;refine ux h1 (by intros;simp) (G.obj _ _ _ own) ?_;obtain⟨r1,r2⟩:=R.aag hb (b':=.map (es++[(k,v)])) (o':=.map (arr.push {key:=k.ev ρ,val:=v.ev ρ,born:=nH}) (nH+1)) (.inr ⟨_,_,rfl,by simp[h3]⟩) rfl (fun n hn=>by cases hn);exact hq _ r1 r2
    ·cases he
    ·cases he
   ·cases he
  ·rename_i s n fs ws hb;split at he
   ·rename_i hv;cases he;obtain⟨i',s',n',fs',a,hx,hb',rfl,hks,hmem⟩:=uy hv;cases hx;rw[hb]at hb';cases hb';obtain⟨o,h1,h2⟩:=R.blk _ _ hb;obtain⟨arr,nH,L,rfl,h3,h4,h5,h6⟩:=Bu h2;have own:=R.own _ _ hb rfl;have hK:sQ ρ (arr.toList.map fun e=>(e.key,e.val)) a none:=by
     rw[h5,List.map_nil,aV];exact h6 _ hmem
    simp only[Instr.mapUpdate,bH,bM hu,AV.ev,av,BR.ev];refine jP h1 (by intros;simp) (G.obj _ _ _ own) ?_;simp only[bH];refine nj (s0 hks) ?_;refine pO hks hK ?_;refine ux h1 (by intros;simp) (G.obj _ _ _ own) ?_;obtain⟨r1,r2⟩:=R.aag hb (b':=.jI s n fs ([]++[(.ptr (some a),v)])) (o':=.map (arr.push {key:=.pointer (some (a.ev ρ)),val:=v.ev ρ,born:=nH}) (nH+1)) (.inr ⟨_,_,L,rfl,h3,h4,by simp[h5,AV.ev],h6⟩) rfl (fun n hn=>by cases hn);exact hq _ r1 r2
   ·cases he
  ·cases he
 ·cases he
end
def jE.ev(ρ:Env):jE->Target
 |.fn f c=>.fn f (AV.evs ρ c).toArray
 |.builtin b a t c=>.builtin b a t c
def AD.ev(ρ:Env)(d:AD):Deferred:={target:=d.target.ev ρ,args:=(AV.evs ρ d.args).toArray}
def jE.In(U:Nat->Prop):jE->Prop
 |.fn _ c=>AV.Ins U c
 |.builtin _ _ _ _=>True
def AD.In(U:Nat->Prop)(d:AD):Prop:=d.target.In U∧AV.Ins U d.args
def AN.is(ρ:Env):AN->Next->Prop
 |.value v,nx=>nx=.value (v.ev ρ)
 |.skip,nx=>nx=.skip
 |.enter f args,nx=>nx=.enter f (AV.evs ρ args).toArray
 |.defer d,nx=>nx=.defer (d.ev ρ)
 |.recover,nx=>nx=.recover
 |.panic _,_=>False
def AN.In(U:Nat->Prop):AN->Prop
 |.value v=>v.In U
 |.skip=>True
 |.enter _ args=>AV.Ins U args
 |.defer d=>d.In U
 |.recover=>True
 |.panic v=>v.In U
structure sB(K:Ctx)(U:Nat->Prop)(ρ:Env)(h:AH)(w:World)(s:Sem Next)(n:AN)(h':AH):Prop where
 mem:n.In (plus U h.nb h'.nb)
 qP:dg K U h h'
 run:∀{E:Value->World->Prop} {Q:Next->World->Prop},(∀nx w',After K U ρ w h' (fun ρ'=>n.is ρ' nx) w'->Q nx w')->(∀v,n=.panic v->h'=h->E (v.ev ρ) w)->wq K.P K.Ev E s Q w
section
variable {K:Ctx}{ρ:Env}{h:AH}{w:World}{U:Nat->Prop}
theorem gY{r:M AV}{n:AN}{h':AH}(he:kX r h=.ok (n,h')):∃v,r=.ok v∧n=.value v∧h'=h:=by
 unfold kX at he;split at he
 ·cases he;exact⟨_,rfl,rfl,rfl⟩
 ·cases he
theorem iP{r:M (AV×AH)}{n:AN}{h':AH}(he:kR r=.ok (n,h')):∃v,r=.ok (v,h')∧n=.value v:=by
 unfold kR at he;split at he
 ·cases he;exact⟨_,rfl,rfl⟩
 ·cases he
theorem uz{r:M AH}{n:AN}{h':AH}(he:wQ r=.ok (n,h')):r=.ok h'∧n=.skip:=by
 unfold wQ at he;split at he
 ·cases he;exact⟨rfl,rfl⟩
 ·cases he
theorem nP.next{s:Sem Value}{v:AV}{h':AH}(H:nP K U ρ h w s v h'):sB K U ρ h w (do Pure.pure (.value (<-s))) (.value v) h':=
 ⟨H.mem,H.qP,fun hq _=>by simp only[bH,bI];exact H.run fun x w' ⟨ρ',a1,a2,a3,a4⟩=>hq _ _ ⟨ρ',a1,a2,a3,by rw[a4];rfl⟩⟩
theorem sB.pure(R:Rel K ρ h w)(I:gf K U h){s:Sem Value}{v:AV}(hi:v.In U)(hw:∀{E Q:Value->World->Prop},Q (v.ev ρ) w->wq K.P K.Ev E s Q w):sB K U ρ h w (do Pure.pure (.value (<-s))) (.value v) h:=
 (nP.pure R I hi hw).next
theorem Vf{E:Value->World->Prop}{argTypes:Array TypeId}{ty t:TypeId}{x:AV}{e:IE}(ht:argTypes[0]?=some t)(R:Rel K ρ h w)(G:K.Good)(he:lenOf? K.P h t x=.ok e){Q:Value->World->Prop}(hq:Q (.int .i64 (e.ev ρ)) w):
  wq K.P K.Ev E (Builtin.len_ argTypes ty #[x.ev ρ]) Q w:=by
 unfold lenOf? at he;simp only[bJ]at he;obtain⟨D,hD,he⟩:=he;simp only[Builtin.len_,ht,List.getElem?_toArray,List.getElem?_cons_zero,bH,bM (c8 hD)];split at he
 ·rw[bL]at he;subst he;exact hq
 ·rw[bL]at he;subst he;exact hq
 ·rw[bL]at he;subst he;simp only;exact hq
 ·rw[bL]at he;subst he;exact hq
 ·rw[bL]at he;subst he;exact hq
 ·rw[bL]at he;subst he;exact hq
 ·rw[bL]at he;subst he;exact hq
 ·rename_i i;split at he
  ·rename_i es hb;rw[bL]at he;subst he;obtain⟨o,h1,h2⟩:=R.blk _ _ hb;obtain⟨arr,nH,rfl,h3⟩:=FM h2;simp only[AV.ev,av,BR.ev,bH];refine jP h1 (by intros;simp) (G.obj _ _ _ (R.own _ _ hb rfl)) ?_;have:arr.size=es.length:=by have:=congrArg aR h3;simpa using this
   simp only[this];exact hq
  ·rename_i s n fs ws hb;split at he
   ·rw[bL]at he;subst he;obtain⟨o,h1,h2⟩:=R.blk _ _ hb;obtain⟨arr,nH,L,rfl,h3,h4,h5,h6⟩:=Bu h2;simp only[AV.ev,av,BR.ev,bH];refine jP h1 (by intros;simp) (G.obj _ _ _ (R.own _ _ hb rfl)) ?_;have:arr.size=(n.ev ρ).toNat:=by
     have:=congrArg aR h5;rw[<-h4];simpa using this
    simp only[this];exact hq
   ·cases he
  ·cases he
 ·cases he
theorem JY(I:gf K U h){t:TypeId}{x:AV}{e:IE}(he:lenOf? K.P h t x=.ok e)(hx:x.In U):e.In U:=by
 unfold lenOf? at he;simp only[bJ]at he;obtain⟨D,hD,he⟩:=he;split at he
 ·rw[bL]at he;subst he;trivial
 ·rw[bL]at he;subst he;trivial
 ·rw[bL]at he;subst he;trivial
 ·rw[bL]at he;subst he;exact hx.2.1
 ·rw[bL]at he;subst he;trivial
 ·rw[bL]at he;subst he;trivial
 ·rw[bL]at he;subst he;trivial
 ·split at he
  ·rw[bL]at he;subst he;trivial
  ·rename_i s n fs ws hb;split at he
   ·rw[bL]at he;subst he;exact(I.hp _ _ hb).1
   ·cases he
  ·cases he
 ·cases he
theorem Vg(R:Rel K ρ h w){E:Value->World->Prop}:∀{l:List AV} {x v:AV},minMax? K.O false x l=.ok v->∀{Q:Value->World->Prop},Q (v.ev ρ) w->wq K.P K.Ev E ((AV.evs ρ l).foldlM Builtin.min2 (x.ev ρ)) Q w:=by
 intro l
 induction l with
 |nil=>intro x v he Q hq;simp[minMax?]at he;subst he;exact hq
 |cons y l ih=>
  intro x v he Q hq;unfold minMax? at he;split at he
  ·rename_i oE;cases oE
  ·rename_i k x' k' y' l' hl;cases hl;split at he
   ·rename_i hk;subst hk;simp only[bJ]at he;obtain⟨t,ht,he⟩:=he;have hd:=lq R ht;simp only[aH,if_false,BE.ev,Ci]at hd;simp only[AV.evs,List.foldlM_cons,bH,AV.ev,Builtin.min2,bI];have:=ih he hq;simp only[AV.ev]at this;by_cases hlt:y'.ev ρ<x'.ev ρ
    ·rw[if_pos hlt];have ht':t=true:=by rw[<-hd];exact decide_eq_true hlt
     subst ht';exact this
    ·rw[if_neg hlt];have ht':t=false:=by rw[<-hd];exact decide_eq_false hlt
     subst ht';exact this
   ·cases he
  ·cases he
theorem Vh(R:Rel K ρ h w){E:Value->World->Prop}:∀{l:List AV} {x v:AV},minMax? K.O true x l=.ok v->∀{Q:Value->World->Prop},Q (v.ev ρ) w->wq K.P K.Ev E ((AV.evs ρ l).foldlM Builtin.max2 (x.ev ρ)) Q w:=by
 intro l
 induction l with
 |nil=>intro x v he Q hq;simp[minMax?]at he;subst he;exact hq
 |cons y l ih=>
  intro x v he Q hq;unfold minMax? at he;split at he
  ·rename_i oE;cases oE
  ·rename_i k x' k' y' l' hl;cases hl;split at he
   ·rename_i hk;subst hk;simp only[bJ]at he;obtain⟨t,ht,he⟩:=he;have hd:=lq R ht;simp only[if_true,BE.ev,Ci]at hd;simp only[AV.evs,List.foldlM_cons,bH,AV.ev,Builtin.max2,bI];have:=ih he hq;simp only[AV.ev]at this;by_cases hlt:y'.ev ρ>x'.ev ρ
    ·rw[if_pos hlt];have ht':t=true:=by rw[<-hd];exact decide_eq_true hlt
     subst ht';exact this
    ·rw[if_neg hlt];have ht':t=false:=by rw[<-hd];exact decide_eq_false hlt
     subst ht';exact this
   ·cases he
  ·cases he
theorem xu{O:dN}{mx:Bool}:∀{l:List AV} {x v:AV},minMax? O mx x l=.ok v->x.In U->AV.Ins U l->v.In U:=by
 intro l
 induction l with
 |nil=>intro x v he hx _;simp[minMax?]at he;subst he;exact hx
 |cons y l ih=>
  intro x v he hx hl;unfold minMax? at he;split at he
  ·rename_i oE;cases oE
  ·rename_i k x' k' y' l' hl';cases hl';split at he
   ·simp only[bJ]at he;obtain⟨t,ht,he⟩:=he;refine ih he ?_ hl.2;cases t
    ·exact hx
    ·exact hl.1
   ·cases he
  ·cases he
theorem Mt(G:K.Good)(R:Rel K ρ h w)(I:gf K U h){argTypes:Array TypeId}{ty:TypeId}{d s v:AV}{h':AH}(hdi:d.In U)(he:copy? K.P K.O h argTypes d s=.ok (v,h')):nP K U ρ h w (Builtin.copy_ argTypes ty #[d.ev ρ,s.ev ρ]) v h':=by
 unfold copy? at he;split at he
 ·rename_i dType h0;simp only[bJ]at he;obtain⟨D,hD,he⟩:=he;split at he
  ·rename_i elem;simp only[bJ]at he;obtain⟨size,hs,he⟩:=he;split at he
   ·rename_i base dl c sb sl c2;simp only[bJ]at he;obtain⟨m,hm,n,hn,new,hnew,he⟩:=he;obtain rfl:=iO hm;obtain rfl:=iO hn;have e0:(Int.ofNat m).toNat=m:=rfl;have e1:(Int.ofNat n).toNat=n:=rfl;have first:∀{E:Value->World->Prop} {Q':Array Value->World->Prop},Q' (AV.evs ρ new).toArray w->wq K.P K.Ev E (Builtin.firstCells size (Nat.min m n) (.slice (sb.map (AA.ev ρ)) m (c2.ev ρ).toNat)) Q' w:=by
     intro E Q' qQ;unfold copyFrom? at hnew;split at hnew
     ·simp only[av,Builtin.firstCells,loadCells];exact k6 R G hnew (by simpa using qQ)
     ·cases hnew;exact qQ
    have afj:AV.Ins U new:=by
     unfold copyFrom? at hnew;split at hnew
     ·exact sS I hnew
     ·cases hnew;trivial
    have front:∀{E:Value->World->Prop} {Q:Value->World->Prop},wq K.P K.Ev E (do
      if let some a:=base.map (AA.ev ρ)then storeCells a (AV.evs ρ new)
      Pure.pure (goInt (Nat.min m n:Nat)):Sem Value) Q w->wq K.P K.Ev E (Builtin.copy_ argTypes ty #[(AV.slice base (.lit (.ofNat n)) c).ev ρ,(AV.slice sb (.lit (.ofNat m)) c2).ev ρ]) Q w:=by
     intro E Q hq;simp only[Builtin.copy_,h0,List.getElem?_toArray,List.getElem?_cons_zero,List.getElem?_cons_succ,bH,bM (c8 hD),AV.ev,IE.ev,e0,e1,Builtin.lenOf,bI,c9 hs];refine first ?_
     exact hq
    unfold copyTo? at he;split at he
    ·rename_i a;split at he
     ·rename_i h2 hst;cases he;have hnb:=uv hst;refine⟨trivial,dg.of_same (rQ hdi.1 I hst afj) hnb.1 hnb.2,fun{E Q} hq=>front ?_⟩;simp only[av,bH];refine oC G R hst fun w' r1 r2 _ _=>?_;exact hq _ _ ⟨ρ,cz.refl _ _,r1,r2,rfl⟩
     ·cases he
    ·cases he;refine nP.pure R I trivial fun{E Q} hq=>front ?_;simp only[aM,bH,bI];exact hq
   ·cases he
  ·cases he
 ·cases he
theorem CK(G:K.Good)(R:Rel K ρ h w)(I:gf K U h){b:Builtin}{argTypes:Array TypeId}{ty:TypeId}{consts:Array Bool}{args:List AV}{n:AN}{h':AH}(ha:AV.Ins U args)(he:builtin? K.P K.O h b argTypes args=.ok (n,h')):
  sB K U ρ h w (builtin b argTypes ty consts (AV.evs ρ args).toArray) n h':=by
 unfold builtin? at he;split at he
 ·rename_i x;split at he
  ·rename_i t ht;split at he
   ·rename_i e hl;cases he;exact sB.pure R I (v:=.int .i64 (K.O.int e)) (rR I (JY I hl ha.1)) fun{E Q} hq=>Vf ht R G hl (by simpa only[AV.ev,mq R] using hq)
   ·cases he
  ·cases he
 ·rename_i a l c;split at he
  ·rename_i t ht;split at he
   ·rename_i elem hD;cases he;refine sB.pure R I (v:=.int .i64 (K.O.int (.tn c))) (rR I ha.1.2.2) fun{E Q} hq=>?_;simp only[AV.ev,mq R,IE.ev]at hq;simp only[AV.evs,AV.ev,Builtin.cap_,ht,List.getElem?_toArray,List.getElem?_cons_zero,bH,bM (c8 hD),bI];exact hq
   ·cases he
  ·cases he
 ·obtain⟨v,hv,rfl⟩:=iP he;exact(FL G R I ha.1 ha.2.1 hv).next
 ·obtain⟨v,hv,rfl⟩:=iP he;exact(Mt G R I ha.1 hv).next
 ·rename_i x l;obtain⟨v,hv,rfl,rfl⟩:=gY he;exact sB.pure R I (xu hv ha.1 ha.2) fun{E Q} hq=>Vg R hv hq
 ·rename_i x l;obtain⟨v,hv,rfl,rfl⟩:=gY he;exact sB.pure R I (xu hv ha.1 ha.2) fun{E Q} hq=>Vh R hv hq
 ·cases he;exact⟨trivial,dg.refl I,fun hq _=>hq _ _ (After.same R rfl)⟩
 ·rename_i t v;cases he;exact⟨AV.In.mono ck (.iface t v) ha.1,dg.refl I,fun hq hE=>hE _ rfl rfl⟩
 ·cases he
end
def Mu(P:Program)(f:FuncId):Bool:=
 match P.funcs[f]? with
 |some fn=>!(fn.name== "runtime.NumGoroutine")&&fn.body.isSome
 |none=>false
structure s_(P:Program)(f:FuncId)(e:Array Value->Sem Value):Prop where
 fact:∃fn,P.funcs[f]?=some fn∧(fn.name== "runtime.NumGoroutine")=false∧fn.body.isNone=true∧Extern.findNext fn=none∧Extern.find fn=some e
structure Ctx.iQ(K:Ctx):Prop where
 fns:K.O.fns.all (Mu K.P)=true
 ext:∀p∈K.O.ext,s_ K.P p.1 p.2
 mixed:K.P.follows .mixedOrders=true
section
variable {K:Ctx}{ρ:Env}{h:AH}{w:World}{U:Nat->Prop}
theorem Mv{E:Value->World->Prop}{f:FuncId}{args:Array Value}(hf:Mu K.P f=true){Q:Next->World->Prop}(hq:Q (.enter f args) w):wq K.P K.Ev E (callFunc f args) Q w:=by
 unfold Mu at hf;split at hf
 ·rename_i fn hfn;simp only[aq,Bool.not_eq_true']at hf;simp only[callFunc,bH,iM,hfn];rw[if_neg (by rw[hf.1];simp),if_neg (by have:=hf.2;revert this;cases fn.body<;>simp)];exact hq
 ·cases hf
theorem zY(G:K.Good){E:Value->World->Prop}{f:FuncId}{e:Array Value->Sem Value}{args:Array Value}(hf:s_ K.P f e){Q:Next->World->Prop}(hq:wq K.P K.Ev E (e args) (fun v w=>Q (.value v) w) w):wq K.P K.Ev E (callFunc f args) Q w:=by obtain⟨fn,h1,h2,h3,h4,h5⟩:=hf.fact;simp only[callFunc,bH,iM,h1];rw[if_neg (by rw[h2];simp),if_pos h3];simp only[bH,oA,h4,h5,bI];exact⟨G.ext _ rfl,hq⟩
def iR(K:Ctx)(ext:Ext):Prop:=∀{U:Nat->Prop} {ρ:Env} {h:AH} {w:World} {f:FuncId} {args:List AV} {v:AV} {h':AH},Rel K ρ h w->gf K U h->AV.Ins U args->ext h f args=.ok (v,h')->
 sB K U ρ h w (callFunc f (AV.evs ρ args).toArray) (.value v) h'
theorem ta(G:K.Good)(F:K.iQ){ext:Ext}(X:iR K ext)(R:Rel K ρ h w)(I:gf K U h){f:FuncId}{args:List AV}{n:AN}{h':AH}(ha:AV.Ins U args)(he:invokeFn? K.P K.O ext h f args=.ok (n,h')):
  sB K U ρ h w (callFunc f (AV.evs ρ args).toArray) n h':=by
 have FP:∀{r:M (AV×AH)},r=ext h f args->(match r with|.ok (v,h)=>(.ok (.value v,h):M (AN×AH))|.error e=>.error e)=.ok (n,h')->sB K U ρ h w (callFunc f (AV.evs ρ args).toArray) n h':=by
  intro r hr hh;split at hh
  ·cases hh;exact X R I ha hr.symm
  ·cases hh
 unfold invokeFn? at he;split at he
 ·rename_i hc;cases he;have hf:Mu K.P f=true:=aE.1 F.fns f (by simpa using hc);exact⟨AV.Ins.mono ck _ ha,dg.refl I,fun hq _=>Mv hf (hq _ _ (After.same R rfl))⟩
 ·split at he
  ·rename_i e hl;obtain⟨x,hx,hxe⟩:=jc hl;have:f=x:=by simpa using hxe
   subst this;split at he
   ·rename_i vs hvs;split at he
    ·rename_i v hv;cases he;refine⟨mj _,dg.refl I,fun hq _=>zY G (F.ext _ hx) ?_⟩;rw[lW ρ args hvs];exact gu hv (hq _ _ (After.same R (by simp[AN.is,mh])))
    ·exact FP rfl he
   ·exact FP rfl he
  ·exact FP rfl he
theorem JZ{E:Value->World->Prop}{t:TypeId}{v r:AV}{name:String}{f:FuncId}(he:method? K.P t v name=.ok (f,r)){Q:FuncId×Value->World->Prop}(hq:Q (f,r.ev ρ) w):
  wq K.P K.Ev E (method (K.P.types.size+Made.depth) t (v.ev ρ) name) Q w:=by
 unfold method? at he;split at he
 ·cases he
 ·rename_i i hi;split at he
  ·cases he
  ·rename_i m hm;split at he
   ·rename_i hp;obtain⟨d,hd⟩:∃d,K.P.types.size+Made.depth=d+1:=⟨K.P.types.size+99,rfl⟩;have hpe:m.path.toList=[]:=by simpa using hp
    rw[hd];simp only[method,bH,dP hi,hm,hpe,follow,bI];split at he
    ·rename_i f' hf;split at he
     ·rename_i e hu;cases he;simp only[hf,receiverAt,bH,bM hu,Place.get,bI];exact hq
     ·cases he
    ·rename_i f' hf;split at he
     ·cases he
     ·rename_i D hnp hu;cases he;simp only[hf,receiverAt,bH,bM hu];cases D<;>first
       |exact absurd hu (hnp _)
       |exact hq
     ·cases he
    ·cases he
   ·split at he
    ·rename_i u hu;split at he
     ·rename_i f' r' hr;cases he;rw[Bn ρ v hu];exact gu hr (by simpa[mh] using hq)
     ·cases he
    ·cases he
theorem FQ{P:Program}{t:TypeId}{v r:AV}{name:String}{f:FuncId}(he:method? P t v name=.ok (f,r))(hv:v.In U):r.In U:=by
 unfold method? at he;split at he
 ·cases he
 ·split at he
  ·cases he
  ·split at he
   ·split at he
    all_goals try (split at he)
    all_goals first|(cases he;exact hv)|cases he
   ·split at he
    ·split at he
     ·cases he;exact mj _
     ·cases he
    ·cases he
theorem rU(G:K.Good)(F:K.iQ){ext:Ext}(X:iR K ext)(R:Rel K ρ h w)(I:gf K U h){d:AD}{n:AN}{h':AH}(hd:d.In U)(he:invoke? K.P K.O ext h d=.ok (n,h')):
  sB K U ρ h w (invoke (d.target.ev ρ) (AV.evs ρ d.args).toArray) n h':=by
 obtain⟨target,args⟩:=d;obtain⟨oV,b_⟩:=hd;unfold invoke? at he;dsimp only at he oV b_⊢;split at he
 ·exact CK G R I b_ he
 ·rename_i f captured;have e:invoke (jE.ev ρ (.fn (.func f) captured)) (AV.evs ρ args).toArray=callFunc f (AV.evs ρ (args++captured)).toArray:=by
   simp[jE.ev,invoke,jK]
  rw[e];exact ta G F X R I (cW.2 fun a ha=>(aT.1 ha).elim (cW.1 b_ a) (cW.1 oV a)) he
 ·rename_i name captured;split at he
  ·rename_i t v args';split at he
   ·rename_i f r hm;have hr:=FQ hm b_.1;obtain⟨r1,r2,r3⟩:=ta G F X R I (args:=r::args') ⟨hr,b_.2⟩ he;refine⟨r1,r2,fun{E Q} hq hE=>?_⟩;have e:(AV.evs ρ (AV.iface t v::args')).toArray=#[.iface t (v.ev ρ)]++(AV.evs ρ args').toArray:=by simp[AV.evs,AV.ev]
    simp only[jE.ev,invoke,e];have e0:(#[Value.iface t (v.ev ρ)]++(AV.evs ρ args').toArray)[0]?=some (.iface t (v.ev ρ)):=by simp
    have e1:(#[Value.iface t (v.ev ρ)]++(AV.evs ρ args').toArray).extract 1 (#[Value.iface t (v.ev ρ)]++(AV.evs ρ args').toArray).size=(AV.evs ρ args').toArray:=by simp
    rw[e0];simp only[callMethod,e1,bH,iM];refine JZ hm ?_;have e2:#[r.ev ρ]++(AV.evs ρ args').toArray=(AV.evs ρ (r::args')).toArray:=by simp[AV.evs]
    simp only[e2];exact r3 hq hE
   ·cases he
  ·cases he
 ·cases he
theorem CL(I:gf K U h){t:TypeId}{a:AA}{v:AV}{h':AH}(hs:storeS? K.P K.O h t a v=.ok h')(ha:a.In U)(hv:v.In U):gf K U h'∧h'.nb=h.nb∧h'.lim=h.lim:=by
 have old:∀{h':AH},storeVar? K.P h t a v=.ok h'->gf K U h'∧h'.nb=h.nb∧h'.lim=h.lim:=fun hs=>by
  refine⟨qM I hs ha hv,?_⟩;unfold storeVar? at hs;simp only[bJ]at hs;obtain⟨cs,hc,nn,hn,hs⟩:=hs;split at hs
  ·exact uv hs
  ·cases hs
 unfold storeS? at hs;split at hs
 ·split at hs
  ·unfold storeRow? at hs;simp only[bJ]at hs;obtain⟨cs,hc,hs⟩:=hs;split at hs
   ·simp only[bJ]at hs;obtain⟨size,hsz,ok,hok,n,hn,hs⟩:=hs;split at hs<;>cases hs;exact⟨I,rfl,rfl⟩
   ·cases hs
  ·exact old hs
 ·exact old hs
theorem xw{E:Value->World->Prop}{tc:Operand->AV}{c:Call}{ty:TypeId}{d:AD}(he:resolve? tc c ty=.ok d){Q:Deferred->World->Prop}(hq:Q (d.ev ρ) w):wq K.P K.Ev E (resolve (fun x=>(tc x).ev ρ) c ty) Q w:=by
 have hargs:c.args.map (fun x=>(tc x).ev ρ)=(AV.evs ρ (c.args.toList.map tc)).toArray:=by rw[ja,List.map_map];apply Array.toList_inj.1;simp[Function.comp_def]
 unfold resolve? at he;split at he
 ·rename_i b hb;cases he;simp only[resolve,hb,hargs,bI];exact hq
 ·rename_i recv name hb;cases he;simp only[resolve,hb,hargs,bI];have:#[(tc recv).ev ρ]++(AV.evs ρ (c.args.toList.map tc)).toArray=(AV.evs ρ (tc recv::c.args.toList.map tc)).toArray:=by simp[AV.evs]
  rw[this];exact hq
 ·rename_i f hb;split at he
  ·rename_i fn first captured hf
   cases he;simp only[resolve,hb,hargs,hf,AV.ev,Deferred.ofValue,bI];have:(AV.evs ρ first).toArray++(AV.evs ρ (c.args.toList.map tc)).toArray=(AV.evs ρ (first++c.args.toList.map tc)).toArray:=by simp[jK]
   rw[this];exact hq
  ·cases he
theorem u7{tc:Operand->AV}{c:Call}{ty:TypeId}{d:AD}(he:resolve? tc c ty=.ok d)(hA:∀x,(tc x).In U):d.In U:=by
 have hargs:AV.Ins U (c.args.toList.map tc):=cW.2 fun a ha=>by obtain⟨x,_,rfl⟩:=bf.1 ha;exact hA x
 unfold resolve? at he;split at he
 ·cases he;exact⟨trivial,hargs⟩
 ·cases he;exact⟨trivial,hA _,hargs⟩
 ·rename_i f hb;split at he
  ·rename_i fn first captured hf
   cases he;have:=hA f;rw[hf]at this;exact⟨this.2,cW.2 fun a ha=>(aT.1 ha).elim (cW.1 this.1 a) (cW.1 hargs a)⟩
  ·cases he
theorem Mw(G:K.Good)(F:K.iQ){ext:Ext}(X:iR K ext)(R:Rel K ρ h w)(I:gf K U h){tc:Operand->AV}(hA:∀x,(tc x).In U){o:Oper}{n:AN}{h':AH}(he:op? K.P K.O ext h tc o=.ok (n,h')):
  sB K U ρ h w (execOp (fun x=>(tc x).ev ρ) o) n h':=by
 have aah:∀(parts:Array (Nat×Operand)),(parts.map fun(i,x)=>(i,(tc x).ev ρ))=((parts.toList.map fun(i,x)=>(i,tc x)).map fun p=>(p.1,p.2.ev ρ)).toArray:=fun parts=>by apply Array.toList_inj.1;simp[Function.comp_def]
 have in2:∀(parts:Array (Nat×Operand)),∀p∈(parts.toList.map fun(i,x)=>(i,tc x)),p.2.In U:=fun parts p hp=>by obtain⟨q,_,rfl⟩:=bf.1 hp;exact hA _
 have inm:∀(l:List Operand),AV.Ins U (l.map tc):=fun l=>cW.2 fun a ha=>by obtain⟨x,_,rfl⟩:=bf.1 ha;exact hA x
 have xx:∀{v:AV},v.In U->(AN.value v).In (plus U h.nb h.nb):=fun hv=>AV.In.mono ck _ hv;unfold op? at he;unfold execOp;split at he
 ·rename_i x ho;cases he;simp only[ho];exact⟨xx (hA x),dg.refl I,fun hq _=>hq _ _ (After.same R rfl)⟩
 ·rename_i x ho;cases he;simp only[ho];exact⟨xx (hA x),dg.refl I,fun hq _=>hq _ _ (After.same R rfl)⟩
 ·rename_i c a b ho;simp only[ho];split at he
  ·rename_i t ht;split at he
   ·rename_i t' ht';cases he;have hb:=jY R ht';refine⟨xx (by split;exact hA a;exact hA b),dg.refl I,fun hq _=>?_⟩;simp only[ht,AV.ev,asBool,bH,bI,hb];exact hq _ _ (After.same R (by cases t'<;>rfl))
   ·cases he
  ·cases he
 ·rename_i elem ho;simp only[ho];split at he
  ·rename_i z hz;split at he
   ·rename_i cs hc;obtain⟨v,hv,rfl⟩:=iP he;exact(Mo R I hz hc hv).next
   ·cases he
  ·cases he
 ·rename_i elem x ho;simp only[ho];split at he
  ·rename_i cs hc;obtain⟨v,hv,rfl⟩:=iP he;exact(U7 R I (hA x) hc hv).next
  ·cases he
 ·rename_i t parts ho;simp only[ho];obtain⟨v,hv,rfl,rfl⟩:=gY he;rw[aah];exact sB.pure R I (JO hv (in2 parts)) fun{E Q} hq=>Mn hv hq
 ·rename_i t len parts ho;simp only[ho];obtain⟨v,hv,rfl⟩:=iP he;rw[aah];exact(zn R I (in2 parts) hv).next
 ·rename_i t a ho;simp only[ho];split at he
  ·rename_i a' ha;obtain⟨v,hv,rfl,rfl⟩:=gY he;refine sB.pure R I (m8 I hv) fun{E Q} hq=>?_;rw[jZ ha];simp only[Instr.loadAt,AV.ev,av,Instr.sureAddr,bH,bI];exact kI R G hv hq
  ·cases he
 ·rename_i t a x ho;simp only[ho];split at he
  ·rename_i a' ha;obtain⟨hv,rfl⟩:=uz he;obtain⟨I',hnb⟩:=CL I hv (by have:=hA a;rw[jZ ha]at this;exact this) (hA x);refine⟨trivial,dg.of_same I' hnb.1 hnb.2,fun hq _=>?_⟩;rw[jZ ha];simp only[Instr.storeAt,AV.ev,av,Instr.sureAddr,bH,bI];exact JH R G hv fun w' r1 r2=>hq _ _ ⟨ρ,cz.refl _ _,r1,r2,rfl⟩
  ·cases he
 ·rename_i x ho;simp only[ho];split at he
  ·rename_i a ha;cases he;have hx:=hA x;rw[ha]at hx;refine⟨xx hx,dg.refl I,fun hq _=>?_⟩;simp only[ha,AV.ev,av,bI];exact hq _ _ (After.same R rfl)
  ·rename_i t v ha;cases he;have hx:=hA x;rw[ha]at hx;refine⟨xx hx,dg.refl I,fun hq _=>?_⟩;simp only[ha,AV.ev,bI];exact hq _ _ (After.same R rfl)
  ·rename_i f a b ha;cases he;have hx:=hA x;rw[ha]at hx;refine⟨xx hx,dg.refl I,fun hq _=>?_⟩;simp only[ha,AV.ev,bI];exact hq _ _ (After.same R rfl)
  ·cases he
 ·rename_i op t x y yt ho;simp only[ho];split at he
  ·rename_i hg;obtain⟨v,hv,rfl,rfl⟩:=gY he;refine sB.pure R I (JL I hv (hA x) (hA y)) fun{E Q} hq=>?_;rw[bH];exact Fw hg (Mh R hv hq)
  ·cases he
 ·rename_i ty x ho;simp only[ho];split at he
  ·rename_i b hb;split at he
   ·rename_i c hc;cases he;have hx:=hA x;rw[hb]at hx;refine sB.pure R I (v:=.bool (K.O.bool c)) (qs (HA hc hx)) fun{E Q} hq=>?_;simp only[hb,AV.ev,Op.unary,bI];simp only[AV.ev,lK R,Hz hc]at hq;exact hq
   ·cases he
  ·cases he
 ·rename_i ty x ho;simp only[ho];split at he
  ·rename_i k e hb;cases he;have hx:=hA x;rw[hb]at hx;refine sB.pure R I (v:=.int k (K.O.int (.op .sub k (.lit 0) e))) (rR I ⟨trivial,hx⟩) fun{E Q} hq=>?_;simp only[hb,AV.ev,Op.unary,Op.intArith,bI];simp only[AV.ev,mq R,IE.ev,iz]at hq;exact hq
  ·cases he
 ·rename_i src dst x ho;simp only[ho];obtain⟨v,hv,rfl,rfl⟩:=gY he;exact sB.pure R I (CF I hv (hA x)) fun{E Q} hq=>FG R hv hq
 ·rename_i t x ho;simp only[ho];split at he
  ·cases he
  ·rename_i D hD hni;cases he;refine sB.pure R I (v:=.iface t (tc x)) (hA x) fun{E Q} hq=>?_;simp only[Instr.makeInterface,bH,bM hni];cases D<;>first
    |exact absurd hni (hD _)
    |exact hq
  ·cases he
 ·rename_i fn first captured ho
  simp only[ho];cases he;refine sB.pure R I (v:=.func fn (first.toList.map tc) (captured.toList.map tc)) ⟨inm _,inm _⟩ fun{E Q} hq=>?_;have e1:∀(l:Array Operand),l.map (fun x=>(tc x).ev ρ)=(AV.evs ρ (l.toList.map tc)).toArray:=fun l=>by rw[ja,List.map_map];apply Array.toList_inj.1;simp[Function.comp_def]
  simp only[Instr.makeFunc,e1,bI];exact hq
 ·rename_i t l c ho;simp only[ho];obtain⟨v,hv,rfl⟩:=iP he;have:=(zo G R I (Cw I (hA c)) hv).next;rw[pK R,pK R]at this;exact this
 ·rename_i t x lo hi mx ho;simp only[ho];obtain⟨v,hv,rfl,rfl⟩:=gY he;refine sB.pure R I (CE hv (hA x)) fun{E Q} hq=>?_;have:=kJ (K:=K) (ρ:=ρ) (w:=w) (E:=E) hv hq;simpa only[Option.map_map,Function.comp_def,pK R] using this
 ·rename_i s x f ho;simp only[ho];obtain⟨v,hv,rfl,rfl⟩:=gY he;exact sB.pure R I (zi hv (hA x)) fun{E Q} hq=>Fx hv hq
 ·rename_i t x f ho;simp only[ho];obtain⟨v,hv,rfl,rfl⟩:=gY he;exact sB.pure R I (JN hv (hA x)) fun{E Q} hq=>Mj hv hq
 ·rename_i t x ix ho;simp only[ho];obtain⟨v,hv,rfl,rfl⟩:=gY he;exact sB.pure R I (zk hv (hA x) (Cw I (hA ix))) fun{E Q} hq=>by have:=Fy (E:=E) R hv hq;rw[pK R]at this;exact this
 ·rename_i t x ix ho;simp only[ho];obtain⟨v,hv,rfl,rfl⟩:=gY he;exact sB.pure R I (CD hv (hA x)) fun{E Q} hq=>by have:=Mk (K:=K) (ρ:=ρ) (w:=w) (E:=E) hv hq;rw[pK R]at this;exact this
 ·rename_i x xt asserted ok ho;simp only[ho];obtain⟨v,hv,rfl,rfl⟩:=gY he;exact sB.pure R I (xk hv (hA x)) fun{E Q} hq=>zl hv hq
 ·rename_i t ix ho;simp only[ho];split at he
  ·rename_i vs hvs;split at he
   ·rename_i v hv;cases he;have hx:=hA t;rw[hvs]at hx;refine sB.pure R I (v:=v) (cW.1 hx _ (az hv)) fun{E Q} hq=>?_;simp only[hvs,AV.ev,Instr.extract];have:(AV.evs ρ vs).toArray[ix]?=some (v.ev ρ):=by rw[List.getElem?_toArray,m7,hv];rfl
    rw[this];exact hq
   ·cases he
  ·cases he
 ·rename_i c ho;simp only[ho];split at he
  ·rename_i d hd;obtain⟨r1,r2,r3⟩:=rU G F X R I (u7 hd hA) he;exact⟨r1,r2,fun{E Q} hq hE=>by simp only[bH];exact xw (ρ:=ρ) hd (r3 hq hE)⟩
  ·cases he
 ·rename_i c ho;simp only[ho];split at he
  ·rename_i d hd;cases he;have hin:=u7 hd hA;refine⟨⟨by have:=hin.1;revert this;cases d.target<;>first|exact fun x=>AV.Ins.mono ck _ x|exact id,AV.Ins.mono ck _ hin.2⟩,dg.refl I,fun{E Q} hq hE=>?_⟩;simp only[bH];exact xw (ρ:=ρ) hd (hq _ _ (After.same R rfl))
  ·cases he
 ·rename_i x ho;simp only[ho];split at he
  ·rename_i t v hx;cases he;have hi:=hA x;rw[hx]at hi;refine⟨xx hi,dg.refl I,fun{E Q} hq hE=>?_⟩;simp only[hx,AV.ev,Instr.panic,bH,Fe];exact hE _ rfl rfl
  ·cases he
 ·rename_i t s ho;simp only[ho];obtain⟨v,hv,rfl⟩:=iP he;exact(CI R I hv).next
 ·rename_i t r ho;simp only[ho];obtain⟨v,hv,rfl⟩:=iP he;have:(r.map fun x=>(tc x).ev ρ)=(r.map tc).map (AV.ev ρ):=by cases r<;>rfl
  rw[this];exact(FN R I hv).next
 ·rename_i t x k ok ho;simp only[ho];obtain⟨v,hv,rfl,rfl⟩:=gY he;exact sB.pure R I (FO I hv) fun{E Q} hq=>JW R G hv hq
 ·rename_i t m k x ho;simp only[ho];obtain⟨hv,rfl⟩:=uz he;obtain⟨I',n1,n2⟩:=pP I (hA k) (hA x) hv;refine⟨trivial,dg.of_same I' n1 n2,fun hq _=>?_⟩;simp only[bH,bI];exact s9 R G hv fun w' r1 r2=>hq _ _ ⟨ρ,cz.refl _ _,r1,r2,rfl⟩
 ·rename_i t m k x ho;simp only[ho];obtain⟨hv,rfl⟩:=uz he;obtain⟨I',n1,n2⟩:=pP I (hA k) (hA x) hv;refine⟨trivial,dg.of_same I' n1 n2,fun hq _=>?_⟩;simp only[bH,bI];exact s9 R G hv fun w' r1 r2=>hq _ _ ⟨ρ,cz.refl _ _,r1,r2,rfl⟩
 ·cases he
end
end Go.Proofs.YtmobbajggkjpgaaGreat.SX
namespace Go.Proofs.YtmobbajggkjpgaaGreat.SX
open Go.Conc
open _root_.List renaming getElem?_eq_getElem->aa,mem_cons_of_mem->af,mem_singleton->ah,mem_cons->ai,mem_cons_self->aj,mem_of_getElem?->az,not_mem_nil->aA,all_eq_true->aE,mem_filter->aO,mem_append->aT,map_cons->aU,mem_map->bf,map_congr_left->bh,getD_eq_getElem?_getD->bn,eq_nil_of_length_eq_zero->bz
open _root_.Bool renaming and_eq_true->aq,false_eq_true->aH
open _root_.Option.some renaming inj->au
open _root_.Option renaming map_some->av
open _root_.Nat renaming le_trans->ax,le_refl->ay,eq_of_beq_eq_true->aJ,mul_le_mul_right->bk
open _root_.Array renaming getElem?_eq_getElem->aS,getD_eq_getD_getElem?->aZ,getElem?_setIfInBounds_ne->bw
def cA(w:World)(d:Nat):World:={w with drawn:=d}
inductive fT(P:Program)(main:Bool)(D:World->World->Array Event->Prop)(S:Goroutine->World->Prop):Nat->Goroutine->World->Prop where
 |stop (g:Goroutine) (w:World):S g w->fT P main D S 0 g w
 |step (n:Nat) (g:Goroutine) (w:World) (g':Nat->Goroutine) (w':Nat->World) (es:Nat->Array Event):g.status=.running->(∀d,stepG P main g (cA w d)=.go (g' d) (w' d) (es d))->
  (∀d,D (cA w d) (w' d) (es d))->(∀d,fT P main D S n (g' d) (w' d))->fT P main D S n g w
 |off (n:Nat) (g:Goroutine) (w:World) (g':Goroutine):g.status=.running->(∀d,stepG P main g (cA w d)=.go g' (cA w d) #[⟨.mark .disable,false,true⟩])->
  (∀d,fT P main D S (n+1) g' (cA w d))->fT P main D S n g w
 |on (n:Nat) (g:Goroutine) (w:World) (g':Goroutine):g.status=.running->(∀d,stepG P main g (cA w d)=.go g' (cA w d) #[⟨.mark .enable,false,true⟩])->
  (∀d,fT P main D S n g' (cA w d))->fT P main D S (n+1) g w
def Walk(P:Program)(main:Bool)(D:World->World->Array Event->Prop)(S:Goroutine->World->Prop)(_:Nat)(g:Goroutine)(w:World):Prop:=fT P main D S 0 g w
section
variable {P:Program}{main:Bool}{D:World->World->Array Event->Prop}{S T:Goroutine->World->Prop}
theorem Walk.stop{n:Nat}{g:Goroutine}{w:World}(h:S g w):Walk P main D S n g w:=fT.stop g w h
theorem J0{s:GStep}{K K':Goroutine->World->Array Event->Prop}(h:s.goes K)(hk:∀g w es,K g w es->K' g w es):s.goes K':=by cases s<;>first|exact hk _ _ _ h|exact h
theorem QG{s:GStep}{K:Goroutine->World->Array Event->Prop}(h:s.goes K):∃g w es,s=.go g w es∧K g w es:=by
 cases s with
 |go g w es=>exact⟨g,w,es,rfl,h⟩
 |_=>exact h.elim
theorem Walk.mono{n m:Nat}{g:Goroutine}{w:World}(_:n≤m)(h:Walk P main D S n g w):Walk P main D S m g w:=h
theorem Walk.any{n m:Nat}{g:Goroutine}{w:World}(h:Walk P main D S n g w):Walk P main D S m g w:=h
theorem fT.trans(hST:∀g w,S g w->fT P main D T 0 g w){n:Nat}{g:Goroutine}{w:World}(h:fT P main D S n g w):fT P main D T n g w:=by
 induction h with
 |stop g w hs=>exact hST g w hs
 |step n g w g' w' es hr hs hd _ ih=>exact fT.step n g w g' w' es hr hs hd fun d=>ih d
 |off n g w g' hr hs _ ih=>exact fT.off n g w g' hr hs fun d=>ih d
 |on n g w g' hr hs _ ih=>exact fT.on n g w g' hr hs fun d=>ih d
theorem Walk.trans{n m:Nat}(hST:∀g w,S g w->Walk P main D T m g w){g:Goroutine}{w:World}(h:Walk P main D S n g w):Walk P main D T (n+m) g w:=fT.trans hST h
theorem Walk.weaken{n:Nat}(hST:∀g w,S g w->T g w){g:Goroutine}{w:World}(h:Walk P main D S n g w):Walk P main D T n g w:=
 (Walk.trans (m:=0) (fun g w hs=>Walk.stop (hST g w hs)) h).any
theorem Walk.head{n m:Nat}{g:Goroutine}{w:World}(hs:g.status=.running)(h:∀d,(stepG P main g (cA w d)).goes fun g' w' es=>D (cA w d) w' es∧Walk P main D S n g' w'):Walk P main D S m g w:=by
 have h':∀d,∃g' w' es,stepG P main g (cA w d)=.go g' w' es∧D (cA w d) w' es∧Walk P main D S n g' w':=fun d=>QG (h d);exact fT.step 0 g w (fun d=>(h' d).choose) (fun d=>(h' d).choose_spec.choose) (fun d=>(h' d).choose_spec.choose_spec.choose) hs (fun d=>(h' d).choose_spec.choose_spec.choose_spec.1)
  (fun d=>(h' d).choose_spec.choose_spec.choose_spec.2.1) (fun d=>(h' d).choose_spec.choose_spec.choose_spec.2.2)
theorem Walk.one{g:Goroutine}{w:World}(hs:g.status=.running)(h:∀d,(stepG P main g (cA w d)).goes fun g' w' es=>D (cA w d) w' es∧S g' w'):Walk P main D S 1 g w:=
 Walk.head (n:=0) hs fun d=>J0 (h d) fun g' w' es ⟨a,b⟩=>⟨a,Walk.stop b⟩
theorem Walk.lax{D':World->World->Array Event->Prop}{n:Nat}(hd:∀w w' es,D w w' es->D' w w' es){g:Goroutine}{w:World}(h:Walk P main D S n g w):Walk P main D' S n g w:=by
 change fT P main D S 0 g w at h;show fT P main D' S 0 g w;generalize(0:Nat)=k at h⊢
 induction h with
 |stop g w hs=>exact fT.stop g w hs
 |step n g w g' w' es hr hs Mx _ ih=>exact fT.step n g w g' w' es hr hs (fun d=>hd _ _ _ (Mx d)) fun d=>ih d
 |off n g w g' hr hs _ ih=>exact fT.off n g w g' hr hs fun d=>ih d
 |on n g w g' hr hs _ ih=>exact fT.on n g w g' hr hs fun d=>ih d
end
def nk(S:Nat->Nat->Prop)(w w':World):Prop:=∀b n v,S b n->w.cell? ⟨b,n,none⟩=some v->w'.cell? ⟨b,n,none⟩=some v
theorem Bw{α:Type}{P:Program}{Ev:Event->Prop}{E:Value->World->Prop}{S:Nat->Nat->Prop}(hE:∀b n s,S b n->¬Ev ⟨.cell ⟨b,n,none⟩,true,s⟩)(m:Sem α):∀{Q:α->World->Prop} {w:World},wq P Ev E m Q w->
  wq P Ev E m (fun x w'=>Q x w'∧nk S w w') w:=by
 have pre:∀{w w1:World},nk S w w1->∀{m:Sem α} {Q:α->World->Prop},wq P Ev E m (fun x w'=>Q x w'∧nk S w1 w') w1->wq P Ev E m (fun x w'=>Q x w'∧nk S w w') w1:=by intro w w1 hs m Q h;exact Qx (fun _ _ x=>x) (fun x w' ⟨a,b⟩=>⟨a,fun b' n v x y=>b b' n v x (hs b' n v x y)⟩) h
 induction m with
 |pure a=>intro Q w h;exact⟨h,fun _ _ _ _ x=>x⟩
 |load m a k ih=>intro Q w h;obtain⟨v,h1,h2,h3⟩:=h;exact⟨v,h1,h2,ih v h3⟩
 |store m a v k ih=>
  intro Q w h;obtain⟨h1,h2,h3,h4,h5⟩:=h;refine⟨h1,h2,h3,h4,pre ?_ (ih h5)⟩;intro b n u hs hc;simp only[World.cell?]at hc⊢;rw[heap_setCell];by_cases e:b=a.block
  ·rw[if_pos e];cases ho:w.heap[b]? with
   |none=>rw[ho]at hc;cases hc
   |some o=>
    rw[ho]at hc;cases o with
    |cells c elem fr=>
     simp only[av];simp only[Option.isSome_none,aH,if_false]at hc⊢;by_cases hsp:a.spot.isSome=true
     ·rw[if_pos hsp];exact hc
     ·rw[if_neg hsp];by_cases en:a.off=n
      ·exfalso;have:a=⟨b,n,none⟩:=by
        obtain⟨ab,ao,asp⟩:=a;simp only[Option.not_isSome_iff_eq_none]at hsp
        simp_all
       exact hE b n _ hs (this▸h4)
      ·rw[bw en];exact hc
    |_=>cases hc
  ·rw[if_neg e];exact hc
 |new o k ih=>
  intro Q w h;refine(pre ?_ (ih _ h):wq P Ev E (k w.heap.size) _ _);intro b n u hs hc;simp only[World.cell?]at hc⊢;have hlt:b<w.heap.size:=by
   rcases Nat.lt_or_ge b w.heap.size with h'|h'
   ·exact h'
   ·rw[Array.getElem?_eq_none h']at hc;cases hc
  rw[Array.getElem?_push_lt hlt];rw[aS hlt]at hc;exact hc
 |shape r k ih=>intro Q w h;exact ih _ h
 |freeze a n k ih=>intro Q w h;exact h.elim
 |frozen a k ih=>intro Q w h;exact ih _ h
 |getObj r k ih=>intro Q w h;obtain⟨o,h1,h2,h3,h4⟩:=h;exact⟨o,h1,h2,h3,ih o h4⟩
 |setObj r o k ih=>
  intro Q w h;obtain⟨⟨o',h1,h2⟩,h3,h4⟩:=h;refine⟨⟨o',h1,h2⟩,h3,pre ?_ (ih h4)⟩;intro b n u hs hc;simp only[World.cell?]at hc⊢;by_cases e:r=b
  ·subst e;rw[h1]at hc;cases o' with
   |cells c el fr=>exact absurd rfl (h2 _ _ _)
   |_=>cases hc
  ·rw[bw e];exact hc
 |choose q k ih=>
  intro Q w h;simp only[wq]at h⊢;split
  ·rename_i hf;rw[if_pos hf]at h;exact ih 0 h
  ·rename_i hf;rw[if_neg hf]at h;exact fun n=>pre (fun _ _ _ _ x=>x) (ih _ (h n))
 |sys c k ih=>intro Q w h;exact h.elim
 |program k ih=>intro Q w h;exact ih P h
 |mark m k ih=>intro Q w h;exact⟨h.1,ih h.2⟩
 |halt x=>intro Q w h;cases x<;>exact h
def DK(K:Ctx)(w w':World)(es:Array Event):Prop:=bU K.own w w'∧(∀e∈es,K.Ev e)∧nk K.still w w'
structure o8(ρ:Env)(nt:Nat)(t:TT)(tmps:Array Value):Prop where
 size:tmps.size=nt
 le:nt≤60000
 get:∀n,n<nt->tmps[n]?=some ((t.get n).ev ρ)
 out:∀n,nt≤n->t.get n=cL
def gU.ev(ρ:Env):gU->FrameMode
 |.run=>.run
 |.returning=>.returning
 |.panicking chain=>.panicking (chain.map fun x=>{v:=x.1.ev ρ,recovered:=x.2})
def xy(fn:FuncId)(kind:CallKind):Frame:={(default:Frame)with fn:=fn,kind:=kind}
def bB(ρ:Env)(fn:FuncId)(kind:CallKind):Frame:=
 match kind with
 |.wrapped=>{xy fn .normal with roundOf:=ρ.bt.1}
 |k=>xy fn k
def dB(ρ:Env)(kind:CallKind)(ds:List Deferred):List Deferred:=
 match kind with
 |.wrapped=>ds++ρ.bt.2
 |_=>ds
def aB(ρ:Env)(kind:CallKind)(tm:Array Value)(ds:List AD):Act:=⟨tm,dB ρ kind (ds.map (AD.ev ρ))⟩
def iF(k:CallKind):Prop:=k=.normal∨k=.deferred
theorem pQ{k:CallKind}(h:iF k∨k=.wrapped)(ht:tagged k=false):iF k:=by
 rcases h with h|rfl
 ·exact h
 ·cases ht
theorem pR{k:CallKind}(h:iF k)(ρ:Env)(fn:FuncId):bB ρ fn k=xy fn k:=by rcases h with rfl|rfl<;>rfl
theorem xz{k:CallKind}(h:iF k)(ρ:Env)(ds:List Deferred):dB ρ k ds=ds:=by rcases h with rfl|rfl<;>rfl
theorem My{k:CallKind}(h:iF k)(ρ:Env)(tm:Array Value)(ds:List AD):aB ρ k tm ds=⟨tm,ds.map (AD.ev ρ)⟩:=by unfold aB;rw[xz h]
theorem xA{k:CallKind}(h:iF k)(ρ:Env)(fn:FuncId)(tm:Array Value)(ds:List AD)(todo:List Item):(bB ρ fn k).atR (aB ρ k tm ds) todo=(xy fn k).at ⟨tm,ds.map (AD.ev ρ)⟩ todo:=by rw[pR h,My h];rfl
theorem plain_round{k:CallKind}(h:iF k)(ρ:Env)(fn:FuncId):(bB ρ fn k).roundOf=none:=by rw[pR h];rfl
theorem QH{k:CallKind}(h:iF k∨k=.wrapped)(ρ:Env)(fn:FuncId):(bB ρ fn k).kind≠.early:=by rcases h with(rfl|rfl)|rfl<;>simp[bB,xy]
theorem SV(ρ:Env)(fn:FuncId)(k:CallKind):(bB ρ fn k).fn=fn:=by cases k<;>rfl
theorem HG(ρ:Env)(k:CallKind)(d:Deferred)(ds:List Deferred):dB ρ k (d::ds)=d::dB ρ k ds:=by cases k<;>rfl
def d_(ρ:Env)(fr:bW)(tmps:Array Value)(todo:List Item):Frame:={(bB ρ fr.fn fr.kind).atR (aB ρ fr.kind tmps fr.defers) todo with mode:=fr.mode.ev ρ}
structure Vi(P:Program)(ρ:Env)(fr:bW)(tmps:Array Value)(todo:List Item):Prop where
 tmps:o8 ρ fr.nt fr.tmps tmps
 kind:iF fr.kind∨fr.kind=.wrapped
 todo:fr.mode=.run->todo=fr.todo
 fn:∃fn,P.funcs[fr.fn]?=some fn
def ku(P:Program)(ρ:Env)(fr:bW)(g:Frame):Prop:=∃tmps todo,Vi P ρ fr tmps todo∧g=d_ ρ fr tmps todo
def iq(P:Program)(ρ:Env):List bW->List Frame->Prop
 |[],[]=>True
 |a::l,b::m=>ku P ρ a b∧iq P ρ l m
 |_,_=>False
def qu(K:Ctx)(ρ:Env)(c:ee)(cs:List Frame)(g:Goroutine)(w:World):Prop:=
 Rel K ρ c.h w∧∃fr fY,ku K.P ρ c.cur fr∧iq K.P ρ c.callers fY∧g=G fr (fY++cs)
def gU.In(U:Nat->Prop):gU->Prop
 |.panicking chain=>∀x∈chain,x.1.In U
 |_=>True
structure bW.In(U:Nat->Prop)(fr:bW):Prop where
 tmps:fr.tmps.In U
 defers:∀d∈fr.defers,d.In U
 mode:fr.mode.In U
structure gy(K:Ctx)(U:Nat->Prop)(c:ee):Prop where
 cur:c.cur.In U
 callers:∀fr∈c.callers,fr.In U
 ids:gf K U c.h
theorem jE.In.mono{U U':Nat->Prop}(hs:∀n,U n->U' n){t:jE}(h:t.In U):t.In U':=by
 cases t with
 |fn f c=>exact AV.Ins.mono hs _ h
 |builtin b a t c=>trivial
theorem AD.In.mono{U U':Nat->Prop}(hs:∀n,U n->U' n){d:AD}(h:d.In U):d.In U':=⟨jE.In.mono hs h.1,AV.Ins.mono hs _ h.2⟩
theorem gU.In.mono{U U':Nat->Prop}(hs:∀n,U n->U' n){m:gU}(h:m.In U):m.In U':=by
 cases m with
 |panicking chain=>exact fun x hx=>AV.In.mono hs _ (h x hx)
 |_=>trivial
theorem bW.In.mono{U U':Nat->Prop}(hs:∀n,U n->U' n){fr:bW}(h:fr.In U):fr.In U':=
 ⟨TT.In.mono hs h.tmps,fun d hd=>AD.In.mono hs (h.defers d hd),gU.In.mono hs h.mode⟩
section
variable {U:Nat->Prop}{ρ ρ':Env}
theorem AD.bZ(A:cz U ρ ρ'){d:AD}(h:d.In U):d.ev ρ'=d.ev ρ:=by
 obtain⟨t,a⟩:=d;simp only[AD.ev];rw[AV.fG A _ h.2];cases t with
 |fn f c=>simp only[jE.ev];rw[AV.fG A _ h.1]
 |builtin b a t c=>rfl
theorem gU.bZ(A:cz U ρ ρ'){m:gU}(h:m.In U):m.ev ρ'=m.ev ρ:=by
 cases m with
 |panicking chain=>simp only[gU.ev];congr 1;exact bh fun x hx=>by rw[AV.bZ A _ (h x hx)]
 |_=>rfl
theorem tf(A:cz U ρ ρ')(fn:FuncId)(k:CallKind):bB ρ' fn k=bB ρ fn k:=by unfold bB;rw[A.bt]
theorem tg(A:cz U ρ ρ')(k:CallKind)(tm:Array Value){ds:List AD}(h:∀d∈ds,d.In U):aB ρ' k tm ds=aB ρ k tm ds:=by have:ds.map (AD.ev ρ')=ds.map (AD.ev ρ):=bh fun d hd=>AD.bZ A (h d hd);unfold aB dB;rw[this,A.bt]
theorem o8.agree(A:cz U ρ ρ'){nt:Nat}{t:TT}{tmps:Array Value}(h:o8 ρ nt t tmps)(hi:t.In U):o8 ρ' nt t tmps:=
 ⟨h.size,h.le,fun n hn=>by rw[h.get n hn,AV.bZ A _ (hi n)],h.out⟩
theorem zq(A:cz U ρ ρ'){fr:bW}(hi:fr.In U)(tmps:Array Value)(todo:List Item):d_ ρ' fr tmps todo=d_ ρ fr tmps todo:=by unfold d_;rw[gU.bZ A hi.mode,tg A fr.kind tmps hi.defers,tf A]
theorem ku.agree{P:Program}(A:cz U ρ ρ'){fr:bW}{g:Frame}(h:ku P ρ fr g)(hi:fr.In U):ku P ρ' fr g:=by obtain⟨tmps,todo,h1,h3⟩:=h;exact⟨tmps,todo,⟨h1.tmps.agree A hi.tmps,h1.kind,h1.todo,h1.fn⟩,by rw[h3,zq A hi]⟩
theorem iC{P:Program}(A:cz U ρ ρ'):∀{l:List bW} {fY:List Frame},iq P ρ l fY->(∀fr∈l,fr.In U)->iq P ρ' l fY
 |[],[],_,_=>trivial
 |_::_,_::_,h,hi=>⟨h.1.agree A (hi _ (by simp)),iC A h.2 fun fr hf=>hi fr (af _ hf)⟩
end
section
variable {ρ:Env}{nt:Nat}{t:TT}{tmps:Array Value}{U:Nat->Prop}
theorem o8.getD(h:o8 ρ nt t tmps)(n:Nat):tmps.getD n undef=(t.get n).ev ρ:=by
 rw[aZ];rcases Nat.lt_or_ge n nt with hn|hn
 ·rw[h.get n hn];rfl
 ·rw[h.out n hn,Array.getElem?_eq_none (by rw[h.size];exact hn)];rfl
theorem th(h:o8 ρ nt t tmps)(ds:List Deferred)(x:Operand):Act.eval ⟨tmps,ds⟩ x=(kY t x).ev ρ:=by
 cases x with
 |tmp n=>exact h.getD n
 |const v=>exact(mh ρ v).symm
 |global g=>rfl
 |func f=>rfl
theorem CM(h:t.In U)(x:Operand):(kY t x).In U:=by
 cases x with
 |tmp n=>exact h n
 |const v=>exact mj v
 |global g=>exact⟨trivial,trivial⟩
 |func f=>exact⟨trivial,trivial⟩
theorem CN(h:o8 ρ nt t tmps)(ds:List Deferred)(dst:Option Tmp)(v:AV):∃tmps',(Act.put ⟨tmps,ds⟩ dst (v.ev ρ))=⟨tmps',ds⟩∧o8 ρ nt (jx nt t dst v) tmps':=by
 cases dst with
 |none=>exact⟨tmps,rfl,h⟩
 |some d=>
  refine⟨tmps.setIfInBounds d (v.ev ρ),rfl,?_⟩;unfold jx;dsimp only;cases hb:Nat.ble (d+1) nt with
  |true=>
   have hd:Nat.succ d≤nt:=Nat.le_of_ble_eq_true hb;have J2:Nat.succ d<2 ^ 16:=Nat.lt_of_le_of_lt (ax hd h.le) (by decide);refine⟨by simpa using h.size,h.le,fun n hn=>?_,fun n hn=>?_⟩
   ·dsimp only at hn⊢;rw[TT.sN v 16 t d n J2];by_cases e:n=d
    ·subst e;rw[if_pos rfl];simp[h.size,hn]
    ·rw[if_neg e,bw (fun x=>e x.symm)];exact h.get n hn
   ·dsimp only;rw[TT.sN v 16 t d n J2,if_neg (show ¬n=d from fun e=>by subst e;exact Nat.lt_irrefl _ (Nat.lt_of_lt_of_le hd hn))];exact h.out n hn
  |false=>
   have hd:nt≤d:=Nat.le_of_not_lt fun hlt=>by have:=Nat.ble_eq_true_of_le hlt;have h2:Nat.ble (d+1) nt=true:=this;rw[h2]at hb;cases hb
   have:tmps.setIfInBounds d (v.ev ρ)=tmps:=Array.setIfInBounds_eq_of_size_le (by rw[h.size];exact hd);rw[this];exact h
theorem HH{dst:Option Tmp}{v:AV}(h:t.In U)(hv:v.In U)(hnt:nt≤60000):(jx nt t dst v).In U:=by
 cases dst with
 |none=>exact h
 |some d=>
  unfold jx;dsimp only;cases hb:Nat.ble (d+1) nt with
  |true=>
   have hd:Nat.succ d≤nt:=Nat.le_of_ble_eq_true hb;have J2:Nat.succ d<2 ^ 16:=Nat.lt_of_le_of_lt (ax hd hnt) (by decide);intro n;dsimp only;rw[TT.sN v 16 t d n J2];split
   ·exact hv
   ·exact h n
  |false=>exact h
theorem rV{K:Ctx}{h:AH}{w:World}(R:Rel K ρ h w)(T:o8 ρ nt t tmps){ops:Array Oper}{o:Oper}{b:Bool}(he:gN K.O ops t o=.ok b):Region.wanted o (yielded ops tmps)=b:=by
 unfold gN at he;unfold Region.wanted;split at he
 ·rename_i hg;rw[hg];cases he;rfl
 ·rename_i j want hg;rw[hg];split at he
  ·rename_i y hy;cases he;have:yielded ops tmps j=y:=by
    unfold pq at hy;unfold yielded;split at hy
    ·cases hy
    ·rename_i d hd;rw[hd];simp only[Option.bind_some];rcases Nat.lt_or_ge d nt with hlt|hge
     ·rw[T.get d hlt];split at hy
      ·rename_i b' hb';split at hy
       ·rename_i b2 o7;cases hy;rw[hb'];simp only[AV.ev,jY R o7]
       ·cases hy
      ·rename_i vs hvs;cases hy;rw[hvs];rfl
      ·cases hy
     ·rw[Array.getElem?_eq_none (by rw[T.size];exact hge)];rw[T.out d hge]at hy;simp only[cL]at hy;cases hy;rfl
   show(yielded ops tmps j==some want)=_;rw[this]
  ·cases he
theorem QI:∀{l:List AV} {n:Nat} {t:TT},n+l.length≤60000->AV.Ins U l->t.In U->(TT.fill l n t).In U:=by
 intro l n t hle hl ht m;rw[TT.sO l n t m hle];split
 ·rename_i hm;have:m-n<l.length:=by omega
  rw[bn,aa this];exact cW.1 hl _ (List.getElem_mem this)
 ·exact ht m
end
theorem gZ{P:Program}{ρ:Env}{U:Nat->Prop}{f:FuncId}{args:List AV}{kind:CallKind}{fr:bW}(he:bT P f args kind=.ok fr)(hk:kind=.normal∨kind=.deferred)(ha:AV.Ins U args):
  ku P ρ fr (Frame.enter P f (AV.evs ρ args).toArray kind)∧fr.In U∧fr.kind=kind∧fr.fn=f∧∃fn,P.funcs[f]?=some fn:=by
 unfold bT at he;split at he
 ·rename_i fn hf;split at he
  ·rename_i c hc;split at he
   ·rename_i hlen;cases he;refine⟨⟨(AV.evs ρ args).toArray++Array.replicate (fn.ntmps-args.length) undef,[.code c],⟨?_,.inl hk,fun _=>rfl,fn,hf⟩,?_⟩,⟨?_,by simp,trivial⟩,rfl,rfl,fn,hf⟩
    ·have hl:(AV.evs ρ args).length=args.length:=cO ρ args;refine⟨by simp[hl];omega,hlen.2,fun n hn=>?_,fun n hn=>?_⟩
     ·dsimp only at hn⊢;rw[TT.sO args 0 .leaf n (by omega)];by_cases hlt:n<args.length
      ·rw[if_pos ⟨Nat.zero_le _,by omega⟩,Array.getElem?_append_left (by simp[hl];exact hlt)];rw[List.getElem?_toArray,m7];simp[bn,aa hlt]
      ·rw[if_neg (by omega),Array.getElem?_append_right (by simp[hl];omega)];rw[Array.getElem?_replicate,if_pos (by simp[hl];omega)];rfl
     ·dsimp only at hn⊢;rw[TT.sO args 0 .leaf n (by omega),if_neg (by omega)];rfl
    ·unfold d_ Frame.enter;dsimp only;rw[xA hk];simp[xy,Frame.at,gU.ev,hf,hc,cO]
    ·exact QI (by omega) ha (fun _=>trivial)
   ·cases he
  ·cases he
 ·cases he
section
variable {P:Program}{main:Bool}{b:Frame}{a:Act}{k:List Item}{cs:List Frame}{w:World}
theorem Mz:stepG P main (G (b.atR a (.code .skip::k)) cs) w=.go (G (b.atR a k) cs) w:=by simp[G,stepG,stepG.exec,Frame.atR]
theorem J3{l:Nat}:stepG P main (G (b.atR a (.code (.label l)::k)) cs) w=.go (G (b.atR a k) cs) w:=by simp[G,stepG,stepG.exec,Frame.atR]
theorem CO{id:Nat}:stepG P main (G (b.atR a (.inBlock id::k)) cs) w=.go (G (b.atR a k) cs) w:=by simp[G,stepG,stepG.exec,Frame.atR]
theorem CP{c:Code}:stepG P main (G (b.atR a (.inScope c::k)) cs) w=.go (G (b.atR a k) cs) w:=by simp[G,stepG,stepG.exec,Frame.atR]
theorem QJ{x y:Code}:stepG P main (G (b.atR a (.code (.seq x y)::k)) cs) w=.go (G (b.atR a (.code x::.code y::k)) cs) w:=by simp[G,stepG,stepG.exec,Frame.atR]
theorem CQ{c:Operand}{x y:Code}{t:Bool}(h:a.eval c=.bool t):stepG P main (G (b.atR a (.code (.cond c x y)::k)) cs) w=.go (G (b.atR a (.code (if t then x else y)::k)) cs) w:=by
 have h':(b.atR a (.code (.cond c x y)::k)).eval c=.bool t:=by rw[Frame.eval_atR];exact h
 simp only[Frame.atR]at h';simp[G,stepG,stepG.exec,Frame.atR,h']
theorem J4{id:Nat}{c:Code}:stepG P main (G (b.atR a (.code (.block id c)::k)) cs) w=.go (G (b.atR a (.code c::.inBlock id::k)) cs) w:=by simp[G,stepG,stepG.exec,Frame.atR]
theorem MA{c:Code}:stepG P main (G (b.atR a (.code (.loop c)::k)) cs) w=.go (G (b.atR a (.code c::.inLoop c::k)) cs) w:=by simp[G,stepG,stepG.exec,Frame.atR]
theorem FR{c:Code}:stepG P main (G (b.atR a (.inLoop c::k)) cs) w=.go (G (b.atR a (.code c::.inLoop c::k)) cs) w:=by simp[G,stepG,stepG.exec,Frame.atR]
theorem J5{c:Code}:stepG P main (G (b.atR a (.code (.scope c)::k)) cs) w=.go (G (b.atR a (.code c::.inScope c::k)) cs) w:=by simp[G,stepG,stepG.exec,Frame.atR]
theorem MB{id:Nat}{k':List Item}(h:exitTo id k=some k'):stepG P main (G (b.atR a (.code (.exit id)::k)) cs) w=.go (G (b.atR a k') cs) w:=by simp[G,stepG,stepG.exec,Frame.atR,h]
theorem MC{l:Nat}{k':List Item}(h:gotoIn l k=some k'):stepG P main (G (b.atR a (.code (.goto l)::k)) cs) w=.go (G (b.atR a k') cs) w:=by simp[G,stepG,stepG.exec,Frame.atR,h]
theorem FT{id:Nat}{ops:Array Oper}:stepG P main (G (b.atR a (.code (.region id ops false)::k)) cs) w=.go (G (b.atR a (.inRegion ops (List.range ops.size)::k)) cs) w:=by simp[G,stepG,stepG.exec,Frame.atR]
theorem mz{ops:Array Oper}:stepG P main (G (b.atR a (.inRegion ops []::k)) cs) w=.go (G (b.atR a k) cs) w:=by simp[G,stepG,stepG.exec,Frame.atR]
theorem QK(hb:b.roundOf=none):stepG P main (G (b.atR a []) cs) w=.go (G {b.atR a []with mode:=.returning} cs) w:=by simp[G,stepG,stepG.exec,Frame.atR,hb]
theorem QL(hb:b.roundOf=none):stepG P main (G (b.atR a (.code .ret::k)) cs) w=.go (G {b.atR a (.code .ret::k)with mode:=.returning} cs) w:=by simp[G,stepG,stepG.exec,Frame.atR,hb]
theorem J6(b:Frame)(a:Act){ops:Array Oper}{i:Nat}{rest:List Nat}{k:List Item}{o:Oper}(ho:ops[i]?=some o)(v:Value):(b.atR a (.inRegion ops (i::rest)::k)).finish v=b.atR (a.put o.dst v) (.inRegion ops rest::k):=by rw[Frame.finish_atR,ho];rfl
variable {ops:Array Oper}{i:Nat}{rest:List Nat}{o:Oper}{w':World}
theorem Bx(ho:ops[i]?=some o)(hw:Region.wanted o (yielded ops a.tmps)=false):
  stepG P main (G (b.atR a (.inRegion ops (i::rest)::k)) cs) w=.go (G (b.atR (a.put o.dst undef) (.inRegion ops rest::k)) cs) w #[]:=by
 rw[<-J6 b a ho];simp[G,stepG,stepG.exec,Frame.atR,ho,hw]
def uB(b:Frame)(o:Oper):Prop:=b.roundOf=none∨∀c,o.op≠.defer c
theorem n6(hf:uB b o)(ho:ops[i]?=some o)(hw:Region.wanted o (yielded ops a.tmps)=true):
  stepG P main (G (b.atR a (.inRegion ops (i::rest)::k)) cs) w=stepG.apply P true (b.atR a (.inRegion ops (i::rest)::k)) cs none (execOp a.eval o) w:=by
 have he:=Frame.eval_atR b a (.inRegion ops (i::rest)::k);have h1:stepG P main (G (b.atR a (.inRegion ops (i::rest)::k)) cs) w=stepG.oper P true (b.atR a (.inRegion ops (i::rest)::k)) cs none w:=by simp[G,stepG,stepG.exec,Frame.atR,ho,hw]
 rw[h1];have h2:(b.atR a (.inRegion ops (i::rest)::k)).oper?=some o:=by simp[Frame.oper?,Frame.atR,ho]
 have h3:(b.atR a (.inRegion ops (i::rest)::k)).roundOf=b.roundOf:=rfl;unfold stepG.oper;rw[h2];dsimp only;rw[h3,he];rcases hf with h|h
 ·rw[h]
 ·split
  ·rename_i l c _ hc;exact absurd hc (h c)
  ·rfl
theorem J7{v:Value}(hf:uB b o)(ho:ops[i]?=some o)(hw:Region.wanted o (yielded ops a.tmps)=true)(hk:b.kind≠.early)(hr:(execOp a.eval o).run P w=.ok (.value v) w'):
  stepG P main (G (b.atR a (.inRegion ops (i::rest)::k)) cs) w=.go (G (b.atR (a.put o.dst v) (.inRegion ops rest::k)) cs) w' (listed P b.fn a o w):=by
 have hk':(b.kind==CallKind.early)=false:=by simpa using hk
 rw[n6 hf ho hw,<-J6 b a ho];simp[stepG.apply,hr,G,Frame.atR,hk',GStep.after,listed]
theorem MD(hf:uB b o)(ho:ops[i]?=some o)(hw:Region.wanted o (yielded ops a.tmps)=true)(hk:b.kind≠.early)(hr:(execOp a.eval o).run P w=.ok .skip w'):
  stepG P main (G (b.atR a (.inRegion ops (i::rest)::k)) cs) w=.go (G (b.atR (a.put o.dst undef) (.inRegion ops rest::k)) cs) w' (listed P b.fn a o w):=by
 have hk':(b.kind==CallKind.early)=false:=by simpa using hk
 rw[n6 hf ho hw,<-J6 b a ho];simp[stepG.apply,hr,G,Frame.atR,hk',GStep.after,listed]
theorem J8{f:FuncId}{args:Array Value}(hf:uB b o)(ho:ops[i]?=some o)(hw:Region.wanted o (yielded ops a.tmps)=true)(hk:b.kind≠.early)(hr:(execOp a.eval o).run P w=.ok (.enter f args) w'):
  stepG P main (G (b.atR a (.inRegion ops (i::rest)::k)) cs) w=.go (G (Frame.enter P f args .normal) (b.atR a (.inRegion ops (i::rest)::k)::cs)) w' (listed P b.fn a o w):=by
 have hk':(b.kind==CallKind.early)=false:=by simpa using hk
 rw[n6 hf ho hw];simp[stepG.apply,hr,G,Frame.atR,hk',GStep.after,listed]
theorem J9{v:Value}(hf:uB b o)(ho:ops[i]?=some o)(hw:Region.wanted o (yielded ops a.tmps)=true)(hk:b.kind≠.early)(hr:(execOp a.eval o).run P w=.halt (.panic v) w'):
  stepG P main (G (b.atR a (.inRegion ops (i::rest)::k)) cs) w=.go (G ((b.atR a (.inRegion ops (i::rest)::k)).raise [{v,recovered:=false}]) cs) w' (listed P b.fn a o w):=by
 have hk':(b.kind==CallKind.early)=false:=by simpa using hk
 rw[n6 hf ho hw];simp[stepG.apply,hr,G,Frame.atR,hk',GStep.after,listed]
theorem J_{d:Deferred}(hb:b.roundOf=none)(ho:ops[i]?=some o)(hw:Region.wanted o (yielded ops a.tmps)=true)(hk:b.kind≠.early)(hr:(execOp a.eval o).run P w=.ok (.defer d) w'):
  stepG P main (G (b.atR a (.inRegion ops (i::rest)::k)) cs) w=.go (G (b.atR (({a with defers:=d::a.defers}:Act).put o.dst undef) (.inRegion ops rest::k)) cs) w' (listed P b.fn a o w):=by
 have ME:=J6 b {a with defers:=d::a.defers} (rest:=rest) (k:=k) ho undef;have hk':(b.kind==CallKind.early)=false:=by simpa using hk
 rw[n6 (.inl hb) ho hw,<-ME];simp[stepG.apply,hr,G,Frame.atR,hk',GStep.after,listed]
theorem CR(hb:b.roundOf=none)(ho:ops[i]?=some o)(hw:Region.wanted o (yielded ops a.tmps)=true)(hk:b.kind≠.early)(hr:(execOp a.eval o).run P w=.ok .recover w'):
  stepG P main (G (b.atR a (.inRegion ops (i::rest)::k)) cs) w=.go (match tryRecover (b.atR a (.inRegion ops (i::rest)::k)) cs with
   |some (v,cs')=>G (b.atR (a.put o.dst v) (.inRegion ops rest::k)) cs'
   |none=>G (b.atR (a.put o.dst .nilIface) (.inRegion ops rest::k)) cs) w' (listed P b.fn a o w):=by
 have ME:∀v,(b.atR a (.inRegion ops (i::rest)::k)).finish v=b.atR (a.put o.dst v) (.inRegion ops rest::k):=J6 b a ho;have hk':(b.kind==CallKind.early)=false:=by simpa using hk
 rw[n6 (.inl hb) ho hw];simp only[<-ME];generalize hf:(b.atR a (.inRegion ops (i::rest)::k))=f;have h1:f.roundOf=none:=by rw[<-hf];exact hb
 have h2:f.fn=b.fn:=by rw[<-hf];rfl
 have h3:f.kind=b.kind:=by rw[<-hf];rfl
 cases hx:tryRecover f cs with
 |none=>simp[stepG.apply,hr,G,h1,h2,h3,hx,hk',GStep.after,listed]
 |some x=>simp[stepG.apply,hr,G,h1,h2,h3,hx,hk',GStep.after,listed]
theorem J'{id:Nat}(hm:P.follows .mixedOrders=true):
  ∃d t,stepG P main (G (b.atR a (.code (.region id ops true)::k)) cs) w=.go (G (b.atR a (.inRegion ops (Region.schedule true ops t)::k)) cs) (cA w d):=by
 have hq:wq P (fun _=>True) (fun _ _=>False) (choose (.order b.fn id)) (fun t w'=>∃d,w'=cA w d) w:=by
  rw[uo];split
  ·exact⟨w.drawn,rfl⟩
  ·exact fun n=>⟨w.drawn+1,rfl⟩
 have:=(me hq).1;generalize hr:(choose (.order b.fn id)).run P w=r at this;cases r with
 |ok t w'=>obtain⟨d,rfl⟩:=this;exact⟨d,t,by simp[G,stepG,stepG.exec,Frame.atR,hr,hm]⟩
 |halt x w'=>cases x<;>exact this.elim
end
def Next(K:Ctx)(U:Nat->Prop)(ρ:Env)(cs:List Frame)(w:World)(h0:AH)(c:ee)(g':Goroutine)(w':World):Prop:=
 ∃ρ',cz U ρ ρ'∧bU K.own w w'∧dg K U h0 c.h∧gy K (plus U h0.nb c.h.nb) c∧qu K ρ' c cs g' w'
def k7(K:Ctx)(main:Bool)(c c':ee)(N:Nat):Prop:=∀U ρ cs g w,gy K U c->qu K ρ c cs g w->Walk K.P main (DK K) (Next K U ρ cs w c.h c') N g w
def bot:FuncId->List bW->FuncId
 |f,[]=>f
 |_,fr::l=>bot fr.fn l
def xB(K:Ctx)(f:FuncId)(ρ:Env)(e:AE)(cs:List Frame)(g:Goroutine)(w:World):Prop:=
 ∃fr fn,g=G fr cs∧fr.fn=f∧fr.defers=[]∧K.P.funcs[fr.fn]?=some fn∧match e with
  |.returned v=>fr.mode=.returning∧fr.kind=.normal∧∀d,∀{Q:Value->World->Prop},Q (v.ev ρ) (cA w d)->wq K.P K.Ev (fun _ _=>False) (results fn fr.tmps) Q (cA w d)
  |.panicked chain=>fr.mode=(gU.panicking chain).ev ρ
def AE.In(U:Nat->Prop):AE->Prop
 |.returned v=>v.In U
 |.panicked chain=>∀x∈chain,x.1.In U
def Done(K:Ctx)(f:FuncId)(U:Nat->Prop)(ρ:Env)(cs:List Frame)(w:World)(h0:AH)(r:AE×AH)(g':Goroutine)(w':World):Prop:=
 ∃ρ',cz U ρ ρ'∧bU K.own w w'∧dg K U h0 r.2∧r.1.In (plus U h0.nb r.2.nb)∧Rel K ρ' r.2 w'∧xB K f ρ' r.1 cs g' w'
def Ends(K:Ctx)(main:Bool)(c:ee)(r:AE×AH)(N:Nat):Prop:=∀U ρ cs g w,gy K U c->qu K ρ c cs g w->Walk K.P main (DK K) (Done K (bot c.cur.fn c.callers) U ρ cs w c.h r) N g w
section
variable {K:Ctx}{main:Bool}{U:Nat->Prop}{ρ:Env}{cs:List Frame}
theorem gy.congr{U U':Nat->Prop}{c:ee}(I:gy K U c)(h:∀n,U n↔U' n):gy K U' c:=
 ⟨I.cur.mono fun n=>(h n).1,fun fr hf=>(I.callers fr hf).mono fun n=>(h n).1,I.ids.congr h⟩
theorem kK(U:Nat->Prop)(a n:Nat):U n↔plus U a a n:=⟨.inl,qq n⟩
theorem AE.In.mono{U U':Nat->Prop}(hs:∀n,U n->U' n){e:AE}(h:e.In U):e.In U':=by
 cases e with
 |returned v=>exact AV.In.mono hs _ h
 |panicked c=>exact fun x hx=>AV.In.mono hs _ (h x hx)
theorem Next.trans{w w' w'':World}{h0:AH}{c c':ee}{CS:Goroutine}{ρ':Env}(A:cz U ρ ρ')(k:bU K.own w w')(gr:dg K U h0 c.h)
 (n:Next K (plus U h0.nb c.h.nb) ρ' cs w' c.h c' CS w''):Next K U ρ cs w h0 c' CS w'':=by
 obtain⟨ze,a1,a2,a3,a4,a5⟩:=n;exact⟨ze,A.trans a1 ck,k.trans a2,gr.trans a3,a4.congr fun n=>lV gr.nb a3.nb n,a5⟩
theorem Done.trans{w w' w'':World}{h0:AH}{f:FuncId}{c:ee}{r:AE×AH}{CS:Goroutine}{ρ':Env}(A:cz U ρ ρ')(k:bU K.own w w')(gr:dg K U h0 c.h)
 (n:Done K f (plus U h0.nb c.h.nb) ρ' cs w' c.h r CS w''):Done K f U ρ cs w h0 r CS w'':=by
 obtain⟨ze,a1,a2,a3,a4,a5,a6⟩:=n;exact⟨ze,A.trans a1 ck,k.trans a2,gr.trans a3,a4.mono fun n=>(lV gr.nb a3.nb n).1,a5,a6⟩
theorem k7.trans{c c' c'':ee}{N M:Nat}(l:k7 K main c c' N)(l':k7 K main c' c'' M):k7 K main c c'' (N+M):=fun U ρ cs g w I Γ=>Walk.trans (fun g' w' ⟨ρ',a1,a2,a3,a4,a5⟩=>(l' _ ρ' cs g' w' a4 a5).weaken fun _ _ n=>Next.trans a1 a2 a3 n) (l U ρ cs g w I Γ)
theorem k7.ends{c c':ee}{r:AE×AH}{N M:Nat}(hb:bot c'.cur.fn c'.callers=bot c.cur.fn c.callers)(l:k7 K main c c' N)(l':Ends K main c' r M):Ends K main c r (N+M):=fun U ρ cs g w I Γ=>Walk.trans (fun g' w' ⟨ρ',a1,a2,a3,a4,a5⟩=>(l' _ ρ' cs g' w' a4 a5).weaken fun _ _ n=>by rw[hb]at n;exact Done.trans a1 a2 a3 n) (l U ρ cs g w I Γ)
theorem ie(own:Nat->Prop)(w:World)(d:Nat):bU own w (cA w d):=⟨fun _ _=>rfl,ay _,rfl,rfl,rfl⟩
theorem Rel.drawn{h:AH}{w:World}(R:Rel K ρ h w)(d:Nat):Rel K ρ h (cA w d):=R.at rfl
theorem qu.drawn{c:ee}{g:Goroutine}{w:World}(h:qu K ρ c cs g w)(d:Nat):qu K ρ c cs g (cA w d):=⟨h.1.drawn d,h.2⟩
theorem qu.running{c:ee}{g:Goroutine}{w:World}(h:qu K ρ c cs g w):g.status=.running:=by obtain⟨_,fr,fY,_,_,rfl⟩:=h;rfl
theorem xC{c c':ee}(hh:c'.h=c.h)(hin:∀U,gy K U c->gy K U c')(hs:∀ρ cs g w,qu K ρ c cs g w->∃g',stepG K.P main g w=.go g' w #[]∧qu K ρ c' cs g' w):
  k7 K main c c' 1:=fun U ρ cs g w I Γ=>Walk.one Γ.running fun d=>by
 obtain⟨g',e,Vj⟩:=hs ρ cs g _ (Γ.drawn d);rw[e];refine⟨⟨bU.refl _ _,fun e he=>(by simp at he),fun _ _ _ _ x=>x⟩,ρ,cz.refl _ _,ie _ _ _,?_,?_,Vj⟩
 ·rw[hh];exact dg.refl I.ids
 ·rw[hh];exact(hin U I).congr (kK U _)
section frame
variable {fn:FuncId}{nt:Nat}{tmps:TT}{todo todo':List Item}{defers:List AD}{kind:CallKind}{callers:List bW}{h:AH}
theorem kT{g:Goroutine}{w:World}:qu K ρ ⟨⟨fn,nt,tmps,todo,defers,.run,kind⟩,callers,h⟩ cs g w↔
  Rel K ρ h w∧∃tm fY,o8 ρ nt tmps tm∧(iF kind∨kind=.wrapped)∧(∃f,K.P.funcs[fn]?=some f)∧iq K.P ρ callers fY∧g=G ((bB ρ fn kind).atR (aB ρ kind tm defers) todo) (fY++cs):=by
 constructor
 ·rintro⟨R,fr,fY,⟨tm,td,i,rfl⟩,hc,rfl⟩;have:td=todo:=i.todo rfl;subst this;exact⟨R,tm,fY,i.tmps,i.kind,i.fn,hc,rfl⟩
 ·rintro⟨R,tm,fY,h1,h2,h3,hc,rfl⟩;exact⟨R,_,fY,⟨tm,todo,⟨h1,h2,fun _=>rfl,h3⟩,rfl⟩,hc,rfl⟩
theorem fq(hs:∀ρ tm w cs,Rel K ρ h w->o8 ρ nt tmps tm->∀(b:Frame) (ds:List Deferred),stepG K.P main (G (b.atR ⟨tm,ds⟩ todo) cs) w=.go (G (b.atR ⟨tm,ds⟩ todo') cs) w #[]):
  k7 K main ⟨⟨fn,nt,tmps,todo,defers,.run,kind⟩,callers,h⟩ ⟨⟨fn,nt,tmps,todo',defers,.run,kind⟩,callers,h⟩ 1:=
 xC rfl (fun U I=>⟨⟨I.cur.tmps,I.cur.defers,trivial⟩,I.callers,I.ids⟩) fun ρ cs g w Γ=>by obtain⟨R,tm,fY,h1,h2,h3,hc,rfl⟩:=kT.1 Γ;exact⟨_,hs ρ tm w _ R h1 _ _,kT.2 ⟨R,tm,fY,h1,h2,h3,hc,rfl⟩⟩
theorem zZ(ht:tagged kind=false)(hs:∀(b:Frame) (a:Act) w cs,b.roundOf=none->stepG K.P main (G (b.atR a todo) cs) w=.go (G {b.atR a todo with mode:=.returning} cs) w #[]):
  k7 K main ⟨⟨fn,nt,tmps,todo,defers,.run,kind⟩,callers,h⟩ ⟨⟨fn,nt,tmps,todo',defers,.returning,kind⟩,callers,h⟩ 1:=
 xC rfl (fun U I=>⟨⟨I.cur.tmps,I.cur.defers,trivial⟩,I.callers,I.ids⟩) fun ρ cs g w Γ=>by obtain⟨R,tm,fY,h1,h2,h3,hc,rfl⟩:=kT.1 Γ;exact⟨_,hs _ _ w _ (plain_round (pQ h2 ht) ρ fn),R,_,fY,⟨tm,todo,⟨h1,h2,(fun x=>by cases x),h3⟩,rfl⟩,hc,rfl⟩
theorem pS{ops:Array Oper}{i:Nat}{rest:List Nat}{k:List Item}{o:Oper}(ho:ops[i]?=some o)(hw:gN K.O ops tmps o=.ok false):
  k7 K main ⟨⟨fn,nt,tmps,.inRegion ops (i::rest)::k,defers,.run,kind⟩,callers,h⟩ ⟨⟨fn,nt,jx nt tmps o.dst cL,.inRegion ops rest::k,defers,.run,kind⟩,callers,h⟩ 1:=fun U ρ cs g w I Γ=>by
 have hnt:nt≤60000:=by obtain⟨R,tm,fY,h1,_⟩:=kT.1 Γ;exact h1.le
 have hin:∀U,gy K U ⟨⟨fn,nt,tmps,.inRegion ops (i::rest)::k,defers,.run,kind⟩,callers,h⟩->gy K U ⟨⟨fn,nt,jx nt tmps o.dst cL,.inRegion ops rest::k,defers,.run,kind⟩,callers,h⟩:=fun U I=>⟨⟨HH I.cur.tmps (by simp[cL,AV.In,AV.Ins]) hnt,I.cur.defers,trivial⟩,I.callers,I.ids⟩
 have L:k7 K main ⟨⟨fn,nt,tmps,.inRegion ops (i::rest)::k,defers,.run,kind⟩,callers,h⟩ ⟨⟨fn,nt,jx nt tmps o.dst cL,.inRegion ops rest::k,defers,.run,kind⟩,callers,h⟩ 1:=by refine xC rfl hin ?_;intro ρ cs g w Γ;obtain⟨R,tm,fY,h1,h2,h3,hc,rfl⟩:=kT.1 Γ;obtain⟨tm',e,Cf⟩:=CN (v:=cL) h1 (dB ρ kind (defers.map (AD.ev ρ))) o.dst;refine⟨_,Bx ho (rV R h1 hw),kT.2 ⟨R,tm',fY,Cf,h2,h3,hc,?_⟩⟩;show G ((bB ρ fn kind).atR (Act.put ⟨tm,dB ρ kind (defers.map (AD.ev ρ))⟩ o.dst (cL.ev ρ)) _) _=_;rw[e];rfl
 exact L U ρ cs g w I Γ
end frame
section op
variable {P:Program}{b:Frame}{a:Act}{k:List Item}{w:World}{ops:Array Oper}{i:Nat}{rest:List Nat}{o:Oper}{w':World}
end op
theorem Ka{P:Program}{O:dN}{ext:Ext}{h h':AH}{f:Operand->AV}{o:Oper}{n:AN}{c:Call}(he:op? P O ext h f o=.ok (n,h'))(hc:o.op=.defer c):∃d,n=.defer d:=by
 unfold op? at he;rw[hc]at he;dsimp only at he;split at he
 ·cases he;exact⟨_,rfl⟩
 ·cases he
def SW(P:Program)(ρ:Env)(b:Frame)(a:Act)(dst:Option Tmp)(ops:Array Oper)(i:Nat)(rest:List Nat)(k:List Item)(cs:List Frame):AN->Goroutine->Prop
 |.value v,g=>g=G (b.atR (a.put dst (v.ev ρ)) (.inRegion ops rest::k)) cs
 |.skip,g=>g=G (b.atR (a.put dst undef) (.inRegion ops rest::k)) cs
 |.enter f args,g=>g=G (Frame.enter P f (AV.evs ρ args).toArray .normal) (b.atR a (.inRegion ops (i::rest)::k)::cs)
 |.defer d,g=>g=G (b.atR (({a with defers:=d.ev ρ::a.defers}:Act).put dst undef) (.inRegion ops rest::k)) cs
 |.recover,g=>g=match tryRecover (b.atR a (.inRegion ops (i::rest)::k)) cs with
  |some (v,cs')=>G (b.atR (a.put dst v) (.inRegion ops rest::k)) cs'
  |none=>G (b.atR (a.put dst .nilIface) (.inRegion ops rest::k)) cs
 |.panic v,g=>g=G ((b.atR a (.inRegion ops (i::rest)::k)).raise [{v:=v.ev ρ,recovered:=false}]) cs
def FU(K:Ctx)(U:Nat->Prop)(ρ:Env)(cs:List Frame)(w:World)(fn:FuncId)(nt:Nat)(tmps:TT)(defers:List AD)(kind:CallKind)(callers:List bW)(h:AH)(dst:Option Tmp)(ops:Array Oper)(i:Nat)(rest:List Nat)(k:List Item)
 (n:AN)(h':AH)(g':Goroutine)(w':World):Prop:=
 ∃ρ',cz U ρ ρ'∧bU K.own w w'∧Rel K ρ' h' w'∧dg K U h h'∧n.In (plus U h.nb h'.nb)∧∃tm fY,o8 ρ' nt tmps tm∧(iF kind∨kind=.wrapped)∧(∃f,K.P.funcs[fn]?=some f)∧iq K.P ρ' callers fY∧
  SW K.P ρ' (bB ρ' fn kind) (aB ρ' kind tm defers) dst ops i rest k (fY++cs) n g'
theorem qv(Gd:K.Good)(F:K.iQ){ext:Ext}(X:iR K ext){fn:FuncId}{nt:Nat}{tmps:TT}{defers:List AD}{kind:CallKind}{callers:List bW}{h:AH}{ops:Array Oper}{i:Nat}{rest:List Nat}{k:List Item}{o:Oper}{n:AN}{h':AH}
 (ho:ops[i]?=some o)(hw:gN K.O ops tmps o=.ok true)(he:op? K.P K.O ext h (kY tmps) o=.ok (n,h'))(xD:nV kind n=true){g:Goroutine}{w:World}
 (I:gy K U ⟨⟨fn,nt,tmps,.inRegion ops (i::rest)::k,defers,.run,kind⟩,callers,h⟩)(Γ:qu K ρ ⟨⟨fn,nt,tmps,.inRegion ops (i::rest)::k,defers,.run,kind⟩,callers,h⟩ cs g w):
  Walk K.P main (DK K) (FU K U ρ cs w fn nt tmps defers kind callers h o.dst ops i rest k n h') 1 g w:=Walk.one Γ.running fun d=>by
 obtain⟨R,tm,fY,h1,h2,h3,hc,rfl⟩:=kT.1 (Γ.drawn d);have N:=Mw Gd F X R I.ids (CM I.cur.tmps) he;have hev:(aB ρ kind tm defers).eval=fun x=>(kY tmps x).ev ρ:=funext fun x=>th h1 _ x;have Cg:Region.wanted o (yielded ops (aB ρ kind tm defers).tmps)=true:=rV R h1 hw;have ZD:=QH h2 ρ fn;have hfree:uB (bB ρ fn kind) o:=by
  cases ht:tagged kind with
  |false=>exact .inl (plain_round (pQ h2 ht) ρ fn)
  |true=>refine .inr fun c hc=>?_;obtain⟨d,rfl⟩:=Ka he hc;unfold nV at xD;rw[ht]at xD;cases xD
 have MF:tagged kind=false->(bB ρ fn kind).roundOf=none:=fun ht=>plain_round (pQ h2 ht) ρ fn;have htd:∀{d:AD},n=.defer d->tagged kind=false:=fun e=>by
  subst e;cases ht:tagged kind with
  |false=>rfl
  |true=>unfold nV at xD;rw[ht]at xD;cases xD
 have htr:n=.recover->tagged kind=false:=fun e=>by
  subst e;cases ht:tagged kind with
  |false=>rfl
  |true=>unfold nV at xD;rw[ht]at xD;cases xD
 have run:=me (Bw Gd.Qy _ (N.run (E:=fun v w'=>∃v',n=.panic v'∧h'=h∧v=v'.ev ρ∧w'=cA w d) (Q:=fun nx w'=>After K U ρ (cA w d) h' (fun ρ'=>n.is ρ' nx) w') (fun nx w' x=>x) (fun v hn hh=>⟨v,hn,hh,rfl,rfl⟩)));rw[<-hev]at run;obtain⟨run,hes⟩:=run;have Kb:∀e∈listed K.P (bB ρ fn kind).fn (aB ρ kind tm defers) o (cA w d),K.Ev e:=fun e he=>hes e (mem_listed he);have post:∀{ρ':Env} {w':World} {g':Goroutine},cz U ρ ρ'->Rel K ρ' h' w'->bU K.own (cA w d) w'->
   SW K.P ρ' (bB ρ fn kind) (aB ρ kind tm defers) o.dst ops i rest k (fY++cs) n g'->
   FU K U ρ cs w fn nt tmps defers kind callers h o.dst ops i rest k n h' g' w':=fun A R' k x=>
  ⟨_,A,(ie _ w d).trans k,R',N.qP,N.mem,tm,fY,h1.agree A I.cur.tmps,h2,h3,iC A hc I.callers,by rw[tf A,tg A kind tm I.cur.defers];exact x⟩
 generalize hr:(execOp (aB ρ kind tm defers).eval o).run K.P (cA w d)=r at run;cases r with
 |ok nx w'=>
  obtain⟨⟨ρ',A,R',kp,is⟩,hst⟩:=run;cases n with
  |value v=>have Kc:nx=.value (v.ev ρ'):=is;subst Kc;rw[J7 hfree ho Cg ZD hr];exact⟨⟨kp,Kb,hst⟩,post A R' kp rfl⟩
  |skip=>have Kc:nx=.skip:=is;subst Kc;rw[MD hfree ho Cg ZD hr];exact⟨⟨kp,Kb,hst⟩,post A R' kp rfl⟩
  |enter f args=>have Kc:nx=.enter f (AV.evs ρ' args).toArray:=is;subst Kc;rw[J8 hfree ho Cg ZD hr];exact⟨⟨kp,Kb,hst⟩,post A R' kp rfl⟩
  |defer x=>have Kc:nx=.defer (x.ev ρ'):=is;subst Kc;rw[J_ (MF (htd rfl)) ho Cg ZD hr];exact⟨⟨kp,Kb,hst⟩,post A R' kp rfl⟩
  |recover=>have Kc:nx=.recover:=is;subst Kc;rw[CR (MF (htr rfl)) ho Cg ZD hr];exact⟨⟨kp,Kb,hst⟩,post A R' kp rfl⟩
  |panic v=>exact is.elim
 |halt x w'=>
  cases x with
  |panic v=>obtain⟨v',rfl,rfl,rfl,rfl⟩:=run;rw[J9 hfree ho Cg ZD hr];exact⟨⟨bU.refl _ _,Kb,fun _ _ _ _ x=>x⟩,post (cz.refl _ _) R (bU.refl _ _) rfl⟩
  |_=>exact run.elim
end
section
variable {K:Ctx}{main:Bool}{U:Nat->Prop}{ρ:Env}{cs:List Frame}
variable {fn:FuncId}{nt:Nat}{tmps:TT}{todo todo':List Item}{defers:List AD}{kind:CallKind}{callers:List bW}{h:AH}
variable {ops:Array Oper}{i:Nat}{rest:List Nat}{k:List Item}{o:Oper}
theorem xE{fr:bW}{v:AV}{fr':bW}(hf:ig fr v=.ok fr'):∃fn nt tmps ops i rest k defers kind,fr=⟨fn,nt,tmps,.inRegion ops (i::rest)::k,defers,.run,kind⟩∧
  fr'=⟨fn,nt,jx nt tmps ((ops[i]?).bind (·.dst)) v,.inRegion ops rest::k,defers,.run,kind⟩:=by
 unfold ig at hf;split at hf
 ·cases hf;exact⟨_,_,_,_,_,_,_,_,_,rfl,rfl⟩
 ·cases hf
theorem z6:cL.In U:=by simp[cL,AV.In,AV.Ins]
theorem aaj{k:CallKind}{v:AV}:nV k (.value v)=true:=by unfold nV;cases tagged k<;>rfl
theorem aak{k:CallKind}:nV k .skip=true:=by unfold nV;cases tagged k<;>rfl
theorem SY{k:CallKind}{f:FuncId}{args:List AV}:nV k (.enter f args)=true:=by unfold nV;cases tagged k<;>rfl
theorem aal{k:CallKind}{v:AV}:nV k (.panic v)=true:=by unfold nV;cases tagged k<;>rfl
theorem QM{ρ:Env}{k:CallKind}{tm:Array Value}{d:AD}{ds:List AD}:aB ρ k tm (d::ds)={aB ρ k tm ds with defers:=d.ev ρ::(aB ρ k tm ds).defers}:=by unfold aB;rw[aU,HG]
theorem mA{w w':World}{h':AH}{ρ':Env}{v:AV}{tm:Array Value}{fY:List Frame}{ds:List AD}{callers':List bW}{dst:Option Tmp}
 (A:cz U ρ ρ')(kp:bU K.own w w')(R:Rel K ρ' h' w')(gr:dg K U h h')(hv:v.In (plus U h.nb h'.nb))(ht:tmps.In U)(hd:∀d∈ds,d.In (plus U h.nb h'.nb))(n9:∀fr∈callers',fr.In (plus U h.nb h'.nb))
 (h1:o8 ρ' nt tmps tm)(h2:iF kind∨kind=.wrapped)(h3:∃f,K.P.funcs[fn]?=some f)(hc:iq K.P ρ' callers' fY):
  Next K U ρ cs w h ⟨⟨fn,nt,jx nt tmps dst v,.inRegion ops rest::k,ds,.run,kind⟩,callers',h'⟩ (G ((bB ρ' fn kind).atR ((aB ρ' kind tm ds).put dst (v.ev ρ')) (.inRegion ops rest::k)) (fY++cs)) w':=by
 obtain⟨tm',e,Cf⟩:=CN (v:=v) h1 (dB ρ' kind (ds.map (AD.ev ρ'))) dst;refine⟨ρ',A,kp,gr,⟨⟨HH (TT.In.mono ck ht) hv h1.le,hd,trivial⟩,n9,gr.ids⟩,kT.2 ⟨R,tm',fY,Cf,h2,h3,hc,?_⟩⟩;show G ((bB ρ' fn kind).atR (Act.put ⟨tm,dB ρ' kind (ds.map (AD.ev ρ'))⟩ dst (v.ev ρ')) _) _=_;rw[e];rfl
def MG(P:Program)(U:Nat->Prop)(ρ:Env)(cs:List Frame)(fr:Frame)(fY:List Frame):Option (AV×List bW)->Prop
 |some (v,callers')=>v.In U∧(∀fr∈callers',fr.In U)∧∃tj,tryRecover fr (fY++cs)=some (v.ev ρ,tj++cs)∧iq P ρ callers' tj
 |none=>tryRecover fr (fY++cs)=none
theorem qT{P:Program}{fr:Frame}{fY:List Frame}{r:Option (AV×List bW)}(hk:fr.kind=kind)(hr:wS kind callers=.ok r)(hc:iq P ρ callers fY)(n9:∀fr∈callers,fr.In U):
  MG P U ρ cs fr fY r:=by
 cases kind with
 |normal=>cases hr;show tryRecover _ _=none;simp[tryRecover,hk]
 |deferred=>
  cases callers with
  |nil=>cases hr
  |cons c tail=>
   obtain⟨fn,nt,tmps,todo,defers,mode,kd⟩:=c;cases fY with
   |nil=>simp only[iq]at hc
   |cons f fY=>
    simp only[iq]at hc;obtain⟨⟨tm,ZE,is,rfl⟩,QF⟩:=hc;have other:r=none->(match mode.ev ρ with|.panicking ({v,recovered:=false,goexit:=false}::older)=>False|_=>True)->MG P U ρ cs fr (d_ ρ ⟨fn,nt,tmps,todo,defers,mode,kd⟩ tm ZE::fY) r:=by
     intro h1 h2;subst h1;show tryRecover _ _=none;simp only[tryRecover,hk,List.cons_append];have:(d_ ρ ⟨fn,nt,tmps,todo,defers,mode,kd⟩ tm ZE).mode=mode.ev ρ:=rfl;rw[this];revert h2;generalize mode.ev ρ=m;split
     ·exact False.elim
     ·rename_i hne;intro _;split
      ·rename_i v older;exact absurd rfl (hne v older)
      ·rfl
    cases mode with
    |run=>cases hr;exact other rfl trivial
    |returning=>cases hr;exact other rfl trivial
    |panicking chain=>
     cases chain with
     |nil=>cases hr;exact other rfl trivial
     |cons x older=>
      obtain⟨v,b'⟩:=x;cases b' with
      |true=>cases hr;exact other rfl trivial
      |false=>
       cases hr;have hin:=n9 _ (aj ..);have hm:∀x∈(v,false)::older,x.1.In U:=hin.mode;refine⟨hm _ (aj ..),?_,{d_ ρ ⟨fn,nt,tmps,todo,defers,.panicking ((v,true)::older),kd⟩ tm ZE with mode:=(gU.panicking ((v,true)::older)).ev ρ}::fY,?_,⟨tm,ZE,⟨is.tmps,is.kind,(fun x=>by cases x),is.fn⟩,rfl⟩,QF⟩
       ·intro fr hfr;rcases ai.1 hfr with rfl|hfr
        ·refine⟨hin.tmps,hin.defers,?_⟩;intro x hx;rcases ai.1 hx with rfl|hx
         ·exact hm (v,false) (aj ..)
         ·exact hm x (af _ hx)
        ·exact n9 fr (af _ hfr)
       ·simp only[tryRecover,hk,List.cons_append,d_,gU.ev,aU]
 |_=>cases hr
theorem qw{n:AN}{h':AH}{c':ee}{w w':World}{g':Goroutine}(hu:upon K.P ⟨fn,nt,tmps,.inRegion ops (i::rest)::k,defers,.run,kind⟩ callers n h'=.ok c')(ho:ops[i]?=some o)
 (I:gy K U ⟨⟨fn,nt,tmps,.inRegion ops (i::rest)::k,defers,.run,kind⟩,callers,h⟩)(post:FU K U ρ cs w fn nt tmps defers kind callers h o.dst ops i rest k n h' g' w'):Next K U ρ cs w h c' g' w':=by
 obtain⟨ρ',A,kp,R,gr,mem,tm,fY,h1,h2,h3,hc,ng⟩:=post;have hd:∀d∈defers,d.In (plus U h.nb h'.nb):=fun d hd=>(I.cur.defers d hd).mono ck;have n9:∀fr∈callers,fr.In (plus U h.nb h'.nb):=fun fr hf=>(I.callers fr hf).mono ck;cases n with
 |value v=>simp only[upon,ig,ho]at hu;cases hu;have FV:g'=_:=ng;rw[FV];exact mA A kp R gr mem I.cur.tmps hd n9 h1 h2 h3 hc
 |skip=>simp only[upon,ig,ho]at hu;cases hu;have FV:g'=_:=ng;rw[FV];exact mA (v:=cL) A kp R gr z6 I.cur.tmps hd n9 h1 h2 h3 hc
 |defer d=>
  simp only[upon,ig,ho]at hu;cases hu;have FV:g'=_:=ng;rw[FV];rw[<-QM];refine mA (v:=cL) (ds:=d::defers) A kp R gr z6 I.cur.tmps ?_ n9 h1 h2 h3 hc;intro x hx;rcases ai.1 hx with rfl|hx
  ·exact mem
  ·exact hd x hx
 |enter f args=>
  simp only[upon]at hu;split at hu
  ·rename_i fr' he;cases hu;have FV:g'=_:=ng;rw[FV];obtain⟨e1,e2,e3,e4,e5⟩:=gZ he (.inl rfl) mem (ρ:=ρ');refine⟨ρ',A,kp,gr,⟨e2,?_,gr.ids⟩,R,_,(bB ρ' fn kind).atR (aB ρ' kind tm defers) (.inRegion ops (i::rest)::k)::fY,e1,⟨⟨tm,_,⟨h1,h2,fun _=>rfl,h3⟩,rfl⟩,hc⟩,rfl⟩;intro fr hfr;rcases ai.1 hfr with rfl|hfr
   ·exact I.cur.mono ck
   ·exact n9 fr hfr
  ·cases hu
 |recover=>
  simp only[upon,ig,ho]at hu;have FV:g'=_:=ng;rw[FV];split at hu
  ·cases hu
  ·rename_i v callers' hr;cases hu;have hpk:iF kind:=by
    rcases h2 with h2|rfl
    ·exact h2
    ·cases hr
   obtain⟨t1,t2,tj,t3,t4⟩:=qT (cs:=cs) (fr:=(bB ρ' fn kind).atR (aB ρ' kind tm defers) (.inRegion ops (i::rest)::k)) (by rw[pR hpk];rfl) hr hc n9;rw[t3];exact mA A kp R gr t1 I.cur.tmps hd t2 h1 h2 h3 t4
  ·rename_i hr;cases hu;have hpk:iF kind:=by
    rcases h2 with h2|rfl
    ·exact h2
    ·cases hr
   have t3:=qT (cs:=cs) (fr:=(bB ρ' fn kind).atR (aB ρ' kind tm defers) (.inRegion ops (i::rest)::k)) (by rw[pR hpk];rfl) hr hc n9;simp only[MG]at t3;rw[t3];exact mA (v:=.nilIface) A kp R gr trivial I.cur.tmps hd n9 h1 h2 h3 hc
 |panic v=>simp only[upon,pz]at hu;cases hu;have FV:g'=_:=ng;rw[FV];refine⟨ρ',A,kp,gr,⟨⟨TT.In.mono ck I.cur.tmps,hd,?_⟩,n9,gr.ids⟩,R,_,fY,⟨tm,_,⟨h1,h2,(fun x=>by cases x),h3⟩,rfl⟩,hc,rfl⟩;intro x hx;simp only[ah]at hx;subst hx;exact mem
end
def j0(K:Ctx)(main:Bool)(call:FuncId->List AV->AH->M (AE×AH)):Prop:=
 ∀f args h r,call f args h=.ok r->∃fr N,bT K.P f args .normal=.ok fr∧Ends K main ⟨fr,[],h⟩ r N
section
variable {K:Ctx}{main:Bool}{U:Nat->Prop}{ρ:Env}{cs:List Frame}
variable {fn:FuncId}{nt:Nat}{tmps:TT}{todo todo':List Item}{defers:List AD}{kind:CallKind}{callers:List bW}{h:AH}
variable {ops:Array Oper}{i:Nat}{rest:List Nat}{k:List Item}{o:Oper}
theorem xF{f:FuncId}{ρ:Env}{v:AV}{caller:Frame}{g:Goroutine}{w:World}(E:xB K f ρ (.returned v) (caller::cs) g w):Walk K.P main (DK K) (fun g' w'=>(∃d,w'=cA w d)∧g'=G (caller.finish (v.ev ρ)) cs) 1 g w:=by
 obtain⟨fr,fnn,rfl,_,hd,hf,hm,hk,hq⟩:=E;refine Walk.one rfl fun d=>?_;have hrun:=me (hq d (Q:=fun x w'=>x=v.ev ρ∧w'=cA w d) ⟨rfl,rfl⟩);obtain⟨hrun,hes⟩:=hrun;generalize hr:(results fnn fr.tmps).run K.P (cA w d)=r at hrun;cases r with
 |ok x w'=>
  obtain⟨rfl,rfl⟩:=hrun;have:stepG K.P main (G fr (caller::cs)) (cA w d)=.go (G (caller.finish (v.ev ρ)) cs) (cA w d) (seen K.P fr.fn ((results fnn fr.tmps).events K.P (cA w d) #[])):=by simp[G,stepG,unwind,doReturn,hm,hd,hf,hr,hk,GStep.after]
  rw[this];exact⟨⟨bU.refl _ _,fun e he=>hes e (mem_seen he),fun _ _ _ _ x=>x⟩,⟨d,rfl⟩,rfl⟩
 |halt x w'=>cases x<;>exact hrun.elim
theorem xG{f:FuncId}{ρ:Env}{chain:List (AV×Bool)}{caller:Frame}{g:Goroutine}{w:World}(E:xB K f ρ (.panicked chain) (caller::cs) g w):
  Walk K.P main (DK K) (fun g' w'=>(∃d,w'=cA w d)∧g'=G (caller.raise (chain.map fun x=>{v:=x.1.ev ρ,recovered:=x.2})) cs) 1 g w:=by
 obtain⟨fr,fnn,rfl,_,hd,hf,hm⟩:=E;refine Walk.one rfl fun d=>?_;have hm':fr.mode=.panicking (chain.map fun x=>{v:=x.1.ev ρ,recovered:=x.2}):=hm;have:stepG K.P main (G fr (caller::cs)) (cA w d)=.go (G (caller.raise (chain.map fun x=>{v:=x.1.ev ρ,recovered:=x.2})) cs) (cA w d) #[]:=by simp[G,stepG,unwind,hm',hd,hf,Frame.catches]
 rw[this];exact⟨⟨bU.refl _ _,fun e he=>(by simp at he),fun _ _ _ _ x=>x⟩,⟨d,rfl⟩,rfl⟩
def fJ(K:Ctx)(U:Nat->Prop)(ρ:Env)(cs:List Frame)(w:World)(h0:AH)(fn:FuncId)(nt:Nat)(todo:List Item)(defers:List AD)(kind:CallKind)(callers:List bW):AR->Goroutine->World->Prop
 |.on t h,g',w'=>Next K U ρ cs w h0 ⟨⟨fn,nt,t,todo,defers,.run,kind⟩,callers,h⟩ g' w'
 |.panic t chain h,g',w'=>∀td,Next K U ρ cs w h0 ⟨⟨fn,nt,t,td,defers,.panicking chain,kind⟩,callers,h⟩ g' w'
theorem jd(Gd:K.Good)(F:K.iQ){ext:Ext}(X:iR K ext){call:FuncId->List AV->AH->M (AE×AH)}(C:j0 K main call){r:AR}(he:jJ K.P K.O ext call nt ops i tmps h=.ok r):
  ∃N,∀{fn defers kind callers U ρ cs g w rest k},gy K U ⟨⟨fn,nt,tmps,.inRegion ops (i::rest)::k,defers,.run,kind⟩,callers,h⟩->qu K ρ ⟨⟨fn,nt,tmps,.inRegion ops (i::rest)::k,defers,.run,kind⟩,callers,h⟩ cs g w->
   Walk K.P main (DK K) (fJ K U ρ cs w h fn nt (.inRegion ops rest::k) defers kind callers r) N g w:=by
 unfold jJ at he;split at he
 ·cases he
 ·rename_i o ho;split at he
  ·cases he
  ·rename_i hw;cases he;exact⟨1,fun I Γ=>pS ho hw _ _ _ _ _ I Γ⟩
  ·rename_i hw;split at he
   ·cases he
   ·rename_i v h' hop;cases he;refine⟨1,fun{fn defers kind callers U ρ cs g w rest k} I Γ=>(qv Gd F X ho hw hop aaj I Γ).weaken fun g' w' post=>qw (c':=⟨⟨fn,nt,jx nt tmps o.dst v,.inRegion ops rest::k,defers,.run,kind⟩,callers,h'⟩) ?_ ho I post⟩;simp[upon,ig,ho]
   ·rename_i h' hop;cases he;refine⟨1,fun{fn defers kind callers U ρ cs g w rest k} I Γ=>(qv Gd F X ho hw hop aak I Γ).weaken fun g' w' post=>qw (c':=⟨⟨fn,nt,jx nt tmps o.dst cL,.inRegion ops rest::k,defers,.run,kind⟩,callers,h'⟩) ?_ ho I post⟩;simp[upon,ig,ho]
   ·rename_i f args h' hop;split at he
    ·rename_i v h'' MH;cases he;obtain⟨fr,N,Vk,E⟩:=C _ _ _ _ MH;refine⟨1+(N+1),fun{fn defers kind callers U ρ cs g w rest k} I Γ=>Walk.trans (fun g' w' post=>?_) (qv Gd F X ho hw hop SY I Γ)⟩;obtain⟨ρ',A,kp,R,gr,mem,tm,fY,h1,h2,h3,hc,ng⟩:=post;have FV:g'=_:=ng;obtain⟨e1,e2,e3,e4,e5⟩:=gZ Vk (.inl rfl) mem (ρ:=ρ');refine Walk.trans (fun g2 w2 done=>?_) (E (plus U h.nb h'.nb) ρ' ((bB ρ' fn kind).atR (aB ρ' kind tm defers) (.inRegion ops (i::rest)::k)::(fY++cs)) g' w' ⟨e2,(fun _ x=>by simp at x),gr.ids⟩ ⟨R,_,[],e1,trivial,FV⟩);obtain⟨QN,A2,MI,gr2,hv,R2,ends⟩:=done;refine(xF ends).weaken fun g3 w3 ⟨⟨d,hw3⟩,hg3⟩=>?_;subst hw3 hg3;have QO:=gr.trans gr2;have A02:=A.trans A2 ck;have b_:∀d∈defers,d.In (plus U h.nb h'.nb):=fun x hx=>(I.cur.defers x hx).mono ck;have QF:=iC A2 hc fun fr hf=>(I.callers fr hf).mono ck;have ZF:v.In (plus U h.nb h''.nb):=AV.In.mono (fun n=>(lV gr.nb gr2.nb n).1) _ hv;have:=mA (U:=U) (ρ:=ρ) (h:=h) (cs:=cs) (fn:=fn) (kind:=kind) (ops:=ops) (rest:=rest) (k:=k) (dst:=o.dst) (ds:=defers) A02 ((kp.trans MI).trans (ie _ w2 d)) (R2.drawn d) QO ZF I.cur.tmps (fun x hx=>(I.cur.defers x hx).mono ck) (fun fr hf=>(I.callers fr hf).mono ck)
      (h1.agree A2 (TT.In.mono ck I.cur.tmps)) h2 h3 QF
     rw[J6 _ _ ho,<-tf A2 fn kind,<-tg A2 kind tm b_];exact this
    ·rename_i chain h'' MH;cases he;obtain⟨fr,N,Vk,E⟩:=C _ _ _ _ MH;refine⟨1+(N+1),fun{fn defers kind callers U ρ cs g w rest k} I Γ=>Walk.trans (fun g' w' post=>?_) (qv Gd F X ho hw hop SY I Γ)⟩;obtain⟨ρ',A,kp,R,gr,mem,tm,fY,h1,h2,h3,hc,ng⟩:=post;have FV:g'=_:=ng;obtain⟨e1,e2,e3,e4,e5⟩:=gZ Vk (.inl rfl) mem (ρ:=ρ');refine Walk.trans (fun g2 w2 done=>?_) (E (plus U h.nb h'.nb) ρ' ((bB ρ' fn kind).atR (aB ρ' kind tm defers) (.inRegion ops (i::rest)::k)::(fY++cs)) g' w' ⟨e2,(fun _ x=>by simp at x),gr.ids⟩ ⟨R,_,[],e1,trivial,FV⟩);obtain⟨QN,A2,MI,gr2,hv,R2,ends⟩:=done;refine(xG ends).weaken fun g3 w3 ⟨⟨d,hw3⟩,hg3⟩=>?_;subst hw3 hg3;intro td;have QO:=gr.trans gr2;have A02:=A.trans A2 ck;have b_:∀d∈defers,d.In (plus U h.nb h'.nb):=fun x hx=>(I.cur.defers x hx).mono ck;have QF:=iC A2 hc fun fr hf=>(I.callers fr hf).mono ck;have ZF:∀x∈chain,x.1.In (plus U h.nb h''.nb):=fun x hx=>AV.In.mono (fun n=>(lV gr.nb gr2.nb n).1) _ (hv x hx);refine⟨QN,A02,(kp.trans MI).trans (ie _ w2 d),QO,⟨⟨TT.In.mono ck I.cur.tmps,fun x hx=>(I.cur.defers x hx).mono ck,ZF⟩,fun fr hf=>(I.callers fr hf).mono ck,QO.ids⟩,R2.drawn d,_,fY,
      ⟨tm,.inRegion ops (i::rest)::k,⟨h1.agree A2 (TT.In.mono ck I.cur.tmps),h2,(fun x=>by cases x),h3⟩,rfl⟩,QF,?_⟩
     rw[<-tf A2 fn kind,<-tg A2 kind tm b_];rfl
    ·cases he
   ·rename_i v h' hop;cases he;refine⟨1,fun{fn defers kind callers U ρ cs g w rest k} I Γ=>(qv Gd F X ho hw hop aal I Γ).weaken fun g' w' post=>?_⟩;intro td;have:=qw (c':=⟨⟨fn,nt,tmps,.inRegion ops (i::rest)::k,defers,.panicking [(v,false)],kind⟩,callers,h'⟩) rfl ho I post;obtain⟨ρ',a1,a2,a3,a4,R,fr,fY,⟨tm,ZE,is,rfl⟩,hc,rfl⟩:=this;exact⟨ρ',a1,a2,a3,⟨⟨a4.cur.tmps,a4.cur.defers,a4.cur.mode⟩,a4.callers,a4.ids⟩,R,_,fY,⟨tm,ZE,⟨is.tmps,is.kind,(fun x=>by cases x),is.fn⟩,rfl⟩,hc,rfl⟩
   ·cases he
end
def jl(ops:Array Oper):List Nat->List Nat->Prop
 |s,[]=>cH ops s=[]
 |s,i::l=>i∈cH ops s∧jl ops (i::s) l
def oF(ops:Array Oper)(s:List Nat):List Nat:=(List.range ops.size).filter fun i=>!s.contains i
theorem CU{ops:Array Oper}{s:List Nat}{i:Nat}(hi:i∈oF ops s):(oF ops (i::s)).length<(oF ops s).length:=by
 have:oF ops (i::s)=(oF ops s).filter fun j=>!(j==i):=by unfold oF;rw[List.filter_filter];apply List.filter_congr;intro j _;by_cases hj:j=i<;>simp[List.contains_cons,hj]
 rw[this];exact List.length_filter_lt_length_iff_exists.2 ⟨i,hi,by simp⟩
theorem pU{ops:Array Oper}{s:List Nat}{i:Nat}(h:i∈cH ops s):i∈oF ops s:=by unfold cH at h;obtain⟨h1,h2⟩:=aO.1 h;exact aO.2 ⟨h1,by simp only[aq]at h2;exact h2.1⟩
theorem dw{ops:Array Oper}{s:List Nat}{i:Nat}(h:i∈cH ops s):i<ops.size∧i∉s:=by obtain⟨h1,h2⟩:=aO.1 (pU h);exact⟨List.mem_range.1 h1,by simpa using h2⟩
theorem MJ(ops:Array Oper):∀(fuel t:Nat) (listed:Array Bool) (acc s:List Nat),listed.size=ops.size->(∀j,listed.getD j false=s.contains j)->(oF ops s).length≤fuel->
  ∃l,Region.linearise.go .any ops fuel t listed acc=acc.reverse++l∧jl ops s l:=by
 intro fuel
 induction fuel with
 |zero=>intro t listed acc s _ _ ho;refine⟨[],by simp[Region.linearise.go],?_⟩;show cH ops s=[];apply List.eq_nil_iff_forall_not_mem.2;intro i hi;have:=pU hi;rw[bz (Nat.le_zero.1 ho)]at this;cases this
 |succ fuel ih=>
  intro t listed acc s hsz hl ho;have hrs:((List.range ops.size).filter fun i=>!listed.getD i true&&((ops[i]?).map (fun o=>o.after.all fun e=>!Region.binds .any e||listed.getD e.on false)).getD false)=cH ops s:=by
   unfold cH;apply List.filter_congr;intro i hi;have hi':i<ops.size:=List.mem_range.1 hi;have h1:listed.getD i true=listed.getD i false:=by rw[aZ,aZ,aS (by rw[hsz];exact hi')];rfl
   rw[h1,hl i,aS hi'];simp only[av,Option.getD_some,qj];congr 1;congr 1;funext e;rw[hl e.on]
  rw[Region.linearise.go];simp only[hrs];split
  ·rename_i i hi;have hmem:i∈cH ops s:=az hi;obtain⟨hi1,hi2⟩:=dw hmem;have hl':∀j,(listed.setIfInBounds i true).getD j false=(i::s).contains j:=fun j=>by
    rw[aZ,List.contains_cons];by_cases hj:j=i
    ·subst hj;simp[hsz,hi1]
    ·have:(j==i)=false:=by simpa using hj
     rw[this,Bool.false_or,<-hl j,aZ,bw (fun x=>hj x.symm)]
   obtain⟨l,e,hs⟩:=ih (t / (cH ops s).length) (listed.setIfInBounds i true) (i::acc) (i::s) (by simpa using hsz) hl' (by have:=CU (pU hmem);omega);exact⟨i::l,by rw[e];simp,hmem,hs⟩
  ·rename_i hn;refine⟨[],by simp,?_⟩;show cH ops s=[];rcases Nat.eq_zero_or_pos (cH ops s).length with h0|h0
   ·exact bz h0
   ·rw[List.getElem?_eq_none_iff]at hn;have:=Nat.mod_lt t h0;omega
theorem j4(ops:Array Oper)(t:Nat):jl ops [] (Region.schedule true ops t):=by
 obtain⟨l,e,h⟩:=MJ ops ops.size t (Array.replicate ops.size false) [] [] (by simp) (fun j=>by
  rw[aZ,Array.getElem?_replicate];split<;>simp) (by
  unfold oF;exact ax (List.length_filter_le _ _) (by simp))
 have:Region.schedule true ops t=l:=by simp[Region.schedule,Region.linearise,e]
 rw[this];exact h
theorem pV{a b:List Nat}(h:sI a b=true)(i:Nat):i∈a↔i∈b:=by unfold sI at h;simp only[aq,aE,List.contains_iff_mem]at h;exact⟨h.1 i,h.2 i⟩
theorem contains_congr{a b:List Nat}(h:∀i,i∈a↔i∈b)(i:Nat):a.contains i=b.contains i:=by
 have:=h i;by_cases hi:i∈a
 ·simp[hi,this.1 hi]
 ·have:i∉b:=fun x=>hi (this.2 x);simp[hi,this]
theorem nI{ops:Array Oper}{a b:List Nat}(h:∀i,i∈a↔i∈b):cH ops a=cH ops b:=by
 unfold cH;apply List.filter_congr;intro i _;rw[contains_congr h];congr 1;split
 ·unfold qj;congr 1;funext e;rw[contains_congr h]
 ·rfl
theorem jl.congr{ops:Array Oper}:∀{l a b:List Nat},(∀i,i∈a↔i∈b)->jl ops a l->jl ops b l
 |[],a,b,h,hs=>by have:cH ops a=[]:=hs;show cH ops b=[];rw[<-nI h];exact this
 |i::l,a,b,h,hs=>⟨by rw[<-nI h];exact hs.1,jl.congr (fun j=>by simp[h j]) hs.2⟩
def Us(U0:Nat->Prop)(h0:AH)(s:List Nat):Nat->Prop:=fun n=>U0 n∨∃j∈s,h0.nb+j*iE h0≤n∧n<h0.nb+(j+1)*iE h0
theorem FW(h0:AH){i:Nat}(hi:i<65536){n:Nat}(hn:n<h0.nb+(i+1)*iE h0)(hn0:h0.nb+i*iE h0≤n):n<h0.lim:=by have h1:(i+1)*iE h0≤65536*iE h0:=bk _ hi;have h2:65536*iE h0≤h0.lim-h0.nb:=Nat.mul_div_le _ _;omega
theorem By{s i j n nb:Nat}(h1:nb+i*s≤n)(h2:n<nb+(i+1)*s)(h3:nb+j*s≤n)(h4:n<nb+(j+1)*s):i=j:=by
 rcases Nat.lt_trichotomy i j with h|h|h
 ·have:=bk s (Nat.succ_le_of_lt h);simp only[Nat.succ_eq_add_one]at this;omega
 ·exact h
 ·have:=bk s (Nat.succ_le_of_lt h);simp only[Nat.succ_eq_add_one]at this;omega
theorem CV{K:Ctx}{U0:Nat->Prop}{h0:AH}{s:List Nat}{i:Nat}(I0:gf K U0 h0)(hi:i<65536)(hs:i∉s){n:Nat}(h1:h0.nb+i*iE h0≤n)(h2:n<h0.nb+(i+1)*iE h0):¬Us U0 h0 s n:=by
 rintro(x|⟨j,hj,x1,x2⟩)
 ·exact I0.fresh n (by omega) (FW h0 hi h2 h1) x
 ·have:=By h1 h2 x1 x2;subst this;exact hs hj
theorem Rel.hp{K:Ctx}{ρ:Env}{h h':AH}{w:World}(R:Rel K ρ h w)(e:h'.hp=h.hp):Rel K ρ h' w:=
 ⟨fun i b hb=>R.blk i b (by rw[<-e];exact hb),fun i b hb=>R.rN i b (by rw[<-e];exact hb),fun i j b c h1 h2=>R.inj i j b c (by rw[<-e];exact h1) (by rw[<-e];exact h2),R.bs,R.is,R.mem,R.room,fun i b hb=>R.gp i b (by rw[<-e];exact hb),R.low⟩
theorem qu.hp{K:Ctx}{ρ:Env}{cur:bW}{callers:List bW}{h h':AH}{cs:List Frame}{g:Goroutine}{w:World}(Γ:qu K ρ ⟨cur,callers,h⟩ cs g w)(e:h'.hp=h.hp):qu K ρ ⟨cur,callers,h'⟩ cs g w:=
 ⟨Rel.hp Γ.1 e,Γ.2⟩
theorem gy.lax{K:Ctx}{U U':Nat->Prop}{cur:bW}{callers:List bW}{h h':AH}(I:gy K U ⟨cur,callers,h⟩)(e:h'.hp=h.hp)(hs:∀n,U n->U' n)(fr:∀n,h'.nb≤n->n<h'.lim->¬U' n):gy K U' ⟨cur,callers,h'⟩:=
 ⟨I.cur.mono hs,fun fr hf=>(I.callers fr hf).mono hs,⟨fun i b hb=>bQ.In.mono hs (I.ids.hp i b (by rw[<-e];exact hb)),fun i hi=>hs i (I.ids.keys i (by show i∈Go.Proofs.YtmobbajggkjpgaaGreat.SX.keys h.hp;rw[<-e];exact hi)),(by show(Go.Proofs.YtmobbajggkjpgaaGreat.SX.keys h'.hp).Nodup;rw[e];exact I.ids.nodup),fr,I.ids.Co.mono hs⟩⟩
section
variable {K:Ctx}{main:Bool}{nt:Nat}{ops:Array Oper}
theorem z7{s:List Nat}{t:TT}{h:AH}:∀{L L':Hp},wU s t h L=.ok L'->(∀e∈L,e∈L')∧∃s' h',(s',t,h')∈L'∧sI s s'=true∧h'.hp=h.hp
 |[],L',he=>by simp only[wU]at he;cases he;refine⟨(fun e x=>by cases x),s,h,ah.2 rfl,?_,rfl⟩;simp[sI]
 |(s',t',h')::L,L',he=>by
  simp only[wU]at he;split at he
  ·rename_i hs;split at he
   ·rename_i hq;cases he;simp only[aq]at hq;obtain rfl:=TT.cM hq.1;exact⟨fun e x=>x,s',h',aj ..,hs,(Ck hq.2).symm⟩
   ·cases he
  ·split at he
   ·rename_i l hl;cases he;obtain⟨a,s2,h2,b,c,d⟩:=z7 hl;refine⟨fun e x=>?_,s2,h2,af _ b,c,d⟩;rcases ai.1 x with rfl|x
    ·exact aj ..
    ·exact af _ (a e x)
   ·cases he
def CW(K:Ctx)(U0:Nat->Prop)(h0:AH)(ρ:Env)(cs:List Frame)(w:World)(fn:FuncId)(nt:Nat)(ops:Array Oper)(l:List Nat)(k:List Item)(defers:List AD)(kind:CallKind)(callers:List bW)(s1:List Nat)(L':Hp)(g':Goroutine)(w':World):Prop:=
 ∃s' t' h',(s',t',h')∈L'∧(∀i,i∈s1↔i∈s')∧∃ρ',cz U0 ρ ρ'∧bU K.own w w'∧gy K (Us U0 h0 s') ⟨⟨fn,nt,t',.inRegion ops l::k,defers,.run,kind⟩,callers,bare h'⟩∧
  qu K ρ' ⟨⟨fn,nt,t',.inRegion ops l::k,defers,.run,kind⟩,callers,h'⟩ cs g' w'
theorem CW.sub{U0:Nat->Prop}{h0:AH}{ρ:Env}{cs:List Frame}{w:World}{fn:FuncId}{l:List Nat}{k:List Item}{defers:List AD}{kind:CallKind}{callers:List bW}{s1:List Nat}{L L':Hp}{g':Goroutine}{w':World}
 (hs:∀e∈L,e∈L')(F:CW K U0 h0 ρ cs w fn nt ops l k defers kind callers s1 L g' w'):CW K U0 h0 ρ cs w fn nt ops l k defers kind callers s1 L' g' w':=by
 obtain⟨s',t',h',a,b⟩:=F;exact⟨s',t',h',hs _ a,b⟩
theorem rW(Gd:K.Good)(F:K.iQ){ext:Ext}(X:iR K ext){call:FuncId->List AV->AH->M (AE×AH)}(C:j0 K main call)(hops:ops.size≤65536){h0:AH}{s:List Nat}{t:TT}{h:AH}:
  ∀{r:List Nat} {L L':Hp},ql K.P K.O ext call nt ops h0 s t h r L=.ok L'->(∀e∈L,e∈L')∧
   ∃N,∀i∈r,i<ops.size->i∉s->∀{fn defers kind callers U0 ρ cs g w l k},gf K U0 h0->gy K (Us U0 h0 s) ⟨⟨fn,nt,t,.inRegion ops (i::l)::k,defers,.run,kind⟩,callers,bare h⟩->
    qu K ρ ⟨⟨fn,nt,t,.inRegion ops (i::l)::k,defers,.run,kind⟩,callers,h⟩ cs g w->Walk K.P main (DK K) (CW K U0 h0 ρ cs w fn nt ops l k defers kind callers (i::s) L') N g w
 |[],L,L',he=>by simp only[ql]at he;cases he;exact⟨fun e x=>x,0,fun i x=>by cases x⟩
 |i::r,L,L',he=>by
  simp only[ql]at he;split at he
  ·cases he
  ·cases he
  ·rename_i t' h' hop;split at he
   ·rename_i hlim;split at he
    ·rename_i L1 hput;obtain⟨a1,s',hh,a2,a3,a4⟩:=z7 hput;obtain⟨b1,N,b2⟩:=rW Gd F X C hops he;obtain⟨M,hM⟩:=jd Gd F X C hop;refine⟨fun e x=>b1 e (a1 e x),N+M,fun j hj hj1 hj2 {fn defers kind callers U0 ρ cs g w l k} I0 I Γ=>?_⟩;rcases ai.1 hj with rfl|hj
     ·have I':gy K (Us U0 h0 s) ⟨⟨fn,nt,t,.inRegion ops (j::l)::k,defers,.run,kind⟩,callers,l9 h0 j h⟩:=
       I.lax rfl (fun n x=>x) fun n x1 x2=>CV I0 (by omega) hj2 x1 x2
      refine((hM I' (Γ.hp rfl)).weaken fun g' w' nx=>?_).mono (Nat.le_add_left _ _);obtain⟨ρ',c1,c2,c3,c4,c5⟩:=nx;refine⟨s',t',hh,b1 _ a2,pV a3,ρ',c1.mono (fun n x=>.inl x),c2,?_,c5.hp a4⟩;refine c4.lax a4 (fun n x=>?_) fun n x1 x2=>by simp[bare]at x2
      rcases x with(x|⟨q,q1,q2⟩)|x
      ·exact .inl x
      ·exact .inr ⟨q,(pV a3 q).1 (af _ q1),q2⟩
      ·have hl:h'.lim=(l9 h0 j h).lim:=c3.lim;refine .inr ⟨j,(pV a3 j).1 (aj ..),x.1,?_⟩;have ZG:h'.lim=h0.nb+(j+1)*iE h0:=hl;have hx:=x.2;dsimp only at hx;omega
     ·exact(b2 j hj hj1 hj2 I0 I Γ).mono (Nat.le_add_right _ _)
    ·cases he
   ·cases he
theorem xH(Gd:K.Good)(F:K.iQ){ext:Ext}(X:iR K ext){call:FuncId->List AV->AH->M (AE×AH)}(C:j0 K main call)(hops:ops.size≤65536){h0:AH}:
  ∀{A L L':Hp},sJ K.P K.O ext call nt ops h0 A L=.ok L'->(∀e∈L,e∈L')∧
   ∃N,∀s t h,(s,t,h)∈A->cH ops s≠[]∧∀i∈cH ops s,∀{fn defers kind callers U0 ρ cs g w l k},gf K U0 h0->gy K (Us U0 h0 s) ⟨⟨fn,nt,t,.inRegion ops (i::l)::k,defers,.run,kind⟩,callers,bare h⟩->
    qu K ρ ⟨⟨fn,nt,t,.inRegion ops (i::l)::k,defers,.run,kind⟩,callers,h⟩ cs g w->Walk K.P main (DK K) (CW K U0 h0 ρ cs w fn nt ops l k defers kind callers (i::s) L') N g w
 |[],L,L',he=>by simp only[sJ]at he;cases he;exact⟨fun e x=>x,0,fun s t h x=>by cases x⟩
 |(s,t,h)::A,L,L',he=>by
  simp only[sJ]at he;split at he
  ·cases he
  ·rename_i hne;split at he
   ·rename_i L1 h1;obtain⟨a1,N,a2⟩:=rW Gd F X C hops h1;obtain⟨b1,M,b2⟩:=xH Gd F X C hops he;refine⟨fun e x=>b1 e (a1 e x),N+M,fun s' t' h' hm=>?_⟩;rcases ai.1 hm with hq|hm
    ·cases hq;refine⟨fun x=>hne (by simp[x]),fun i hi {fn defers kind callers U0 ρ cs g w l k} I0 I Γ=>?_⟩;obtain⟨x1,x2⟩:=dw hi;exact((a2 i hi x1 x2 I0 I Γ).weaken fun g' w' f=>f.sub b1).mono (Nat.le_add_right _ _)
    ·obtain⟨c1,c2⟩:=b2 s' t' h' hm;exact⟨c1,fun i hi {fn defers kind callers U0 ρ cs g w l k} I0 I Γ=>(c2 i hi I0 I Γ).mono (Nat.le_add_left _ _)⟩
   ·cases he
end
theorem ek(m i:Nat):o6 m i=m.testBit i:=by
 unfold o6 LY;have h:Nat.land m (Nat.pow 2 i)=m&&& 2 ^ i:=rfl;rw[h];cases hb:m.testBit i with
 |true=>
  have:m&&& 2 ^ i≠0:=fun e=>by have:=congrArg (fun x=>Nat.testBit x i) e;simp[Nat.testBit_and,hb,Nat.testBit_two_pow_self]at this
  cases hq:Nat.beq (m&&& 2 ^ i) 0 with
  |true=>exact absurd (aJ hq) this
  |false=>rfl
 |false=>
  have:m&&& 2 ^ i=0:=by
   apply Nat.eq_of_testBit_eq;intro j;rw[Nat.testBit_and,Nat.zero_testBit];by_cases e:i=j
   ·subst e;simp[hb]
   ·simp[Nat.testBit_two_pow,e]
  rw[this];rfl
theorem HJ(m i j:Nat):o6 (zd m i) j=(o6 m j||decide (i=j)):=by
 rw[ek,ek];have:zd m i=m ||| 2 ^ i:=rfl
 rw[this,Nat.testBit_or,Nat.testBit_two_pow]
theorem xI(i:Nat):o6 0 i=false:=by rw[ek];simp
theorem MK{a m:Nat}(h:Nat.beq (Nat.land a m) a=true){j:Nat}(hj:o6 a j=true):o6 m j=true:=by have e:a&&& m=a:=aJ h;rw[ek]at hj⊢;have:=congrArg (fun x=>Nat.testBit x j) e;simp only[Nat.testBit_and,hj,Bool.true_and]at this;exact this
theorem ML{a m:Nat}(h:∀j,o6 a j=true->o6 m j=true):Nat.beq (Nat.land a m) a=true:=by
 have:a&&& m=a:=by
  apply Nat.eq_of_testBit_eq;intro j;rw[Nat.testBit_and];have:=h j;rw[ek,ek]at this;cases ha:a.testBit j with
  |false=>rfl
  |true=>rw[this ha];rfl
 have h2:Nat.land a m=a:=this;rw[h2];exact Nat.beq_refl a
theorem n_{l:List Edge}{j:Nat}:o6 (iA l) j=true↔∃e∈l,Region.binds .any e=true∧e.on=j:=by
 induction l with
 |nil=>simp[iA,xI]
 |cons e l ih=>
  unfold iA;cases hb:Region.binds .any e with
  |true=>
   simp only[HJ,Bool.or_eq_true,ih,decide_eq_true_eq,ai];constructor
   ·rintro(⟨x,hx,a,b⟩|h)
    ·exact⟨x,.inr hx,a,b⟩
    ·exact⟨e,.inl rfl,hb,h⟩
   ·rintro⟨x,rfl|hx,a,b⟩
    ·exact .inr b
    ·exact .inl ⟨x,hx,a,b⟩
  |false=>
   simp only[ih,ai];constructor
   ·rintro⟨x,hx,a,b⟩;exact⟨x,.inr hx,a,b⟩
   ·rintro⟨x,rfl|hx,a,b⟩
    ·rw[hb]at a;cases a
    ·exact⟨x,hx,a,b⟩
theorem zu{l:List Oper}:∀{n:Nat} {x:Info},x∈nT n l↔∃i o,l[i]?=some o∧x=(n+i,o,iA o.after.toList,jV o):=by
 induction l with
 |nil=>intro n x;simp[nT]
 |cons o l ih=>
  intro n x;simp only[nT,ai,ih];constructor
  ·rintro(rfl|⟨i,o',h,rfl⟩)
   ·exact⟨0,o,rfl,rfl⟩
   ·exact⟨i+1,o',by simpa using h,by rw[show n+1+i=n+(i+1) by omega]⟩
  ·rintro⟨i,o',h,rfl⟩;cases i with
   |zero=>simp at h;subst h;exact .inl rfl
   |succ i=>exact .inr ⟨i,o',by simpa using h,by rw[show n+1+i=n+(i+1) by omega]⟩
theorem fH{ops:Array Oper}{x:Info}:x∈cZ ops↔∃i o,ops[i]?=some o∧x=(i,o,iA o.after.toList,jV o):=by unfold cZ;rw[zu];simp
def Cons(s:List Nat)(m:Nat):Prop:=∀i,o6 m i=true↔i∈s
theorem Cons.add{s:List Nat}{m i:Nat}(h:Cons s m):Cons (i::s) (zd m i):=fun j=>by
 rw[HJ,Bool.or_eq_true,h j,decide_eq_true_eq,ai];constructor
 ·rintro(x|x)
  ·exact .inr x
  ·exact .inl x.symm
 ·rintro(x|x)
  ·exact .inr x.symm
  ·exact .inl x
theorem CX:Cons [] 0:=fun i=>by simp[xI]
theorem fZ{ops:Array Oper}{s:List Nat}{i:Nat}:i∈cH ops s↔i∉s∧∃o,ops[i]?=some o∧∀e∈o.after.toList,Region.binds .any e=true->e.on∈s:=by
 unfold cH;rw[aO];constructor
 ·rintro⟨h1,h2⟩;simp only[aq,Bool.not_eq_true',List.contains_eq_mem,decide_eq_false_iff_not]at h2;refine⟨h2.1,?_⟩;have h3:=h2.2;split at h3
  ·rename_i o ho;refine⟨o,ho,fun e he hb=>?_⟩;unfold qj at h3;rw[<-Array.all_toList,aE]at h3;have:=h3 e he;simpa[hb] using this
  ·cases h3
 ·rintro⟨h1,o,ho,h2⟩;refine⟨List.mem_range.2 (Array.getElem?_eq_some_iff.1 ho).1,?_⟩;simp only[aq,Bool.not_eq_true',List.contains_eq_mem,decide_eq_false_iff_not];refine⟨h1,?_⟩;rw[ho];show qj s o=true;unfold qj;rw[<-Array.all_toList,aE];intro e he;cases hb:Region.binds .any e with
  |false=>rfl
  |true=>simpa using h2 e he hb
theorem oG{ops:Array Oper}{s:List Nat}{m:Nat}(c:Cons s m){i:Nat}{o:Oper}(ho:ops[i]?=some o):vT m (i,o,iA o.after.toList,jV o)=true↔i∈cH ops s:=by
 rw[fZ];unfold vT;simp only[aq,Bool.not_eq_true'];constructor
 ·rintro⟨h1,h2⟩;refine⟨fun hi=>?_,o,ho,fun e he hb=>(c _).1 (MK h2 (n_.2 ⟨e,he,hb,rfl⟩))⟩;rw[(c i).2 hi]at h1;cases h1
 ·rintro⟨h1,o',ho',h2⟩;rw[ho]at ho';cases ho';refine⟨?_,ML fun j hj=>?_⟩
  ·cases hq:o6 m i with
   |false=>rfl
   |true=>exact absurd ((c i).1 hq) h1
  ·obtain⟨e,he,hb,rfl⟩:=n_.1 hj;exact(c _).2 (h2 e he hb)
theorem uC{P:Program}{O:dN}{ext:Ext}{h:AH}{f g:Operand->AV}{o:Oper}(e:∀x∈o.op.operands.toList,f x=g x):op? P O ext h f o=op? P O ext h g o:=by
 have hc:∀(c:Call),(∀x∈c.operands.toList,f x=g x)->∀ty,resolve? f c ty=resolve? g c ty:=by
  intro c hc ty;have hargs:c.args.toList.map f=c.args.toList.map g:=bh fun x hx=>hc x (by unfold Call.operands;simp only[Array.toList_append,aT];exact .inr hx)
  unfold resolve?;rw[hargs];split
  ·rfl
  ·rename_i recv name n9;have:f recv=g recv:=hc recv (by unfold Call.operands;rw[n9];simp);rw[this]
  ·rename_i fx n9;have:f fx=g fx:=hc fx (by unfold Call.operands;rw[n9];simp);rw[this]
 have MM:∀(ps:Array (Nat×Operand)),(∀x∈(ps.toList.map (·.2)),f x=g x)->ps.toList.map (fun(i,x)=>(i,f x))=ps.toList.map (fun(i,x)=>(i,g x)):=fun ps hp=>bh fun x hx=>by have:f x.2=g x.2:=hp x.2 (bf.2 ⟨x,hx,rfl⟩);show(x.1,f x.2)=(x.1,g x.2);rw[this]
 unfold op?;generalize hop:o.op=op at e;cases op<;>simp only[Op.operands,ai,aA,or_false,forall_eq_or_imp,forall_eq,List.toList_toArray,Array.toList_append,aT]at e<;>dsimp only
 case pick c a b=>rw[e.1,e.2.1,e.2.2]
 case build t ps=>rw[MM ps e]
 case buildSlice t n ps=>rw[MM ps e]
 case makeFunc fn fs cs=>rw[bh (f:=f) (g:=g) fun x hx=>e x (.inl hx),bh (f:=f) (g:=g) fun x hx=>e x (.inr hx)]
 case slice t x l hh mx=>
  have hx:f x=g x:=e x (by simp);have ho:∀(y:Option Operand),(∀z,y=some z->f z=g z)->(y.map fun x=>oQ O (f x))=y.map fun x=>oQ O (g x):=fun y hy=>by
   cases y with
   |none=>rfl
   |some z=>simp[hy z rfl]
  rw[hx,ho l fun z hz=>e z (by subst hz;simp),ho hh fun z hz=>e z (by subst hz;simp),ho mx fun z hz=>e z (by subst hz;simp)]
 case makeMap t r=>
  have:r.map f=r.map g:=by
   cases r with
   |none=>rfl
   |some z=>simp[e z (by simp)]
  rw[this]
 case call c=>rw[hc c e]
 case defer c=>rw[hc c e]
 case unOp u t x=>cases u<;>dsimp only<;>simp only[e]
 all_goals first
  |rfl
  |(simp only[e];done)
  |(simp only[e.1,e.2];done)
theorem xJ{r:M AV}{h h':AH}{n:AN}(he:kX r h=.ok (n,h')):h'=h:=by
 unfold kX at he;split at he
 ·cases he;rfl
 ·cases he
theorem FX{P:Program}{O:dN}{ext:Ext}{h h':AH}{f:Operand->AV}{o:Oper}{n:AN}(hq:jV o=true)(he:op? P O ext h f o=.ok (n,h')):h'=h:=by
 unfold jV at hq;unfold op? at he;generalize o.op=op at hq he;cases op<;>simp at hq<;>dsimp only at he
 case unOp u t x=>cases u<;>dsimp only at he<;>(repeat' split at he)<;>first|(cases he;rfl)|cases he
 all_goals first
  |exact xJ he
  |(cases he;rfl)
  |((repeat' split at he)<;>first|exact xJ he|(cases he;rfl)|cases he)
def Alike(ops:Array Oper)(o:Oper)(t t':TT):Prop:=∀d∈o.looksAt ops,t'.get d=t.get d
theorem Alike.eval{ops:Array Oper}{o:Oper}{t t':TT}(h:Alike ops o t t'):∀x∈o.op.operands.toList,kY t' x=kY t x:=by
 intro x hx;cases x with
 |tmp d=>exact h d (List.mem_append_left _ (List.mem_filterMap.2 ⟨.tmp d,hx,rfl⟩))
 |_=>rfl
theorem Alike.wanted{O:dN}{ops:Array Oper}{o:Oper}{t t':TT}(h:Alike ops o t t'):gN O ops t' o=gN O ops t o:=by
 unfold gN;cases hg:o.guard with
 |none=>rfl
 |some gw=>
  obtain⟨j,want⟩:=gw;dsimp only;have:pq O ops t' j=pq O ops t j:=by
   unfold pq;cases hd:(ops[j]?).bind (·.dst)with
   |none=>rfl
   |some d=>dsimp only;rw[h d (List.mem_append_right _ (by rw[hg];simp[hd]))]
  rw[this]
theorem tq{P:Program}{O:dN}{ext:Ext}{call:FuncId->List AV->AH->M (AE×AH)}{nt:Nat}{ops:Array Oper}{i:Nat}{o:Oper}{t t' t1:TT}{h h1:AH}(ho:ops[i]?=some o)(ha:Alike ops o t t')
 (he:jJ P O ext call nt ops i t h=.ok (.on t1 h1)):∃v,t1=jx nt t o.dst v∧jJ P O ext call nt ops i t' h=.ok (.on (jx nt t' o.dst v) h1):=by
 unfold jJ at he⊢;rw[ho]at he⊢;dsimp only at he⊢;rw[ha.wanted,uC ha.eval];split at he
 ·cases he
 ·rename_i hw;cases he;exact⟨_,rfl,rfl⟩
 ·rename_i hw;split at he
  ·cases he
  ·rename_i v h' hop;cases he;exact⟨v,rfl,rfl⟩
  ·rename_i h' hop;cases he;exact⟨cL,rfl,rfl⟩
  ·rename_i f args h' hop;split at he
   ·rename_i v h'' hc;cases he;exact⟨v,rfl,rfl⟩
   ·cases he
   ·cases he
  ·cases he
  ·cases he
theorem tu{P:Program}{O:dN}{ext:Ext}{call:FuncId->List AV->AH->M (AE×AH)}{nt:Nat}{ops:Array Oper}{i:Nat}{o:Oper}{t:TT}{h:AH}(ho:ops[i]?=some o)(hq:jV o=true){v:AV}
 (he:gN O ops t o=.ok false∧v=cL∨gN O ops t o=.ok true∧∃h',op? P O ext h (kY t) o=.ok (.value v,h')):jJ P O ext call nt ops i t h=.ok (.on (jx nt t o.dst v) h):=by
 unfold jJ;rw[ho];dsimp only;rcases he with⟨hw,rfl⟩|⟨hw,h',hop⟩
 ·rw[hw]
 ·rw[hw];dsimp only;have:=FX hq hop;subst this;rw[hop]
theorem mB{nt:Nat}(hnt:nt≤60000)(t:TT)(dst:Option Tmp)(v:AV)(n:Nat):(jx nt t dst v).get n=if dst=some n∧n<nt then v else t.get n:=by
 unfold jx;cases dst with
 |none=>simp
 |some d=>
  dsimp only;cases hb:Nat.ble (d+1) nt with
  |true=>
   have hd:Nat.succ d≤nt:=Nat.le_of_ble_eq_true hb;have J2:Nat.succ d<2 ^ 16:=Nat.lt_of_le_of_lt (ax hd hnt) (by decide);dsimp only;rw[TT.sN v 16 t d n J2];by_cases e:n=d
   ·subst e;rw[if_pos rfl,if_pos ⟨rfl,hd⟩]
   ·rw[if_neg e,if_neg fun x=>e (au x.1).symm]
  |false=>dsimp only;rw[if_neg];rintro⟨e,hn⟩;obtain rfl:=au e;have h2:Nat.ble (d+1) nt=true:=Nat.ble_eq_true_of_le (Nat.succ_le_of_lt hn);rw[h2]at hb;cases hb
def QS(ops:Array Oper)(s r:List Nat)(n:Nat):Prop:=∃i o,i∈s∧i∉r∧ops[i]?=some o∧o.dst=some n
def Down(ops:Array Oper)(r:List Nat):Prop:=∀i∈r,∀o,ops[i]?=some o->∀e∈o.after.toList,Region.binds .any e=true->e.on∈r
theorem Down.cons{ops:Array Oper}{r:List Nat}(d:Down ops r){i:Nat}(h:i∈cH ops r):Down ops (i::r):=by
 obtain⟨_,o,ho,hp⟩:=fZ.1 h;intro j hj oj ZH e he hb;rcases ai.1 hj with rfl|hj
 ·rw[ho]at ZH;cases ZH;exact af _ (hp e he hb)
 ·exact af _ (d j hj oj ZH e he hb)
structure k8(ops:Array Oper)(nt:Nat)(s r:List Nat)(t tr:TT):Prop where
 sub:∀i∈r,i∈s
 quiet:∀i∈s,i∉r->∃o,ops[i]?=some o∧jV o=true
 same:∀n,n<nt->¬QS ops s r n->tr.get n=t.get n
 out:∀n,nt≤n->tr.get n=t.get n
 down:Down ops r
theorem QT(a b j:Nat):o6 (Nat.lor a b) j=(o6 a j||o6 b j):=by rw[ek,ek,ek];exact Nat.testBit_or a b j
theorem xK{m i:Nat}:∀{l:List Info},o6 (sL m l) i=true->∃x∈l,x.2.2.2=false∧o6 m x.1=true∧o6 x.2.2.1 i=true
 |[],h=>by simp[sL,xI]at h
 |x::l,h=>by
  simp only[sL]at h;split at h
  ·rename_i hb;simp only[aq,Bool.not_eq_true']at hb;rw[QT,Bool.or_eq_true]at h;rcases h with h|h
   ·exact⟨x,aj ..,hb.1,hb.2,h⟩
   ·obtain⟨y,hy,z⟩:=xK h;exact⟨y,af _ hy,z⟩
  ·obtain⟨y,hy,z⟩:=xK h;exact⟨y,af _ hy,z⟩
theorem QU{infos:List Info}{m i:Nat}(h1:o6 m i=true)(h2:o6 (sL m infos) i=false):o6 (JC infos m) i=true:=by unfold JC;rw[ek]at h1 h2⊢;show(m&&& (m ^^^ sL m infos)).testBit i=true;rw[Nat.testBit_and,Nat.testBit_xor,h1,h2];rfl
theorem k8.rem{ops:Array Oper}{nt:Nat}{s r:List Nat}{t tr:TT}(N:k8 ops nt s r t tr){m:Nat}(hc:Cons s m){i:Nat}(hi:i∈s)(hr:i∉r):o6 (JC (cZ ops) m) i=true:=by
 refine QU ((hc i).2 hi) ?_;cases hd:o6 (sL m (cZ ops)) i with
 |false=>rfl
 |true=>
  obtain⟨x,hx,h1,h2,h3⟩:=xK hd;obtain⟨j,o,ho,rfl⟩:=fH.1 hx;dsimp only at h1 h2 h3;have hj:j∈s:=(hc j).1 h2;by_cases SZ:j∈r
  ·obtain⟨e,he,hb,rfl⟩:=n_.1 h3;exact absurd (N.down j SZ o ho e he hb) hr
  ·obtain⟨o',ho',hq⟩:=N.quiet j hj SZ;rw[ho]at ho';cases ho';rw[hq]at h1;cases h1
def oc(ops:Array Oper):List Nat->Prop
 |[]=>True
 |i::s=>i∈cH ops s∧oc ops s
theorem oc.ready{ops:Array Oper}{r:List Nat}:∀{s:List Nat},oc ops s->(∃i∈s,i∉r)->∃i∈s,i∈cH ops r
 |[],_,⟨i,h,_⟩=>by cases h
 |a::s,⟨h1,h2⟩,hx=>by
  by_cases hs:∃i∈s,i∉r
  ·obtain⟨i,hi,hr⟩:=oc.ready h2 hs;exact⟨i,af _ hi,hr⟩
  ·have hall:∀i∈s,i∈r:=fun i hi=>Classical.byContradiction fun hn=>hs ⟨i,hi,hn⟩;obtain⟨i,hi,hn⟩:=hx;rcases ai.1 hi with rfl|hi
   ·obtain⟨_,o,ho,hp⟩:=fZ.1 h1;exact⟨i,aj ..,fZ.2 ⟨hn,o,ho,fun e he hb=>hall _ (hp e he hb)⟩⟩
   ·exact absurd (hall i hi) hn
theorem oc.lt{ops:Array Oper}:∀{s:List Nat},oc ops s->∀i∈s,i<ops.size
 |[],_,i,h=>by cases h
 |a::s,⟨h1,h2⟩,i,h=>by
  rcases ai.1 h with rfl|h
  ·exact(dw h1).1
  ·exact oc.lt h2 i h
theorem zw{ops:Array Oper}(h:jW ops (cZ ops)=true){i j d:Nat}{oi oj:Oper}(hi:ops[i]?=some oi)(hj:ops[j]?=some oj)(hq:jV oi=true)(hd:oi.dst=some d)(hl:d∈oj.looksAt ops):
  ∃e∈oj.after.toList,Region.binds .any e=true∧e.on=i:=by
 unfold jW at h;rw[aE]at h;have h1:=h _ (fH.2 ⟨i,oi,hi,rfl⟩);dsimp only at h1;rw[hq,hd]at h1;dsimp only at h1;rw[aE]at h1;have h2:=h1 _ (fH.2 ⟨j,oj,hj,rfl⟩);dsimp only at h2;have hc:(oj.looksAt ops).contains d=true:=by simpa using hl
 rw[hc]at h2;simp only[Bool.not_true,Bool.false_or]at h2;exact n_.1 h2
theorem k8.alike{ops:Array Oper}{nt:Nat}{s r:List Nat}{t tr:TT}(N:k8 ops nt s r t tr)(hok:jW ops (cZ ops)=true){j:Nat}{oj:Oper}(hj:ops[j]?=some oj)(hr:j∈cH ops r):Alike ops oj t tr:=by
 intro d hd;rcases Nat.lt_or_ge d nt with hlt|hge
 rotate_left
 ·exact N.out d hge
 refine N.same d hlt fun⟨i,oi,h1,h2,h3,h4⟩=>?_;obtain⟨o,ho,hq⟩:=N.quiet i h1 h2;rw[h3]at ho;cases ho;obtain⟨e,he,hb,rfl⟩:=zw hok h3 hj hq h4 hd;obtain⟨_,o',ho',hp⟩:=fZ.1 hr;rw[hj]at ho';cases ho';exact h2 (hp e he hb)
theorem k8.drawn{ops:Array Oper}{nt:Nat}(hnt:nt≤60000){s r:List Nat}{t tr:TT}(N:k8 ops nt s r t tr){i:Nat}{o:Oper}(ho:ops[i]?=some o)(hi:i∈s)(hir:i∈cH ops r){v:AV}(hv:∀d,o.dst=some d->d<nt->t.get d=v):
  k8 ops nt s (i::r) t (jx nt tr o.dst v):=by
 refine⟨fun j hj=>?_,fun j hj hn=>N.quiet j hj fun x=>hn (af _ x),fun n hlt hn=>?_,fun n hge=>?_,?_⟩
 ·rcases ai.1 hj with rfl|hj
  ·exact hi
  ·exact N.sub j hj
 ·rw[mB hnt];split
  ·rename_i hd;exact(hv n hd.1 hd.2).symm
  ·rename_i hd;refine N.same n hlt fun⟨a,oa,h1,h2,h3,h4⟩=>?_;by_cases e:a=i
   ·subst e;rw[ho]at h3;cases h3;exact hd ⟨h4,hlt⟩
   ·exact hn ⟨a,oa,h1,(fun x=>(ai.1 x).elim e h2),h3,h4⟩
 ·rw[mB hnt,if_neg fun x=>absurd x.2 (Nat.not_lt.2 hge)];exact N.out n hge
 ·exact N.down.cons hir
structure Bz(ops:Array Oper)(nt:Nat)(s:List Nat)(t:TT)(s2:List Nat)(m2:Nat)(t2:TT):Prop where
 sub:∀i∈s,i∈s2
 quiet:∀i∈s2,i∉s->∃o,ops[i]?=some o∧jV o=true
 same:∀n,(¬∃i o,i∈s2∧i∉s∧ops[i]?=some o∧o.dst=some n∧n<nt)->t2.get n=t.get n
 cons:Cons s2 m2
 MN:oc ops s2
theorem mC{P:Program}{O:dN}{ext:Ext}{nt:Nat}(hnt:nt≤60000){ops:Array Oper}{h:AH}:∀{l:List Info},(∀x∈l,x∈cZ ops)->∀{s:List Nat} {m:Nat} {t:TT} {s2:List Nat} {m2:Nat} {t2:TT},Cons s m->oc ops s->
  oR P O ext nt ops h l s m t=.ok (s2,m2,t2)->Bz ops nt s t s2 m2 t2
 |[],_,s,m,t,s2,m2,t2,c,tp,he=>by simp only[oR]at he;cases he;exact⟨fun i x=>x,fun i x y=>absurd x y,fun n _=>rfl,c,tp⟩
 |x::l,hl,s,m,t,s2,m2,t2,c,tp,he=>by
  have hl':∀y∈l,y∈cZ ops:=fun y hy=>hl y (af _ hy);simp only[oR]at he;split at he
  ·exact mC hnt hl' c tp he
  ·rename_i hb;rw[aq]at hb;obtain⟨i,o,ho,rfl⟩:=fH.1 (hl x (aj ..));dsimp only at hb he;have hr:=(oG c ho).1 hb.2;have step:∀{v:AV} {s2:List Nat} {m2:Nat} {t2:TT},oR P O ext nt ops h l (i::s) (zd m i) (jx nt t o.dst v)=.ok (s2,m2,t2)->Bz ops nt s t s2 m2 t2:=by
    intro v s2 m2 t2 he;have S:=mC hnt hl' (c.add (i:=i)) (show oc ops (i::s)from⟨hr,tp⟩) he;refine⟨fun j hj=>S.sub j (af _ hj),fun j hj hn=>?_,fun n hn=>?_,S.cons,S.MN⟩
    ·by_cases e:j=i
     ·subst e;exact⟨o,ho,hb.1⟩
     ·exact S.quiet j hj fun x=>(ai.1 x).elim e hn
    ·rw[S.same n fun⟨j,oj,h1,h2,h3,h4,h5⟩=>hn ⟨j,oj,h1,fun x=>h2 (af _ x),h3,h4,h5⟩,mB hnt];refine if_neg fun⟨h4,h5⟩=>hn ⟨i,o,S.sub i (aj ..),(dw hr).2,ho,h4,h5⟩
   split at he
   ·cases he
   ·exact step he
   ·split at he
    ·exact step he
    ·cases he
    ·cases he
theorem k8.next{ops:Array Oper}{nt:Nat}(hnt:nt≤60000){s r:List Nat}{t tr:TT}(N:k8 ops nt s r t tr){j:Nat}{o:Oper}(ho:ops[j]?=some o)(hj:j∉s)(SZ:j∈cH ops r){v:AV}{s2:List Nat}{m2:Nat}{t2:TT}
 (S:Bz ops nt (j::s) (jx nt t o.dst v) s2 m2 t2):k8 ops nt s2 (j::r) t2 (jx nt tr o.dst v):=by
 have hsub:∀i∈j::r,i∈j::s:=fun i hi=>by
  rcases ai.1 hi with rfl|hi
  ·exact aj ..
  ·exact af _ (N.sub i hi)
 have S0:∀n,(¬∃i o,i∈s2∧i∉j::r∧ops[i]?=some o∧o.dst=some n∧n<nt)->t2.get n=(jx nt t o.dst v).get n:=fun n hn=>S.same n fun⟨i,oi,h1,h2,h3,h4,h5⟩=>hn ⟨i,oi,h1,fun x=>h2 (hsub i x),h3,h4,h5⟩
 refine⟨fun i hi=>S.sub i (hsub i hi),fun i hi hn=>?_,fun n hlt hn=>?_,fun n hge=>?_,N.down.cons SZ⟩
 ·by_cases e:i∈j::s
  ·rcases ai.1 e with rfl|e
   ·exact absurd (aj ..) hn
   ·exact N.quiet i e fun x=>hn (af _ x)
  ·exact S.quiet i hi e
 ·rw[S0 n fun⟨i,oi,h1,h2,h3,h4,h5⟩=>hn ⟨i,oi,h1,h2,h3,h4⟩,mB hnt,mB hnt];split
  ·rfl
  ·refine N.same n hlt fun⟨a,oa,h1,h2,h3,h4⟩=>hn ⟨a,oa,S.sub a (af _ h1),(fun x=>?_),h3,h4⟩;rcases ai.1 x with rfl|x
   ·exact hj h1
   ·exact h2 x
 ·rw[S0 n fun⟨i,oi,h1,h2,h3,h4,h5⟩=>absurd h5 (Nat.not_lt.2 hge),mB hnt,mB hnt,if_neg fun x=>absurd x.2 (Nat.not_lt.2 hge),if_neg fun x=>absurd x.2 (Nat.not_lt.2 hge)];exact N.out n hge
theorem k8.begin{ops:Array Oper}{nt:Nat}{t:TT}{s2:List Nat}{m2:Nat}{t2:TT}(S:Bz ops nt [] t s2 m2 t2):k8 ops nt s2 [] t2 t:=
 ⟨(fun i hi=>by cases hi),fun i hi hn=>S.quiet i hi hn,fun n hlt hn=>(S.same n fun⟨i,oi,h1,h2,h3,h4,h5⟩=>hn ⟨i,oi,h1,h2,h3,h4⟩).symm,fun n hge=>(S.same n fun⟨i,oi,h1,h2,h3,h4,h5⟩=>absurd h5 (Nat.not_lt.2 hge)).symm,fun i hi=>by cases hi⟩
theorem k8.over{ops:Array Oper}{nt:Nat}{s r:List Nat}{t tr:TT}(N:k8 ops nt s r t tr)(tp:oc ops s)(hr:cH ops r=[]):(∀i∈s,i∈r)∧cH ops s=[]∧∀n,tr.get n=t.get n:=by
 have hall:∀i∈s,i∈r:=fun i hi=>Classical.byContradiction fun hn=>by obtain⟨j,_,hj⟩:=tp.ready ⟨i,hi,hn⟩;rw[hr]at hj;cases hj
 refine⟨hall,?_,fun n=>?_⟩
 ·rw[nI (b:=r) fun i=>⟨hall i,N.sub i⟩];exact hr
 ·rcases Nat.lt_or_ge n nt with hlt|hge
  ·exact N.same n hlt fun⟨i,o,h1,h2,_⟩=>h2 (hall i h1)
  ·exact N.out n hge
theorem uD{P:Program}{O:dN}{ext:Ext}{nt:Nat}{ops:Array Oper}{m:Nat}{t:TT}{h:AH}:∀{l:List Info},pF P O ext nt ops m t h l=true->∀x∈l,x.2.2.2=true->o6 m x.1=true->
  ∃v,(gN O ops t x.2.1=.ok false∧v=cL∨gN O ops t x.2.1=.ok true∧∃h',op? P O ext h (kY t) x.2.1=.ok (.value v,h'))∧∀d,x.2.1.dst=some d->d<nt->t.get d=v
 |[],_,x,hx,_,_=>by cases hx
 |y::l,he,x,hx,hq,hm=>by
  simp only[pF,aq]at he;have put:∀{v:AV},Hq nt t x.2.1.dst v=true->∀d,x.2.1.dst=some d->d<nt->t.get d=v:=by intro v hd d Mx hlt;unfold Hq at hd;rw[Mx]at hd;dsimp only at hd;have h2:Nat.ble (d+1) nt=true:=Nat.ble_eq_true_of_le (Nat.succ_le_of_lt hlt);rw[h2]at hd;exact AV.cM _ _ hd
  rcases ai.1 hx with rfl|hx
  ·have h1:=he.1;rw[hq,hm]at h1;simp only[Bool.and_self]at h1;split at h1
   ·cases h1
   ·rename_i hw;exact⟨_,.inl ⟨hw,rfl⟩,put h1⟩
   ·rename_i hw;split at h1
    ·rename_i v h' hop;exact⟨v,.inr ⟨hw,h',hop⟩,put h1⟩
    ·cases h1
  ·exact uD he.2 x hx hq hm
end Go.Proofs.YtmobbajggkjpgaaGreat.SX
