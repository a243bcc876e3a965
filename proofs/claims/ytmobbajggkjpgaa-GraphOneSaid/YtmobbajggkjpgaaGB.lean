/-
  A symbolic run of the model, proved sound, and the walk of the code: a text of its parts. Conditions: none.
-/
import Derived.Test.YtmobbajggkjpgaaGA
set_option linter.unusedSectionVars false
set_option maxRecDepth 100000
set_option linter.unusedVariables false
set_option linter.unusedSimpArgs false
namespace Go.Proofs.Ytmobbajggkjpgaa.SX
section
theorem bind_ok{α β:Type}{x:M α}{f:α->M β}{b:β}:(x>>= f)=.ok b↔∃a,x=.ok a∧f a=.ok b:=by
 cases x with
 |ok a=>simp[bind,Except.bind]
 |error e=>simp[bind,Except.bind]
theorem pure_ok{α:Type}{a b:α}:(pure a:M α)=.ok b↔a=b:=by simp[pure,Except.pure]
theorem of1_ev(ρ:Env)(v:Value):(of1 v).ev ρ=v:=by
 unfold of1
 split<;>simp[AV.ev,BE.ev,IE.ev,AA.ev,BR.ev]
theorem of1_in{U:Nat->Prop}(v:Value):(of1 v).In U:=by
 unfold of1
 split<;>simp[AV.In,BE.In,IE.In,AA.In,BR.In,optIn]
theorem of1_evs(ρ:Env)(l:List Value):AV.evs ρ (l.map of1)=l:=by
 rw[evs_map,List.map_map]
 conv=>rhs;rw[<-List.map_id l]
 exact List.map_congr_left fun v _=>of1_ev ρ v
theorem of1_ins{U:Nat->Prop}(l:List Value):AV.Ins U (l.map of1):=Ins_iff.2 fun a ha=>by
 obtain⟨v,_,rfl⟩:=List.mem_map.1 ha;exact of1_in v
theorem ofIface_ev(ρ:Env)(v:Value):(ofIface v).ev ρ=v:=by
 unfold ofIface
 split
 ·simp[AV.ev,of1_ev]
 ·exact of1_ev ρ _
theorem ofIface_in{U:Nat->Prop}(v:Value):(ofIface v).In U:=by
 unfold ofIface
 split
 ·exact of1_in _
 ·exact of1_in _
theorem of2_ev(ρ:Env)(v:Value):(of2 v).ev ρ=v:=by
 unfold of2
 split
 ·simp[AV.ev,of1_evs]
 ·simp[AV.ev,of1_evs]
 ·exact ofIface_ev ρ _
theorem of2_in{U:Nat->Prop}(v:Value):(of2 v).In U:=by
 unfold of2
 split
 ·exact of1_ins _
 ·exact of1_ins _
 ·exact ofIface_in _
theorem ofValue_ev(ρ:Env)(v:Value):(ofValue v).ev ρ=v:=by
 unfold ofValue
 split
 ·simp only[AV.ev,evs_map,List.map_map]
  congr 1
  rename_i vs
  have:vs.toList.map (AV.ev ρ ∘ of2)=vs.toList:=by
   conv=>rhs;rw[<-List.map_id vs.toList]
   exact List.map_congr_left fun v _=>of2_ev ρ v
  rw[this]
 ·exact of2_ev ρ _
theorem ofValue_in{U:Nat->Prop}(v:Value):(ofValue v).In U:=by
 unfold ofValue
 split
 ·exact Ins_iff.2 fun a ha=>by obtain⟨v,_,rfl⟩:=List.mem_map.1 ha;exact of2_in v
 ·exact of2_in _
mutual
theorem val?_ev(ρ:Env):∀(a:AV) {v:Value},a.val?=some v->a.ev ρ=v
 |.bool b,v,h=>by cases b<;>simp_all [AV.val?,AV.ev,BE.ev]
 |.int k e,v,h=>by cases e<;>simp_all [AV.val?,AV.ev,IE.ev]
 |.str s,v,h=>by simp_all [AV.val?,AV.ev]
 |.ptr a,v,h=>by
  unfold AV.val? at h
  split at h<;>simp_all [AV.ev,AA.ev,BR.ev,IE.ev]
  all_goals first
   |(obtain⟨rfl,rfl⟩:=h;simp_all [AV.ev,AA.ev,BR.ev,IE.ev];done)
   |(rename_i hh;subst hh;simp[AA.ev,BR.ev,IE.ev];done)
   |skip
 |.slice a l c,v,h=>by
  unfold AV.val? at h
  split at h<;>simp_all [AV.ev,AA.ev,BR.ev,IE.ev]
  all_goals first
   |(obtain⟨rfl,rfl,rfl⟩:=‹_∧_∧_›;simp[IE.ev];done)
   |skip
 |.map r,v,h=>by cases r<;>simp_all [AV.val?,AV.ev]
 |.chan r,v,h=>by cases r<;>simp_all [AV.val?,AV.ev]
 |.func f x y,v,h=>by
  simp only[AV.val?]at h
  split at h
  ·rename_i x' y' hx hy
   simp only[AV.ev,vals?_evs ρ x hx,vals?_evs ρ y hy]
   simpa using h
  ·cases h
 |.nilFunc,v,h=>by simp_all [AV.val?,AV.ev]
 |.iface t u,v,h=>by
  simp only[AV.val?]at h
  split at h
  ·rename_i u' hu
   simp only[AV.ev,val?_ev ρ u hu]
   simpa using h
  ·cases h
 |.nilIface,v,h=>by simp_all [AV.val?,AV.ev]
 |.agg x,v,h=>by
  simp only[AV.val?]at h
  split at h
  ·rename_i u' hu
   simp only[AV.ev,vals?_evs ρ x hu]
   simpa using h
  ·cases h
 |.tuple x,v,h=>by
  simp only[AV.val?]at h
  split at h
  ·rename_i u' hu
   simp only[AV.ev,vals?_evs ρ x hu]
   simpa using h
  ·cases h
 |.opq i,v,h=>by simp[AV.val?]at h
 |.raw u,v,h=>by simp_all [AV.val?,AV.ev]
 |.ss e,v,h=>by simp[AV.val?]at h
theorem vals?_evs(ρ:Env):∀(l:List AV) {vs:List Value},AV.vals? l=some vs->AV.evs ρ l=vs
 |[],vs,h=>by simp_all [AV.vals?,AV.evs]
 |a::l,vs,h=>by
  simp only[AV.vals?]at h
  split at h
  ·rename_i v vs' hv hvs
   simp only[AV.evs,val?_ev ρ a hv,vals?_evs ρ l hvs]
   simpa using h
  ·cases h
end
section
variable {K:Ctx}{ρ:Env}{h:AH}{w:World}{U:Nat->Prop}
theorem fold_ev(ρ:Env)(e:IE):e.fold.ev ρ=e.ev ρ:=by
 unfold IE.fold
 split<;>simp[IE.ev,SE.ev]
theorem fold_in{e:IE}(hi:e.In U):e.fold.In U:=by
 unfold IE.fold
 split<;>first|trivial|exact hi
theorem int_ev(R:Rel K ρ h w)(e:IE):(K.O.int e).ev ρ=e.ev ρ:=by
 unfold Orc.int
 split
 ·rename_i n hn;rw[<-fold_ev ρ e,hn]
 ·rename_i hn
  cases hl:look IE.eqb e.fold K.O.is with
  |none=>simp[fold_ev]
  |some e'=>
   obtain⟨x,hx,he⟩:=look_some hl
   obtain rfl:=IE.eqb_eq he
   simp only[Option.getD_some]
   rw[<-R.is _ hx,fold_ev]
theorem int_in(I:Ids K U h){e:IE}(hi:e.In U):(K.O.int e).In U:=by
 unfold Orc.int
 split
 ·trivial
 ·cases hl:look IE.eqb e.fold K.O.is with
  |none=>exact fold_in hi
  |some e'=>
   obtain⟨x,hx,_⟩:=look_some hl
   exact(I.orc.is _ hx).2
theorem bfold_ev(ρ:Env)(b:BE):b.fold.ev ρ=b.ev ρ:=by
 unfold BE.fold
 split<;>simp[BE.ev,IE.ev,SE.ev]
theorem bfold_in{b:BE}(hi:b.In U):b.fold.In U:=by
 unfold BE.fold
 split<;>first|trivial|exact hi
theorem bool_ev(R:Rel K ρ h w)(b:BE):(K.O.bool b).ev ρ=b.ev ρ:=by
 unfold Orc.bool
 split
 ·rename_i n hn;rw[<-bfold_ev ρ b,hn]
 ·rename_i hn
  split
  ·rename_i v hv
   obtain⟨x,hx,he⟩:=look_some hv
   obtain rfl:=BE.eqb_eq he
   rw[<-bfold_ev ρ b,R.bs _ hx];rfl
  ·exact bfold_ev ρ b
theorem bool_in{b:BE}(hi:b.In U):(K.O.bool b).In U:=by
 unfold Orc.bool
 split
 ·trivial
 ·split
  ·trivial
  ·exact bfold_in hi
theorem bool_lit(R:Rel K ρ h w){b:BE}{t:Bool}(e:K.O.bool b=.lit t):b.ev ρ=t:=by
 rw[<-bool_ev R b,e];rfl
theorem dec_ev(R:Rel K ρ h w){b:BE}{t:Bool}(e:K.O.dec b=.ok t):b.ev ρ=t:=by
 unfold Orc.dec at e
 split at e
 ·rename_i v hv;cases e;exact bool_lit R hv
 ·cases e
theorem normI_ev(R:Rel K ρ h w)(v:AV):(normI K.O v).ev ρ=v.ev ρ:=by
 cases v<;>simp only[normI,AV.ev]
 rw[int_ev R]
theorem normI_in(I:Ids K U h){v:AV}(hv:v.In U):(normI K.O v).In U:=by
 cases v<;>first|exact hv|skip
 exact int_in I hv
theorem cells?_ev{v:AV}{cs:List AV}(hc:v.cells?=.ok cs)(ρ:Env):(v.ev ρ).cells=(AV.evs ρ cs).toArray:=by
 cases v<;>simp[AV.cells?]at hc<;>subst hc<;>simp[AV.ev,Value.cells,AV.evs]
theorem cells?_in{v:AV}{cs:List AV}(hc:v.cells?=.ok cs)(hi:v.In U):AV.Ins U cs:=by
 cases v<;>simp[AV.cells?]at hc<;>subst hc<;>first|exact hi|exact⟨hi,trivial⟩
theorem zero?_ok{P:Program}{t:TypeId}{z:AV}(h:zero? P t=.ok z):∃i v,P.info? t=some i∧i.zero=some v∧z=ofValue v:=by
 unfold zero? at h
 split at h
 ·rename_i i hi
  split at h
  ·rename_i v hv;cases h;exact⟨i,v,hi,hv,rfl⟩
  ·cases h
 ·cases h
theorem wq_zeroValue{P:Program}{Ev:Event->Prop}{E:Value->World->Prop}{t:TypeId}{z:AV}(hz:zero? P t=.ok z){Q:Value->World->Prop}{w:World}:wq P Ev E (zeroValue t) Q w↔Q (z.ev ρ) w:=by
 obtain⟨i,v,hi,hv,rfl⟩:=zero?_ok hz
 simp[zeroValue,wq_typeInfo hi,hv,ofValue_ev]
theorem zero?_in{P:Program}{t:TypeId}{z:AV}(hz:zero? P t=.ok z):z.In U:=by
 obtain⟨i,v,hi,hv,rfl⟩:=zero?_ok hz
 exact ofValue_in v
theorem wq_part{E:Value->World->Prop}{t:TypeId}{cs:List AV}{off:Nat}{v:AV}(hp:part? K.P t cs off=.ok v){Q:Value->World->Prop}{w:World}(hq:Q (v.ev ρ) w):
  wq K.P K.Ev E (part t (AV.evs ρ cs).toArray off) Q w:=by
 unfold part? at hp
 rw[bind_ok]at hp
 obtain⟨b,hb,hp⟩:=hp
 simp only[part,wq_bind,wq_isAgg hb]
 split at hp
 ·rename_i hb'
  rw[bind_ok]at hp
  obtain⟨n,hn,hp⟩:=hp
  split at hp
  ·rename_i hle
   cases hp
   rw[if_pos hb']
   simp only[wq_bind,wq_sizeOf hn,wq_pure]
   simp only[AV.ev]at hq
   have:(AV.evs ρ cs).toArray.extract off (off+n)=(AV.evs ρ ((cs.drop off).take n)).toArray:=by
    rw[evs_map,evs_map,List.extract_toArray]
    simp[List.extract_eq_take_drop,List.map_take,List.map_drop]
   rw[this];exact hq
  ·cases hp
 ·rename_i hb'
  rw[if_neg hb']
  split at hp
  ·rename_i u hu
   cases hp
   have:(AV.evs ρ cs).toArray[off]?=some (v.ev ρ):=by
    rw[List.getElem?_toArray,evs_get,hu];rfl
   rw[this];exact hq
  ·cases hp
theorem part?_in{P:Program}{t:TypeId}{cs:List AV}{off:Nat}{v:AV}(hp:part? P t cs off=.ok v)(hi:AV.Ins U cs):v.In U:=by
 unfold part? at hp
 rw[bind_ok]at hp
 obtain⟨b,hb,hp⟩:=hp
 split at hp
 ·rw[bind_ok]at hp
  obtain⟨n,hn,hp⟩:=hp
  split at hp
  ·cases hp
   exact Ins_iff.2 fun a ha=>Ins_iff.1 hi _ (List.mem_of_mem_drop (List.mem_of_mem_take ha))
  ·cases hp
 ·split at hp
  ·rename_i u hu;cases hp;exact Ins_iff.1 hi _ (List.mem_of_getElem? hu)
  ·cases hp
theorem wq_loadVar(R:Rel K ρ h w)(G:K.Good){E:Value->World->Prop}{t:TypeId}{a:AA}{v:AV}(hl:loadVar? K.P K.O h t a=.ok v){Q:Value->World->Prop}(hq:Q (v.ev ρ) w):
  wq K.P K.Ev E (loadVar t (a.ev ρ)) Q w:=by
 unfold loadVar? at hl
 rw[bind_ok]at hl
 obtain⟨b,hb,hl⟩:=hl
 simp only[loadVar,wq_bind,wq_isAgg hb]
 split at hl
 ·rename_i hb'
  simp only[bind_ok,pure_ok]at hl
  obtain⟨n,hn,l,hl,rfl⟩:=hl
  rw[if_pos hb']
  simp only[wq_bind,wq_sizeOf hn,loadCells]
  exact loadN_sound R G hl (by simpa[AV.ev] using hq)
 ·rename_i hb'
  rw[if_neg hb']
  obtain⟨h1,h2⟩:=load1_sound R G hl
  rw[wq_load]
  exact⟨_,h1,h2 _,hq⟩
theorem loadVar?_in(I:Ids K U h){t:TypeId}{a:AA}{v:AV}(hl:loadVar? K.P K.O h t a=.ok v):v.In U:=by
 unfold loadVar? at hl
 rw[bind_ok]at hl
 obtain⟨b,hb,hl⟩:=hl
 split at hl
 ·simp only[bind_ok,pure_ok]at hl
  obtain⟨n,hn,l,hl,rfl⟩:=hl
  exact loadN_in I hl
 ·exact load1_in I hl
theorem wq_storeVar(R:Rel K ρ h w)(G:K.Good){E:Value->World->Prop}{t:TypeId}{a:AA}{v:AV}{h':AH}(hs:storeVar? K.P h t a v=.ok h'){Q:Unit->World->Prop}
 (hq:∀w',Rel K ρ h' w'->Keeps K.own w w'->h'.nb=h.nb->h'.lim=h.lim->Q () w'):wq K.P K.Ev E (storeVar t (a.ev ρ) (v.ev ρ)) Q w:=by
 unfold storeVar? at hs
 simp only[bind_ok]at hs
 obtain⟨cs,hc,n,hn,hs⟩:=hs
 split at hs
 ·rename_i hlen
  have hcells:=cells?_ev hc ρ
  simp only[storeVar,wq_bind,wq_sizeOf hn,hcells]
  have hsz:(AV.evs ρ cs).toArray.size=n:=by simp[evs_length,hlen]
  rw[if_neg (by simpa using hsz)]
  exact storeN_sound G R hs hq
 ·cases hs
theorem storeVar?_ids(I:Ids K U h){t:TypeId}{a:AA}{v:AV}{h':AH}(hs:storeVar? K.P h t a v=.ok h')(ha:a.In U)(hv:v.In U):Ids K U h':=by
 unfold storeVar? at hs
 simp only[bind_ok]at hs
 obtain⟨cs,hc,n,hn,hs⟩:=hs
 split at hs
 ·exact storeN_ids ha I hs (cells?_in hc hv)
 ·cases hs
theorem row1_sound(R:Rel K ρ h w)(G:K.Good){i:Nat}{e:TypeId}{c:IE}(hb:findB i h.hp=some (.row [] e c)){n:Nat}{inf:TypeInfo}(hi:K.P.info? e=some inf)(hn:n<(c.ev ρ).toNat*inf.size)(v:Value):
  (∃u,w.cell? ⟨ρ.b i,n,none⟩=some u)∧w.frozen? ⟨ρ.b i,n,none⟩=false∧(∀s,K.Ev ⟨.cell ⟨ρ.b i,n,none⟩,true,s⟩)∧Rel K ρ h (w.setCell ⟨ρ.b i,n,none⟩ v)∧Keeps K.own w (w.setCell ⟨ρ.b i,n,none⟩ v):=by
 obtain⟨arr,ha,rest,inf',hf1,hf2,hf3⟩:=R.arr hb rfl
 obtain rfl:inf=inf':=by rw[hi]at hf2;exact Option.some.inj hf2
 have hlt:n<arr.size:=by rw[hf3];exact hn
 have hown:=R.own _ _ hb rfl
 have hns:¬K.still (ρ.b i) n:=fun x=>by have:=R.lent _ _ hb n x;cases this
 refine⟨⟨arr[n],by rw[cell?_of ha];simp[hlt]⟩,frozen?_of ha,fun s=>G.wr _ _ hown hns,?_,?_⟩
 ·refine⟨fun j b hj=>?_,R.own',R.inj,R.bs,R.is,fun p hp=>?_,fun m hm=>R.room m (by rw[size_setCell]at hm;exact hm),R.lent,fun b m hm=>by rw[size_setCell];exact R.low b m hm⟩
  ·by_cases ej:j=i
   ·subst ej
    rw[hb]at hj;cases hj
    refine⟨.cells (arr.setIfInBounds n v) e (0,0),?_,.inl ⟨_,rfl,(arr.setIfInBounds n v).toList,inf,(List.nil_append _).symm,hi,by simpa using hf3⟩⟩
    rw[heap_setCell,if_pos rfl,ha];rfl
   ·obtain⟨o,ho,hi'⟩:=R.blk _ _ hj
    exact⟨o,by rw[heap_setCell,if_neg (fun x=>ej (R.inj _ _ _ _ hj hb x)),ho],hi'⟩
  ·obtain⟨m1,m2,m3⟩:=R.mem p hp
   refine⟨m1,?_,m3⟩
   have hne:(p.1.ev ρ).block≠ρ.b i:=fun x=>m1 (x▸hown)
   simp only[World.cell?]at m2⊢
   rw[heap_setCell,if_neg hne];exact m2
 ·refine⟨fun m hm=>?_,by rw[size_setCell];exact Nat.le_refl _,rfl,rfl,rfl⟩
  rw[heap_setCell,if_neg (fun x=>hm (by rw[x];exact hown))]
theorem rowN_sound(G:K.Good){E:Value->World->Prop}{i:Nat}{e:TypeId}{c:IE}(hb:findB i h.hp=some (.row [] e c)){inf:TypeInfo}(hi:K.P.info? e=some inf){off:Nat}:
  ∀{l:List AV} {j:Nat} {w:World},Rel K ρ h w->oneCells l=true->off+j+l.length≤(c.ev ρ).toNat*inf.size->∀{Q:Unit->World->Prop},(∀w',Rel K ρ h w'->Keeps K.own w w'->Q () w')->
   wq K.P K.Ev E (storeCells ⟨ρ.b i,off,none⟩ (AV.evs ρ l) j) Q w:=by
 intro l
 induction l with
 |nil=>intro j w R _ _ Q hq;exact hq w R (Keeps.refl _ _)
 |cons v l ih=>
  intro j w R ho hle Q hq
  simp only[oneCells,Bool.and_eq_true]at ho
  simp only[List.length_cons]at hle
  obtain⟨s2,s3,s4,s5,s6⟩:=row1_sound R G hb hi (n:=off+j) (by omega) (v.ev ρ)
  have ea:(⟨ρ.b i,off,none⟩:Addr).add j=⟨ρ.b i,off+j,none⟩:=by
   by_cases hj:j=0
   ·subst hj;rfl
   ·simp[Addr.add,hj]
  simp only[AV.evs,storeCells,wq_bind]
  rw[wq_store,ea]
  exact⟨oneCell_ev ho.1 ρ,s2,s3,s4 _,ih s5 ho.2 (by omega) fun w' r1 r2=>hq w' r1 (s6.trans r2)⟩
theorem wq_storeRow(R:Rel K ρ h w)(G:K.Good){E:Value->World->Prop}{t:TypeId}{i:Nat}{off:IE}{v:AV}{h':AH}(hs:storeRow? K.P K.O h t i off v=.ok h'){Q:Unit->World->Prop}
 (hq:∀w',Rel K ρ h w'->Keeps K.own w w'->Q () w'):wq K.P K.Ev E (storeVar t ((⟨.dyn i,off⟩:AA).ev ρ) (v.ev ρ)) Q w∧h'=h:=by
 unfold storeRow? at hs
 simp only[bind_ok]at hs
 obtain⟨cs,hc,hs⟩:=hs
 split at hs
 ·rename_i e c hb
  simp only[bind_ok]at hs
  obtain⟨size,hsz,ok,hok,n,hn,hs⟩:=hs
  split at hs
  ·rename_i hh
   obtain⟨hlen,hone,rfl,h0⟩:=hh
   cases hs
   refine⟨?_,rfl⟩
   obtain⟨inf,hi,rfl⟩:=sizeOf?_ok hsz
   have hcells:=cells?_ev hc ρ
   simp only[storeVar,wq_bind,wq_sizeOf hn,hcells]
   have hs2:(AV.evs ρ cs).toArray.size=n:=by simp[evs_length,hlen]
   rw[if_neg (by simpa using hs2)]
   have hlt:((off.ev ρ).toNat:Int)+(Int.ofNat (cs.length-1))<((c.ev ρ).toNat:Int)*(Int.ofNat inf.size):=by
    have:=dec_ev R hok
    exact of_decide_eq_true this
   have hle:(off.ev ρ).toNat+0+cs.length≤(c.ev ρ).toNat*inf.size:=by
    have h2:(off.ev ρ).toNat+(cs.length-1)<(c.ev ρ).toNat*inf.size:=by
     have:=hlt
     simp only[Int.ofNat_eq_natCast]at this
     exact_mod_cast this
    omega
   show wq K.P K.Ev E (storeCells ⟨ρ.b i,(off.ev ρ).toNat,none⟩ (AV.evs ρ cs).toArray.toList 0) Q w
   simp only[List.toList_toArray]
   exact rowN_sound G hb hi R hone hle hq
  ·cases hs
 ·cases hs
theorem wq_storeS(R:Rel K ρ h w)(G:K.Good){E:Value->World->Prop}{t:TypeId}{a:AA}{v:AV}{h':AH}(hs:storeS? K.P K.O h t a v=.ok h'){Q:Unit->World->Prop}
 (hq:∀w',Rel K ρ h' w'->Keeps K.own w w'->Q () w'):wq K.P K.Ev E (storeVar t (a.ev ρ) (v.ev ρ)) Q w:=by
 unfold storeS? at hs
 split at hs
 ·split at hs
  ·have hh:h'=h:=by
    unfold storeRow? at hs
    simp only[bind_ok]at hs
    obtain⟨cs,hc,hs⟩:=hs
    split at hs
    ·simp only[bind_ok]at hs
     obtain⟨size,hsz,ok,hok,n,hn,hs⟩:=hs
     split at hs<;>cases hs
     rfl
    ·cases hs
   subst hh
   exact(wq_storeRow R G hs hq).1
  ·exact wq_storeVar R G hs fun w' a b _ _=>hq w' a b
 ·exact wq_storeVar R G hs fun w' a b _ _=>hq w' a b
end
end
section
variable {K:Ctx}{ρ:Env}{h:AH}{w:World}{U:Nat->Prop}
theorem wq_viewAt_own{E:Value->World->Prop}{n:Nat}{arr:Array Value}{e:TypeId}{f:Nat×Nat}(hn:w.heap[n]?=some (.cells arr e f)){Q:Option (Addr×TypeId)->World->Prop}(hq:Q none w):wq K.P K.Ev E (viewAt n) Q w:=by
 simp only[viewAt,wq_bind,wq_shape]
 have:(w.shape? n).isSome=true:=by simp[World.shape?,hn]
 rw[if_pos this];exact hq
theorem wq_noView_own{E:Value->World->Prop}{a:Addr}{arr:Array Value}{e:TypeId}{f:Nat×Nat}(hn:w.heap[a.block]?=some (.cells arr e f)){Q:Unit->World->Prop}(hq:Q () w):wq K.P K.Ev E (noView a) Q w:=by
 simp only[noView,wq_bind]
 exact wq_viewAt_own hn (by simpa using hq)
theorem wq_stringish_own{E:Value->World->Prop}{b o:Nat}{arr:Array Value}{e:TypeId}(hn:w.heap[b]?=some (.cells arr e (0,0))){Q:Bool->World->Prop}(hq:Q false w):wq K.P K.Ev E (stringish ⟨b,o,none⟩) Q w:=by
 simp only[stringish,wq_bind,wq_frozen,frozen?_of hn]
 simp only[Bool.false_eq_true,if_false,wq_bind,wq_shape,World.shape?,hn]
 have:w.frozen? ⟨b,arr.size,none⟩=false:=frozen?_of hn
 simp only[wq_frozen,this]
 exact hq
theorem wq_sameAddr(R:Rel K ρ h w){E:Value->World->Prop}{i j m n:Nat}{b c:ABlk}(hb:findB i h.hp=some b)(hc:findB j h.hp=some c)(mb:b.isMem=true)(mc:c.isMem=true)(hne:i≠j){Q:Bool->World->Prop}(hq:Q false w):
  wq K.P K.Ev E (sameAddr ⟨ρ.b i,m,none⟩ ⟨ρ.b j,n,none⟩) Q w:=by
 obtain⟨a1,h1,_⟩:=R.arr hb mb
 obtain⟨a2,h2,_⟩:=R.arr hc mc
 have hne':¬ρ.b i=ρ.b j:=fun e=>hne (R.inj i j b c hb hc e)
 have hbeq:(ρ.b i==ρ.b j)=false:=by simpa using hne'
 simp only[sameAddr,wq_bind,wq_ite]
 rw[if_neg (by simp[hne'])]
 simp only[wq_frozen,wq_bind,frozen?_of h1,wq_pure]
 simp only[wq_frozen,frozen?_of h2,Bool.false_and,Bool.false_eq_true,if_false,wq_bind,wq_pure]
 refine wq_noView_own h1 ?_
 refine wq_noView_own h2 ?_
 simp only[mayBeOne,wq_bind]
 refine wq_stringish_own h1 ?_
 refine wq_stringish_own h2 ?_
 simp only[Bool.false_and,Bool.or_false,wq_bind,wq_pure,Bool.false_eq_true,if_false]
 exact hq
theorem wq_sameAddr_eq{E:Value->World->Prop}{b m n:Nat}{Q:Bool->World->Prop}(hq:Q (m==n) w):wq K.P K.Ev E (sameAddr ⟨b,m,none⟩ ⟨b,n,none⟩) Q w:=by
 simp only[sameAddr,wq_ite,wq_bind]
 rw[if_pos (by simp)]
 have:((⟨b,m,none⟩:Addr)==⟨b,n,none⟩)=(m==n):=by
  by_cases e:m=n
  ·subst e;simp
  ·have h1:(m==n)=false:=by simpa using e
   rw[h1]
   rw[beq_eq_false_iff_ne]
   intro x;cases x;exact e rfl
 simp only[wq_pure]
 rw[this];exact hq
theorem eqAll?_in{P:Program}{eq:TypeId->AV->AV->M BE}(hi:∀t x y b,eq t x y=.ok b->x.In U->y.In U->b.In U){xs ys:List AV}(hx:AV.Ins U xs)(hy:AV.Ins U ys):∀{l:List Field} {b:BE},eqAll? P eq xs ys l=.ok b->b.In U:=by
 intro l
 induction l with
 |nil=>intro b he;cases he;trivial
 |cons f l ih=>
  intro b he
  unfold eqAll? at he
  split at he
  ·cases he
  ·rw[bind_ok]at he
   obtain⟨a,ha,he⟩:=he
   rw[bind_ok]at he
   obtain⟨c,hc,he⟩:=he
   rw[bind_ok]at he
   obtain⟨r,hr,he⟩:=he
   have:=hi _ _ _ _ hr (part?_in ha hx) (part?_in hc hy)
   split at he
   ·exact ih he
   ·cases he;trivial
   ·split at he
    ·cases he;exact this
    ·cases he
theorem eq?_in:∀{d:Nat} {t:TypeId} {x y:AV} {b:BE},eq? K.P K.O h d t x y=.ok b->x.In U->y.In U->b.In U:=by
 intro d
 induction d with
 |zero=>intro t x y b he;simp[eq?]at he
 |succ d ih=>
  intro t x y b he hx hy
  simp only[eq?]at he
  rw[bind_ok]at he
  obtain⟨D,hD,he⟩:=he
  split at he
  ·split at he<;>first|(rw[pure_ok]at he;subst he;trivial)|cases he
  ·split at he
   ·rw[pure_ok]at he;subst he;exact bool_in ⟨hx,hy⟩
   ·cases he
  ·rw[pure_ok]at he;subst he;trivial
  ·rw[pure_ok]at he;subst he;exact bool_in trivial
  ·rw[pure_ok]at he;subst he;exact bool_in trivial
  ·rw[pure_ok]at he;subst he;exact bool_in trivial
  ·rw[pure_ok]at he;subst he;trivial
  ·rw[pure_ok]at he;subst he;trivial
  ·rw[bind_ok]at he
   obtain⟨s,hs,he⟩:=he
   split at he
   ·cases he
   ·split at he
    ·split at he
     ·rw[pure_ok]at he;subst he;trivial
     ·split at he
      ·split at he<;>first|(rw[pure_ok]at he;subst he;trivial)|cases he
      ·cases he
    ·split at he<;>first|(rw[pure_ok]at he;subst he;trivial)|cases he
    ·cases he
  ·rw[pure_ok]at he;subst he;trivial
  ·rw[pure_ok]at he;subst he;trivial
  ·rw[pure_ok]at he;subst he;trivial
  ·split at he
   ·split at he
    ·split at he
     ·exact ih he hx hy
     ·cases he
    ·cases he
   ·rw[pure_ok]at he;subst he;trivial
  rotate_right 2
  ·split at he
   ·cases he
   ·exact eqAll?_in (fun _ _ _ _ h1 h2 h3=>ih h1 h2 h3) hx hy he
  ·cases he
  all_goals first
   |(rw[pure_ok]at he;subst he;trivial)
   |cases he
theorem wq_eqAll{E:Value->World->Prop}{D:Nat}{eq:TypeId->AV->AV->M BE}(hi:∀{t x y b},eq t x y=.ok b->∀{Q:Bool->World->Prop},Q (b.ev ρ) w->wq K.P K.Ev E (Op.equalIn D t (x.ev ρ) (y.ev ρ)) Q w){xs ys:List AV}:
  ∀{l:List Field} {b:BE},eqAll? K.P eq xs ys l=.ok b->∀{Q:Option Bool×Unit->World->Prop},Q (if b.ev ρ=true then(none,())else(some false,())) w->wq K.P K.Ev E (forIn l ((none,()):Option Bool×Unit) fun f _=>
       if f.name≠ "_" then do
        let a<-part f.type (AV.evs ρ xs).toArray f.offset
        let b<-part f.type (AV.evs ρ ys).toArray f.offset
        let c<-Op.equalIn D f.type a b
        if(!c)=true then pure (ForInStep.done (some false,()))else pure (ForInStep.yield (none,()))
       else pure (ForInStep.yield (none,()))) Q w:=by
 intro l
 induction l with
 |nil=>
  intro b he Q hq
  cases he
  simp only[List.forIn_nil,wq_pure]
  exact hq
 |cons f l ih=>
  intro b he Q hq
  unfold eqAll? at he
  split at he
  ·cases he
  ·rename_i hn
   rw[bind_ok]at he
   obtain⟨a,ha,he⟩:=he
   rw[bind_ok]at he
   obtain⟨c,hc,he⟩:=he
   rw[bind_ok]at he
   obtain⟨r,hr,he⟩:=he
   simp only[List.forIn_cons,wq_bind]
   rw[if_pos hn]
   simp only[wq_bind]
   refine wq_part ha (wq_part hc (hi hr ?_))
   split at he
   ·simp only[BE.ev,Bool.not_true,Bool.false_eq_true,if_false,wq_pure]
    exact ih he hq
   ·cases he
    simp only[BE.ev,Bool.not_false,if_true,wq_pure]at hq⊢
    exact hq
   ·split at he
    ·have e:=Except.ok.inj he
     rw[e]
     by_cases hb:b.ev ρ=true
     ·rw[if_pos hb]at hq
      simp only[hb,Bool.not_true,Bool.false_eq_true,if_false,wq_pure,List.forIn_nil]
      exact hq
     ·rw[if_neg hb]at hq
      have hb':b.ev ρ=false:=by simpa using hb
      simp only[hb',Bool.not_false,if_true,wq_pure]
      exact hq
    ·cases he
theorem seq_ev(a b:SE):(BE.seq false a b).ev ρ=(a.ev ρ==b.ev ρ):=by
 rw[beq_toListBytes]
 simp[BE.ev]
theorem wq_equalIn(R:Rel K ρ h w){E:Value->World->Prop}:∀{d D:Nat} {t:TypeId} {x y:AV} {b:BE},d≤D->eq? K.P K.O h d t x y=.ok b->∀{Q:Bool->World->Prop},Q (b.ev ρ) w->
  wq K.P K.Ev E (Op.equalIn D t (x.ev ρ) (y.ev ρ)) Q w:=by
 intro d
 induction d with
 |zero=>intro D t x y b _ he;simp[eq?]at he
 |succ d ih=>
  intro D t x y b hD he Q hq
  obtain⟨D,rfl⟩:∃D',D=D'+1:=⟨D-1,by omega⟩
  simp only[eq?]at he
  rw[bind_ok]at he
  obtain⟨T,hT,he⟩:=he
  have hU:=under?_ok hT
  simp only[Op.equalIn,wq_bind,wq_underlying hU]
  split at he
  ·
   rename_i a b'
   simp only[AV.ev]
   split at he
   ·rename_i t1 t2 e1 e2
    rw[pure_ok]at he;subst he
    rw[wq_pure,bool_lit R e1,bool_lit R e2];exact hq
   ·cases he
  ·
   simp only[AV.ev]
   split at he
   ·rename_i hk
    rw[pure_ok]at he;subst he
    rw[bool_ev R]at hq
    simp only[wq_ite,if_pos hk,wq_pure]
    exact hq
   ·cases he
  ·simp only[AV.ev];rw[pure_ok]at he;subst he;rw[wq_pure];exact hq
  ·simp only[AV.ev];rw[pure_ok]at he;subst he;rw[bool_ev R,seq_ev]at hq;rw[wq_pure];exact hq
  ·simp only[AV.ev];rw[pure_ok]at he;subst he;rw[bool_ev R,seq_ev]at hq;rw[wq_pure];exact hq
  ·simp only[AV.ev];rw[pure_ok]at he;subst he;rw[bool_ev R,seq_ev]at hq;rw[wq_pure];exact hq
  ·rw[pure_ok]at he;subst he
   rename_i b'
   cases b'<;>simpa[AV.ev,BE.ev] using hq
  ·rw[pure_ok]at he;subst he;simpa[AV.ev,BE.ev] using hq
  ·
   rename_i e a b'
   rw[bind_ok]at he
   obtain⟨s,hs,he⟩:=he
   split at he
   ·cases he
   ·rename_i hs0
    simp only[AV.ev,Option.map_some,wq_bind,wq_sizeOf hs]
    rw[if_pos hs0]
    split at he
    ·rename_i i m j n h1 h2 h3 h4
     have ea:a.ev ρ=⟨ρ.b i,m,none⟩:=by simp[AA.ev,h1,h2,BR.ev,IE.ev]
     have eb:b'.ev ρ=⟨ρ.b j,n,none⟩:=by simp[AA.ev,h3,h4,BR.ev,IE.ev]
     rw[ea,eb]
     split at he
     ·rename_i hij
      rw[pure_ok]at he;subst he
      have:i=j:=by simpa using hij
      subst this
      exact wq_sameAddr_eq hq
     ·rename_i hij
      have hne:i≠j:=by simpa using hij
      split at he
      ·rename_i hb hc
       split at he
       ·rename_i hm
        rw[Bool.and_eq_true]at hm
        rw[pure_ok]at he;subst he
        exact wq_sameAddr R hb hc hm.1 hm.2 hne hq
       ·cases he
      ·cases he
    ·rename_i i m j n h1 h2 h3 h4
     have ea:a.ev ρ=⟨i,m,none⟩:=by simp[AA.ev,h1,h2,BR.ev,IE.ev]
     have eb:b'.ev ρ=⟨j,n,none⟩:=by simp[AA.ev,h3,h4,BR.ev,IE.ev]
     rw[ea,eb]
     split at he
     ·rename_i hij
      rw[pure_ok]at he;subst he
      have:i=j:=by simpa using hij
      subst this
      exact wq_sameAddr_eq hq
     ·cases he
    ·cases he
  ·rw[pure_ok]at he;subst he;simpa[AV.ev,BE.ev] using hq
  ·rw[pure_ok]at he;subst he;simpa[AV.ev,BE.ev] using hq
  ·rw[pure_ok]at he;subst he;simpa[AV.ev,BE.ev] using hq
  ·
   rename_i tx vx ty vy
   simp only[AV.ev]
   split at he
   ·rename_i htt
    have:tx=ty:=by simpa using htt
    subst this
    split at he
    ·rename_i i hi
     split at he
     ·rename_i hcmp
      simp only[wq_ite,wq_bind,wq_typeInfo hi]
      rw[if_neg (by simp),if_neg (by simp[hcmp])]
      exact ih (by omega) he hq
     ·cases he
    ·cases he
   ·rename_i htt
    have:tx≠ty:=by simpa using htt
    rw[pure_ok]at he;subst he
    simp only[wq_ite]
    rw[if_pos this];exact hq
  ·rw[pure_ok]at he;subst he
   rename_i b' _ _
   cases b'<;>simpa[AV.ev,BE.ev] using hq
  ·rw[pure_ok]at he;subst he;simpa[AV.ev,BE.ev] using hq
  ·rw[pure_ok]at he;subst he
   rename_i b'
   cases b'<;>simpa[AV.ev,BE.ev] using hq
  ·rw[pure_ok]at he;subst he;simpa[AV.ev,BE.ev] using hq
  ·rw[pure_ok]at he;subst he;simpa[AV.ev,BE.ev] using hq
  ·rw[pure_ok]at he;subst he;simpa[AV.ev,BE.ev] using hq
  ·rw[pure_ok]at he;subst he;simpa[AV.ev,BE.ev] using hq
  ·rw[pure_ok]at he;subst he
   rename_i b'
   cases b'<;>simpa[AV.ev,BE.ev] using hq
  ·rw[pure_ok]at he;subst he;simpa[AV.ev,BE.ev] using hq
  ·rename_i fs xs ys
   split at he
   ·cases he
   ·rename_i hst
    simp only[AV.ev,wq_bind,wq_program]
    rw[if_neg hst]
    simp only[wq_bind]
    rw[<-Array.forIn_toList]
    refine wq_eqAll (fun h1 _ h2=>ih (by omega) h1 h2) he ?_
    by_cases hb:b.ev ρ=true
    ·rw[if_pos hb];rw[hb]at hq;exact hq
    ·rw[if_neg hb];rw[show b.ev ρ=false by simpa using hb]at hq;exact hq
  ·cases he
theorem wq_equal(R:Rel K ρ h w){E:Value->World->Prop}{t:TypeId}{x y:AV}{b:BE}(he:eq? K.P K.O h 8 t x y=.ok b){Q:Bool->World->Prop}(hq:Q (b.ev ρ) w):
 wq K.P K.Ev E (Op.equal t (x.ev ρ) (y.ev ρ)) Q w:=wq_equalIn R (by unfold Op.maxDepth;omega) he hq
theorem notB_ev{b c:BE}(hn:notB b=.ok c)(ρ:Env):c.ev ρ=!b.ev ρ:=by
 cases b with
 |lit t=>simp[notB]at hn;subst hn;rfl
 |var i=>simp[notB]at hn
 |cmp o a b=>
  cases o<;>simp[notB]at hn<;>subst hn<;>simp only[BE.ev,icmp]
  ·simp[bne]
  ·simp[bne]
  ·simp[decide_not.symm,Int.not_lt]
  ·simp[decide_not.symm,Int.not_le]
  ·simp[decide_not.symm,Int.not_lt]
  ·simp[decide_not.symm,Int.not_le]
 |seq n a b=>
  simp only[notB]at hn
  cases hn
  simp only[BE.ev]
  cases n<;>simp
theorem notB_in{b c:BE}(hn:notB b=.ok c)(hi:b.In U):c.In U:=by
 cases b with
 |lit t=>simp[notB]at hn;subst hn;trivial
 |var i=>simp[notB]at hn
 |cmp o a b=>cases o<;>simp[notB]at hn<;>subst hn<;>exact hi
 |seq n a b=>simp only[notB]at hn;cases hn;trivial
end
section
variable {K:Ctx}{ρ:Env}{h:AH}{w:World}{U:Nat->Prop}
theorem binOp_int(o:BinOp)(t:TypeId)(k:IntKind)(a b:Int)(ho:intArith? o=true):binOp o t (.int k a) (.int k b)=pure (.int k (iop o k a b)):=by
 cases o<;>simp_all [intArith?]<;>simp[binOp,iop,Op.intArith,Op.intBits]
theorem binOp_cmp(o:BinOp)(t:TypeId)(k:IntKind)(a b:Int)(ho:cmp? o=true):binOp o t (.int k a) (.int k b)=pure (.bool (icmp o a b)):=by
 cases o<;>simp_all [cmp?]<;>simp[binOp,icmp,Op.intCmp]
theorem binOp_eql(t:TypeId){x y:Value}(hx:(∃k n,x=.int k n)->¬∃k n,y=.int k n)(hs:(∃s,x=.string s)->¬∃s,y=.string s)(hf:∀k n,x≠.float k n)(hc:∀k n m,x≠.complex k n m):
  binOp .eql t x y=(do pure (.bool (<-Op.equal t x y))):=by
 cases x<;>first|exact absurd rfl (hf _ _)|exact absurd rfl (hc _ _ _)|skip
 all_goals cases y<;>first|rfl|exact absurd ⟨_,_,rfl⟩ (hx ⟨_,_,rfl⟩)|exact absurd ⟨_,rfl⟩ (hs ⟨_,rfl⟩)
theorem binOp_neq(t:TypeId){x y:Value}(hx:(∃k n,x=.int k n)->¬∃k n,y=.int k n)(hs:(∃s,x=.string s)->¬∃s,y=.string s)(hf:∀k n,x≠.float k n)(hc:∀k n m,x≠.complex k n m):
  binOp .neq t x y=(do pure (.bool (!(<-Op.equal t x y)))):=by
 cases x<;>first|exact absurd rfl (hf _ _)|exact absurd rfl (hc _ _ _)|skip
 all_goals cases y<;>first|rfl|exact absurd ⟨_,_,rfl⟩ (hx ⟨_,_,rfl⟩)|exact absurd ⟨_,rfl⟩ (hs ⟨_,rfl⟩)
theorem eq?_shape{d:Nat}{t:TypeId}{x y:AV}{b:BE}(he:eq? K.P K.O h d t x y=.ok b):(∀k n,x.ev ρ≠.float k n)∧(∀k n m,x.ev ρ≠.complex k n m)∧(((∃s,x=.str s)∨∃e,x=.ss e)∨∀s,x.ev ρ≠.string s)∧((∃k e,x=.int k e)∨∀k n,x.ev ρ≠.int k n)∧
  (((∃s,x=.str s)∨∃e,x=.ss e)->(∃s,y=.str s)∨∃e,y=.ss e)∧((∃k e,x=.int k e)->∃k e,y=.int k e):=by
 cases d with
 |zero=>simp[eq?]at he
 |succ d=>
  simp only[eq?]at he
  rw[bind_ok]at he
  obtain⟨T,hT,he⟩:=he
  split at he<;>first
   |(cases he;done)
   |(refine⟨?_,?_,?_,?_,?_,?_⟩<;>simp[AV.ev])
theorem stringOp_eql(a b:ByteArray):Op.stringOp .eql a b=pure (.bool (a.toList==b.toList)):=rfl
theorem stringOp_neq(a b:ByteArray):Op.stringOp .neq a b=pure (.bool !(a.toList==b.toList)):=rfl
theorem dec_neg(R:Rel K ρ h w){b:IE}{t1:Bool}(ht1:K.O.dec (.cmp .lss b (.lit 0))=.ok t1)(hn:¬t1=true):¬b.ev ρ<0:=by
 have h1:decide (b.ev ρ<0)=t1:=dec_ev R ht1
 intro hc
 exact hn (h1▸decide_eq_true hc)
theorem dec_zero(R:Rel K ρ h w){b:IE}{t1:Bool}(ht1:K.O.dec (.cmp .eql b (.lit 0))=.ok t1)(hn:¬t1=true):¬b.ev ρ=0:=by
 have h1:(b.ev ρ==0)=t1:=dec_ev R ht1
 intro hc
 exact hn (h1▸by simp[hc])
theorem sOp_ok(R:Rel K ρ h w){E:Value->World->Prop}{o:BinOp}{t:TypeId}{a b:SE}{v:AV}(he:sOp? K.O o a b=.ok v){Q:Value->World->Prop}(hq:Q (v.ev ρ) w):
  wq K.P K.Ev E (binOp o t (.string (a.ev ρ)) (.string (b.ev ρ))) Q w:=by
 unfold sOp? at he
 split at he
 ·cases he
  simp only[AV.ev,bool_ev R]at hq
  simp only[binOp]
  rw[stringOp_eql]
  simpa[BE.ev] using hq
 ·cases he
  simp only[AV.ev,bool_ev R]at hq
  simp only[binOp]
  rw[stringOp_neq]
  simpa[BE.ev] using hq
 ·split at he
  ·rename_i hd
   cases he
   have h1:decide (((a.ev ρ++b.ev ρ).size:Int)≤4611686018427387904)=true:=dec_ev R hd
   have h2:=of_decide_eq_true h1
   rw[ByteArray.size_append]at h2
   simp only[binOp,Op.stringOp,wq_ite]
   rw[if_neg (by simp only[IntKind.max,IntKind.bits,IntKind.signed];simp;omega)]
   exact hq
  ·cases he
  ·cases he
 ·cases he
theorem sOp_in{O:Orc}{o:BinOp}{a b:SE}{v:AV}(he:sOp? O o a b=.ok v):v.In U:=by
 unfold sOp? at he
 split at he
 ·cases he
  show BE.In U (O.bool _)
  unfold Orc.bool
  split
  ·trivial
  ·split<;>first|trivial|exact bfold_in trivial
 ·cases he
  show BE.In U (O.bool _)
  unfold Orc.bool
  split
  ·trivial
  ·split<;>first|trivial|exact bfold_in trivial
 ·split at he
  ·cases he;trivial
  ·cases he
  ·cases he
 ·cases he
theorem wq_binOp(R:Rel K ρ h w){E:Value->World->Prop}{o:BinOp}{t:TypeId}{x y v:AV}(he:binOp? K.P K.O h o t x y=.ok v){Q:Value->World->Prop}(hq:Q (v.ev ρ) w):
  wq K.P K.Ev E (binOp o t (x.ev ρ) (y.ev ρ)) Q w:=by
 unfold binOp? at he
 split at he
 ·
  rename_i k a k' b
  simp only[AV.ev]
  split at he
  ·
   simp only[bind_ok]at he
   obtain⟨t1,ht1,he⟩:=he
   split at he
   ·cases he
   ·rename_i hn
    rw[pure_ok]at he;subst he
    simp only[AV.ev,int_ev R]at hq
    simp only[binOp,Op.shift,wq_ite]
    rw[if_neg (dec_neg R ht1 hn)]
    exact hq
  ·simp only[bind_ok]at he
   obtain⟨t1,ht1,he⟩:=he
   split at he
   ·cases he
   ·rename_i hn
    rw[pure_ok]at he;subst he
    simp only[AV.ev,int_ev R]at hq
    simp only[binOp,Op.shift,wq_ite]
    rw[if_neg (dec_neg R ht1 hn)]
    exact hq
  ·split at he
   ·rename_i hk;subst hk
    simp only[bind_ok]at he
    obtain⟨t1,ht1,he⟩:=he
    split at he
    ·cases he
    ·rename_i hn
     rw[pure_ok]at he;subst he
     simp only[AV.ev,int_ev R]at hq
     simp only[binOp,Op.intDiv,wq_ite]
     rw[if_neg (by simp),if_neg (dec_zero R ht1 hn)]
     exact hq
   ·cases he
  ·split at he
   ·rename_i hk;subst hk
    simp only[bind_ok]at he
    obtain⟨t1,ht1,he⟩:=he
    split at he
    ·cases he
    ·rename_i hn
     rw[pure_ok]at he;subst he
     simp only[AV.ev,int_ev R]at hq
     simp only[binOp,Op.intDiv,wq_ite]
     rw[if_neg (by simp),if_neg (dec_zero R ht1 hn)]
     exact hq
   ·cases he
  ·split at he
   ·rename_i hk;subst hk
    split at he
    ·rename_i ho
     rw[pure_ok]at he;subst he
     simp only[AV.ev,int_ev R]at hq
     rw[binOp_int _ _ _ _ _ ho];exact hq
    ·split at he
     ·rename_i ho
      rw[pure_ok]at he;subst he
      simp only[AV.ev]at hq
      rw[bool_ev R]at hq
      rw[binOp_cmp _ _ _ _ _ ho];exact hq
     ·cases he
   ·cases he
 ·
  rename_i a b
  simp only[AV.ev]
  split at he
  ·rw[pure_ok]at he;subst he;simp only[binOp];rw[stringOp_eql];exact hq
  ·rw[pure_ok]at he;subst he;simp only[binOp];rw[stringOp_neq];exact hq
  ·split at he
   ·rename_i hle
    rw[pure_ok]at he;subst he
    simp only[binOp,Op.stringOp,wq_ite]
    rw[if_neg (by simp only[IntKind.max,IntKind.bits,IntKind.signed];simp;omega)]
    exact hq
   ·cases he
  ·cases he
 ·exact sOp_ok R he hq
 ·exact sOp_ok R he hq
 ·exact sOp_ok R he hq
 ·rename_i hni hns hn1 hn2 hn3
  have notS:∀{b:BE},eq? K.P K.O h 8 t x y=.ok b->(∃s,x.ev ρ=.string s)->¬∃s,y.ev ρ=.string s:=by
   intro b hb
   obtain⟨s1,s2,s3,s4,s5,s6⟩:=eq?_shape (ρ:=ρ) hb
   rintro⟨s,e⟩
   rcases s3 with h3|h3
   ·rcases h3 with⟨s',rfl⟩|⟨s',rfl⟩
    ·rcases s5 (.inl ⟨_,rfl⟩)with⟨s2,rfl⟩|⟨s2,rfl⟩
     ·exact absurd rfl (hns _ _ rfl)
     ·exact absurd rfl (hn3 _ _ rfl)
    ·rcases s5 (.inr ⟨_,rfl⟩)with⟨s2,rfl⟩|⟨s2,rfl⟩
     ·exact absurd rfl (hn2 _ _ rfl)
     ·exact absurd rfl (hn1 _ _ rfl)
   ·exact absurd e (h3 _)
  split at he
  ·simp only[bind_ok,pure_ok]at he
   obtain⟨b,hb,rfl⟩:=he
   obtain⟨s1,s2,s3,s4,s5,s6⟩:=eq?_shape (ρ:=ρ) hb
   have hs:=notS hb
   have hi:(∃k n,x.ev ρ=.int k n)->¬∃k n,y.ev ρ=.int k n:=by
    rintro⟨k,n,e⟩
    rcases s4 with⟨k',e',rfl⟩|h4
    ·obtain⟨k2,e2,rfl⟩:=s6 ⟨_,_,rfl⟩
     exact absurd rfl (hni _ _ _ _ rfl)
    ·exact absurd e (h4 _ _)
   rw[binOp_eql t hi hs s1 s2]
   simp only[wq_bind,wq_pure]
   exact wq_equal R hb hq
  ·simp only[bind_ok,pure_ok]at he
   obtain⟨b,hb,c,hc,rfl⟩:=he
   obtain⟨s1,s2,s3,s4,s5,s6⟩:=eq?_shape (ρ:=ρ) hb
   have hs:=notS hb
   have hi:(∃k n,x.ev ρ=.int k n)->¬∃k n,y.ev ρ=.int k n:=by
    rintro⟨k,n,e⟩
    rcases s4 with⟨k',e',rfl⟩|h4
    ·obtain⟨k2,e2,rfl⟩:=s6 ⟨_,_,rfl⟩
     exact absurd rfl (hni _ _ _ _ rfl)
    ·exact absurd e (h4 _ _)
   rw[binOp_neq t hi hs s1 s2]
   simp only[wq_bind,wq_pure]
   refine wq_equal R hb ?_
   simp only[AV.ev,notB_ev hc]at hq
   exact hq
  ·cases he
theorem binOp?_in(I:Ids K U h){o:BinOp}{t:TypeId}{x y v:AV}(he:binOp? K.P K.O h o t x y=.ok v)(hx:x.In U)(hy:y.In U):v.In U:=by
 unfold binOp? at he
 split at he
 ·split at he
  all_goals try (split at he)
  all_goals try (simp only[bind_ok]at he;obtain⟨t1,ht1,he⟩:=he)
  all_goals try (split at he)
  all_goals try (split at he)
  all_goals first
   |(cases he;done)
   |(rw[pure_ok]at he;subst he;first|exact int_in I ⟨hx,hy⟩|exact bool_in ⟨hx,hy⟩)
 ·split at he
  all_goals try (split at he)
  all_goals first
   |(cases he;done)
   |(rw[pure_ok]at he;subst he;trivial)
 ·exact sOp_in he
 ·exact sOp_in he
 ·exact sOp_in he
 ·split at he
  ·simp only[bind_ok,pure_ok]at he
   obtain⟨b,hb,rfl⟩:=he
   exact eq?_in hb hx hy
  ·simp only[bind_ok,pure_ok]at he
   obtain⟨b,hb,c,hc,rfl⟩:=he
   exact notB_in hc (eq?_in hb hx hy)
  ·cases he
theorem eqGuard_none{op:BinOp}(ho:¬(op=.eql∨op=.neq))(t:TypeId)(x y:Operand)(a b:Value):eqGuard op t x y a b=pure ():=by
 cases op<;>simp_all [eqGuard]
theorem wq_eqGuardIn_nil{E:Value->World->Prop}{t:TypeId}{ms:Array (String×TypeId)}(hm:K.P.underlying t=some (.interface ms))(hemp:ms.isEmpty=true){Q:Bool->World->Prop}(hq:Q false w):
  wq K.P K.Ev E (Op.eqGuardIn Op.maxDepth t .nilIface .nilIface) Q w:=by
 obtain⟨d,hd⟩:∃d,Op.maxDepth=d+1:=⟨9999,rfl⟩
 rw[hd]
 simp only[Op.eqGuardIn,wq_bind,wq_underlying hm,wq_pure,hemp,Bool.not_true]
 exact hq
theorem eqGuard_const{op:BinOp}(ho:op=.eql∨op=.neq)(t:TypeId)(x y:Operand)(hc:(isConst? x||isConst? y)=true):eqGuard op t x y .nilIface .nilIface=pure ():=by
 rcases ho with rfl|rfl<;>cases x<;>cases y<;>first
  |rfl
  |exact absurd (show false=true from hc) (by simp)
theorem eqGuard_nil{op:BinOp}(ho:op=.eql∨op=.neq)(t:TypeId)(x y:Operand)(hc:¬(isConst? x||isConst? y)=true):eqGuard op t x y .nilIface .nilIface=(do
  if<-Op.eqGuardIn Op.maxDepth t .nilIface .nilIface then unsupported (.noEntry "binop/eql: two nil values of an interface type with methods, neither of them the literal nil")):=by
 rcases ho with rfl|rfl<;>cases x<;>cases y<;>first
  |rfl
  |exact absurd rfl hc
theorem eqGuard_agg{op:BinOp}(ho:op=.eql∨op=.neq)(t:TypeId)(x y:Operand)(a b:Array Value):eqGuard op t x y (.agg a) (.agg b)=(do
  if !(<-program).eqGuardType (<-program).depth t then return
  if<-Op.eqGuardIn Op.maxDepth t (.agg a) (.agg b)then unsupported (.noEntry "binop/eql: two nil values of an interface type with methods, in a part of a struct or an array")):=by
 rcases ho with rfl|rfl<;>rfl
theorem eqGuard_other{op:BinOp}(t:TypeId)(x y:Operand){a b:Value}(h1:a=.nilIface->b≠.nilIface)(h2:(∃c,a=.agg c)->¬∃c,b=.agg c):eqGuard op t x y a b=pure ():=by
 cases op<;>first
  |rfl
  |(cases a<;>first
   |rfl
   |(cases b<;>first
    |rfl
    |exact absurd rfl (h1 rfl)
    |exact absurd ⟨_,rfl⟩ (h2 ⟨_,rfl⟩)))
theorem wq_eqGuard{E:Value->World->Prop}{op:BinOp}{t:TypeId}{x y:Operand}{a b:AV}(he:eqGuard? K.P op t x y a b=.ok ()){Q:Unit->World->Prop}(hq:Q () w):
  wq K.P K.Ev E (eqGuard op t x y (a.ev ρ) (b.ev ρ)) Q w:=by
 by_cases ho:op=.eql∨op=.neq
 ·have hh:(match a,b with
    |.nilIface,.nilIface=>if isConst? x||isConst? y then(Except.ok ():M Unit)else
     match K.P.underlying t with
     |some (.interface ms)=>if ms.isEmpty then .ok ()else .error " two nil values"
     |_=>.error " two nil values"
    |.agg _,.agg _=>if K.P.eqGuardType K.P.depth t then .error " structs with interface values" else .ok ()
    |.raw _,_=>.error " raw"
    |_,.raw _=>.error " raw"
    |.opq _,_=>.error " veiled"
    |_,.opq _=>.error " veiled"
    |_,_=>.ok ())=.ok ():=by rcases ho with rfl|rfl<;>exact he
  split at hh
  ·
   simp only[AV.ev]
   split at hh
   ·rename_i hc
    rw[eqGuard_const ho t x y hc];exact hq
   ·rename_i hc
    rw[eqGuard_nil ho t x y hc]
    split at hh
    ·rename_i ms hm
     split at hh
     ·rename_i hemp
      simp only[wq_bind]
      exact wq_eqGuardIn_nil hm hemp (by simpa using hq)
     ·cases hh
    ·cases hh
  ·simp only[AV.ev]
   rw[eqGuard_agg ho]
   split at hh
   ·cases hh
   ·rename_i hg
    simp only[wq_bind,wq_program,wq_ite]
    rw[if_pos (by simpa using hg)]
    exact hq
  all_goals try (cases hh;done)
  rename_i m1 m2 n1 n2 n3 n4
  rw[eqGuard_other]
  ·exact hq
  ·intro h1 h2
   cases a<;>simp only[AV.ev]at h1<;>first
    |(cases h1;done)
    |skip
   all_goals cases b<;>simp only[AV.ev]at h2<;>first
    |(cases h2;done)
    |simp_all
  ·rintro⟨c,h1⟩ ⟨c',h2⟩
   cases a<;>simp only[AV.ev]at h1<;>first
    |(cases h1;done)
    |skip
   all_goals cases b<;>simp only[AV.ev]at h2<;>first
    |(cases h2;done)
    |simp_all
 ·rw[eqGuard_none ho];exact hq
end
section
variable {K:Ctx}{ρ:Env}{h:AH}{w:World}{U:Nat->Prop}
theorem sureAddr?_ok{x:AV}{a:AA}(hs:sureAddr? x=.ok a):x=.ptr (some a):=by
 unfold sureAddr? at hs
 split at hs
 ·cases hs;rfl
 ·cases hs
theorem wq_fieldAt{E:Value->World->Prop}{s:TypeId}{x v:AV}{i:Nat}(he:fieldAddr? K.P s x i=.ok v){Q:Value->World->Prop}(hq:Q (v.ev ρ) w):wq K.P K.Ev E (Instr.fieldAt s (x.ev ρ) i) Q w:=by
 unfold fieldAddr? at he
 simp only[bind_ok]at he
 obtain⟨D,hD,he⟩:=he
 split at he
 ·rename_i fs
  split at he
  ·rename_i f hf
   simp only[bind_ok]at he
   obtain⟨a,ha,n,hn,he⟩:=he
   split at he
   ·cases he
   ·rename_i hn0
    rw[pure_ok]at he;subst he
    obtain rfl:=sureAddr?_ok ha
    simp only[Instr.fieldAt,wq_bind,wq_underlying (under?_ok hD),hf]
    simp only[AV.ev,Option.map_some,Instr.sureAddr,wq_pure,fieldPlace,wq_bind,wq_sizeOf hn]
    rw[if_neg hn0]
    simp only[AV.ev,Option.map_some,AA.add_ev]at hq
    exact hq
  ·cases he
 ·cases he
theorem fieldAddr?_in{P:Program}{s:TypeId}{x v:AV}{i:Nat}(he:fieldAddr? P s x i=.ok v)(hx:x.In U):v.In U:=by
 unfold fieldAddr? at he
 simp only[bind_ok]at he
 obtain⟨D,hD,he⟩:=he
 split at he
 ·split at he
  ·simp only[bind_ok]at he
   obtain⟨a,ha,n,hn,he⟩:=he
   split at he
   ·cases he
   ·rw[pure_ok]at he;subst he
    obtain rfl:=sureAddr?_ok ha
    exact AA.add_in _ hx
  ·cases he
 ·cases he
theorem timesN_ev(ρ:Env)(a:IE)(n:Nat):(timesN a n).ev ρ=(((a.ev ρ).toNat*n:Nat):Int):=by
 unfold timesN
 split
 ·simp[IE.ev]
 ·split
  ·rename_i h1;subst h1;simp[IE.ev]
  ·simp[IE.ev]
theorem timesN_in{a:IE}(n:Nat)(hi:a.In U):(timesN a n).In U:=by
 unfold timesN
 split
 ·trivial
 ·split
  ·exact hi
  ·exact⟨hi,trivial⟩
theorem AA.at_ev(ρ:Env)(a:AA)(i:IE)(size:Nat):(a.at i size).ev ρ=(a.ev ρ).add ((i.ev ρ).toNat*size):=by
 have ht:=timesN_ev ρ i size
 unfold AA.at
 split
 ·rename_i n hn
  rw[hn]at ht
  simp only[IE.ev]at ht
  rw[AA.add_ev]
  have:n=(i.ev ρ).toNat*size:=Int.ofNat.inj ht
  rw[this]
 ·rename_i hn
  split
  ·rename_i h0
   simp only[AA.ev,h0,IE.ev,ht,Addr.add]
   simp only[Int.toNat_natCast,Int.toNat_zero,Nat.zero_add]
   split
   ·rename_i hz;rw[hz]
   ·rfl
  ·simp only[AA.ev,IE.ev,ht,Addr.add]
   have:((((a.off.ev ρ).toNat:Int)+(((i.ev ρ).toNat*size:Nat):Int))).toNat=(a.off.ev ρ).toNat+(i.ev ρ).toNat*size:=by omega
   rw[this]
   split
   ·rename_i hz;rw[hz];simp
   ·rfl
theorem AA.at_in{a:AA}{i:IE}(size:Nat)(ha:a.In U)(hi:i.In U):(a.at i size).In U:=by
 unfold AA.at
 split
 ·exact AA.add_in _ ha
 ·split
  ·exact⟨ha.1,timesN_in _ hi⟩
  ·exact⟨ha.1,ha.2,timesN_in _ hi⟩
theorem index?_ok(R:Rel K ρ h w){i len:IE}(he:index? K.O i len=.ok ()):0≤i.ev ρ∧i.ev ρ<len.ev ρ:=by
 unfold index? at he
 simp only[bind_ok]at he
 obtain⟨t1,h1,he⟩:=he
 split at he
 ·rename_i e1
  simp only[bind_ok]at he
  obtain⟨t2,h2,he⟩:=he
  split at he
  ·rename_i e2
   subst e1;subst e2
   have a1:decide (0≤i.ev ρ)=true:=dec_ev R h1
   have a2:decide (i.ev ρ<len.ev ρ)=true:=dec_ev R h2
   exact⟨of_decide_eq_true a1,of_decide_eq_true a2⟩
  ·cases he
 ·cases he
theorem lenIE_ev(ρ:Env)(len:IE){n:Int}(hn:0≤n)(hl:n<(match len with|.lit n=>IE.lit n|l=>.tn l).ev ρ):n<((len.ev ρ).toNat:Int):=by
 cases len<;>simp only[IE.ev]at hl⊢<;>omega
theorem wq_indexAt(R:Rel K ρ h w){E:Value->World->Prop}{t:TypeId}{x i v:AV}(he:indexAddr? K.P K.O t x i=.ok v){Q:Value->World->Prop}(hq:Q (v.ev ρ) w):wq K.P K.Ev E (Instr.indexAt t (x.ev ρ) (i.ev ρ)) Q w:=by
 unfold indexAddr? at he
 split at he
 ·rename_i k i
  simp only[bind_ok]at he
  obtain⟨D,hD,he⟩:=he
  split at he
  ·rename_i elem a len cap
   simp only[bind_ok,pure_ok]at he
   obtain⟨_,hix,n,hn,rfl⟩:=he
   obtain⟨h1,h2⟩:=index?_ok R hix
   have h3:=lenIE_ev ρ len h1 h2
   simp only[AV.ev,Option.map_some,AA.at_ev]at hq
   simp only[Instr.indexAt,AV.ev,Option.map_some,asIntOf,wq_bind,wq_pure,wq_underlying (under?_ok hD)]
   simp only[wq_ite,wq_bind,wq_sizeOf hn,wq_pure]
   rw[if_pos ⟨h1,h3⟩]
   exact hq
  ·rename_i m elem a
   simp only[bind_ok,pure_ok]at he
   obtain⟨_,hix,n,hn,rfl⟩:=he
   obtain⟨h1,h2⟩:=index?_ok R hix
   have h3:i.ev ρ<(m:Int):=h2
   simp only[AV.ev,Option.map_some,AA.at_ev]at hq
   simp only[Instr.indexAt,AV.ev,Option.map_some,asIntOf,wq_bind,wq_pure,wq_underlying (under?_ok hD),Instr.sureAddr]
   simp only[wq_ite,wq_bind,wq_sizeOf hn,wq_pure]
   rw[if_pos ⟨h1,h3⟩]
   exact hq
  ·cases he
 ·cases he
theorem indexAddr?_in{P:Program}{O:Orc}{t:TypeId}{x i v:AV}(he:indexAddr? P O t x i=.ok v)(hx:x.In U)(hi:i.In U):v.In U:=by
 unfold indexAddr? at he
 split at he
 ·simp only[bind_ok]at he
  obtain⟨D,hD,he⟩:=he
  split at he
  ·simp only[bind_ok,pure_ok]at he
   obtain⟨_,hix,n,hn,rfl⟩:=he
   exact AA.at_in _ hx.1 hi
  ·simp only[bind_ok,pure_ok]at he
   obtain⟨_,hix,n,hn,rfl⟩:=he
   exact AA.at_in _ hx hi
  ·cases he
 ·cases he
theorem wq_field{E:Value->World->Prop}{t:TypeId}{x v:AV}{i:Nat}(he:field? K.P t x i=.ok v){Q:Value->World->Prop}(hq:Q (v.ev ρ) w):wq K.P K.Ev E (Instr.field t (x.ev ρ) i) Q w:=by
 unfold field? at he
 simp only[bind_ok]at he
 obtain⟨D,hD,he⟩:=he
 split at he
 ·rename_i fs cs
  split at he
  ·rename_i f hf
   simp only[Instr.field,wq_bind,wq_underlying (under?_ok hD),hf,AV.ev,asAgg,wq_pure]
   exact wq_part he hq
  ·cases he
 ·cases he
theorem field?_in{P:Program}{t:TypeId}{x v:AV}{i:Nat}(he:field? P t x i=.ok v)(hx:x.In U):v.In U:=by
 unfold field? at he
 simp only[bind_ok]at he
 obtain⟨D,hD,he⟩:=he
 split at he
 ·split at he
  ·exact part?_in he hx
  ·cases he
 ·cases he
theorem wq_index{E:Value->World->Prop}{t:TypeId}{x i v:AV}(he:indexOp? K.P t x i=.ok v){Q:Value->World->Prop}(hq:Q (v.ev ρ) w):wq K.P K.Ev E (Instr.index t (x.ev ρ) (i.ev ρ)) Q w:=by
 unfold indexOp? at he
 simp only[bind_ok]at he
 obtain⟨D,hD,he⟩:=he
 split at he
 ·rename_i n elem cs k i
  split at he
  ·rename_i hlt
   simp only[bind_ok]at he
   obtain⟨s,hs,he⟩:=he
   simp only[Instr.index,AV.ev,IE.ev,asIntOf,wq_bind,wq_pure,wq_underlying (under?_ok hD)]
   simp only[wq_ite,wq_bind,wq_sizeOf hs]
   rw[if_pos ⟨by simp,by simpa using hlt⟩]
   have:(Int.ofNat i).toNat=i:=rfl
   rw[this]
   exact wq_part he hq
  ·cases he
 ·rename_i s k i
  split at he
  ·rename_i b hb
   rw[pure_ok]at he;subst he
   simp only[Instr.index,AV.ev,IE.ev,asIntOf,wq_bind,wq_pure,wq_underlying (under?_ok hD)]
   have hlt:i<s.data.toList.length:=(List.getElem?_eq_some_iff.1 hb).1
   have:(if 0≤Int.ofNat i then s[(Int.ofNat i).toNat]? else none)=some b:=by
    rw[if_pos (by simp)]
    have e:(Int.ofNat i).toNat=i:=rfl
    rw[e]
    have hsz:i<s.size:=by simpa using hlt
    rw[getElem?_pos s i hsz]
    have h2:=(List.getElem?_eq_some_iff.1 hb).2
    rw[<-h2];rfl
   rw[this]
   simp only[AV.ev,IE.ev]at hq
   exact hq
  ·cases he
 ·cases he
theorem indexOp?_in{P:Program}{t:TypeId}{x i v:AV}(he:indexOp? P t x i=.ok v)(hx:x.In U):v.In U:=by
 unfold indexOp? at he
 simp only[bind_ok]at he
 obtain⟨D,hD,he⟩:=he
 split at he
 ·split at he
  ·simp only[bind_ok]at he
   obtain⟨s,hs,he⟩:=he
   exact part?_in he hx
  ·cases he
 ·split at he
  ·rw[pure_ok]at he;subst he;trivial
  ·cases he
 ·cases he
theorem litNat?_ok{e:IE}{n:Nat}(h:litNat? e=.ok n):e=.lit (.ofNat n):=by
 unfold litNat? at h
 split at h
 ·cases h;rfl
 ·cases h
theorem bound?_ok{v:Option AV}{d n:Nat}(h:bound? v d=.ok n):(v=none∧n=d)∨∃k,v=some (.int k (.lit (.ofNat n))):=by
 unfold bound? at h
 split at h
 ·cases h;exact .inl ⟨rfl,rfl⟩
 ·obtain rfl:=litNat?_ok h;exact .inr ⟨_,rfl⟩
 ·cases h
theorem wq_sliceBound{E:Value->World->Prop}{k:IntKind}{n y:Nat}{code:BoundsCode}(hle:n≤y){Q:Nat->World->Prop}(hq:Q n w):wq K.P K.Ev E (Instr.sliceBound (.int k (Int.ofNat n)) y code) Q w:=by
 simp only[Instr.sliceBound,asIntOf,wq_bind,wq_pure,wq_ite]
 rw[if_pos ⟨by simp,by simpa using hle⟩]
 exact hq
theorem high?_ok{hi mx:Option AV}{len n:Nat}(h:high? hi mx len=.ok n):bound? hi len=.ok n∧(hi=none->mx=none):=by
 unfold high? at h
 split at h
 ·cases h
 ·rename_i hn
  refine⟨h,fun e=>?_⟩
  subst e
  cases mx with
  |none=>rfl
  |some v=>exact absurd rfl (hn _ rfl)
theorem wq_sliceBounds{E:Value->World->Prop}{isS:Bool}{len cap:Nat}{lo hi mx:Option AV}{l h m:Nat}(he:bounds? len cap lo hi mx=.ok (l,h,m)){Q:Nat×Nat×Nat->World->Prop}(hq:Q (l,h,m) w):
  wq K.P K.Ev E (Instr.sliceBounds isS len cap (lo.map (AV.ev ρ)) (hi.map (AV.ev ρ)) (mx.map (AV.ev ρ))) Q w:=by
 unfold bounds? at he
 simp only[bind_ok]at he
 obtain⟨m',hm,h',hh,l',hl,he⟩:=he
 split at he
 ·rename_i hle
  rw[pure_ok]at he
  cases he
  obtain⟨hmc,hhm,hlh⟩:=hle
  obtain⟨hh2,hhm0⟩:=high?_ok hh
  have low:∀{code:BoundsCode},(match lo.map (AV.ev ρ)with|some v=>wq K.P K.Ev E (Instr.sliceBound v h code) (fun a w=>Q (a,h,m) w) w|none=>Q (0,h,m) w):=by
   intro code
   rcases bound?_ok hl with⟨rfl,rfl⟩|⟨k,rfl⟩
   ·exact hq
   ·simp only[Option.map_some,AV.ev,IE.ev]
    exact wq_sliceBound hlh hq
  rcases bound?_ok hm with⟨rfl,rfl⟩|⟨k,rfl⟩
  ·rcases bound?_ok hh2 with⟨rfl,rfl⟩|⟨k,rfl⟩
   ·simp only[Instr.sliceBounds,Option.map_none,wq_bind,wq_pure]
    have:=low (code:=if(none:Option Value).isSome then .slice3C else .sliceB)
    revert this
    cases lo<;>first|exact id|(simp only[Option.map_some,Option.map_none,wq_bind,wq_pure];exact id)
   ·simp only[Instr.sliceBounds,Option.map_none,Option.map_some,AV.ev,IE.ev,wq_bind,wq_pure]
    refine wq_sliceBound hhm ?_
    have:=low (code:=if(none:Option Value).isSome then .slice3C else .sliceB)
    revert this
    cases lo<;>first|exact id|(simp only[Option.map_some,Option.map_none,wq_bind,wq_pure];exact id)
  ·cases hi with
   |none=>exact absurd (hhm0 rfl) (by simp)
   |some hv=>
    rcases bound?_ok hh2 with⟨e,_⟩|⟨k2,e⟩
    ·cases e
    ·cases e
     simp only[Instr.sliceBounds,Option.map_some,AV.ev,IE.ev,wq_bind,wq_pure]
     refine wq_sliceBound hmc ?_
     refine wq_sliceBound hhm ?_
     have:=low (code:=if(some (Value.int k (Int.ofNat m))).isSome then .slice3C else .sliceB)
     revert this
     cases lo<;>first|exact id|(simp only[Option.map_some,Option.map_none,wq_bind,wq_pure];exact id)
 ·cases he
theorem map_add_ev(ρ:Env)(a:Option AA)(n:Nat):(a.map (·.add n)).map (AA.ev ρ)=(a.map (AA.ev ρ)).map (·.add n):=by
 cases a with
 |none=>rfl
 |some a=>simp[AA.add_ev]
theorem wq_sliceAt{E:Value->World->Prop}{t:TypeId}{x v:AV}{lo hi mx:Option AV}(he:sliceOp? K.P t x lo hi mx=.ok v){Q:Value->World->Prop}(hq:Q (v.ev ρ) w):
  wq K.P K.Ev E (Instr.sliceAt t (x.ev ρ) (lo.map (AV.ev ρ)) (hi.map (AV.ev ρ)) (mx.map (AV.ev ρ))) Q w:=by
 unfold sliceOp? at he
 simp only[bind_ok]at he
 obtain⟨D,hD,he⟩:=he
 have hU:=under?_ok hD
 split at he
 ·rename_i elem a len cap
  simp only[bind_ok]at he
  obtain⟨n,hn,⟨l,h',m⟩,hb,s,hs,he⟩:=he
  obtain rfl:=litNat?_ok hn
  rw[pure_ok]at he;subst he
  simp only[Instr.sliceAt,wq_bind,wq_underlying hU,Instr.slice,AV.ev,IE.ev]
  refine wq_sliceBounds hb ?_
  simp only[wq_bind,wq_sizeOf hs,wq_pure]
  simp only[AV.ev,IE.ev]at hq
  have e1:(Int.ofNat (h'-l)).toNat=h'-l:=rfl
  have e2:(Int.ofNat (m-l)).toNat=m-l:=rfl
  rw[e1,e2]at hq
  by_cases hml:m=l
  ·rw[if_pos hml]at hq⊢;exact hq
  ·rw[if_neg hml]at hq⊢;rw[map_add_ev]at hq;exact hq
 ·rename_i s
  split at he
  ·cases he
  ·simp only[bind_ok]at he
   obtain⟨⟨l,h',m⟩,hb,he⟩:=he
   rw[pure_ok]at he;subst he
   simp only[Instr.sliceAt,wq_bind,wq_underlying hU,Instr.slice,AV.ev,Option.map_none]
   simp only[Option.isSome_none,Bool.false_eq_true,if_false]
   have:=wq_sliceBounds (K:=K) (ρ:=ρ) (w:=w) (E:=E) (isS:=false) hb (Q:=fun r w=>Q (.string (s.extract r.1 r.2.1)) w) hq
   rw[wq_bind]
   exact this
 ·rename_i n elem a
  simp only[bind_ok]at he
  obtain⟨⟨l,h',m⟩,hb,s,hs,he⟩:=he
  rw[pure_ok]at he;subst he
  simp only[Instr.sliceAt,wq_bind,wq_underlying hU,AV.ev,Option.map_some,Instr.sureAddr,wq_pure]
  refine wq_sliceBounds hb ?_
  simp only[wq_bind,wq_sizeOf hs,wq_pure]
  simp only[AV.ev,IE.ev]at hq
  have e1:(Int.ofNat (h'-l)).toNat=h'-l:=rfl
  have e2:(Int.ofNat (m-l)).toNat=m-l:=rfl
  rw[e1,e2]at hq
  by_cases hml:m=l
  ·rw[if_pos hml]at hq⊢;exact hq
  ·rw[if_neg hml]at hq⊢;simp only[Option.map_some,AA.add_ev]at hq;exact hq
 ·cases he
theorem sliceOp?_in{P:Program}{t:TypeId}{x v:AV}{lo hi mx:Option AV}(he:sliceOp? P t x lo hi mx=.ok v)(hx:x.In U):v.In U:=by
 unfold sliceOp? at he
 simp only[bind_ok]at he
 obtain⟨D,hD,he⟩:=he
 split at he
 ·rename_i elem a len cap
  simp only[bind_ok]at he
  obtain⟨n,hn,⟨l,h',m⟩,hb,s,hs,he⟩:=he
  rw[pure_ok]at he;subst he
  refine⟨?_,trivial,trivial⟩
  split
  ·exact hx.1
  ·cases a with
   |none=>trivial
   |some a=>exact AA.add_in _ hx.1
 ·split at he
  ·cases he
  ·simp only[bind_ok]at he
   obtain⟨⟨l,h',m⟩,hb,he⟩:=he
   rw[pure_ok]at he;subst he;trivial
 ·rename_i n elem a
  simp only[bind_ok]at he
  obtain⟨⟨l,h',m⟩,hb,s,hs,he⟩:=he
  rw[pure_ok]at he;subst he
  refine⟨?_,trivial,trivial⟩
  split
  ·exact hx
  ·exact AA.add_in _ hx
 ·cases he
end
section
variable {K:Ctx}{ρ:Env}{h:AH}{w:World}{U:Nat->Prop}
theorem wq_convert(R:Rel K ρ h w){E:Value->World->Prop}{src dst:TypeId}{x v:AV}(he:convert? K.P K.O h src dst x=.ok v){Q:Value->World->Prop}(hq:Q (v.ev ρ) w):
  wq K.P K.Ev E (convert src dst (x.ev ρ)) Q w:=by
 unfold convert? at he
 simp only[bind_ok]at he
 obtain⟨S,hS,D,hD,he⟩:=he
 have hS':=under?_ok hS
 have hD':=under?_ok hD
 unfold convert
 simp only[wq_bind,wq_underlying hS',wq_underlying hD']
 split at he
 ·rename_i k k' e
  rw[pure_ok]at he;subst he
  simp only[AV.ev,int_ev R,IE.ev]at hq
  simp only[AV.ev,Conv.intToInt]
  exact hq
 ·rw[pure_ok]at he;subst he
  cases S<;>exact hq
 ·rename_i t i n
  split at he
  ·rename_i b hb
   simp only[bind_ok]at he
   obtain⟨s,hs,he⟩:=he
   split at he
   ·rename_i hc
    rw[pure_ok]at he;subst he
    obtain⟨arr,ha,hf⟩:=R.arr hb (isMem_lt hc.1)
    obtain⟨u,hu⟩:∃u,b.cs[n]?=some u:=⟨_,List.getElem?_eq_getElem hc.1⟩
    have hlt:n<arr.size:=(Array.getElem?_eq_some_iff.1 (fits_get hf hu)).1
    simp only[AV.ev,Option.map_some,AA.ev,BR.ev,IE.ev]at hq⊢
    have e0:(Int.ofNat n).toNat=n:=rfl
    rw[e0]at hq⊢
    simp only[Conv.unsafePointer,wq_bind,wq_underlying hS',wq_underlying hD',Conv.seenAt]
    refine wq_viewAt_own ha ?_
    simp only[wq_pure,cellsIn,wq_bind,wq_shape,World.shape?,ha]
    simp only[wq_sizeOf hs]
    have h1:(decide (s=0)||(decide (n≥arr.size)&&(none:Option Nat).isNone))=false:=by
     simp[hc.2,Nat.not_le.2 hlt]
    simp only[h1,Bool.false_eq_true,if_false]
    exact hq
   ·cases he
  ·cases he
 ·cases he
theorem convert?_in(I:Ids K U h){src dst:TypeId}{x v:AV}(he:convert? K.P K.O h src dst x=.ok v)(hx:x.In U):v.In U:=by
 unfold convert? at he
 simp only[bind_ok]at he
 obtain⟨S,hS,D,hD,he⟩:=he
 split at he
 ·rw[pure_ok]at he;subst he;exact int_in I hx
 ·rw[pure_ok]at he;subst he;trivial
 ·split at he
  ·simp only[bind_ok]at he
   obtain⟨s,hs,he⟩:=he
   split at he
   ·rw[pure_ok]at he;subst he;exact hx
   ·cases he
  ·cases he
 ·cases he
theorem wq_typeAssert{E:Value->World->Prop}{x v:AV}{xt asserted:TypeId}{ok:Bool}(he:typeAssert? K.P x asserted ok=.ok v){Q:Value->World->Prop}(hq:Q (v.ev ρ) w):
  wq K.P K.Ev E (Instr.typeAssert (x.ev ρ) xt asserted ok) Q w:=by
 unfold typeAssert? at he
 simp only[bind_ok]at he
 obtain⟨D,hD,he⟩:=he
 have hU:=under?_ok hD
 have fails:∀{a b:Option TypeId} {m:String} {r:M AV},r=(if ok then(do pure (.tuple [<-zero? K.P asserted,.bool (.lit false)]))else .error "typeAssert fails")->r=.ok v->
   wq K.P K.Ev E (if ok then(do pure (.tuple #[<-zeroValue asserted,.bool false]))else runtimePanic (.typeAssertion a b asserted m):Sem Value) Q w:=by
  intro a b m r e hr
  subst e
  split at hr
  ·rename_i hok
   simp only[bind_ok,pure_ok]at hr
   obtain⟨z,hz,rfl⟩:=hr
   simp only[if_pos hok,wq_bind,wq_zeroValue (ρ:=ρ) hz,wq_pure]
   simpa[AV.ev,AV.evs,BE.ev] using hq
  ·cases hr
 have holds:∀{u:AV} {r:M AV},r=pure (if ok then .tuple [u,.bool (.lit true)]else u)->r=.ok v->Q (if ok then .tuple #[u.ev ρ,.bool true]else u.ev ρ) w:=by
  intro u r e hr
  subst e
  rw[pure_ok]at hr;subst hr
  split at hq
  ·rename_i hok;simpa[AV.ev,AV.evs,BE.ev,hok] using hq
  ·rename_i hok;simpa[hok] using hq
 simp only[Instr.typeAssert,wq_bind,wq_underlying hU]
 split at he
 ·simp only[AV.ev];exact fails rfl he
 ·rename_i want t u
  simp only[AV.ev]
  split at he
  ·rename_i i hi
   simp only[wq_bind,wq_typeInfo hi]
   split at he
   ·rename_i hm;rw[missing_none hm];exact holds rfl he
   ·rename_i hm
    obtain⟨m,hm'⟩:=missing_some hm
    rw[hm'];exact fails rfl he
  ·cases he
 ·rename_i hni
  simp only[AV.ev]
  cases D<;>first|exact absurd rfl (hni _)|exact fails rfl he
 ·rename_i t u hni
  simp only[AV.ev]
  split at he
  ·rename_i ht
   cases D<;>first|exact absurd rfl (hni _)|(simp only[wq_ite];rw[if_pos ht];exact holds rfl he)
  ·rename_i ht
   cases D<;>first|exact absurd rfl (hni _)|(simp only[if_neg ht];exact fails rfl he)
 ·cases he
theorem typeAssert?_in{P:Program}{x v:AV}{asserted:TypeId}{ok:Bool}(he:typeAssert? P x asserted ok=.ok v)(hx:x.In U):v.In U:=by
 unfold typeAssert? at he
 simp only[bind_ok]at he
 obtain⟨D,hD,he⟩:=he
 have fails:∀{r:M AV},r=(if ok then(do pure (.tuple [<-zero? P asserted,.bool (.lit false)]))else .error "typeAssert fails")->r=.ok v->v.In U:=by
  intro r e hr
  subst e
  split at hr
  ·simp only[bind_ok,pure_ok]at hr
   obtain⟨z,hz,rfl⟩:=hr
   exact⟨zero?_in hz,trivial,trivial⟩
  ·cases hr
 have holds:∀{u:AV} {r:M AV},u.In U->r=pure (if ok then .tuple [u,.bool (.lit true)]else u)->r=.ok v->v.In U:=by
  intro u r hu e hr
  subst e
  rw[pure_ok]at hr;subst hr
  split
  ·exact⟨hu,trivial,trivial⟩
  ·exact hu
 split at he
 ·exact fails rfl he
 ·split at he
  ·split at he
   ·exact holds hx rfl he
   ·exact fails rfl he
  ·cases he
 ·exact fails rfl he
 ·split at he
  ·refine holds ?_ rfl he
   exact hx
  ·exact fails rfl he
 ·cases he
theorem setAt_in{l vs:List AV}{off:Nat}(hl:AV.Ins U l)(hv:AV.Ins U vs):AV.Ins U (setAt l off vs):=by
 induction vs generalizing l off with
 |nil=>exact hl
 |cons v vs ih=>
  refine ih (Ins_iff.2 fun a ha=>?_) hv.2
  rcases List.mem_or_eq_of_mem_set ha with h'|rfl
  ·exact Ins_iff.1 hl _ h'
  ·exact hv.1
theorem foldl_set(ρ:Env):∀(vs l:List AV) (off k:Nat),((AV.evs ρ vs).zipIdx k).foldl (fun(cs:Array Value) (x:Value×Nat)=>cs.setIfInBounds (off+x.2) x.1) (AV.evs ρ l).toArray=(AV.evs ρ (setAt l (off+k) vs)).toArray
 |[],l,off,k=>rfl
 |v::vs,l,off,k=>by
  simp only[AV.evs,List.zipIdx_cons,List.foldl_cons,setAt]
  have:(AV.evs ρ l).toArray.setIfInBounds (off+k) (v.ev ρ)=(AV.evs ρ (l.set (off+k) v)).toArray:=by
   rw[evs_set];simp
  rw[this]
  exact foldl_set ρ vs (l.set (off+k) v) off (k+1)
theorem fill?_sound{place:Nat->Option (Nat×Nat)}:∀{parts:List (Nat×AV)} {cells r:List AV},fill? place cells parts=.ok r->
  Instr.fill place (AV.evs ρ cells).toArray (parts.map fun p=>(p.1,p.2.ev ρ))=some (AV.evs ρ r).toArray:=by
 intro parts
 induction parts with
 |nil=>intro cells r hf;simp[fill?]at hf;subst hf;rfl
 |cons p parts ih=>
  obtain⟨i,v⟩:=p
  intro cells r hf
  simp only[fill?]at hf
  split at hf
  ·cases hf
  ·rename_i off size hp
   split at hf
   ·rename_i cs hcs
    split at hf
    ·rename_i hc
     simp only[List.map_cons,Instr.fill,hp]
     rw[cells?_ev hcs ρ]
     have e1:(AV.evs ρ cs).toArray.size=size:=by simp[evs_length,hc.1]
     have e2:¬off+(AV.evs ρ cs).toArray.size>(AV.evs ρ cells).toArray.size:=by simp[evs_length];exact hc.2
     rw[if_neg (by simp only[Bool.or_eq_true,decide_eq_true_eq,not_or];exact⟨by simpa using e1,e2⟩)]
     have e3:(AV.evs ρ cs).toArray.zipIdx.foldl (fun(cs:Array Value) (x:Value×Nat)=>cs.setIfInBounds (off+x.2) x.1) (AV.evs ρ cells).toArray=(AV.evs ρ (setAt cells off cs)).toArray:=by
      rw[<-Array.foldl_toList,Array.toList_zipIdx]
      exact foldl_set ρ cs cells off 0
     rw[<-ih hf]
     congr 1
    ·cases hf
   ·cases hf
theorem fill?_in{place:Nat->Option (Nat×Nat)}:∀{parts:List (Nat×AV)} {cells r:List AV},fill? place cells parts=.ok r->AV.Ins U cells->(∀p∈parts,p.2.In U)->AV.Ins U r:=by
 intro parts
 induction parts with
 |nil=>intro cells r hf hc _;simp[fill?]at hf;subst hf;exact hc
 |cons p parts ih=>
  obtain⟨i,v⟩:=p
  intro cells r hf hc hp
  simp only[fill?]at hf
  split at hf
  ·cases hf
  ·split at hf
   ·rename_i cs hcs
    split at hf
    ·exact ih hf (setAt_in hc (cells?_in hcs (hp (i,v) (by simp)))) fun p hp'=>hp p (List.mem_cons_of_mem _ hp')
    ·cases hf
   ·cases hf
theorem mapM_sizes{P:Program}{Ev:Event->Prop}{E:Value->World->Prop}:∀{fs:List Field} {places:List (Nat×Nat)},(fs.mapM fun f=>(do pure (f.offset,<-sizeOf? P f.type):M (Nat×Nat)))=.ok places->
  ∀{Q:List (Nat×Nat)->World->Prop} {w:World},Q places w->wq P Ev E (fs.mapM fun f=>(do pure (f.offset,<-sizeOf f.type):Sem (Nat×Nat))) Q w:=by
 intro fs
 induction fs with
 |nil=>intro places hm Q w hq;simp[pure_ok]at hm;subst hm;simpa using hq
 |cons f fs ih=>
  intro places hm Q w hq
  simp only[List.mapM_cons,bind_ok,pure_ok]at hm
  obtain⟨p,⟨n,hn,rfl⟩,l,hl,rfl⟩:=hm
  simp only[List.mapM_cons,wq_bind,wq_sizeOf hn,wq_pure]
  exact ih hl (by simpa using hq)
theorem wq_build{E:Value->World->Prop}{t:TypeId}{parts:List (Nat×AV)}{v:AV}(he:build? K.P t parts=.ok v){Q:Value->World->Prop}(hq:Q (v.ev ρ) w):
  wq K.P K.Ev E (Instr.build t (parts.map fun p=>(p.1,p.2.ev ρ)).toArray) Q w:=by
 unfold build? at he
 simp only[bind_ok]at he
 obtain⟨z,hz,cs,hcs,D,hD,he⟩:=he
 have hc:=cells?_ev hcs ρ
 simp only[Instr.build,wq_bind,wq_zeroValue (ρ:=ρ) hz,wq_underlying (under?_ok hD),hc]
 split at he
 ·rename_i fs
  simp only[bind_ok,pure_ok]at he
  obtain⟨places,hp,r,hr,rfl⟩:=he
  have:(fs.mapM fun f=>(do pure (f.offset,<-sizeOf f.type):Sem (Nat×Nat)))=List.toArray<$>(fs.toList.mapM fun f=>(do pure (f.offset,<-sizeOf f.type):Sem (Nat×Nat))):=by
   rw[Array.mapM_eq_mapM_toList]
  simp only[wq_bind]
  rw[this,wq_map]
  refine mapM_sizes hp ?_
  have e:=fill?_sound (ρ:=ρ) hr
  have:(places.toArray[·]?:Nat->Option (Nat×Nat))=(places[·]?):=by funext i;simp
  simp only[this,List.toList_toArray]
  rw[e]
  exact hq
 ·rename_i n elem
  simp only[bind_ok,pure_ok]at he
  obtain⟨s,hs,r,hr,rfl⟩:=he
  simp only[wq_bind,wq_sizeOf hs]
  have e:=fill?_sound (ρ:=ρ) hr
  rw[e]
  exact hq
 ·cases he
theorem build?_in{P:Program}{t:TypeId}{parts:List (Nat×AV)}{v:AV}(he:build? P t parts=.ok v)(hp:∀p∈parts,p.2.In U):v.In U:=by
 unfold build? at he
 simp only[bind_ok]at he
 obtain⟨z,hz,cs,hcs,D,hD,he⟩:=he
 have hc:AV.Ins U cs:=cells?_in hcs (zero?_in hz)
 split at he
 ·simp only[bind_ok,pure_ok]at he
  obtain⟨places,_,r,hr,rfl⟩:=he
  exact fill?_in hr hc hp
 ·simp only[bind_ok,pure_ok]at he
  obtain⟨s,hs,r,hr,rfl⟩:=he
  exact fill?_in hr hc hp
 ·cases he
end
structure HOk(K:Ctx)(U:Nat->Prop)(ρ:Env)(h:AH)(w:World)(s:Sem Value)(v:AV)(h':AH):Prop where
 mem:v.In (plus U h.nb h'.nb)
 grows:Grows K U h h'
 run:∀{E:Value->World->Prop} {Q:Value->World->Prop},(∀x w',After K U ρ w h' (fun ρ'=>x=v.ev ρ') w'->Q x w')->wq K.P K.Ev E s Q w
section
variable {K:Ctx}{ρ:Env}{h:AH}{w:World}{U:Nat->Prop}
theorem HOk.pure(R:Rel K ρ h w)(I:Ids K U h){s:Sem Value}{v:AV}(hi:v.In U)(hw:∀{E Q:Value->World->Prop},Q (v.ev ρ) w->wq K.P K.Ev E s Q w):HOk K U ρ h w s v h:=
 ⟨AV.In.mono plus_sub _ hi,Grows.refl I,fun hq=>hw (hq _ _ (After.same R rfl))⟩
theorem wq_newVar_of{E:Value->World->Prop}{t:TypeId}{v:Value}{cs:Array Value}(hc:v.cells=cs){Q:Addr->World->Prop}(hq:Q ⟨w.heap.size,0,none⟩ {w with heap:=w.heap.push (.cells cs t (0,0))}):wq K.P K.Ev E (newVar t v) Q w:=by
 simp only[newVar,newRow,wq_bind,wq_newObj,hc]
 exact hq
theorem alloc_ok(R:Rel K ρ h w)(I:Ids K U h){elem:TypeId}{z v:AV}{cs:List AV}{h':AH}(hz:zero? K.P elem=.ok z)(hc:z.cells?=.ok cs)(ha:alloc? h (.cells cs elem)=.ok (v,h')):
  HOk K U ρ h w (Instr.alloc elem true (.tuple #[])) v h':=by
 obtain⟨_,h1,h2,h3⟩:=alloc?_sound R I ha (cells?_in hc (zero?_in hz))
 refine⟨h1,h2,fun{E Q} hq=>?_⟩
 simp only[Instr.alloc,wq_bind,wq_zeroValue (ρ:=ρ) hz]
 refine wq_newVar_of (cells?_ev hc ρ) ?_
 obtain⟨ρ',a1,a2,a3,a4⟩:=h3 (AV.evs ρ cs).toArray (by simp[ABlk.fits])
 exact hq _ _ ⟨ρ',a1,a2,a3,a4.symm⟩
theorem box_ok(R:Rel K ρ h w)(I:Ids K U h){elem:TypeId}{x v:AV}{cs:List AV}{h':AH}(hx:x.In U)(hc:x.cells?=.ok cs)(ha:alloc? h (.cells cs elem)=.ok (v,h')):
  HOk K U ρ h w (Instr.box elem (x.ev ρ)) v h':=by
 obtain⟨_,h1,h2,h3⟩:=alloc?_sound R I ha (cells?_in hc hx)
 refine⟨h1,h2,fun{E Q} hq=>?_⟩
 simp only[Instr.box,wq_bind]
 refine wq_newVar_of (cells?_ev hc ρ) ?_
 obtain⟨ρ',a1,a2,a3,a4⟩:=h3 (AV.evs ρ cs).toArray (by simp[ABlk.fits])
 exact hq _ _ ⟨ρ',a1,a2,a3,a4.symm⟩
theorem repl_in{l:List AV}(hl:AV.Ins U l):∀n,AV.Ins U (repl n l)
 |0=>trivial
 |n+1=>Ins_iff.2 fun a ha=>by
  simp only[repl,List.mem_append]at ha
  rcases ha with ha|ha
  ·exact Ins_iff.1 hl _ ha
  ·exact Ins_iff.1 (repl_in hl n) _ ha
theorem range_mod(l:List Value)(hl:0<l.length):∀n:Nat,(List.range (n*l.length)).map (fun i=>l.toArray[i % l.length]!)=(List.replicate n l).flatten
 |0=>by simp
 |n+1=>by
  have e:(n+1)*l.length=l.length+n*l.length:=by rw[Nat.succ_mul,Nat.add_comm]
  rw[e,List.range_add,List.map_append,List.map_map,List.replicate_succ,List.flatten_cons]
  congr 1
  ·refine List.ext_getElem (by simp) fun i h1 h2=>?_
   simp only[List.length_map,List.length_range]at h1
   simp[Nat.mod_eq_of_lt h1,List.getElem?_eq_getElem h1]
  ·rw[<-range_mod l hl n]
   refine List.map_congr_left fun i _=>?_
   simp
theorem repl_ev(ρ:Env):∀(n:Nat) (l:List AV),AV.evs ρ (repl n l)=(List.replicate n (AV.evs ρ l)).flatten
 |0,l=>by simp[repl,AV.evs]
 |n+1,l=>by simp[repl,evs_append,repl_ev ρ n l,List.replicate_succ]
theorem zeros_arr(ρ:Env){z:AV}{zc:List AV}{size n:Nat}(hc:z.cells?=.ok zc)(hs:zc.length=size)(h0:0<size):
  (Array.range (n*size)).map (fun i=>(z.ev ρ).cells[i % (z.ev ρ).cells.size]!)=(AV.evs ρ (repl n zc)).toArray:=by
 rw[cells?_ev hc ρ]
 have hl:(AV.evs ρ zc).length=size:=by rw[evs_length,hs]
 have h1:(AV.evs ρ zc).toArray.size=size:=by simp[hl]
 rw[h1,repl_ev]
 have:=range_mod (AV.evs ρ zc) (by rw[hl];exact h0) n
 rw[hl]at this
 rw[<-this]
 apply Array.toList_inj.1
 simp[Array.toList_range]
theorem zeros?_wq{α:Type}{E:Value->World->Prop}{elem:TypeId}{size n:Nat}{l:List AV}(hz:zeros? K.P elem size n=.ok l){kk:Array Value->Sem α}{Q:α->World->Prop}
 (hq:∀zero:Array Value,(Array.range (n*size)).map (zero[· % zero.size]!)=(AV.evs ρ l).toArray->wq K.P K.Ev E (kk zero) Q w):
  wq K.P K.Ev E (if n*size=0 then(do
   let zero<-Pure.pure #[]
   kk zero)else(do
   let z<-zeroValue elem
   let zero<-Pure.pure z.cells
   kk zero)) Q w:=by
 unfold zeros? at hz
 split at hz
 ·rename_i h0
  cases hz
  rw[if_pos h0]
  exact hq _ (by rw[h0];simp[AV.evs,Array.range])
 ·rename_i h0
  simp only[bind_ok]at hz
  obtain⟨z,hz,zc,hc,hz2⟩:=hz
  split at hz2
  ·rename_i hs
   rw[pure_ok]at hz2;subst hz2
   rw[if_neg h0]
   simp only[wq_bind,wq_zeroValue (ρ:=ρ) hz,wq_pure]
   exact hq _ (zeros_arr ρ hc hs (Nat.pos_of_ne_zero fun e=>h0 (by rw[e];simp)))
  ·cases hz2
theorem zeros?_in{P:Program}{elem:TypeId}{size n:Nat}{l:List AV}(hz:zeros? P elem size n=.ok l):AV.Ins U l:=by
 unfold zeros? at hz
 split at hz
 ·cases hz;trivial
 ·simp only[bind_ok]at hz
  obtain⟨z,hz,zc,hc,hz2⟩:=hz
  split at hz2
  ·rw[pure_ok]at hz2;subst hz2
   exact repl_in (cells?_in hc (zero?_in hz)) _
  ·cases hz2
theorem bytesOf?_ok{P:Program}{t:TypeId}{n:Nat}(h:bytesOf? P t=.ok n):∃i,P.info? t=some i∧i.bytes=n:=by
 unfold bytesOf? at h
 split at h
 ·rename_i i hi;exact⟨i,hi,by simpa using h⟩
 ·cases h
theorem buildSlice_ok(R:Rel K ρ h w)(I:Ids K U h){t:TypeId}{len:Nat}{parts:List (Nat×AV)}{v:AV}{h':AH}(hp:∀p∈parts,p.2.In U)(he:buildSlice? K.P h t len parts=.ok (v,h')):
  HOk K U ρ h w (Instr.buildSlice t len (parts.map fun p=>(p.1,p.2.ev ρ)).toArray) v h':=by
 unfold buildSlice? at he
 simp only[bind_ok]at he
 obtain⟨D,hD,he⟩:=he
 split at he
 ·rename_i elem
  simp only[bind_ok]at he
  obtain⟨size,hs,he⟩:=he
  split at he
  ·cases he
  ·rename_i hlen
   simp only[bind_ok]at he
   obtain⟨z,hz,cells,hc,ha⟩:=he
   have hin:AV.Ins U cells:=fill?_in hc (zeros?_in hz) hp
   obtain⟨h1,h2,h3⟩:=allocSlice?_sound R I ha hin trivial trivial
   refine⟨h1,h2,fun{E Q} hq=>?_⟩
   simp only[Instr.buildSlice,wq_bind,wq_underlying (under?_ok hD),wq_sizeOf hs]
   rw[if_neg (by simp only[gt_iff_lt,Nat.not_lt];omega)]
   refine zeros?_wq (ρ:=ρ) hz fun zero hzero=>?_
   rw[hzero,fill?_sound (ρ:=ρ) hc]
   simp only[newRow,wq_bind,wq_newObj,wq_pure]
   obtain⟨ρ',a1,a2,a3,a4⟩:=h3 (AV.evs ρ cells).toArray (by simp[ABlk.fits])
   exact hq _ _ ⟨ρ',a1,a2,a3,a4.symm⟩
 ·cases he
theorem makeSlice_ok(G:K.Good)(R:Rel K ρ h w)(I:Ids K U h){t:TypeId}{l c v:AV}{h':AH}(he:makeSlice? K.P h t l c=.ok (v,h')):
  HOk K U ρ h w (Instr.makeSlice t (l.ev ρ) (c.ev ρ)) v h':=by
 unfold makeSlice? at he
 simp only[bind_ok]at he
 obtain⟨D,hD,he⟩:=he
 split at he
 ·rename_i elem
  split at he
  ·rename_i k1 l k2 c
   simp only[bind_ok]at he
   obtain⟨l',hl,c',hc,size,hs,bytes,hb,he⟩:=he
   obtain rfl:=litNat?_ok hl
   obtain rfl:=litNat?_ok hc
   split at he
   ·rename_i hle
    obtain⟨hlc,hc2,hb2⟩:=hle
    simp only[bind_ok]at he
    obtain⟨cells,hz,ha⟩:=he
    obtain⟨i,hi,hib⟩:=bytesOf?_ok hb
    obtain⟨h1,h2,h3⟩:=allocSlice?_sound R I ha (zeros?_in hz) trivial trivial
    refine⟨h1,h2,fun{E Q} hq=>?_⟩
    have wl:IntKind.i64.wrap (Int.ofNat l')=l':=IntWalk.i64_in _ ⟨by have:(0:Int)≤Int.ofNat l':=Int.natCast_nonneg _;omega,by have:Int.ofNat l'≤(1048576:Nat):=Int.ofNat_le.2 (Nat.le_trans hlc hc2);omega⟩
    have wc:IntKind.i64.wrap (Int.ofNat c')=c':=IntWalk.i64_in _ ⟨by have:(0:Int)≤Int.ofNat c':=Int.natCast_nonneg _;omega,by have:Int.ofNat c'≤(1048576:Nat):=Int.ofNat_le.2 hc2;omega⟩
    have hmul:bytes*c'≤68719476736:=Nat.mul_le_mul hb2 hc2
    have hmulI:((i.bytes:Int)*(c':Int))≤68719476736:=by rw[hib,<-Int.natCast_mul];exact Int.ofNat_le.2 hmul
    simp only[Instr.makeSlice,AV.ev,IE.ev,asInt,asIntOf,wq_bind,wq_underlying (under?_ok hD),wq_pure,wq_typeInfo hi,wl,wc]
    have hcond:(((decide ((c':Int)<0)||decide ((i.bytes:Int)*(c':Int)>2 ^ 48))||decide ((l':Int)<0))||decide ((l':Int)>(c':Int)))=false:=by
     have hp:(2:Int) ^ 48=281474976710656:=by decide
     rw[hp]
     simp only[Bool.or_eq_false_iff,decide_eq_false_iff_not]
     refine⟨⟨⟨by omega,by omega⟩,by omega⟩,by omega⟩
    rw[if_neg (by rw[hcond];simp)]
    have ask:∀{Q':Unit->World->Prop},Q' () w->wq K.P K.Ev E (askRoom (((c':Int)).toNat*i.bytes)) Q' w:=by
     intro Q' hq'
     unfold askRoom
     simp only[wq_ite,wq_mark,wq_pure]
     split
     ·exact⟨G.noRoom,hq'⟩
     ·exact hq'
    simp only[wq_bind,wq_pure]
    refine ask ?_
    simp only[wq_sizeOf hs,Int.toNat_natCast]
    refine zeros?_wq (ρ:=ρ) hz fun zero hzero=>?_
    rw[hzero]
    simp only[newRow,wq_bind,wq_newObj,wq_pure]
    obtain⟨ρ',a1,a2,a3,a4⟩:=h3 (AV.evs ρ cells).toArray (by simp[ABlk.fits])
    exact hq _ _ ⟨ρ',a1,a2,a3,a4.symm⟩
   ·cases he
  ·cases he
 ·cases he
theorem makeRow_ok(G:K.Good)(R:Rel K ρ h w)(I:Ids K U h){t:TypeId}{l c v:AV}{h':AH}(hcU:c.In U)(he:makeRow? K.P K.O h t l c=.ok (v,h')):
  HOk K U ρ h w (Instr.makeSlice t (l.ev ρ) (c.ev ρ)) v h':=by
 unfold makeRow? at he
 simp only[bind_ok]at he
 obtain⟨D,hD,he⟩:=he
 split at he
 ·rename_i elem
  split at he
  ·rename_i k1 l k2 c
   simp only[bind_ok]at he
   obtain⟨z,hz,size,hs,bytes,hb,neg,hneg,big,hbig,he⟩:=he
   split at he
   ·rename_i hle
    obtain⟨hlc,hn,hg,hb2⟩:=hle
    subst hn;subst hg
    obtain rfl:=IE.eqb_eq hlc
    obtain⟨i,hi,hib⟩:=bytesOf?_ok hb
    obtain⟨h1,h2,h3⟩:=allocSlice?_sound R I he (b:=.row [] elem l) ⟨trivial,hcU⟩ hcU hcU
    refine⟨h1,h2,fun{E Q} hq=>?_⟩
    have c0:¬l.ev ρ<0:=dec_neg R hneg (by simp)
    have c1':¬l.ev ρ>4294967296:=by
     unfold bigB at hbig
     split at hbig
     ·rename_i b hb1
      cases hbig
      have c1:decide (l.ev ρ>1048576)=false:=dec_ev R hb1
      have:=of_decide_eq_false c1
      omega
     ·have c1:decide (l.ev ρ>4294967296)=false:=dec_ev R hbig
      exact of_decide_eq_false c1
    generalize hL:l.ev ρ=n at c0 c1'
    have wl:IntKind.i64.wrap n=n:=IntWalk.i64_in _ ⟨by omega,by omega⟩
    have hmulI:((i.bytes:Int)*n)≤65536*4294967296:=Int.mul_le_mul (by rw[hib];exact Int.ofNat_le.2 hb2) (by omega) (by omega) (by decide)
    simp only[Instr.makeSlice,AV.ev,asInt,asIntOf,wq_bind,wq_underlying (under?_ok hD),wq_pure,wq_typeInfo hi,hL,wl]
    have hcond:(((decide (n<0)||decide ((i.bytes:Int)*n>2 ^ 48))||decide (n<0))||decide (n>n))=false:=by
     have hp:(2:Int) ^ 48=281474976710656:=by decide
     rw[hp]
     simp only[Bool.or_eq_false_iff,decide_eq_false_iff_not]
     refine⟨⟨⟨c0,by omega⟩,c0⟩,by omega⟩
    rw[if_neg (by rw[hcond];simp)]
    have ask:∀{Q':Unit->World->Prop},Q' () w->wq K.P K.Ev E (askRoom (n.toNat*i.bytes)) Q' w:=by
     intro Q' hq'
     unfold askRoom
     simp only[wq_ite,wq_mark,wq_pure]
     split
     ·exact⟨G.noRoom,hq'⟩
     ·exact hq'
    simp only[wq_bind,wq_pure]
    refine ask ?_
    simp only[wq_sizeOf hs]
    have fin:∀zero:Array Value,wq K.P K.Ev E (do
      let a<-newRow elem ((Array.range (n.toNat*size)).map (zero[· % zero.size]!))
      pure (.slice (some a) n.toNat n.toNat)) Q w:=by
     intro zero
     simp only[newRow,wq_bind,wq_newObj,wq_pure]
     obtain⟨ρ',a1,a2,a3,a4⟩:=h3 ((Array.range (n.toNat*size)).map (zero[· % zero.size]!)) (by
      obtain⟨i',hi',hi2⟩:=sizeOf?_ok hs
      refine⟨_,i',(List.nil_append _).symm,hi',?_⟩
      rw[hL,hi2];simp)
     rw[hL]at a4
     exact hq _ _ ⟨ρ',a1,a2,a3,a4.symm⟩
    by_cases h0:n.toNat*size=0
    ·rw[if_pos h0]
     exact fin #[]
    ·rw[if_neg h0]
     simp only[wq_bind,wq_zeroValue (ρ:=ρ) hz,wq_pure]
     exact fin _
   ·cases he
  ·cases he
 ·cases he
theorem makeSliceS_ok(G:K.Good)(R:Rel K ρ h w)(I:Ids K U h){t:TypeId}{l c v:AV}{h':AH}(hcU:c.In U)(he:makeSliceS? K.P K.O h t l c=.ok (v,h')):
  HOk K U ρ h w (Instr.makeSlice t (l.ev ρ) (c.ev ρ)) v h':=by
 unfold makeSliceS? at he
 split at he
 ·exact makeSlice_ok G R I he
 ·exact makeRow_ok G R I hcU he
end
section
variable {K:Ctx}{ρ:Env}{h:AH}{w:World}{U:Nat->Prop}
theorem wq_storeCells_arr(G:K.Good){E:Value->World->Prop}{b:Nat}(ho:K.own b){e:TypeId}:∀{l:List Value} {off j:Nat} {arr:Array Value} {w:World},(∀n,off+j≤n->¬K.still b n)->w.heap[b]?=some (.cells arr e (0,0))->off+j+l.length≤arr.size->(∀v∈l,v.oneCell'=true)->
  ∀{Q:Unit->World->Prop},(∀w' (arr':Array Value),w'.heap[b]?=some (.cells arr' e (0,0))->(∀n,n≠b->w'.heap[n]?=w.heap[n]?)->w'.heap.size=w.heap.size->w'.tape=w.tape->w'.os=w.os->w'.output=w.output->
   arr'.size=arr.size->(∀n,n<off+j->arr'[n]?=arr[n]?)->(∀n,n<l.length->arr'[off+j+n]?=l[n]?)->Q () w')->wq K.P K.Ev E (storeCells ⟨b,off,none⟩ l j) Q w:=by
 intro l
 induction l with
 |nil=>intro off j arr w hns hb hle _ Q hq;exact hq w arr hb (fun _ _=>rfl) rfl rfl rfl rfl rfl (fun _ _=>rfl) (fun n hn=>by simp at hn)
 |cons v l ih=>
  intro off j arr w hns hb hle hone Q hq
  simp only[List.length_cons]at hle
  simp only[storeCells,wq_bind]
  rw[wq_store]
  have ha:(⟨b,off,none⟩:Addr).add j=⟨b,off+j,none⟩:=by unfold Addr.add;split<;>simp_all
  rw[ha]
  have hlt:off+j<arr.size:=by omega
  refine⟨hone v (by simp),⟨_,(cell?_of hb).trans (Array.getElem?_eq_getElem hlt)⟩,frozen?_of hb,G.wr _ _ ho (hns _ (Nat.le_refl _)),?_⟩
  have hb':(w.setCell ⟨b,off+j,none⟩ v).heap[b]?=some (.cells (arr.setIfInBounds (off+j) v) e (0,0)):=by
   rw[heap_setCell,if_pos rfl,hb];rfl
  refine ih (arr:=arr.setIfInBounds (off+j) v) (fun n hn=>hns n (by omega)) hb' (by simp;omega) (fun u hu=>hone u (List.mem_cons_of_mem _ hu)) ?_
  intro w' arr' q1 q2 q3 q4 q5 q6 q7 q8 q9
  refine hq w' arr' q1 (fun n hn=>?_) (q3.trans (size_setCell _ _ _)) q4 q5 q6 (by rw[q7];simp) (fun n hn=>?_) (fun n hn=>?_)
  ·rw[q2 n hn,heap_setCell,if_neg hn]
  ·rw[q8 n (by omega),Array.getElem?_setIfInBounds_ne (by omega)]
  ·cases n with
   |zero=>rw[Nat.add_zero,q8 (off+j) (by omega)];simp[hlt]
   |succ n=>
    have:=q9 n (by simp at hn;omega)
    rw[List.getElem?_cons_succ,<-this]
    congr 1
    omega
theorem nextslice_small{need cap bytes:Nat}(h1:cap<need)(h2:need≤1048576)(h3:bytes≤1024):¬Builtin.nextslicecap need cap*bytes>2 ^ 48:=by
 have:=nextslicecap_le h1
 have h4:Builtin.nextslicecap need cap*bytes≤2097152*1024:=Nat.mul_le_mul (by omega) h3
 omega
theorem oneCells_ev{new:List AV}(h1:new.all (·.oneCell?)=true)(ρ:Env):∀v∈AV.evs ρ new,v.oneCell'=true:=by
 rw[evs_map]
 intro v hv
 obtain⟨a,ha,rfl⟩:=List.mem_map.1 hv
 exact oneCell_ev (List.all_eq_true.1 h1 a ha) ρ
theorem appArgs?_len{O:Orc}{size:Nat}{x:AV}{n:Nat}{new:List AV}(ha:appArgs? O h size x=.ok (n,new)):new.length=n*size:=by
 unfold appArgs? at ha
 split at ha
 ·split at ha
  ·cases ha;simp
  ·cases ha
 ·simp only[bind_ok,pure_ok]at ha
  obtain⟨m,hm,l,hl,e⟩:=ha
  cases e
  exact loadN_length hl
 ·split at ha
  ·rename_i h1
   cases ha
   simp[h1]
  ·cases ha
 ·cases ha
theorem appArgs?_in(I:Ids K U h){size:Nat}{x:AV}{n:Nat}{new:List AV}(ha:appArgs? K.O h size x=.ok (n,new)):AV.Ins U new:=by
 unfold appArgs? at ha
 split at ha
 ·split at ha
  ·cases ha;trivial
  ·cases ha
 ·simp only[bind_ok,pure_ok]at ha
  obtain⟨m,hm,l,hl,e⟩:=ha
  cases e
  exact loadN_in I hl
 ·split at ha
  ·cases ha
   exact Ins_iff.2 fun a ha=>by obtain⟨c,_,rfl⟩:=List.mem_map.1 ha;trivial
  ·cases ha
 ·cases ha
theorem wq_lenOf{E:Value->World->Prop}{O:Orc}{size:Nat}{x:AV}{n:Nat}{new:List AV}(ha:appArgs? O h size x=.ok (n,new)){Q:Nat->World->Prop}(hq:Q n w):wq K.P K.Ev E (Builtin.lenOf (x.ev ρ)) Q w:=by
 unfold appArgs? at ha
 split at ha
 ·split at ha
  ·cases ha;exact hq
  ·cases ha
 ·simp only[bind_ok,pure_ok]at ha
  obtain⟨m,hm,l,hl,e⟩:=ha
  cases e
  obtain rfl:=litNat?_ok hm
  exact hq
 ·split at ha
  ·cases ha;exact hq
  ·cases ha
 ·cases ha
theorem wq_firstCells(R:Rel K ρ h w)(G:K.Good){E:Value->World->Prop}{size:Nat}{x:AV}{n:Nat}{new:List AV}(ha:appArgs? K.O h size x=.ok (n,new)){Q:Array Value->World->Prop}(hq:Q (AV.evs ρ new).toArray w):
  wq K.P K.Ev E (Builtin.firstCells size n (x.ev ρ)) Q w:=by
 unfold appArgs? at ha
 split at ha
 ·split at ha
  ·cases ha;exact hq
  ·cases ha
 ·simp only[bind_ok,pure_ok]at ha
  obtain⟨m,hm,l,hl,e⟩:=ha
  cases e
  simp only[AV.ev,Option.map_some,Builtin.firstCells,loadCells]
  exact loadN_sound R G hl (by simpa using hq)
 ·split at ha
  ·rename_i t h1
   cases ha
   simp only[AV.ev,Builtin.firstCells,wq_pure]
   have:(t.extract 0 t.size).data.map (fun b=>Value.int .u8 b.toNat)=(AV.evs ρ (t.data.toList.map fun c=>AV.int .u8 (.lit c.toNat))).toArray:=by
    have e0:t.extract 0 t.size=t:=ByteArray.extract_zero_size
    rw[e0,evs_map,List.map_map]
    apply Array.toList_inj.1
    simp[AV.ev,IE.ev]
   rw[this];exact hq
  ·cases ha
 ·cases ha
theorem allocRow?_sound(R:Rel K ρ h w)(I:Ids K U h){old:Option Nat}{cs:List AV}{elem:TypeId}{len:Nat}{v:AV}{h':AH}(ha:allocRow? h old cs elem len=.ok (v,h'))(hc:AV.Ins U cs):
  v.In (plus U h.nb h'.nb)∧Grows K U h h'∧∀(m:Nat) (c:Nat) (w':World) (arr:Array Value) (rest:List Value) (i:TypeInfo),Keeps K.own w w'->w'.heap[m]?=some (.cells arr elem (0,0))->(K.own m∧∀n,¬K.still m n)->Rel K ρ (match old with|some i=>{h with hp:=dropB i h.hp}|none=>h) w'->
   (∀j b,findB j (match old with|some i=>dropB i h.hp|none=>h.hp)=some b->ρ.b j≠m)->arr.toList=AV.evs ρ cs++rest->K.P.info? elem=some i->arr.size=c*i.size->
   After K U ρ w h' (fun ρ'=>v.ev ρ'=.slice (some ⟨m,0,none⟩) len c) w':=by
 obtain⟨hp,nb,lim⟩:=h
 simp only[allocRow?]at ha
 split at ha
 ·rename_i hlt
  cases ha
  have hnu:¬U nb:=I.fresh _ (Nat.le_refl _) hlt
  have hin:ABlk.In (plus U nb (nb+1)) (.row cs elem (.var nb)):=⟨AV.Ins.mono plus_sub _ hc,.inr ⟨Nat.le_refl _,Nat.lt_succ_self _⟩⟩
  refine⟨⟨⟨.inr ⟨Nat.le_refl _,Nat.lt_succ_self _⟩,trivial⟩,trivial,.inr ⟨Nat.le_refl _,Nat.lt_succ_self _⟩⟩,?_,?_⟩
  ·cases old with
   |none=>exact⟨Nat.le_succ _,rfl,I.ins hlt hin⟩
   |some i=>exact⟨Nat.le_succ _,rfl,(I.drop i).ins hlt hin⟩
  ·intro m c w' arr rest inf hk hm ho R' hne harr hinf hsz
   have hf:(ABlk.row cs elem (.var nb)).fits K.P (ρ.upd nb m c) arr:=⟨rest,inf,by rw[AV.evs_agree (agree_upd hnu) cs hc];exact harr,hinf,by simpa[IE.ev,Env.upd] using hsz⟩
   refine⟨ρ.upd nb m c,agree_upd hnu,?_,hk,?_⟩
   ·cases old with
    |none=>exact Rel.ins R' I hlt hm ho.1 hne ho.2 hf
    |some i=>exact Rel.ins R' (I.drop i) hlt hm ho.1 hne ho.2 hf
   ·simp[AV.ev,AA.ev,BR.ev,IE.ev,Env.upd]
 ·cases ha
theorem wq_grow(G:K.Good)(R:Rel K ρ h w){E:Value->World->Prop}{elem:TypeId}{i:TypeInfo}{z:AV}{zc:List AV}{need sCap sLen n size:Nat}{s x:Value}{old new:List AV}(hi:K.P.info? elem=some i)(hsz:i.size=size)(hz:zero? K.P elem=.ok z)(hc:z.cells?=.ok zc)(hzl:zc.length=size)
 (hold:∀{Q':Array Value->World->Prop} {w':World},Rel K ρ h w'->Q' (AV.evs ρ old).toArray w'->wq K.P K.Ev E (Builtin.firstCells size sLen s) Q' w')
 (hnew:∀{Q':Array Value->World->Prop} {w':World},Rel K ρ h w'->Q' (AV.evs ρ new).toArray w'->wq K.P K.Ev E (Builtin.firstCells size n x) Q' w')
 (hlen:(old++new).length=need*size)(hneed:need≤1048576){Q:Value->World->Prop}
 (hq:∀(newCap:Nat) (w0:World) (arr:Array Value) (rest:List Value),w0.heap=w.heap->w0.tape=w.tape->w0.os=w.os->w0.output=w.output->arr.toList=AV.evs ρ (old++new)++rest->arr.size=newCap*size->need≤newCap->
   Q (.slice (some ⟨w.heap.size,0,none⟩) need newCap) {w0 with heap:=w0.heap.push (.cells arr elem (0,0))}):
  wq K.P K.Ev E (do
   let newCap<-choose (.appendCap need sCap elem)
   askRoom (newCap*(<-typeInfo elem).bytes)
   let old<-Builtin.firstCells size sLen s
   let new<-Builtin.firstCells size n x
   let rest:=Builtin.zeroCells (<-zeroValue elem).cells (newCap-need)
   Pure.pure (.slice (some (<-newRow elem (old++new++rest))) need newCap)) Q w:=by
 simp only[wq_bind]
 rw[wq_choose]
 rw[if_neg (by simp[Question.forced])]
 intro nn
 simp only[wq_typeInfo hi]
 have ask:∀{m:Nat} {Q':Unit->World->Prop} {w':World},Q' () w'->wq K.P K.Ev E (askRoom m) Q' w':=by
  intro m Q' w' hq'
  unfold askRoom
  simp only[wq_ite,wq_mark,wq_pure]
  split
  ·exact⟨G.noRoom,hq'⟩
  ·exact hq'
 refine ask ?_
 have R':Rel K ρ h {w with drawn:=w.drawn+1}:=R.at rfl
 refine hold R' ?_
 refine hnew R' ?_
 simp only[wq_zeroValue (ρ:=ρ) hz,newRow,wq_bind,wq_newObj,wq_pure]
 have hcut:need≤Question.cut (.appendCap need sCap elem) nn:=by simp only[Question.cut];omega
 generalize hcap:Question.cut (.appendCap need sCap elem) nn=newCap at hcut
 refine hq newCap {w with drawn:=w.drawn+1} _ (Builtin.zeroCells (z.ev ρ).cells (newCap-need)).toList rfl rfl rfl rfl ?_ ?_ hcut
 ·simp[evs_append]
 ·have e1:(z.ev ρ).cells.size=size:=by rw[cells?_ev hc ρ];simp[evs_length,hzl]
  have e2:old.length+new.length=need*size:=by simpa using hlen
  simp only[Array.size_append,Builtin.zeroCells,Array.size_map,Array.size_range,List.size_toArray,evs_length,e1]
  rw[e2,<-Nat.add_mul]
  congr 1
  omega
end
section
variable {K:Ctx}{ρ:Env}{h:AH}{w:World}{U:Nat->Prop}
theorem store0_nb{a:AA}{v:AV}{h':AH}(hs:store0 h a v=.ok h'):h'.nb=h.nb∧h'.lim=h.lim:=by
 unfold store0 at hs
 split at hs
 ·split at hs
  ·split at hs
   ·cases hs;exact⟨rfl,rfl⟩
   ·cases hs
  ·cases hs
 ·cases hs
theorem store1_nb{a:AA}{v:AV}{h':AH}(hs:store1 h a v=.ok h'):h'.nb=h.nb∧h'.lim=h.lim:=by
 unfold store1 at hs
 split at hs
 ·rename_i h1 hh
  cases hs
  exact store0_nb hh
 ·split at hs
  ·rename_i h1 hh
   cases hs
   unfold preSet? at hh
   split at hh
   ·split at hh
    ·split at hh
     ·split at hh
      ·cases hh;exact⟨rfl,rfl⟩
      ·cases hh
     ·cases hh
    ·cases hh
   ·cases hh
  ·cases hs
theorem storeN_nb{a:AA}:∀{l:List AV} {j:Nat} {h h':AH},storeN h a l j=.ok h'->h'.nb=h.nb∧h'.lim=h.lim:=by
 intro l
 induction l with
 |nil=>intro j h h' hs;simp[storeN]at hs;subst hs;exact⟨rfl,rfl⟩
 |cons v l ih=>
  intro j h h' hs
  simp only[storeN]at hs
  split at hs
  ·rename_i h1 hh1
   have a1:=store1_nb hh1
   have a2:=ih hs
   exact⟨a2.1.trans a1.1,a2.2.trans a1.2⟩
  ·cases hs
theorem Grows.of_same{h':AH}(I':Ids K U h')(e1:h'.nb=h.nb)(e2:h'.lim=h.lim):Grows K U h h':=
 ⟨by omega,e2,I'.congr fun n=>⟨.inl,fun x=>x.elim id fun x=>by omega⟩⟩
theorem lenPlus_ev(ρ:Env)(m:IE)(k:Nat):((lenPlus m k).ev ρ).toNat=(m.ev ρ).toNat+k:=by
 unfold lenPlus
 split
 ·simp
 ·simp only[IE.ev];simp;omega
theorem lenPlus_in{m:IE}(k:Nat)(h:m.In U):(lenPlus m k).In U:=by
 unfold lenPlus
 split
 ·exact h
 ·exact⟨h,trivial⟩
theorem wq_loadCells_arr(G:K.Good){E:Value->World->Prop}{b:Nat}(ho:K.own b){arr:Array Value}{e:TypeId}{w:World}(hb:w.heap[b]?=some (.cells arr e (0,0))):∀{n j:Nat} {acc:Array Value},j+n≤arr.size->
  ∀{Q:Array Value->World->Prop},Q (acc++((arr.toList.drop j).take n).toArray) w->wq K.P K.Ev E (loadCellsFrom ⟨b,0,none⟩ j n acc) Q w:=by
 intro n
 induction n with
 |zero=>intro j acc hj Q hq;simpa[loadCellsFrom] using hq
 |succ n ih=>
  intro j acc hj Q hq
  simp only[loadCellsFrom,wq_bind]
  rw[wq_load]
  have ha:(⟨b,0,none⟩:Addr).add j=⟨b,j,none⟩:=by unfold Addr.add;split<;>simp_all
  rw[ha]
  have hlt:j<arr.size:=by omega
  refine⟨_,(cell?_of hb).trans (Array.getElem?_eq_getElem hlt),G.rd _ _ ho,ih (by omega) ?_⟩
  have:(arr.toList.drop j).take (n+1)=arr[j]::(arr.toList.drop (j+1)).take n:=by
   rw[List.drop_eq_getElem_cons (by simpa using hlt),List.take_succ_cons]
   rfl
  rw[this]at hq
  simpa using hq
theorem wq_growV(G:K.Good)(R:Rel K ρ h w){E:Value->World->Prop}{elem:TypeId}{i:TypeInfo}{z:AV}{zc:List AV}{need sCap sLen n size:Nat}{s x:Value}{old new:List Value}(hi:K.P.info? elem=some i)(hsz:i.size=size)(hz:zero? K.P elem=.ok z)(hc:z.cells?=.ok zc)(hzl:zc.length=size)
 (hold:∀{Q':Array Value->World->Prop} {w':World},w'.heap=w.heap->Q' old.toArray w'->wq K.P K.Ev E (Builtin.firstCells size sLen s) Q' w')
 (hnew:∀{Q':Array Value->World->Prop} {w':World},Rel K ρ h w'->Q' new.toArray w'->wq K.P K.Ev E (Builtin.firstCells size n x) Q' w')
 (hlen:(old++new).length=need*size)(hneed:need≤1048576){Q:Value->World->Prop}
 (hq:∀(newCap:Nat) (w0:World) (arr:Array Value) (rest:List Value),w0.heap=w.heap->w0.tape=w.tape->w0.os=w.os->w0.output=w.output->arr.toList=old++new++rest->arr.size=newCap*size->need≤newCap->
   Q (.slice (some ⟨w.heap.size,0,none⟩) need newCap) {w0 with heap:=w0.heap.push (.cells arr elem (0,0))}):
  wq K.P K.Ev E (do
   let newCap<-choose (.appendCap need sCap elem)
   askRoom (newCap*(<-typeInfo elem).bytes)
   let old<-Builtin.firstCells size sLen s
   let new<-Builtin.firstCells size n x
   let rest:=Builtin.zeroCells (<-zeroValue elem).cells (newCap-need)
   Pure.pure (.slice (some (<-newRow elem (old++new++rest))) need newCap)) Q w:=by
 simp only[wq_bind]
 rw[wq_choose]
 rw[if_neg (by simp[Question.forced])]
 intro nn
 simp only[wq_typeInfo hi]
 have ask:∀{m:Nat} {Q':Unit->World->Prop} {w':World},Q' () w'->wq K.P K.Ev E (askRoom m) Q' w':=by
  intro m Q' w' hq'
  unfold askRoom
  simp only[wq_ite,wq_mark,wq_pure]
  split
  ·exact⟨G.noRoom,hq'⟩
  ·exact hq'
 refine ask ?_
 have R':Rel K ρ h {w with drawn:=w.drawn+1}:=R.at rfl
 refine hold rfl ?_
 refine hnew R' ?_
 simp only[wq_zeroValue (ρ:=ρ) hz,newRow,wq_bind,wq_newObj,wq_pure]
 have hcut:need≤Question.cut (.appendCap need sCap elem) nn:=by simp only[Question.cut];omega
 generalize hcap:Question.cut (.appendCap need sCap elem) nn=newCap at hcut
 refine hq newCap {w with drawn:=w.drawn+1} _ (Builtin.zeroCells (z.ev ρ).cells (newCap-need)).toList rfl rfl rfl rfl ?_ ?_ hcut
 ·simp
 ·have e1:(z.ev ρ).cells.size=size:=by rw[cells?_ev hc ρ];simp[evs_length,hzl]
  have e2:old.length+new.length=need*size:=by simpa using hlen
  simp only[Array.size_append,Builtin.zeroCells,Array.size_map,Array.size_range,List.size_toArray,e1]
  rw[e2,<-Nat.add_mul]
  congr 1
  omega
theorem append_front{E Q:Value->World->Prop}{argTypes:Array TypeId}{ty sType xType elem:TypeId}{X:TypeDesc}{base:Option AA}{sl sc:IE}{x:AV}{n size bytes:Nat}{new:List AV}{info:TypeInfo}(h0:argTypes[0]?=some sType)(h1:argTypes[1]?=some xType)
 (hX:under? K.P xType=.ok X)(hXn:∀k,X=.int k->False)(hS:under? K.P sType=.ok (.slice elem))(hsz:sizeOf? K.P elem=.ok size)(hinfo:K.P.info? elem=some info)(hib:info.bytes=bytes)(hb0:0<bytes)(hb1:bytes≤1024)(hnew:appArgs? K.O h size x=.ok (n,new))
 (hlong:(sl.ev ρ).toNat+n≤1048576)
 (hq:wq K.P K.Ev E (if(sl.ev ρ).toNat+n≤(sc.ev ρ).toNat then(do
    let new<-Builtin.firstCells size n (x.ev ρ)
    match base.map (AA.ev ρ)with
    |some a=>do
     storeCells (a.add ((sl.ev ρ).toNat*size)) new.toList
     Pure.pure (.slice (base.map (AA.ev ρ)) ((sl.ev ρ).toNat+n) (sc.ev ρ).toNat)
    |none=>Pure.pure (.slice (base.map (AA.ev ρ)) ((sl.ev ρ).toNat+n) (sc.ev ρ).toNat))
   else(do
    let newCap<-choose (.appendCap ((sl.ev ρ).toNat+n) (sc.ev ρ).toNat elem)
    askRoom (newCap*(<-typeInfo elem).bytes)
    let old<-Builtin.firstCells size (sl.ev ρ).toNat (.slice (base.map (AA.ev ρ)) (sl.ev ρ).toNat (sc.ev ρ).toNat)
    let new<-Builtin.firstCells size n (x.ev ρ)
    let rest:=Builtin.zeroCells (<-zeroValue elem).cells (newCap-((sl.ev ρ).toNat+n))
    Pure.pure (.slice (some (<-newRow elem (old++new++rest))) ((sl.ev ρ).toNat+n) newCap))) Q w):
  wq K.P K.Ev E (Builtin.append_ argTypes ty #[(AV.slice base sl sc).ev ρ,x.ev ρ]) Q w:=by
 have hX':=under?_ok hX
 clear hX
 unfold Builtin.append_
 simp only[h0,h1,List.getElem?_toArray,List.getElem?_cons_zero,List.getElem?_cons_succ,wq_bind,wq_underlying (under?_ok hS),wq_sizeOf hsz,wq_underlying hX',wq_pure,AV.ev]
 cases X<;>first
  |exact absurd rfl (hXn _)
  |skip
 all_goals simp only[Bool.false_eq_true,if_false]
 all_goals rw[wq_bind]
 all_goals refine wq_lenOf hnew ?_
 all_goals simp only[Bool.not_false,if_true]
 all_goals by_cases hc:(sl.ev ρ).toNat+n≤(sc.ev ρ).toNat
 all_goals first
  |(rw[if_pos hc]at hq⊢;cases base<;>exact hq)
  |(rw[if_neg hc]at hq⊢;rw[wq_bind,wq_typeInfo hinfo];rw[if_neg (by rw[hib];intro hh;exact hh.2.elim id (fun h3=>by omega))];rw[wq_bind,wq_typeInfo hinfo];rw[if_neg (by rw[hib];exact nextslice_small (by omega) hlong hb1)];exact hq)
theorem allocPre?_sound(R:Rel K ρ h w)(I:Ids K U h){old s:Nat}{lk:Bool}{n:IE}{fs ws:List (IE×AV)}{cs:List AV}{elem:TypeId}{len:IE}{v:AV}{h':AH}(ha:allocPre? h old lk s n fs ws cs elem len=.ok (v,h'))(hc:(ABlk.pre lk s n fs ws cs elem (.lit 0)).In U)(hl:len.In U):
  v.In (plus U h.nb h'.nb)∧Grows K U h h'∧∀(m:Nat) (c:Nat) (w':World) (arr pre:Array Value) (rest:List Value) (i:TypeInfo),Keeps K.own w w'->w'.heap[m]?=some (.cells arr elem (0,0))->(K.own m∧∀k,K.still m k->lk=true∧∃i,K.P.info? elem=some i∧k<(n.ev ρ).toNat*i.size)->Rel K ρ {h with hp:=dropB old h.hp} w'->
   (∀j b,findB j (dropB old h.hp)=some b->ρ.b j≠m)->PreIs K.P ρ s n fs ws elem i pre->arr.toList=wrote ρ pre.toList ws++(AV.evs ρ cs++rest)->arr.size=c*i.size->
   After K U ρ w h' (fun ρ'=>v.ev ρ'=.slice (some ⟨m,0,none⟩) (len.ev ρ).toNat c) w':=by
 obtain⟨hp,nb,lim⟩:=h
 simp only[allocPre?]at ha
 split at ha
 ·rename_i hlt
  cases ha
  have hnu:¬U nb:=I.fresh _ (Nat.le_refl _) hlt
  have hnb:plus U nb (nb+1) nb:=.inr ⟨Nat.le_refl _,Nat.lt_succ_self _⟩
  have hc':=ABlk.In.mono (plus_sub (U:=U) (a:=nb) (b:=nb+1)) hc
  have hin:ABlk.In (plus U nb (nb+1)) (.pre lk s n fs ws cs elem (.var nb)):=⟨hc'.1,hc'.2.1,hc'.2.2.1,hc'.2.2.2.1,hnb⟩
  refine⟨⟨⟨hnb,trivial⟩,IE.In.mono plus_sub hl,hnb⟩,⟨Nat.le_succ _,rfl,(I.drop old).ins hlt hin⟩,?_⟩
  intro m c w' arr pre rest inf hk hm ho R' hne hp harr hsz
  have A:Agree U ρ (ρ.upd nb m c):=agree_upd hnu
  have hf:(ABlk.pre lk s n fs ws cs elem (.var nb)).fits K.P (ρ.upd nb m c) arr:=
   ⟨pre,rest,inf,hp.agree A hc.1 hc.2.1 hc.2.2.1,by rw[wrote_agree A _ hc.2.2.1,AV.evs_agree A cs hc.2.2.2.1];exact harr,by simpa[IE.ev,Env.upd] using hsz⟩
  refine⟨ρ.upd nb m c,A,Rel.insL R' (I.drop old) hlt hm ho.1 hne (fun k hk'=>by have:=ho.2 k hk';rw[<-IE.ev_agree A hc.1]at this;exact this) (.inl ⟨arr,rfl,hf⟩),hk,?_⟩
  have:(len.ev (ρ.upd nb m c))=len.ev ρ:=IE.ev_agree A hl
  simp[AV.ev,AA.ev,BR.ev,IE.ev,Env.upd]at this⊢
  rw[<-this]
 ·cases ha
theorem appPre_ok(G:K.Good)(R:Rel K ρ h w)(I:Ids K U h){argTypes:Array TypeId}{ty sType xType elem:TypeId}{X:TypeDesc}{base:Option AA}{sl sc:IE}{x z:AV}{zc:List AV}{n size bytes:Nat}{new:List AV}{v:AV}{h':AH}(h0:argTypes[0]?=some sType)(h1:argTypes[1]?=some xType)
 (hX:under? K.P xType=.ok X)(hXn:∀k,X=.int k->False)(hS:under? K.P sType=.ok (.slice elem))(hsz:sizeOf? K.P elem=.ok size)(hz:zero? K.P elem=.ok z)(hzc:z.cells?=.ok zc)(hbytes:bytesOf? K.P elem=.ok bytes)(hzl:zc.length=size)(hs0:0<size)(hb0:0<bytes)(hb1:bytes≤1024)
 (hnew:appArgs? K.O h size x=.ok (n,new))(hall:new.all (·.oneCell?)=true)(hs:(AV.slice base sl sc).In U)(he:appPre? K.O h base sl sc n size new elem=.ok (v,h')):
  HOk K U ρ h w (Builtin.append_ argTypes ty #[(AV.slice base sl sc).ev ρ,x.ev ρ]) v h':=by
 have hnl:=appArgs?_len hnew
 have hni:=appArgs?_in I hnew
 obtain⟨info,hinfo,hib⟩:=bytesOf?_ok hbytes
 obtain⟨info',hinfo',his⟩:=sizeOf?_ok hsz
 obtain rfl:info=info':=by rw[hinfo]at hinfo';exact Option.some.inj hinfo'
 have isz:info.size=size:=by rw[<-his]
 have hone:=oneCells_ev hall ρ
 unfold appPre? at he
 split at he
 rotate_left
 ·cases he
 rename_i a
 split at he
 rotate_left
 ·cases he
 rename_i i hblk hoff
 split at he
 rotate_left
 ·cases he
 rename_i lk s m fs ws cs e c' hfind
 split at he
 rotate_left
 ·cases he
 rename_i hok
 unfold preOk? at hok
 simp only[Bool.and_eq_true,decide_eq_true_eq]at hok
 obtain⟨⟨⟨⟨hee,hcc⟩,hk⟩,hsl⟩,hdec⟩:=hok
 have hee':=hee.symm
 subst hee'
 have hcc':=IE.eqb_eq hcc
 subst hcc'
 have hk':=Nat.eq_of_beq_eq_true hk
 have hsl':=IE.eqb_eq hsl
 subst hsl'
 generalize hkk:cs.length / size=k at*
 have hlong:((lenPlus m k).ev ρ).toNat+n≤1048576:=by
  split at hdec
  ·rename_i b hd
   subst hdec
   have:=dec_ev R hd
   have h2:((((lenPlus m k).ev ρ).toNat:Int)+(n:Int)≤1048576):=of_decide_eq_true this
   omega
  ·cases hdec
 have hsLen:((lenPlus m k).ev ρ).toNat=(m.ev ρ).toNat+k:=lenPlus_ev ρ m k
 obtain⟨arr,ha1,pre,rest,i1,hp,hf1,hf3⟩:=R.arr hfind rfl
 obtain rfl:info=i1:=by have:=hp.info;rw[hinfo]at this;exact Option.some.inj this
 have hown:=R.own _ _ hfind rfl
 have hns:∀k,K.still (ρ.b i) k->lk=true∧∃i,K.P.info? elem=some i∧k<(m.ev ρ).toNat*i.size:=fun n hs=>R.lent _ _ hfind n hs
 have hbi:=I.hp _ _ hfind
 generalize hLen:((lenPlus m k).ev ρ).toNat=sLen at*
 have hns2:∀k,sLen*size+0≤k->¬K.still (ρ.b i) k:=fun k hk2 hs=>by
  obtain⟨_,i2,h2,h3⟩:=hns k hs
  obtain rfl:info=i2:=by rw[hinfo]at h2;exact Option.some.inj h2
  rw[isz]at h3
  have:(m.ev ρ).toNat*size≤sLen*size:=Nat.mul_le_mul_right _ (by omega)
  omega
 obtain⟨V,hV⟩:∃V,V=wrote ρ pre.toList ws++AV.evs ρ cs:=⟨_,rfl⟩
 have hVl:V.length=sLen*size:=by
  rw[hV,List.length_append,wrote_length,evs_length,<-hk',Array.length_toList,hp.size,isz,hsLen,Nat.add_mul]
 have hf1':arr.toList=V++rest:=by rw[hf1,hV,List.append_assoc]
 have hasz:arr.size=sLen*size+rest.length:=by
  have:=congrArg List.length hf1'
  rw[List.length_append,hVl]at this
  simpa using this
 have hcap:sLen≤(sc.ev ρ).toNat:=by
  have h5:sLen*size≤(sc.ev ρ).toNat*size:=by rw[<-isz,<-hf3,isz];omega
  exact Nat.le_of_mul_le_mul_right h5 hs0
 have eaddr:a.ev ρ=⟨ρ.b i,0,none⟩:=by simp[AA.ev,hblk,hoff,BR.ev,IE.ev]
 have front:=fun{E:Value->World->Prop} {Q:Value->World->Prop}=>append_front (K:=K) (ρ:=ρ) (h:=h) (w:=w) (E:=E) (Q:=Q) (ty:=ty) (base:=some a) (sl:=lenPlus m k) (sc:=sc) (x:=x) h0 h1 hX hXn hS hsz hinfo hib hb0 hb1 hnew (by rw[hLen];exact hlong)
 rw[hLen]at front
 have new?:∀{E:Value->World->Prop} {Q':Array Value->World->Prop} {w':World},Rel K ρ h w'->Q' (AV.evs ρ new).toArray w'->wq K.P K.Ev E (Builtin.firstCells size n (x.ev ρ)) Q' w':=fun R' hq'=>wq_firstCells R' G hnew hq'
 split at he
 ·rw[pure_ok]at he
  cases he
  have hnil:new=[]:=List.eq_nil_of_length_eq_zero (by simpa using hnl)
  subst hnil
  refine HOk.pure R I hs fun{E Q} hq=>front ?_
  rw[if_pos (by omega),wq_bind]
  refine new? R ?_
  simp only[Option.map_some,AV.evs,wq_bind,storeCells,wq_pure]
  have:(AV.slice (some a) (lenPlus m k) sc).ev ρ=.slice (some (a.ev ρ)) (sLen+0) (sc.ev ρ).toNat:=by simp only[AV.ev,Option.map_some,hLen];rfl
  rw[<-this]
  exact hq
 ·rename_i hn0
  have hin:(ABlk.pre lk s m fs ws (cs++new) elem (.lit 0)).In U:=⟨hbi.1,hbi.2.1,hbi.2.2.1,Ins_iff.2 fun x hx'=>by
   rcases List.mem_append.1 hx' with h'|h'
   ·exact Ins_iff.1 hbi.2.2.2.1 _ h'
   ·exact Ins_iff.1 hni _ h',trivial⟩
  obtain⟨r1,r2,r3⟩:=allocPre?_sound R I he hin (lenPlus_in _ hbi.1)
  have hLen2:((lenPlus m (k+n)).ev ρ).toNat=sLen+n:=by rw[lenPlus_ev];omega
  rw[hLen2]at r3
  refine⟨r1,r2,fun{E Q} hq=>front ?_⟩
  by_cases hfit:sLen+n≤(sc.ev ρ).toNat
  ·rw[if_pos hfit,wq_bind]
   refine new? R ?_
   simp only[Option.map_some,wq_bind,eaddr]
   have eadd:(⟨ρ.b i,0,none⟩:Addr).add (sLen*size)=⟨ρ.b i,sLen*size,none⟩:=by unfold Addr.add;split<;>simp_all
   rw[eadd]
   have hroom:sLen*size+0+(AV.evs ρ new).length≤arr.size:=by
    rw[hf3,isz,evs_length,hnl,Nat.add_zero,<-Nat.add_mul]
    exact Nat.mul_le_mul_right _ hfit
   refine wq_storeCells_arr G hown hns2 ha1 hroom hone ?_
   intro w' arr' q1 q2 q3 q4 q5 q6 q7 q8 q9
   have hdrop:∀j b,findB j (dropB i h.hp)=some b->findB j h.hp=some b∧j≠i:=fun j b hb=>by
    rw[findB_dropB _ _ _ I.nodup]at hb
    split at hb
    · cases hb
    · rename_i hne;exact⟨hb,hne⟩
   have hneb:∀j b,findB j (dropB i h.hp)=some b->ρ.b j≠ρ.b i:=fun j b hb e=>(hdrop j b hb).2 (R.inj _ _ _ _ (hdrop j b hb).1 hfind e)
   have Kw:Keeps K.own w w':=⟨fun m hm=>q2 m (fun e=>hm (by rw[e];exact hown)),by rw[q3];exact Nat.le_refl _,q4,q5,q6⟩
   have Rw:Rel K ρ {h with hp:=dropB i h.hp} w':=
    ⟨fun j b hb=>by obtain⟨arr2,x1,x2⟩:=R.blk j b (hdrop j b hb).1;exact⟨arr2,by rw[q2 _ (hneb j b hb)];exact x1,x2⟩,
     fun j b hb=>R.own' j b (hdrop j b hb).1,fun j k b c hb hc e=>R.inj j k b c (hdrop j b hb).1 (hdrop k c hc).1 e,R.bs,R.is,
     fun p hp=>by
      obtain⟨m1,m2,m3⟩:=R.mem p hp
      refine⟨m1,?_,m3⟩
      simp only[World.cell?]at m2⊢
      rw[q2 _ (fun e=>m1 (by rw[e];exact hown))];exact m2,
     fun m hm=>R.room m (by rw[q3]at hm;exact hm),fun j b hb=>R.lent j b (hdrop j b hb).1,fun b n hs=>by rw[q3];exact R.low b n hs⟩
   have harr:arr'.toList=wrote ρ pre.toList ws++(AV.evs ρ (cs++new)++arr'.toList.drop (sLen*size+n*size)):=by
    have hl:V++AV.evs ρ new=arr'.toList.take (sLen*size+n*size):=by
      refine List.ext_getElem? fun j=>?_
      rw[List.getElem?_take]
      by_cases hm:j<sLen*size
      ·rw[List.getElem?_append_left (by rw[hVl];exact hm),if_pos (by omega),(show arr'.toList[j]?=arr'[j]? from Array.getElem?_toList),q8 j (by omega),(show arr[j]?=arr.toList[j]? from Array.getElem?_toList.symm),hf1',List.getElem?_append_left (by rw[hVl];exact hm)]
      ·rw[List.getElem?_append_right (by rw[hVl];omega),hVl]
       by_cases hm2:j<sLen*size+n*size
       ·rw[if_pos hm2,(show arr'.toList[j]?=arr'[j]? from Array.getElem?_toList)]
        have:=q9 (j-sLen*size) (by rw[evs_length,hnl];omega)
        rw[<-this]
        congr 1
        omega
       ·rw[if_neg hm2,List.getElem?_eq_none (by rw[evs_length,hnl];omega)]
    rw[evs_append,<-List.append_assoc,<-List.append_assoc,<-hV,hl];exact(List.take_append_drop _ _).symm
   obtain⟨ρ',a1,a2,a3,a4⟩:=r3 (ρ.b i) (sc.ev ρ).toNat w' arr' pre _ info Kw q1 ⟨hown,hns⟩ Rw hneb hp harr (by rw[q7];exact hf3)
   exact hq _ _ ⟨ρ',a1,a2,a3,a4.symm⟩
  ·rw[if_neg hfit]
   have hold:∀{E:Value->World->Prop} {Q':Array Value->World->Prop} {w':World},w'.heap=w.heap->Q' V.toArray w'->wq K.P K.Ev E (Builtin.firstCells size sLen (.slice (some (a.ev ρ)) sLen (sc.ev ρ).toNat)) Q' w':=by
    intro E Q' w' hh hq'
    simp only[Builtin.firstCells,loadCells,eaddr]
    refine wq_loadCells_arr G hown (by rw[hh];exact ha1) (by omega) ?_
    have:(arr.toList.drop 0).take (sLen*size)=V:=by
      rw[List.drop_zero,hf1',List.take_append_of_le_length (by omega),List.take_of_length_le (by omega)]
    rw[this]
    simpa using hq'
   refine wq_growV G R hinfo isz hz hzc hzl (fun hh=>hold hh) (fun R'=>new? R') (by rw[List.length_append,hVl,evs_length,hnl,Nat.add_mul]) hlong ?_
   intro newCap w0 arr2 rest2 e1 e2 e3 e4 e5 e6 e7
   have R0:Rel K ρ h w0:=R.at e1
   obtain⟨Rp,Kp⟩:=R0.push (.cells arr2 elem (0,0))
   have K0:Keeps K.own w w0:=⟨fun _ _=>by rw[e1],by rw[e1];exact Nat.le_refl _,e2,e3,e4⟩
   obtain⟨ρ',a1,a2,a3,a4⟩:=r3 w.heap.size newCap {w0 with heap:=w0.heap.push (.cells arr2 elem (0,0))} arr2 pre rest2 info (K0.trans Kp) (by rw[<-e1];simp) ⟨R.room _ (Nat.le_refl _),fun n hs=>by have:=R.low _ n hs;omega⟩ (Rp.drop I i)
    (fun j b hb e=>by
      rw[findB_dropB _ _ _ I.nodup]at hb
      split at hb
      ·cases hb
      ·obtain⟨arr',ha',_⟩:=R.blk j b hb;have:=heap_lt ha';omega) hp (by rw[e5,hV,evs_append,List.append_assoc,List.append_assoc,List.append_assoc]) (by rw[isz];exact e6)
   exact hq _ _ ⟨ρ',a1,a2,a3,a4.symm⟩
theorem append?_ok(G:K.Good)(R:Rel K ρ h w)(I:Ids K U h){argTypes:Array TypeId}{ty:TypeId}{s x v:AV}{h':AH}(hs:s.In U)(hx:x.In U)(he:append? K.P h argTypes s x K.O=.ok (v,h')):
  HOk K U ρ h w (Builtin.append_ argTypes ty #[s.ev ρ,x.ev ρ]) v h':=by
 unfold append? at he
 split at he
 ·rename_i sType xType h0 h1
  simp only[bind_ok]at he
  obtain⟨X,hX,he⟩:=he
  split at he
  ·cases he
  ·rename_i hXn
   simp only[bind_ok]at he
   obtain⟨S,hS,he⟩:=he
   split at he
   ·rename_i elem
    simp only[bind_ok]at he
    obtain⟨size,hsz,z,hz,zc,hzc,bytes,hbytes,he⟩:=he
    split at he
    ·rename_i hcond
     obtain⟨hzl,hs0,hb0,hb1⟩:=hcond
     simp only[bind_ok]at he
     obtain⟨⟨n,new⟩,hnew,he⟩:=he
     split at he
     ·rename_i hall
      split at he
      ·rename_i base sl sc
       split at he
       rotate_left
       ·exact appPre_ok G R I h0 h1 hX (fun k e=>hXn k e) hS hsz hz hzc hbytes hzl hs0 hb0 hb1 hnew hall hs he
       rename_i sn
       simp only[bind_ok]at he
       obtain⟨sLen,hsl,he⟩:=he
       have hsl':=litNat?_ok hsl
       cases hsl'
       split at he
       ·rename_i hlong
        have hnl:=appArgs?_len hnew
        have hni:=appArgs?_in I hnew
        obtain⟨info,hinfo,hib⟩:=bytesOf?_ok hbytes
        obtain⟨info',hinfo',his⟩:=sizeOf?_ok hsz
        obtain rfl:info=info':=by rw[hinfo]at hinfo';exact Option.some.inj hinfo'
        have front:∀{E:Value->World->Prop} {Q:Value->World->Prop},wq K.P K.Ev E (if sLen+n≤(sc.ev ρ).toNat then(do
           let new<-Builtin.firstCells size n (x.ev ρ)
           match base.map (AA.ev ρ)with
           |some a=>do
            storeCells (a.add (sLen*size)) new.toList
            Pure.pure (.slice (base.map (AA.ev ρ)) (sLen+n) (sc.ev ρ).toNat)
           |none=>Pure.pure (.slice (base.map (AA.ev ρ)) (sLen+n) (sc.ev ρ).toNat))
          else(do
           let newCap<-choose (.appendCap (sLen+n) (sc.ev ρ).toNat elem)
           askRoom (newCap*(<-typeInfo elem).bytes)
           let old<-Builtin.firstCells size sLen (.slice (base.map (AA.ev ρ)) sLen (sc.ev ρ).toNat)
           let new<-Builtin.firstCells size n (x.ev ρ)
           let rest:=Builtin.zeroCells (<-zeroValue elem).cells (newCap-(sLen+n))
           Pure.pure (.slice (some (<-newRow elem (old++new++rest))) (sLen+n) newCap))) Q w->
          wq K.P K.Ev E (Builtin.append_ argTypes ty #[(AV.slice base (.lit (.ofNat sLen)) sc).ev ρ,x.ev ρ]) Q w:=by
         intro E Q hq
         have hX':=under?_ok hX
         clear hX he
         unfold Builtin.append_
         simp only[h0,h1,List.getElem?_toArray,List.getElem?_cons_zero,List.getElem?_cons_succ,wq_bind,wq_underlying (under?_ok hS),wq_sizeOf hsz,wq_underlying hX',wq_pure,AV.ev,IE.ev]
         cases X<;>first
          |exact absurd rfl (hXn _)
          |skip
         all_goals simp only[Bool.false_eq_true,if_false]
         all_goals rw[wq_bind]
         all_goals refine wq_lenOf hnew ?_
         all_goals have e0:(Int.ofNat sLen).toNat=sLen:=rfl
         all_goals simp only[e0,Bool.not_false,if_true]
         all_goals by_cases hc:sLen+n≤(sc.ev ρ).toNat
         all_goals first
          |(rw[if_pos hc]at hq⊢;cases base<;>exact hq)
          |(rw[if_neg hc]at hq⊢;rw[wq_bind,wq_typeInfo hinfo];rw[if_neg (by rw[hib];intro hh;exact hh.2.elim id (fun h3=>by omega))];rw[wq_bind,wq_typeInfo hinfo];rw[if_neg (by rw[hib];exact nextslice_small (by omega) hlong hb1)];exact hq)
        have hone:=oneCells_ev hall ρ
        have new?:∀{E:Value->World->Prop} {Q':Array Value->World->Prop} {w':World},Rel K ρ h w'->Q' (AV.evs ρ new).toArray w'->wq K.P K.Ev E (Builtin.firstCells size n (x.ev ρ)) Q' w':=fun R' hq'=>wq_firstCells R' G hnew hq'
        have isz:info.size=size:=by rw[<-his]
        have old?:∀{old:List AV},appOld? K.O h base sLen size=.ok old->
          old.length=sLen*size∧AV.Ins U old∧∀{E:Value->World->Prop} {Q':Array Value->World->Prop} {w':World},Rel K ρ h w'->Q' (AV.evs ρ old).toArray w'->wq K.P K.Ev E (Builtin.firstCells size sLen (.slice (base.map (AA.ev ρ)) sLen (sc.ev ρ).toNat)) Q' w':=by
         intro old ho
         unfold appOld? at ho
         split at ho
         ·split at ho
          ·rename_i h00
           cases ho
           exact⟨by simp[h00],trivial,fun R' hq'=>hq'⟩
          ·cases ho
         ·refine⟨loadN_length ho,loadN_in I ho,fun R' hq'=>?_⟩
          simp only[Option.map_some,Builtin.firstCells,loadCells]
          exact loadN_sound R' G ho (by simpa using hq')
        split at he
        ·
         rename_i cap
         have ec:((IE.lit (Int.ofNat cap)).ev ρ).toNat=cap:=rfl
         split at he
         ·rename_i hle
          unfold appFit? at he
          split at he
          ·rename_i a
           simp only[bind_ok,pure_ok]at he
           obtain⟨h2,hst,e⟩:=he
           cases e
           have hnb:=storeN_nb hst
           have I':=storeN_ids (AA.add_in _ hs.1) I hst hni
           refine⟨⟨AA.In.mono plus_sub hs.1,trivial,trivial⟩,Grows.of_same I' hnb.1 hnb.2,fun{E Q} hq=>front ?_⟩
           rw[ec,if_pos hle,wq_bind]
           refine new? R ?_
           simp only[Option.map_some,wq_bind]
           rw[<-AA.add_ev]
           refine storeN_sound G R hst fun w' r1 r2 _ _=>?_
           exact hq _ _ ⟨ρ,Agree.refl _ _,r1,r2,rfl⟩
          ·split at he
           ·rename_i hn0
            rw[pure_ok]at he
            cases he
            subst hn0
            refine HOk.pure R I ⟨trivial,trivial,trivial⟩ fun{E Q} hq=>front ?_
            rw[ec,if_pos hle,wq_bind]
            refine new? R ?_
            exact hq
           ·cases he
         ·rename_i hle
          unfold appGrow? at he
          simp only[bind_ok]at he
          obtain⟨old,hold,ha⟩:=he
          obtain⟨o1,o2,o3⟩:=old? hold
          have hin:AV.Ins U (old++new):=Ins_iff.2 fun a ha=>by
           rcases List.mem_append.1 ha with h'|h'
           ·exact Ins_iff.1 o2 _ h'
           ·exact Ins_iff.1 hni _ h'
          obtain⟨r1,r2,r3⟩:=allocRow?_sound R I ha hin
          refine⟨r1,r2,fun{E Q} hq=>front ?_⟩
          rw[ec,if_neg hle]
          refine wq_grow G R hinfo isz hz hzc hzl (fun R'=>o3 R') (fun R'=>new? R') (by rw[List.length_append,o1,hnl,Nat.add_mul]) hlong ?_
          intro newCap w0 arr rest e1 e2 e3 e4 e5 e6 e7
          have R0:Rel K ρ h w0:=R.at e1
          obtain⟨Rp,Kp⟩:=R0.push (.cells arr elem (0,0))
          have K0:Keeps K.own w w0:=⟨fun _ _=>by rw[e1],by rw[e1];exact Nat.le_refl _,e2,e3,e4⟩
          obtain⟨ρ',a1,a2,a3,a4⟩:=r3 w.heap.size newCap {w0 with heap:=w0.heap.push (.cells arr elem (0,0))} arr rest info (K0.trans Kp) (by rw[<-e1];simp) ⟨R.room _ (Nat.le_refl _),fun n hs=>by have:=R.low _ n hs;omega⟩ Rp
           (fun j b hb e=>by obtain⟨arr',ha',_⟩:=R.blk j b hb;have:=heap_lt ha';omega) e5 hinfo (by rw[isz];exact e6)
          exact hq _ _ ⟨ρ',a1,a2,a3,a4.symm⟩
        ·
         unfold appRow? at he
         split at he
         ·rename_i a
          split at he
          ·rename_i i hblk hoff
           split at he
           ·rename_i cs e c' hfind
            split at he
            ·rename_i hc3
             obtain⟨hee,hcc,hlen⟩:=hc3
             have hee':=hee.symm
             subst hee'
             have hcc':=IE.eqb_eq hcc
             subst hcc'
             obtain⟨arr,ha1,rest,i1,hf1,hf2,hf3⟩:=R.arr hfind rfl
             obtain rfl:info=i1:=by rw[hinfo]at hf2;exact Option.some.inj hf2
             have hown:=R.own _ _ hfind rfl
             have hns:∀n,¬K.still (ρ.b i) n:=fun n hs=>by have:=R.lent _ _ hfind n hs;cases this
             have hbi:=I.hp _ _ hfind
             have hasz:arr.size=cs.length+rest.length:=by
              have:=congrArg List.length hf1
              simpa[evs_length] using this
             have hcap:sLen≤(sc.ev ρ).toNat:=by
              have h5:sLen*size≤(sc.ev ρ).toNat*size:=by rw[<-isz,<-hf3,isz];omega
              exact Nat.le_of_mul_le_mul_right h5 hs0
             have eaddr:a.ev ρ=⟨ρ.b i,0,none⟩:=by simp[AA.ev,hblk,hoff,BR.ev,IE.ev]
             split at he
             ·rename_i hn0
              rw[pure_ok]at he
              cases he
              subst hn0
              have hnil:new=[]:=List.eq_nil_of_length_eq_zero (by simpa using hnl)
              subst hnil
              refine HOk.pure R I hs fun{E Q} hq=>front ?_
              rw[if_pos (by omega),wq_bind]
              refine new? R ?_
              simp only[Option.map_some,AV.evs,wq_bind,storeCells,wq_pure]
              exact hq
             ·rename_i hn0
              have hin:AV.Ins U (cs.take (sLen*size)++new):=Ins_iff.2 fun x hx'=>by
               rcases List.mem_append.1 hx' with h'|h'
               ·exact Ins_iff.1 hbi.1 _ (List.mem_of_mem_take h')
               ·exact Ins_iff.1 hni _ h'
              obtain⟨r1,r2,r3⟩:=allocRow?_sound R I he hin
              refine⟨r1,r2,fun{E Q} hq=>front ?_⟩
              by_cases hfit:sLen+n≤(sc.ev ρ).toNat
              ·
               rw[if_pos hfit,wq_bind]
               refine new? R ?_
               simp only[Option.map_some,wq_bind,eaddr]
               have eadd:(⟨ρ.b i,0,none⟩:Addr).add (sLen*size)=⟨ρ.b i,sLen*size,none⟩:=by unfold Addr.add;split<;>simp_all
               rw[eadd]
               have hroom:sLen*size+0+(AV.evs ρ new).length≤arr.size:=by
                rw[hf3,isz,evs_length,hnl,Nat.add_zero,<-Nat.add_mul]
                exact Nat.mul_le_mul_right _ hfit
               refine wq_storeCells_arr G hown (fun n _=>hns n) ha1 hroom hone ?_
               intro w' arr' q1 q2 q3 q4 q5 q6 q7 q8 q9
               have hdrop:∀j b,findB j (dropB i h.hp)=some b->findB j h.hp=some b∧j≠i:=fun j b hb=>by
                rw[findB_dropB _ _ _ I.nodup]at hb
                split at hb
                · cases hb
                · rename_i hne;exact⟨hb,hne⟩
               have hneb:∀j b,findB j (dropB i h.hp)=some b->ρ.b j≠ρ.b i:=fun j b hb e=>(hdrop j b hb).2 (R.inj _ _ _ _ (hdrop j b hb).1 hfind e)
               have Kw:Keeps K.own w w':=⟨fun m hm=>q2 m (fun e=>hm (by rw[e];exact hown)),by rw[q3];exact Nat.le_refl _,q4,q5,q6⟩
               have Rw:Rel K ρ {h with hp:=dropB i h.hp} w':=
                ⟨fun j b hb=>by obtain⟨arr2,x1,x2⟩:=R.blk j b (hdrop j b hb).1;exact⟨arr2,by rw[q2 _ (hneb j b hb)];exact x1,x2⟩,
                 fun j b hb=>R.own' j b (hdrop j b hb).1,fun j k b c hb hc e=>R.inj j k b c (hdrop j b hb).1 (hdrop k c hc).1 e,R.bs,R.is,
                 fun p hp=>by
                  obtain⟨m1,m2,m3⟩:=R.mem p hp
                  refine⟨m1,?_,m3⟩
                  simp only[World.cell?]at m2⊢
                  rw[q2 _ (fun e=>m1 (by rw[e];exact hown))];exact m2,
                 fun m hm=>R.room m (by rw[q3]at hm;exact hm),fun j b hb=>R.lent j b (hdrop j b hb).1,fun b n hs=>by rw[q3];exact R.low b n hs⟩
               have harr:arr'.toList=AV.evs ρ (cs.take (sLen*size)++new)++arr'.toList.drop (sLen*size+n*size):=by
                have hl:(AV.evs ρ (cs.take (sLen*size)++new))=arr'.toList.take (sLen*size+n*size):=by
                  refine List.ext_getElem? fun m=>?_
                  rw[List.getElem?_take]
                  rw[evs_append]
                  have hl1:(AV.evs ρ (cs.take (sLen*size))).length=sLen*size:=by rw[evs_length,List.length_take];omega
                  by_cases hm:m<sLen*size
                  ·rw[List.getElem?_append_left (by rw[hl1];exact hm),if_pos (by omega),evs_get,List.getElem?_take,if_pos hm,(show arr'.toList[m]?=arr'[m]? from Array.getElem?_toList),q8 m (by omega),(show arr[m]?=arr.toList[m]? from Array.getElem?_toList.symm),hf1,List.getElem?_append_left (by rw[evs_length];omega),evs_get]
                  ·rw[List.getElem?_append_right (by rw[hl1];omega),hl1]
                   by_cases hm2:m<sLen*size+n*size
                   ·rw[if_pos hm2,(show arr'.toList[m]?=arr'[m]? from Array.getElem?_toList)]
                    have:=q9 (m-sLen*size) (by rw[evs_length,hnl];omega)
                    rw[<-this]
                    congr 1
                    omega
                   ·rw[if_neg hm2,List.getElem?_eq_none (by rw[evs_length,hnl];omega)]
                rw[hl];exact(List.take_append_drop _ _).symm
               obtain⟨ρ',a1,a2,a3,a4⟩:=r3 (ρ.b i) (sc.ev ρ).toNat w' arr' _ info Kw q1 ⟨hown,hns⟩ Rw hneb harr hinfo (by rw[q7];exact hf3)
               exact hq _ _ ⟨ρ',a1,a2,a3,a4.symm⟩
              ·
               rw[if_neg hfit]
               have hold:∀{E:Value->World->Prop} {Q':Array Value->World->Prop} {w':World},Rel K ρ h w'->Q' (AV.evs ρ (cs.take (sLen*size))).toArray w'->wq K.P K.Ev E (Builtin.firstCells size sLen (.slice (some (a.ev ρ)) sLen (sc.ev ρ).toNat)) Q' w':=by
                intro E Q' w' R' hq'
                have hl:∀(m j:Nat),j+m≤cs.length->loadN K.O h a m j=.ok ((cs.drop j).take m):=by
                  intro m
                  induction m with
                  |zero=>intro j _;simp[loadN]
                  |succ m ih=>
                   intro j hj
                   have h1:load1 K.O h (a.add j)=.ok cs[j]:=by
                    unfold load1 load0
                    have:(a.add j)=⟨.dyn i,.lit (.ofNat j)⟩:=by
                     simp only[AA.add,hblk,hoff,addN,Nat.zero_add]
                    rw[this]
                    simp only[hfind,ABlk.cs]
                    rw[List.getElem?_eq_getElem (by omega)]
                   simp only[loadN,h1]
                   rw[ih (j+1) (by omega)]
                   simp only
                   rw[List.drop_eq_getElem_cons (by omega:j<cs.length),List.take_succ_cons]
                simp only[Builtin.firstCells,loadCells]
                exact loadN_sound R' G (hl (sLen*size) 0 (by omega)) (by simpa using hq')
               refine wq_grow G R hinfo isz hz hzc hzl (fun R'=>hold R') (fun R'=>new? R') (by rw[List.length_append,List.length_take,hnl,Nat.add_mul,Nat.min_eq_left hlen]) hlong ?_
               intro newCap w0 arr2 rest2 e1 e2 e3 e4 e5 e6 e7
               have R0:Rel K ρ h w0:=R.at e1
               obtain⟨Rp,Kp⟩:=R0.push (.cells arr2 elem (0,0))
               have K0:Keeps K.own w w0:=⟨fun _ _=>by rw[e1],by rw[e1];exact Nat.le_refl _,e2,e3,e4⟩
               obtain⟨ρ',a1,a2,a3,a4⟩:=r3 w.heap.size newCap {w0 with heap:=w0.heap.push (.cells arr2 elem (0,0))} arr2 rest2 info (K0.trans Kp) (by rw[<-e1];simp) ⟨R.room _ (Nat.le_refl _),fun n hs=>by have:=R.low _ n hs;omega⟩ (Rp.drop I i)
                (fun j b hb e=>by
                  rw[findB_dropB _ _ _ I.nodup]at hb
                  split at hb
                  ·cases hb
                  ·obtain⟨arr',ha',_⟩:=R.blk j b hb;have:=heap_lt ha';omega) e5 hinfo (by rw[isz];exact e6)
               exact hq _ _ ⟨ρ',a1,a2,a3,a4.symm⟩
            ·cases he
           ·cases he
          ·cases he
         ·cases he
       ·cases he
      ·cases he
     ·cases he
    ·cases he
   ·cases he
 ·cases he
end
section
variable {K:Ctx}{ρ:Env}{h:AH}{w:World}{U:Nat->Prop}
theorem is_map{P:Program}{es:List (AV×AV)}{o:Obj}(h:(ABlk.map es).is P ρ o):∃arr clk,o=.map arr clk∧arr.toList.map (fun e=>(e.key,e.val))=es.map fun p=>(p.1.ev ρ,p.2.ev ρ):=by
 rcases h with⟨arr,_,h⟩|h
 ·exact h.elim
 ·exact h
theorem wq_getObj{P:Program}{Ev:Event->Prop}{E:Value->World->Prop}{r:Nat}{o:Obj}(h1:w.heap[r]?=some o)(h2:∀c e f,o≠.cells c e f)(h3:Ev ⟨.obj r,false,o.isChan⟩){Q:Obj->World->Prop}(hq:Q o w):wq P Ev E (getObj r) Q w:=
 ⟨o,h1,h2,h3,hq⟩
theorem wq_setObj{P:Program}{Ev:Event->Prop}{E:Value->World->Prop}{r:Nat}{o o':Obj}(h1:w.heap[r]?=some o')(h2:∀c e f,o'≠.cells c e f)(h3:Ev ⟨.obj r,true,o.isChan⟩){Q:Unit->World->Prop}(hq:Q () {w with heap:=w.heap.setIfInBounds r o}):wq P Ev E (setObj r o) Q w:=
 ⟨⟨o',h1,h2⟩,h3,hq⟩
theorem allocO?_sound(R:Rel K ρ h w)(I:Ids K U h){b:ABlk}{mk:BR->AV}{v:AV}{h':AH}(ha:allocO? h b mk=.ok (v,h'))(hb:b.In U)(hmk:∀r,BR.In (plus U h.nb (h.nb+1)) r->(mk r).In (plus U h.nb (h.nb+1)))(hst:∀n,b.isLent n=b.isLent n):
  v.In (plus U h.nb h'.nb)∧Grows K U h h'∧∀o,b.is K.P ρ o->After K U ρ w h' (fun ρ'=>v.ev ρ'=(mk (.dyn h.nb)).ev (ρ.upd h.nb w.heap.size 0)) {w with heap:=w.heap.push o}:=by
 obtain⟨hp,nb,lim⟩:=h
 simp only[allocO?]at ha
 split at ha
 ·rename_i hlt
  cases ha
  have hnu:¬U nb:=I.fresh _ (Nat.le_refl _) hlt
  refine⟨hmk _ (.inr ⟨Nat.le_refl _,Nat.lt_succ_self _⟩),⟨Nat.le_succ _,rfl,I.ins hlt (ABlk.In.mono plus_sub hb)⟩,fun o ho=>?_⟩
  obtain⟨R',kp⟩:=R.push o
  refine⟨ρ.upd nb w.heap.size 0,agree_upd hnu,R'.insO I hlt (by simp) (R.room _ (Nat.le_refl _)) (fun j x hx e=>?_) (fun n hs=>by have:=R.low _ n hs;omega) (is_agree (agree_upd hnu) hb ho),kp,rfl⟩
  obtain⟨arr',ha,_⟩:=R.blk j x hx
  have:=heap_lt ha
  omega
 ·cases ha
theorem makeChan_ok(R:Rel K ρ h w)(I:Ids K U h){t:TypeId}{s v:AV}{h':AH}(ha:makeChan? K.P h t s=.ok (v,h')):HOk K U ρ h w (Instr.makeChan t (s.ev ρ)) v h':=by
 unfold makeChan? at ha
 split at ha
 ·rename_i k d elem hu
  split at ha
  ·rename_i i hi
   obtain⟨h1,h2,h3⟩:=allocO?_sound R I ha trivial (fun r hr=>hr) (fun _=>rfl)
   refine⟨h1,h2,fun{E Q} hq=>?_⟩
   simp only[Instr.makeChan,AV.ev,IE.ev,wq_bind,asInt,asIntOf,wq_pure,wq_underlying hu,wq_typeInfo hi]
   have hm:¬(Int.ofNat 0<0∨Int.ofNat 0>IntKind.i64.max∨(i.bytes:Int)*Int.ofNat 0>2 ^ 48-112):=by
    simp[IntKind.max,IntKind.bits]
    decide
   simp only[hm,if_false,wq_bind,wq_pure,wq_newObj]
   obtain⟨ρ',a1,a2,a3,a4⟩:=h3 (.chan 0 #[] false 0 0 false) (.inr ⟨0,rfl⟩)
   refine hq _ _ ⟨ρ',a1,a2,a3,?_⟩
   show Value.chan (some w.heap.size)=v.ev ρ'
   rw[a4]
   simp[AV.ev,BR.ev,Env.upd]
  ·cases ha
 ·cases ha
theorem makeMap_ok(R:Rel K ρ h w)(I:Ids K U h){t:TypeId}{r:Option AV}{v:AV}{h':AH}(ha:makeMap? h r=.ok (v,h')):HOk K U ρ h w (Instr.makeMap t (r.map (AV.ev ρ))) v h':=by
 unfold makeMap? at ha
 split at ha
 ·obtain⟨h1,h2,h3⟩:=allocO?_sound R I ha (nofun) (fun r hr=>hr) (fun _=>rfl)
  refine⟨h1,h2,fun{E Q} hq=>?_⟩
  simp only[Instr.makeMap,Option.map_none,wq_bind,wq_pure,wq_newObj]
  obtain⟨ρ',a1,a2,a3,a4⟩:=h3 (.map #[] 0) (.inr ⟨#[],0,rfl,rfl⟩)
  refine hq _ _ ⟨ρ',a1,a2,a3,?_⟩
  show Value.map (some w.heap.size)=v.ev ρ'
  rw[a4]
  simp[AV.ev,BR.ev,Env.upd]
 ·cases ha
def Found(ρ:Env)(w:World)(Q:Option (Nat×Value)->World->Prop):Option AV->Prop
 |some v=>∀j,Q (some (j,v.ev ρ)) w
 |none=>Q none w
theorem wq_findAsking(R:Rel K ρ h w){E:Value->World->Prop}{key:TypeId}{k:AV}:∀{es:List (AV×AV)} {L:List MapEntry} {i:Nat} {r:Option AV},L.map (fun e=>(e.key,e.val))=es.map (fun p=>(p.1.ev ρ,p.2.ev ρ))->
  findA? K.P K.O h key k es=.ok r->∀{Q:Option (Nat×Value)->World->Prop},Found ρ w Q r->wq K.P K.Ev E (Instr.findAsking key (k.ev ρ) L i) Q w:=by
 intro es
 induction es with
 |nil=>
  intro L i r hL he Q hq
  obtain rfl:L=[]:=by simpa using hL
  cases he
  exact hq
 |cons p es ih=>
  intro L i r hL he Q hq
  cases L with
  |nil=>simp at hL
  |cons e L=>
   simp only[List.map_cons,List.cons.injEq,Prod.mk.injEq]at hL
   obtain⟨⟨e1,e2⟩,hL⟩:=hL
   obtain⟨a,v⟩:=p
   have he':(match eq? K.P K.O h 8 key k a with
    |.ok (.lit true)=>.ok (some v)
    |.ok (.lit false)=>findA? K.P K.O h key k es
    |.ok _=>.error "a maps key open"
    |.error e=>.error e)=Except.ok r:=he
   simp only[Instr.findAsking,wq_bind,e1]
   split at he'
   ·rename_i hb
    cases he'
    refine wq_equal R hb ?_
    show wq K.P K.Ev E (if true=true then _ else _) Q w
    simp only[if_true,wq_pure,e2]
    exact hq i
   ·rename_i hb
    refine wq_equal R hb ?_
    show wq K.P K.Ev E (if false=true then _ else _) Q w
    simp only[Bool.false_eq_true,if_false]
    exact ih hL he' hq
   ·cases he'
   ·cases he'
theorem eq_now(R:Rel K ρ h w){key:TypeId}{D:TypeDesc}(hu:K.P.underlying key=some D)(hD:D=.string∨∃kk,D=.int kk){k a:AV}{b:Bool}(he:eq? K.P K.O h 8 key k a=.ok (.lit b)):Instr.sameNow D (k.ev ρ) (a.ev ρ)=some b:=by
 simp only[eq?]at he
 rw[bind_ok]at he
 obtain⟨T,hT,he⟩:=he
 obtain rfl:T=D:=by
  have:=under?_ok hT
  rw[hu]at this
  exact(Option.some.inj this).symm
 have str:∀{x y:SE},Orc.bool K.O (.seq false x y)=.lit b->(x.ev ρ==y.ev ρ)=b:=fun{x y} e=>by
  have:=bool_lit R e
  rw[seq_ev]at this
  exact this
 split at he
 ·rcases hD with h|⟨kk,h⟩<;>cases h
 ·split at he
  ·rename_i hk
   rw[pure_ok]at he
   have:=bool_lit R he
   subst hk
   show(if _=_ then some _ else none)=some b
   rw[if_pos rfl,<-this]
   rfl
  ·cases he
 ·rw[pure_ok]at he
  cases he
  rfl
 ·rw[pure_ok]at he
  exact congrArg some (str he)
 ·rw[pure_ok]at he
  exact congrArg some (str he)
 ·rw[pure_ok]at he
  exact congrArg some (str he)
 all_goals (rcases hD with h|⟨kk,h⟩<;>first|(cases h;done)|(cases he;done))
theorem find_now(R:Rel K ρ h w){key:TypeId}{D:TypeDesc}(hu:K.P.underlying key=some D)(hD:D=.string∨∃kk,D=.int kk){k:AV}:∀{es:List (AV×AV)} {L:List MapEntry} {i:Nat} {r:Option AV},L.map (fun e=>(e.key,e.val))=es.map (fun p=>(p.1.ev ρ,p.2.ev ρ))->findA? K.P K.O h key k es=.ok r->
  ∃q,Instr.findNow D (k.ev ρ) L i=some q∧∀{Q:Option (Nat×Value)->World->Prop},Found ρ w Q r->Q q w:=by
 intro es
 induction es with
 |nil=>
  intro L i r hL he
  obtain rfl:L=[]:=by simpa using hL
  cases he
  exact⟨none,rfl,fun{Q} hq=>hq⟩
 |cons p es ih=>
  intro L i r hL he
  cases L with
  |nil=>simp at hL
  |cons e L=>
   simp only[List.map_cons,List.cons.injEq,Prod.mk.injEq]at hL
   obtain⟨⟨e1,e2⟩,hL⟩:=hL
   obtain⟨a,v⟩:=p
   have he':(match eq? K.P K.O h 8 key k a with
    |.ok (.lit true)=>.ok (some v)
    |.ok (.lit false)=>findA? K.P K.O h key k es
    |.ok _=>.error "a maps key open"
    |.error e=>.error e)=Except.ok r:=he
   unfold Instr.findNow
   rw[e1]
   split at he'
   ·rename_i hb
    cases he'
    rw[eq_now R hu hD hb]
    exact⟨_,rfl,fun{Q} hq=>by rw[e2];exact hq i⟩
   ·rename_i hb
    rw[eq_now R hu hD hb]
    exact ih hL he'
   ·cases he'
   ·cases he'
theorem wq_findKey(R:Rel K ρ h w){E:Value->World->Prop}{key:TypeId}{k:AV}{es:List (AV×AV)}{L:List MapEntry}{r:Option AV}(hk:keyOk? K.P key=true)(hL:L.map (fun e=>(e.key,e.val))=es.map (fun p=>(p.1.ev ρ,p.2.ev ρ)))
 (he:findA? K.P K.O h key k es=.ok r){Q:Option (Nat×Value)->World->Prop}(hq:Found ρ w Q r):wq K.P K.Ev E (Instr.findKey key (k.ev ρ) L) Q w:=by
 unfold keyOk? at hk
 split at hk
 ·rename_i e hu
  simp only[Instr.findKey,wq_bind,wq_underlying hu]
  cases L with
  |nil=>
   have:es=[]:=by simpa using hL.symm
   subst this
   cases he
   exact hq
  |cons x L=>
   have:Instr.findNow (.pointer e) (k.ev ρ) (x::L) 0=none:=by
    simp[Instr.findNow,Instr.sameNow]
   rw[this]
   exact wq_findAsking R hL he hq
 ·rename_i hu
  simp only[Instr.findKey,wq_bind,wq_underlying hu]
  obtain⟨q,e,hq'⟩:=find_now (i:=0) R hu (.inl rfl) hL he
  rw[e]
  exact hq' hq
 ·rename_i kk hu
  simp only[Instr.findKey,wq_bind,wq_underlying hu]
  obtain⟨q,e,hq'⟩:=find_now (i:=0) R hu (.inr ⟨_,rfl⟩) hL he
  rw[e]
  exact hq' hq
 ·cases hk
theorem keySize?_ok{P:Program}{key:TypeId}(hk:keySize? P key=true):∃e n,P.underlying key=some (.pointer e)∧sizeOf? P e=.ok n∧n≠0:=by
 unfold keySize? at hk
 split at hk
 ·rename_i e hu
  split at hk
  ·rename_i n hs
   refine⟨e,n,hu,hs,fun h=>?_⟩
   subst h
   cases hk
  ·cases hk
 ·cases hk
theorem keySize?_key{P:Program}{key:TypeId}(hk:keySize? P key=true):keyOk? P key=true:=by
 obtain⟨e,n,hu,_⟩:=keySize?_ok hk
 unfold keyOk?
 rw[hu]
theorem wq_equalV{E:Value->World->Prop}{key:TypeId}(hk:keySize? K.P key=true){b m n:Nat}{Q:Bool->World->Prop}(hq:Q (m==n) w):wq K.P K.Ev E (Op.equal key (.pointer (some ⟨b,m,none⟩)) (.pointer (some ⟨b,n,none⟩))) Q w:=by
 obtain⟨e,k,hu,hs,h0⟩:=keySize?_ok hk
 have key':∀D,wq K.P K.Ev E (Op.equalIn (D+1) key (.pointer (some ⟨b,m,none⟩)) (.pointer (some ⟨b,n,none⟩))) Q w:=fun D=>by
  simp only[Op.equalIn,wq_bind,wq_underlying hu,wq_sizeOf hs]
  rw[if_pos h0]
  exact wq_sameAddr_eq hq
 exact key' 9999
theorem wq_findAskingV{E:Value->World->Prop}{key:TypeId}(hk:keySize? K.P key=true){a:AA}{r:Option AV}:∀{es:List (Value×Value)} {L:List MapEntry} {i:Nat},L.map (fun e=>(e.key,e.val))=es->KeyIs ρ es a r->∀{Q:Option (Nat×Value)->World->Prop},Found ρ w Q r->
  wq K.P K.Ev E (Instr.findAsking key (.pointer (some (a.ev ρ))) L i) Q w:=by
 intro es
 induction es with
 |nil=>
  intro L i hL hK Q hq
  obtain rfl:L=[]:=by simpa using hL
  obtain⟨_,h2⟩:=hK
  cases r with
  |none=>exact hq
  |some v=>
   obtain⟨E1,E2,h3,_⟩:=h2
   simp at h3
 |cons p es ih=>
  intro L i hL hK Q hq
  cases L with
  |nil=>simp at hL
  |cons e L=>
   simp only[List.map_cons,List.cons.injEq]at hL
   obtain⟨rfl,hL⟩:=hL
   obtain⟨h1,h2⟩:=hK
   obtain⟨off,ho⟩:=h1 _ (List.mem_cons_self ..)
   dsimp only at ho
   have ea:a.ev ρ=⟨(a.ev ρ).block,(a.ev ρ).off,none⟩:=by unfold AA.ev;rfl
   simp only[Instr.findAsking,wq_bind,ho]
   rw[ea]
   refine wq_equalV hk ?_
   have rest:(e.key≠.pointer (some (a.ev ρ))->KeyIs ρ es a r):=fun hne=>by
    refine⟨fun q hq=>h1 q (List.mem_cons_of_mem _ hq),?_⟩
    cases r with
    |none=>exact fun q hq=>h2 q (List.mem_cons_of_mem _ hq)
    |some v=>
     obtain⟨E1,E2,h3,h4⟩:=h2
     cases E1 with
     |nil=>
      simp only[List.nil_append,List.cons.injEq,Prod.mk.injEq]at h3
      exact absurd h3.1.1 hne
     |cons q E1=>
      simp only[List.cons_append,List.cons.injEq]at h3
      exact⟨E1,E2,h3.2,fun q' hq'=>h4 q' (List.mem_cons_of_mem _ hq')⟩
   by_cases hoff:(a.ev ρ).off=off
   ·have hkey:e.key=.pointer (some (a.ev ρ)):=by rw[ho,<-hoff,<-ea]
    have hb:((a.ev ρ).off==off)=true:=by simpa using hoff
    rw[hb]
    simp only[if_true,wq_pure]
    cases r with
    |none=>exact absurd hkey (h2 _ (List.mem_cons_self ..))
    |some v=>
     obtain⟨E1,E2,h3,h4⟩:=h2
     cases E1 with
     |nil=>
      simp only[List.nil_append,List.cons.injEq,Prod.mk.injEq]at h3
      rw[h3.1.2]
      exact hq i
     |cons q E1=>
      simp only[List.cons_append,List.cons.injEq]at h3
      exact absurd (by rw[<-h3.1];exact hkey) (h4 q (List.mem_cons_self ..))
   ·have hb:((a.ev ρ).off==off)=false:=by simpa using hoff
    rw[hb]
    simp only[Bool.false_eq_true,if_false]
    rw[<-ea]
    refine ih hL (rest fun hx=>hoff ?_) hq
    rw[ho]at hx
    simp only[Value.pointer.injEq,Option.some.injEq]at hx
    rw[<-hx]
theorem wq_findKeyV{E:Value->World->Prop}{key:TypeId}(hk:keySize? K.P key=true){a:AA}{r:Option AV}{L:List MapEntry}(hK:KeyIs ρ (L.map fun e=>(e.key,e.val)) a r){Q:Option (Nat×Value)->World->Prop}(hq:Found ρ w Q r):wq K.P K.Ev E (Instr.findKey key (.pointer (some (a.ev ρ))) L) Q w:=by
 obtain⟨e,n,hu,_⟩:=keySize?_ok hk
 simp only[Instr.findKey,wq_bind,wq_underlying hu]
 cases L with
 |nil=>
  obtain⟨_,h2⟩:=hK
  cases r with
  |none=>exact hq
  |some v=>
   obtain⟨E1,E2,h3,_⟩:=h2
   simp at h3
 |cons x L=>
  have:Instr.findNow (.pointer e) (.pointer (some (a.ev ρ))) (x::L) 0=none:=by
   simp[Instr.findNow,Instr.sameNow]
  rw[this]
  exact wq_findAskingV hk rfl hK hq
theorem lookF_mem{a:AA}{r:Option AV}:∀{fs:List (AA×Option AV)},lookF a fs=some r->(a,r)∈fs
 |[],h=>by cases h
 |p::l,h=>by
  have h':(match a.eqb p.1 with
   |true=>some p.2
   |false=>lookF a l)=some r:=h
  split at h'
  ·rename_i he
   cases h'
   rw[AA.eqb_eq he]
   exact List.mem_cons_self ..
  ·exact List.mem_cons_of_mem _ (lookF_mem h')
theorem is_vmap{P:Program}{s:Nat}{n:IE}{fs:List (AA×Option AV)}{ws:List (AV×AV)}{o:Obj}(h:(ABlk.vmap s n fs ws).is P ρ o):∃arr clk E,o=.map arr clk∧ρ.v s=encE E∧E.length=(n.ev ρ).toNat∧arr.toList.map (fun e=>(e.key,e.val))=E++ws.map (fun p=>(p.1.ev ρ,p.2.ev ρ))∧∀p∈fs,KeyIs ρ E p.1 p.2:=by
 rcases h with⟨arr,_,h⟩|h
 ·exact h.elim
 ·exact h
theorem lookV?_ok{key:TypeId}{x k:AV}{r:Option AV}(he:lookV? K.P h key x k=some r):∃i s n fs a,x=.map (some (.dyn i))∧findB i h.hp=some (.vmap s n fs [])∧k=.ptr (some a)∧keySize? K.P key=true∧(a,r)∈fs:=by
 unfold lookV? at he
 split at he
 ·rename_i i
  split at he
  ·rename_i s n fs ws hb
   split at he
   ·rename_i a hs
    exact⟨i,s,n,fs,a,rfl,hb,rfl,hs,lookF_mem he⟩
   ·cases he
  ·cases he
 ·cases he
theorem wq_checkKey{E:Value->World->Prop}{key:TypeId}{k:Value}{b:Bool}(hk:keyOk? K.P key=true){Q:Unit->World->Prop}(hq:Q () w):wq K.P K.Ev E (Instr.checkKey b 10000 key k) Q w:=by
 unfold keyOk? at hk
 split at hk
 ·rename_i e hu
  unfold Instr.checkKey
  simp only[wq_bind,wq_underlying hu]
  cases k<;>exact hq
 ·rename_i hu
  unfold Instr.checkKey
  simp only[wq_bind,wq_underlying hu]
  cases k<;>exact hq
 ·rename_i kk hu
  unfold Instr.checkKey
  simp only[wq_bind,wq_underlying hu]
  cases k<;>exact hq
 ·cases hk
theorem entries?_run(R:Rel K ρ h w)(G:K.Good){x:AV}{es:List (AV×AV)}(he:entries? h x=.ok es):(x=.map none∧es=[])∨∃i arr clk,x=.map (some (.dyn i))∧findB i h.hp=some (.map es)∧w.heap[ρ.b i]?=some (.map arr clk)∧arr.toList.map (fun e=>(e.key,e.val))=es.map fun p=>(p.1.ev ρ,p.2.ev ρ):=by
 unfold entries? at he
 split at he
 ·cases he;exact .inl ⟨rfl,rfl⟩
 ·rename_i i
  split at he
  ·rename_i es' hb
   cases he
   obtain⟨o,h1,h2⟩:=R.blk _ _ hb
   obtain⟨arr,clk,rfl,h3⟩:=is_map h2
   exact .inr ⟨i,arr,clk,rfl,hb,h1,h3⟩
  ·cases he
 ·cases he
theorem wq_lookup(R:Rel K ρ h w)(G:K.Good){E:Value->World->Prop}{t:TypeId}{x k v:AV}{ok:Bool}(he:lookup? K.P K.O h t x k ok=.ok v){Q:Value->World->Prop}(hq:Q (v.ev ρ) w):wq K.P K.Ev E (Instr.lookup t (x.ev ρ) (k.ev ρ) ok) Q w:=by
 unfold lookup? at he
 split at he
 ·rename_i key elem hu
  split at he
  ·rename_i r hv
   obtain⟨i,s,n,fs,a,rfl,hb,rfl,hks,hmem⟩:=lookV?_ok hv
   obtain⟨o,h1,h2⟩:=R.blk _ _ hb
   obtain⟨arr,clk,L,rfl,h3,h4,h5,h6⟩:=is_vmap h2
   have hK:KeyIs ρ (arr.toList.map fun e=>(e.key,e.val)) a r:=by
    rw[h5,List.map_nil,List.append_nil]
    exact h6 _ hmem
   simp only[Instr.lookup,wq_bind,wq_underlying hu,AV.ev,Option.map_some,BR.ev,wq_pure]
   refine wq_getObj h1 (by intros;simp) (G.obj _ _ _ (R.own _ _ hb rfl)) ?_
   simp only[wq_bind,wq_pure]
   refine wq_checkKey (keySize?_key hks) ?_
   split at he
   ·rename_i u
    cases he
    refine wq_findKeyV hks hK ?_
    intro j
    simp only[wq_pure]
    cases ok<;>exact hq
   ·split at he
    ·rename_i z hz
     cases he
     refine wq_findKeyV hks hK ?_
     show wq K.P K.Ev E (zeroValue elem>>= _) Q w
     rw[wq_bind,wq_zeroValue (ρ:=ρ) hz]
     cases ok<;>exact hq
    ·cases he
  split at he
  ·rename_i hk
   split at he
   ·rename_i es hes
    have rest:∀{arr:Array MapEntry},arr.toList.map (fun e=>(e.key,e.val))=es.map (fun p=>(p.1.ev ρ,p.2.ev ρ))->
      wq K.P K.Ev E (do
       Instr.checkKey arr.isEmpty 10000 key (k.ev ρ)
       let(v,b)<-match<-Instr.findKey key (k.ev ρ) arr.toList with
        |some (_,v)=>pure (v,true)
        |none=>pure (<-zeroValue elem,false)
       pure (if ok then .tuple #[v,.bool b]else v)) Q w:=by
     intro arr hL
     rw[wq_bind]
     refine wq_checkKey hk ?_
     rw[wq_bind]
     split at he
     ·rename_i u hf
      cases he
      refine wq_findKey R hk hL hf ?_
      intro j
      simp only[wq_pure]
      cases ok<;>exact hq
     ·rename_i hf
      split at he
      ·rename_i z hz
       cases he
       refine wq_findKey R hk hL hf ?_
       show wq K.P K.Ev E (zeroValue elem>>= _) Q w
       rw[wq_bind,wq_zeroValue (ρ:=ρ) hz]
       cases ok<;>exact hq
      ·cases he
     ·cases he
    rcases entries?_run R G hes with⟨rfl,rfl⟩|⟨i,arr,clk,rfl,hb,hw,hL⟩
    ·simp only[Instr.lookup,wq_bind,wq_underlying hu,AV.ev,Option.map_none,wq_pure]
     have:=rest (arr:=#[]) rfl
     simp only[wq_bind,wq_pure]at this
     exact this
    ·simp only[Instr.lookup,wq_bind,wq_underlying hu,AV.ev,Option.map_some,BR.ev,wq_pure]
     refine wq_getObj hw (by intros;simp) (G.obj _ _ _ (R.own _ _ hb rfl)) ?_
     have:=rest hL
     simp only[wq_bind,wq_pure]at this⊢
     exact this
   ·cases he
  ·cases he
 ·cases he
theorem findA?_in{P:Program}{O:Orc}{key:TypeId}{k v:AV}:∀{es:List (AV×AV)},(∀p∈es,p.1.In U∧p.2.In U)->findA? P O h key k es=.ok (some v)->v.In U:=by
 intro es
 induction es with
 |nil=>intro _ he;cases he
 |cons p es ih=>
  intro hi he
  obtain⟨a,u⟩:=p
  have he':(match eq? P O h 8 key k a with
    |.ok (.lit true)=>.ok (some u)
    |.ok (.lit false)=>findA? P O h key k es
    |.ok _=>.error "a maps key open"
    |.error e=>.error e)=Except.ok (some v):=he
  split at he'
  ·cases he';exact(hi _ (List.mem_cons_self ..)).2
  ·exact ih (fun p hp=>hi p (List.mem_cons_of_mem _ hp)) he'
  ·cases he'
  ·cases he'
theorem lookup?_in(I:Ids K U h){t:TypeId}{x k v:AV}{ok:Bool}(he:lookup? K.P K.O h t x k ok=.ok v):v.In U:=by
 have hb':∀{u:AV} {b:Bool},u.In U->(if ok then AV.tuple [u,.bool (.lit b)]else u).In U:=fun hu=>by
  cases ok
  ·exact hu
  ·exact⟨hu,trivial,trivial⟩
 unfold lookup? at he
 split at he
 ·split at he
  ·rename_i r hv
   obtain⟨i,s,n,fs,a,rfl,hb,rfl,hks,hmem⟩:=lookV?_ok hv
   split at he
   ·rename_i u
    cases he
    exact hb' ((I.hp _ _ hb).2.1 _ hmem).2
   ·split at he
    ·rename_i z hz
     cases he
     exact hb' (zero?_in hz)
    ·cases he
  split at he
  ·split at he
   ·rename_i es hes
    split at he
    ·rename_i u hf
     cases he
     refine hb' (findA?_in (fun p hp=>?_) hf)
     unfold entries? at hes
     split at hes
     ·cases hes;cases hp
     ·split at hes
      ·rename_i hbk
       cases hes
       exact I.hp _ _ hbk p hp
      ·cases hes
     ·cases hes
    ·split at he
     ·rename_i z hz
      cases he
      exact hb' (zero?_in hz)
     ·cases he
    ·cases he
   ·cases he
  ·cases he
 ·cases he
theorem Rel.setO(R:Rel K ρ h w){i:Nat}{b b':ABlk}{o':Obj}(hb:findB i h.hp=some b)(ho:b'.is K.P ρ o')(hbc:b.isChan=false)(hl:∀n,b.lentAt K.P ρ n->b'.lentAt K.P ρ n):
  Rel K ρ {h with hp:=setB i b' h.hp} {w with heap:=w.heap.setIfInBounds (ρ.b i) o'}∧Keeps K.own w {w with heap:=w.heap.setIfInBounds (ρ.b i) o'}:=by
 have hown:=R.own _ _ hb hbc
 obtain⟨o,h1,_⟩:=R.blk _ _ hb
 have hlt:=heap_lt h1
 have hne:∀m,m≠ρ.b i->(w.heap.setIfInBounds (ρ.b i) o')[m]?=w.heap[m]?:=fun m hm=>Array.getElem?_setIfInBounds_ne (fun e=>hm e.symm)
 refine⟨⟨fun j c hj=>?_,fun j c hj=>?_,fun j k c d hj hk e=>?_,R.bs,R.is,fun p hp=>?_,fun m hm=>R.room m (by simpa using hm),fun j c hj m hm=>?_,fun b m hm=>by have:=R.low b m hm;simpa using this⟩,⟨fun m hm=>hne m (fun e=>hm (e▸hown)),by simp,rfl,rfl,rfl⟩⟩
 ·rw[findB_setB]at hj
  split at hj
  ·rename_i e;subst e
   rw[hb]at hj;cases hj
   exact⟨o',by simp[hlt],ho⟩
  ·rename_i e
   obtain⟨o2,ha',hf'⟩:=R.blk _ _ hj
   refine⟨o2,?_,hf'⟩
   show(w.heap.setIfInBounds (ρ.b i) o')[_]?=_
   rw[hne _ (fun x=>e (R.inj _ _ _ _ hj hb x)),ha']
 ·rw[findB_setB]at hj
  split at hj
  ·rename_i e;subst e;exact .inl hown
  ·exact R.own' _ _ hj
 ·rw[findB_setB]at hj hk
  split at hj<;>split at hk
  ·rename_i e1 e2;exact e1.trans e2.symm
  ·rename_i e1 e2;subst e1;exact R.inj _ _ _ _ hb hk e
  ·rename_i e1 e2;subst e2;exact R.inj _ _ _ _ hj hb e
  ·exact R.inj _ _ _ _ hj hk e
 ·obtain⟨m1,m2,m3⟩:=R.mem p hp
  refine⟨m1,?_,m3⟩
  simp only[World.cell?]at m2⊢
  rw[hne _ (fun x=>m1 (by rw[x];exact hown))];exact m2
 ·rw[findB_setB]at hj
  split at hj
  ·rename_i e;subst e
   rw[hb]at hj;cases hj
   exact hl m (R.lent _ _ hb m hm)
  ·exact R.lent _ _ hj m hm
theorem mapUpdate?_ids(I:Ids K U h){t:TypeId}{x k v:AV}{h':AH}(hk:k.In U)(hv:v.In U)(he:mapUpdate? K.P K.O h t x k v=.ok h'):Ids K U h'∧h'.nb=h.nb∧h'.lim=h.lim:=by
 unfold mapUpdate? at he
 split at he
 ·split at he
  ·rename_i es hb
   split at he
   ·split at he
    ·cases he
     refine⟨⟨fun j c hj=>?_,fun j hj=>I.keys j (by rw[keys_setB]at hj;exact hj),by rw[keys_setB];exact I.nodup,I.fresh,I.orc⟩,rfl,rfl⟩
     rw[findB_setB]at hj
     split at hj
     ·rw[hb]at hj;cases hj
      intro p hp
      rcases List.mem_append.1 hp with hp|hp
      ·exact I.hp _ _ hb p hp
      ·obtain rfl:=List.mem_singleton.1 hp
       exact⟨hk,hv⟩
     ·exact I.hp _ _ hj
    ·cases he
    ·cases he
   ·cases he
  ·rename_i s n fs ws hb
   split at he
   ·cases he
    refine⟨⟨fun j c hj=>?_,fun j hj=>I.keys j (by rw[keys_setB]at hj;exact hj),by rw[keys_setB];exact I.nodup,I.fresh,I.orc⟩,rfl,rfl⟩
    rw[findB_setB]at hj
    split at hj
    ·rw[hb]at hj;cases hj
     obtain⟨i1,i2,i3⟩:=I.hp _ _ hb
     refine⟨i1,i2,fun p hp=>?_⟩
     rcases List.mem_append.1 hp with hp|hp
     ·exact i3 p hp
     ·obtain rfl:=List.mem_singleton.1 hp
      exact⟨hk,hv⟩
    ·exact I.hp _ _ hj
   ·cases he
  ·cases he
 ·cases he
theorem wq_mapUpdate(R:Rel K ρ h w)(G:K.Good){E:Value->World->Prop}{t:TypeId}{x k v:AV}{h':AH}(he:mapUpdate? K.P K.O h t x k v=.ok h'){Q:Unit->World->Prop}(hq:∀w',Rel K ρ h' w'->Keeps K.own w w'->Q () w'):wq K.P K.Ev E (Instr.mapUpdate t (x.ev ρ) (k.ev ρ) (v.ev ρ)) Q w:=by
 unfold mapUpdate? at he
 split at he
 ·rename_i key elem i hu
  split at he
  ·rename_i es hb
   split at he
   ·rename_i hk
    split at he
    ·rename_i hf
     cases he
     obtain⟨o,h1,h2⟩:=R.blk _ _ hb
     obtain⟨arr,clk,rfl,h3⟩:=is_map h2
     have own:=R.own _ _ hb rfl
     simp only[Instr.mapUpdate,wq_bind,wq_underlying hu,AV.ev,Option.map_some,BR.ev]
     refine wq_getObj h1 (by intros;simp) (G.obj _ _ _ own) ?_
     simp only[wq_bind]
     refine wq_checkKey hk ?_
     refine wq_findKey R hk h3 hf ?_
     refine wq_setObj h1 (by intros;simp) (G.obj _ _ _ own) ?_
     obtain⟨r1,r2⟩:=R.setO hb (b':=.map (es++[(k,v)])) (o':=.map (arr.push {key:=k.ev ρ,val:=v.ev ρ,born:=clk}) (clk+1)) (.inr ⟨_,_,rfl,by simp[h3]⟩) rfl (fun n hn=>by cases hn)
     exact hq _ r1 r2
    ·cases he
    ·cases he
   ·cases he
  ·rename_i s n fs ws hb
   split at he
   ·rename_i hv
    cases he
    obtain⟨i',s',n',fs',a,hx,hb',rfl,hks,hmem⟩:=lookV?_ok hv
    cases hx
    rw[hb]at hb'
    cases hb'
    obtain⟨o,h1,h2⟩:=R.blk _ _ hb
    obtain⟨arr,clk,L,rfl,h3,h4,h5,h6⟩:=is_vmap h2
    have own:=R.own _ _ hb rfl
    have hK:KeyIs ρ (arr.toList.map fun e=>(e.key,e.val)) a none:=by
     rw[h5,List.map_nil,List.append_nil]
     exact h6 _ hmem
    simp only[Instr.mapUpdate,wq_bind,wq_underlying hu,AV.ev,Option.map_some,BR.ev]
    refine wq_getObj h1 (by intros;simp) (G.obj _ _ _ own) ?_
    simp only[wq_bind]
    refine wq_checkKey (keySize?_key hks) ?_
    refine wq_findKeyV hks hK ?_
    refine wq_setObj h1 (by intros;simp) (G.obj _ _ _ own) ?_
    obtain⟨r1,r2⟩:=R.setO hb (b':=.vmap s n fs ([]++[(.ptr (some a),v)])) (o':=.map (arr.push {key:=.pointer (some (a.ev ρ)),val:=v.ev ρ,born:=clk}) (clk+1)) (.inr ⟨_,_,L,rfl,h3,h4,by simp[h5,AV.ev],h6⟩) rfl (fun n hn=>by cases hn)
    exact hq _ r1 r2
   ·cases he
  ·cases he
 ·cases he
end
end Go.Proofs.Ytmobbajggkjpgaa.SX
